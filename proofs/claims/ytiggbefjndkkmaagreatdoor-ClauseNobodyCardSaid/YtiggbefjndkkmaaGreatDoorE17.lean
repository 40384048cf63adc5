/- The engine, part 17 of 35: pieces of the interpreter and of its soundness. No condition. -/
import Derived.Test.YtiggbefjndkkmaaGreatDoorE16
import Derived.Orders
namespace Go.Abs

variable {P : Program} {m : Nat}

theorem flatRun_ok {φ : Inj} {H H' : AH} {w : World} {o : Oper} {ρ ρ' : Operand → Value} {v : Value} (hi : Inv φ H w) (hρ : ∀ x ∈ o.op.operands, VR φ (ρ x) (ρ' x)) (h : flatRun P o ρ H = some (v, H')) :
    OpOK P m φ H w v H' (execOp ρ' o) := by
  unfold flatRun at h
  have main : (∀ cs b, o.op ≠ .select cs b) → (bif o.op.operands.all (fun x => flat depth (ρ x)) then asVal H (peval P (execOp ρ o)) else none) = some (v, H') → OpOK P m φ H w v H' (execOp ρ' o) := by
    intro hs h
    cases ha : o.op.operands.all (fun x => flat depth (ρ x)) with
    | false => rw [ha] at h; cases h
    | true =>
      rw [ha] at h
      simp only [cond_true] at h
      rw [Array.all_eq_true_iff_forall_mem] at ha
      have hc : execOp ρ o = execOp ρ' o := execOp_congr o hs fun x hx => flat_eq depth (ha x hx) (hρ x hx)
      cases hp : peval P (execOp ρ o) with
      | none => rw [hp] at h; cases h
      | some nx =>
        rw [hp] at h
        have hr := peval_run P _ _ hp w
        rw [hc] at hr
        cases nx with
        | value u =>
          simp only [asVal] at h
          cases hf : flat depth u with
          | false => rw [hf] at h; cases h
          | true =>
            rw [hf] at h
            simp only [cond_true, Option.some.injEq, Prod.mk.injEq] at h
            obtain ⟨rfl, rfl⟩ := h
            exact ⟨φ, w, _, hr, hi, Step.refl _ _ _ _, .inl ⟨u, rfl, flat_refl _ hf⟩⟩
        | skip =>
          simp only [asVal, Option.some.injEq, Prod.mk.injEq] at h
          obtain ⟨rfl, rfl⟩ := h
          exact ⟨φ, w, _, hr, hi, Step.refl _ _ _ _, .inr ⟨rfl, rfl⟩⟩
        | _ => cases h
  split at h
  · cases h
  · rename_i hns
    exact main (fun cs b e => hns cs b e) h

theorem wrap_lt (n : Int) : (IntKind.i64.wrap n).toNat < OPEN := by
  unfold IntKind.wrap IntKind.bits IntKind.signed OPEN
  simp only [Bool.true_and]
  have h1 := Int.emod_lt_of_pos n (show (0 : Int) < 2 ^ 64 by decide)
  split
  · rename_i h
    have : ((n % 2 ^ 64 : Int) - 2 ^ 64) < 0 := by omega
    have e : ((n % 2 ^ 64 : Int) - 2 ^ 64).toNat = 0 := by omega
    rw [e]; decide
  · rename_i h
    simp only [decide_eq_true_eq, ge_iff_le, Int.not_le] at h
    have h2 : (2 : Int) ^ (64 - 1) = 9223372036854775808 := by decide
    rw [h2] at h
    omega

theorem parts_rel {φ : Inj} {ρ ρ' : Operand → Value} (ps : Array (Nat × Operand)) (h : ∀ x ∈ (ps.toList.map (·.2)).toArray, VR φ (ρ x) (ρ' x)) :
    F2 (PR φ) (ps.map fun (i, x) => (i, ρ x)).toList (ps.map fun (i, x) => (i, ρ' x)).toList := by
  rw [Array.toList_map, Array.toList_map]
  have hh : ∀ l : List (Nat × Operand), (∀ x ∈ l.map (·.2), VR φ (ρ x) (ρ' x)) → F2 (PR φ) (l.map fun (i, x) => (i, ρ x)) (l.map fun (i, x) => (i, ρ' x)) := by
    intro l
    induction l with
    | nil => intro _; exact .nil
    | cons a l ih => intro hl; exact .cons ⟨rfl, hl a.2 (by simp)⟩ (ih fun x hx => hl x (by simp at hx ⊢; exact .inr hx))
  exact hh _ fun x hx => h x (by simpa using hx)

theorem optVR_map {φ : Inj} {ρ ρ' : Operand → Value} {x : Option Operand} (h : ∀ y ∈ x.toArray, VR φ (ρ y) (ρ' y)) : OptVR φ (x.map ρ) (x.map ρ') := by
  cases x with
  | none => trivial
  | some y => exact h y (by simp)

theorem aOp_ok {φ : Inj} {H H' : AH} {w : World} {o : Oper} {ρ ρ' : Operand → Value} {v : Value} (hi : Inv φ H w) (hρ : ∀ x ∈ o.op.operands, VR φ (ρ x) (ρ' x)) (h : aOp P m o ρ H = some (v, H')) :
    OpOK P m φ H w v H' (execOp ρ' o) := by
  have fl := fun hh => flatRun_ok (P := P) (m := m) (H' := H') (v := v) hi hρ hh
  obtain ⟨dst, op, ty, pos, after, guard⟩ := o
  unfold aOp at h
  simp only at h hρ
  cases op with
  | move x =>
    simp only [Option.some.injEq, Prod.mk.injEq] at h
    obtain ⟨rfl, rfl⟩ := h
    exact opOK_still hi rfl (hρ x (by simp [Op.operands]))
  | assign x =>
    simp only [Option.some.injEq, Prod.mk.injEq] at h
    obtain ⟨rfl, rfl⟩ := h
    exact opOK_still hi rfl (hρ x (by simp [Op.operands]))
  | pick c a b =>
    simp only at h
    have h1 := hρ c (by simp [Op.operands])
    split at h
    · rename_i t hc
      rw [hc] at h1
      simp only [Option.some.injEq, Prod.mk.injEq] at h
      obtain ⟨rfl, rfl⟩ := h
      generalize hq : ρ' c = q at h1
      cases h1
      refine opOK_still (v' := if t then ρ' a else ρ' b) hi ?_ ?_
      · simp [execOp, asBool, hq]
      · cases t
        · exact hρ b (by simp [Op.operands])
        · exact hρ a (by simp [Op.operands])
    · cases h
  | slice t x lo hi' mx =>
    simp only at h
    have hx := hρ x (by simp [Op.operands])
    split at h
    · rename_i a len cap hxe
      rw [hxe] at hx
      cases hs : aSlice P t a len cap (lo.map ρ) (hi'.map ρ) (mx.map ρ) H with
      | none => rw [hs] at h; cases h
      | some u =>
        rw [hs] at h
        simp only [Option.some.injEq, Prod.mk.injEq] at h
        obtain ⟨rfl, rfl⟩ := h
        exact aSlice_ok hi hs hx (optVR_map fun y hy => hρ y (by simp only [Op.operands, Array.mem_append]; exact .inl (.inl (.inr hy))))
          (optVR_map fun y hy => hρ y (by simp only [Op.operands, Array.mem_append]; exact .inl (.inr hy)))
          (optVR_map fun y hy => hρ y (by simp only [Op.operands, Array.mem_append]; exact .inr hy))
    · exact fl h
  | binOp op t x y yt =>
    simp only at h
    cases he : aEq P op t (ρ x) (ρ y) with
    | none => rw [he] at h; exact fl h
    | some u =>
      rw [he] at h
      simp only [Option.some.injEq, Prod.mk.injEq] at h
      obtain ⟨rfl, rfl⟩ := h
      exact aEq_ok hi he (hρ x (by simp [Op.operands])) (hρ y (by simp [Op.operands])) x y
  | convert s t x =>
    simp only at h
    have hx := hρ x (by simp [Op.operands])
    split at h
    · rename_i a hxe
      cases hc : aConvPtr P s t (ρ x) H with
      | none => rw [hc] at h; cases h
      | some u =>
        rw [hc] at h
        simp only [Option.some.injEq, Prod.mk.injEq] at h
        obtain ⟨rfl, rfl⟩ := h
        obtain ⟨h1, rfl⟩ := aConvPtr_ok hi hc hx
        exact opOK_value h1 hi (Step.refl _ _ _ _) hx
    · rename_i a n c hxe
      rw [hxe] at hx
      split at h
      · rename_i e hs ht
        split at h
        · rename_i l hu hr
          simp only [Option.some.injEq, Prod.mk.injEq] at h
          obtain ⟨rfl, rfl⟩ := h
          have hb := bytesString_ok (P := P) hi hr hx
          refine opOK_value (s := convert s t (ρ' x)) ?_ hi (Step.refl _ _ _ _) (.string _)
          obtain ⟨b', c', hx'⟩ := slice_inv hx
          rw [← hb]
          show (convert s t (ρ' x)).run P w = _
          rw [hx']
          simp only [convert, Sem.run_bind, run_und hs, run_und ht, run_und hu, Result.andThen_ok]
        · cases h
      · cases h
    · rename_i str hxe
      rw [hxe] at hx
      split at h
      · rename_i e hs ht
        split at h
        · rename_i i hu hii
          cases hsz : Nat.beq i.size 1 with
          | false => rw [hsz] at h; cases h
          | true =>
            rw [hsz] at h
            simp only [cond_true, Option.some.injEq, Prod.mk.injEq] at h
            obtain ⟨rfl, rfl⟩ := h
            obtain ⟨v', w', φ', q1, q2, q3, q4⟩ := stringBytes_ok (P := P) (m := m) hi (e := e) str
            refine opOK_value (s := convert s t (ρ' x)) ?_ q2 q3 q4
            generalize hq : ρ' x = q at hx
            cases hx
            rw [← q1]
            simp only [convert, Sem.run_bind, run_und hs, run_und ht, run_und hu, Result.andThen_ok]
        · cases h
      · exact fl h
    · exact fl h
  | alloc e =>
    simp only at h
    cases hz : zflat P e with
    | false => rw [hz] at h; cases h
    | true => rw [hz] at h; exact opOK_of_sim (sim_v (sim_alloc hz true)) hi h
  | build t ps =>
    simp only at h
    cases hz : zflat P t with
    | false => rw [hz] at h; cases h
    | true => rw [hz] at h; exact opOK_of_sim (sim_v (sim_build hz (parts_rel ps hρ))) hi h
  | buildSlice t n ps =>
    simp only at h
    cases hz : (zelem P t && Nat.blt n OPEN) with
    | false => rw [hz] at h; cases h
    | true =>
      rw [hz] at h
      simp only [Bool.and_eq_true] at hz
      have : n < OPEN := Nat.lt_of_lt_of_le (Nat.lt_succ_self _) (Nat.le_of_ble_eq_true hz.2)
      exact opOK_of_sim (sim_v (sim_buildSlice hz.1 n (by omega) (parts_rel ps hρ))) hi h
  | makeSlice t x y =>
    simp only at h
    cases hz : zelem P t with
    | false => rw [hz] at h; cases h
    | true =>
      rw [hz] at h
      exact opOK_of_sim (sim_v (sim_makeSlice hz (hρ x (by simp [Op.operands])) (hρ y (by simp [Op.operands])) fun k n _ => by have := wrap_lt n; omega)) hi h
  | lookup t x k ok =>
    simp only at h
    cases hf : flat depth (ρ k) with
    | false => rw [hf] at h; cases h
    | true =>
      rw [hf] at h
      simp only [cond_true] at h
      cases hl : aLookup P t (ρ x) (ρ k) ok H with
      | none => rw [hl] at h; cases h
      | some u =>
        rw [hl] at h
        simp only [Option.some.injEq, Prod.mk.injEq] at h
        obtain ⟨rfl, rfl⟩ := h
        obtain ⟨v', h1, h2⟩ := aLookup_ok hi hl (hρ x (by simp [Op.operands]))
        have hk := flat_eq depth hf (hρ k (by simp [Op.operands]))
        rw [hk] at h1
        exact opOK_value h1 hi (Step.refl _ _ _ _) h2
  | mapUpdate t x k u =>
    simp only at h
    cases hf : flat depth (ρ k) with
    | false => rw [hf] at h; cases h
    | true =>
      rw [hf] at h
      simp only [cond_true] at h
      obtain ⟨rfl, w', h1, h2, h3⟩ := aUpdate_ok hi hf h (hρ x (by simp [Op.operands])) (hρ u (by simp [Op.operands]))
      rw [flat_eq depth hf (hρ k (by simp [Op.operands]))] at h1
      exact opOK_unit h1 h2 h3
  | insert t x k u =>
    simp only at h
    cases hf : flat depth (ρ k) with
    | false => rw [hf] at h; cases h
    | true =>
      rw [hf] at h
      simp only [cond_true] at h
      obtain ⟨rfl, w', h1, h2, h3⟩ := aUpdate_ok hi hf h (hρ x (by simp [Op.operands])) (hρ u (by simp [Op.operands]))
      rw [flat_eq depth hf (hρ k (by simp [Op.operands]))] at h1
      exact opOK_unit h1 h2 h3
  | mapEntry t x k =>
    simp only at h
    cases hf : flat depth (ρ k) with
    | false => rw [hf] at h; cases h
    | true =>
      rw [hf] at h
      simp only [cond_true] at h
      obtain ⟨u', w', h1, h2, h3, h4⟩ := aEntry_ok hi hf h (hρ x (by simp [Op.operands]))
      rw [flat_eq depth hf (hρ k (by simp [Op.operands]))] at h1
      exact opOK_value h1 h2 h3 h4
  | nilCheck x =>
    simp only at h
    have hx := hρ x (by simp [Op.operands])
    split at h
    · rename_i a hxe
      rw [hxe] at hx
      simp only [Option.some.injEq, Prod.mk.injEq] at h
      obtain ⟨rfl, rfl⟩ := h
      obtain ⟨a', hx', ha⟩ := hx.ptr_inv
      rw [hx'] at hx
      refine opOK_still hi ?_ (by rw [hxe]; exact hx)
      simp only [execOp, hx']; rfl
    · rename_i f fi ca hxe
      rw [hxe] at hx
      simp only [Option.some.injEq, Prod.mk.injEq] at h
      obtain ⟨rfl, rfl⟩ := h
      generalize hq : ρ' x = q at hx
      have hx2 := hx
      cases hx
      refine opOK_still hi ?_ (by rw [hxe]; exact hx2)
      simp only [execOp, hq]; rfl
    · cases h
  | box e x => exact opOK_of_sim (sim_v (sim_box e (hρ x (by simp [Op.operands])))) hi h
  | load t x => exact opOK_of_sim (sim_v (sim_loadAt t (hρ x (by simp [Op.operands])))) hi h
  | store t a x => exact opOK_of_sim (sim_u (sim_storeAt t (hρ a (by simp [Op.operands])) (hρ x (by simp [Op.operands])))) hi h
  | makeInterface t x => exact opOK_of_sim (sim_v (sim_makeInterface t (hρ x (by simp [Op.operands])))) hi h
  | makeFunc fn first captured =>
    exact opOK_of_sim (sim_v (sim_makeFunc fn (AR.map _ _ _ fun x hx => hρ x (by simp [Op.operands, hx])) (AR.map _ _ _ fun x hx => hρ x (by simp [Op.operands, hx])))) hi h
  | makeMap t r =>
    refine opOK_of_sim (sim_v (sim_makeMap t ?_)) hi h
    cases r with
    | none => exact .inl ⟨rfl, rfl⟩
    | some x => exact .inr ⟨_, _, rfl, rfl, hρ x (by simp [Op.operands])⟩
  | fieldAddr t x f => exact opOK_of_sim (sim_v (sim_fieldAt t f (hρ x (by simp [Op.operands])))) hi h
  | field t x f => exact opOK_of_sim (sim_v (sim_field t f (hρ x (by simp [Op.operands])))) hi h
  | indexAddr t x i => exact opOK_of_sim (sim_v (sim_indexAt t (hρ x (by simp [Op.operands])) (hρ i (by simp [Op.operands])))) hi h
  | index t x i => exact opOK_of_sim (sim_v (sim_index t (hρ x (by simp [Op.operands])) (hρ i (by simp [Op.operands])))) hi h
  | entryStore t a s x => exact opOK_of_sim (sim_u (sim_entryStore t (hρ a (by simp [Op.operands])) (hρ s (by simp [Op.operands])) (hρ x (by simp [Op.operands])))) hi h
  | range t x => exact opOK_of_sim (sim_v (sim_range t (hρ x (by simp [Op.operands])))) hi h
  | next x b => exact opOK_of_sim (sim_v (sim_next b ty (hρ x (by simp [Op.operands])))) hi h
  | entry x => exact opOK_of_sim (sim_v (sim_entry (hρ x (by simp [Op.operands])))) hi h
  | extract x i => exact opOK_of_sim (sim_v (sim_extract i (hρ x (by simp [Op.operands])))) hi h
  | _ => exact fl h

end Go.Abs
