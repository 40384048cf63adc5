/- The engine, part 10 of 35: pieces of the interpreter and of its soundness. No condition. -/
import Derived.Test.YtiggbefjndkkmaaGreatDoorE9
import Derived.Laws.Slices
import Derived.Deep.AppendSrc
import Derived.Deep.Upon
import Derived.Laws.IdiomCopy
import Derived.Laws.BytesString
import Derived.Lib.BytesEntry
namespace Go.Abs

variable {P : Program} {m : Nat}

/-- What an operation that was run comes to. -/
def OpOK (P : Program) (m : Nat) (φ : Inj) (H : AH) (w : World) (v : Value) (H' : AH) (s : Sem Next) : Prop :=
  ∃ φ' w' nx, s.run P w = .ok nx w' ∧ Inv φ' H' w' ∧ Step m φ H w φ' H' w' ∧ ((∃ v', nx = .value v' ∧ VR φ' v v') ∨ (nx = .skip ∧ v = undef))

theorem opOK_of_sim {φ : Inj} {H H' : AH} {w : World} {v : Value} {s s' : Sem Next} (h : Sim P m NextR φ s s') (hi : Inv φ H w) (hr : asNext (arun P m s H) = some (v, H')) : OpOK P m φ H w v H' s' := by
  cases ha : arun P m s H with
  | none => rw [ha] at hr; cases hr
  | some p =>
    obtain ⟨nx, H1⟩ := p
    obtain ⟨φ', nx', w', h1, h2, h3, h4⟩ := h H w nx H1 ha hi
    rw [ha] at hr
    cases nx with
    | value u =>
      simp only [asNext, Option.some.injEq, Prod.mk.injEq] at hr
      obtain ⟨rfl, rfl⟩ := hr
      cases nx' with
      | value u' => exact ⟨φ', w', _, h1, h2, h3, .inl ⟨u', rfl, h4⟩⟩
      | _ => exact h4.elim
    | skip =>
      simp only [asNext, Option.some.injEq, Prod.mk.injEq] at hr
      obtain ⟨rfl, rfl⟩ := hr
      cases nx' with
      | skip => exact ⟨φ', w', _, h1, h2, h3, .inr ⟨rfl, rfl⟩⟩
      | _ => exact h4.elim
    | _ => cases hr

/-- It stays as it was. -/
theorem opOK_still {φ : Inj} {H : AH} {w : World} {v v' : Value} {s : Sem Next} (hi : Inv φ H w) (hs : s.run P w = .ok (.value v') w) (hv : VR φ v v') : OpOK P m φ H w v H s :=
  ⟨φ, w, _, hs, hi, Step.refl _ _ _ _, .inl ⟨v', rfl, hv⟩⟩

theorem opOK_value {φ : Inj} {H H' : AH} {w w' : World} {φ' : Inj} {v v' : Value} {s : Sem Value} (hs : s.run P w = .ok v' w') (hi : Inv φ' H' w') (hst : Step m φ H w φ' H' w') (hv : VR φ' v v') :
    OpOK P m φ H w v H' (do pure (.value (← s))) :=
  ⟨φ', w', .value v', by rw [Sem.run_bind, hs]; rfl, hi, hst, .inl ⟨v', rfl, hv⟩⟩

theorem opOK_unit {φ : Inj} {H H' : AH} {w w' : World} {φ' : Inj} {s : Sem Unit} (hs : s.run P w = .ok () w') (hi : Inv φ' H' w') (hst : Step m φ H w φ' H' w') :
    OpOK P m φ H w undef H' (do s; pure .skip) :=
  ⟨φ', w', .skip, by rw [Sem.run_bind, hs]; rfl, hi, hst, .inr ⟨rfl, rfl⟩⟩

/-! ### Bounds -/

theorem peval_bind {α β : Type} (s : Sem α) (k : α → Sem β) : peval P (s >>= k) = match peval P s with | some a => peval P (k a) | none => none := by
  show peval P (s.bind k) = _
  induction s with
  | pure a => rfl
  | program c ih => simp only [Sem.bind, peval]; exact ih P
  | mark mk c ih => simp only [Sem.bind, peval]; exact ih
  | _ => rfl

theorem peval_runtimePanic {α : Type} (e : RuntimeError) : peval P (runtimePanic e : Sem α) = none := by
  cases e <;> simp only [Go.runtimePanic, peval_bind, Go.program, peval, goPanic, newVar, newRow, newObj, pure, elemOf, underlying] <;> (repeat' split) <;> simp_all [stuck]

theorem peval_bind_none {α β : Type} (s : Sem α) (k : α → Sem β) (h : ∀ a, peval P (k a) = none) : peval P (s >>= k) = none := by
  rw [peval_bind]; split
  · exact h _
  · rfl

theorem peval_boundsPanic {α : Type} (k : IntKind) (x y : Int) (c : BoundsCode) : peval P (boundsPanic k x y c : Sem α) = none := by
  unfold Go.boundsPanic
  show peval P (if _ then _ else _) = none
  split
  · exact peval_bind_none _ _ fun a => peval_runtimePanic _
  · exact peval_bind_none _ _ fun a => peval_runtimePanic _

theorem bnd_inv {y d n : Nat} {v : Option Value} (h : bnd y d v = some n) : (v = none ∧ n = d) ∨ ∃ k, v = some (.int k (n : Int)) ∧ n ≤ y := by
  unfold bnd at h
  split at h
  · exact .inl ⟨rfl, (Option.some.inj h).symm⟩
  · rename_i k j
    cases hb : Nat.ble j y with
    | false => rw [hb] at h; cases h
    | true => rw [hb] at h; cases h; exact .inr ⟨k, rfl, Nat.le_of_ble_eq_true hb⟩
  · cases h

theorem run_bounds {len cap cap' : Nat} {lo hi mx : Option Value} {l h k : Nat} (he : abounds len cap lo hi mx = some (l, h, k)) (hc : cap ≤ cap') (w : World) :
    (Instr.sliceBounds true len cap' lo hi mx).run P w = .ok (l, h, if mx.isSome then k else cap') w ∧ l ≤ h ∧ (h ≤ k ∨ hi = none ∧ h = len) ∧ k ≤ cap ∧ (mx = none → k = cap) := by
  unfold abounds at he
  cases hk : bnd cap cap mx with
  | none => rw [hk] at he; cases he
  | some k1 =>
    rw [hk] at he
    simp only at he
    cases hb : (mx.isSome && hi.isNone) with
    | true => rw [hb] at he; cases he
    | false =>
      rw [hb] at he
      simp only [cond_false] at he
      cases hh : bnd k1 len hi with
      | none => rw [hh] at he; cases he
      | some h1 =>
        rw [hh] at he
        simp only at he
        cases hl : bnd h1 0 lo with
        | none => rw [hl] at he; cases he
        | some l1 =>
          rw [hl] at he
          simp only [Option.some.injEq, Prod.mk.injEq] at he
          obtain ⟨rfl, rfl, rfl⟩ := he
          unfold Instr.sliceBounds
          have hlo : l1 ≤ h1 ∧ ∀ (c : BoundsCode), (lo = none ∧ l1 = 0) ∨ ∃ kk, lo = some (.int kk (l1 : Int)) ∧ (Instr.sliceBound (.int kk (l1 : Int)) h1 c).run P w = .ok l1 w := by
            rcases bnd_inv hl with ⟨rfl, rfl⟩ | ⟨kk, rfl, hle⟩
            · exact ⟨Nat.zero_le _, fun _ => .inl ⟨rfl, rfl⟩⟩
            · refine ⟨hle, fun c => .inr ⟨kk, rfl, ?_⟩⟩
              rw [run_sliceBound w kk l1 h1 c (by omega) (by omega)]; simp
          rcases bnd_inv hk with ⟨rfl, rfl⟩ | ⟨kk, rfl, hle⟩
          · rcases bnd_inv hh with ⟨rfl, rfl⟩ | ⟨k2, rfl, hle2⟩
            · refine ⟨?_, hlo.1, .inr ⟨rfl, rfl⟩, Nat.le_refl _, fun _ => rfl⟩
              rcases hlo.2 .sliceB with ⟨rfl, rfl⟩ | ⟨k3, rfl, hr⟩
              · rfl
              · simp [hr]
            · refine ⟨?_, hlo.1, .inl hle2, Nat.le_refl _, fun _ => rfl⟩
              have hr2 : (Instr.sliceBound (.int k2 (h1 : Int)) cap' .sliceAcap).run P w = .ok h1 w := by
                rw [run_sliceBound w k2 h1 cap' _ (by omega) (by omega)]; simp
              rcases hlo.2 .sliceB with ⟨rfl, rfl⟩ | ⟨k3, rfl, hr⟩
              · simp [hr2]
              · simp [hr, hr2]
          · rcases bnd_inv hh with ⟨rfl, rfl⟩ | ⟨k2, rfl, hle2⟩
            · simp at hb
            · refine ⟨?_, hlo.1, .inl hle2, hle, fun h => by cases h⟩
              have hr1 : (Instr.sliceBound (.int kk (k1 : Int)) cap' .slice3Acap).run P w = .ok k1 w := by
                rw [run_sliceBound w kk k1 cap' _ (by omega) (by omega)]; simp
              have hr2 : (Instr.sliceBound (.int k2 (h1 : Int)) k1 .slice3B).run P w = .ok h1 w := by
                rw [run_sliceBound w k2 h1 k1 _ (by omega) (by omega)]; simp
              rcases hlo.2 .slice3C with ⟨rfl, rfl⟩ | ⟨k3, rfl, hr⟩
              · simp [hr1, hr2]
              · simp [hr, hr1, hr2]

def OptVR (φ : Inj) : Option Value → Option Value → Prop
  | none, none => True
  | some x, some y => VR φ x y
  | _, _ => False

theorem bnd_same {φ : Inj} {y d n : Nat} {v v' : Option Value} (h : bnd y d v = some n) (hv : OptVR φ v v') : v' = v := by
  rcases bnd_inv h with ⟨rfl, _⟩ | ⟨k, rfl, _⟩
  · cases v' with
    | none => rfl
    | some _ => exact hv.elim
  · cases v' with
    | none => exact hv.elim
    | some u => have hv' : VR φ _ u := hv; cases hv'; rfl

theorem abounds_same {φ : Inj} {len cap : Nat} {lo hi mx lo' hi' mx' : Option Value} {r : Nat × Nat × Nat} (he : abounds len cap lo hi mx = some r) (h1 : OptVR φ lo lo') (h2 : OptVR φ hi hi') (h3 : OptVR φ mx mx') :
    lo' = lo ∧ hi' = hi ∧ mx' = mx := by
  unfold abounds at he
  cases hk : bnd cap cap mx with
  | none => rw [hk] at he; cases he
  | some k1 =>
    rw [hk] at he
    simp only at he
    cases hb : (mx.isSome && hi.isNone) with
    | true => rw [hb] at he; cases he
    | false =>
      rw [hb] at he
      simp only [cond_false] at he
      cases hh : bnd k1 len hi with
      | none => rw [hh] at he; cases he
      | some h4 =>
        rw [hh] at he
        simp only at he
        cases hl : bnd h4 0 lo with
        | none => rw [hl] at he; cases he
        | some l1 => exact ⟨bnd_same hl h1, bnd_same hh h2, bnd_same hk h3⟩

theorem run_info {t : TypeId} {i : TypeInfo} (h : P.info? t = some i) (w : World) : (typeInfo t).run P w = .ok i w := by
  simp [typeInfo, h]

theorem run_size {t : TypeId} {i : TypeInfo} (h : P.info? t = some i) (w : World) : (sizeOf t).run P w = .ok i.size w := by
  simp [sizeOf, run_info h]

theorem run_und {t : TypeId} {d : TypeDesc} (h : P.underlying t = some d) (w : World) : (underlying t).run P w = .ok d w := by
  simp [underlying, h]

theorem aSlice_ok {φ : Inj} {H : AH} {w : World} {t : TypeId} {a : Addr} {len cap : Nat} {lo hi mx lo' hi' mx' : Option Value} {x' v : Value} (hi0 : Inv φ H w)
    (he : aSlice P t a len cap lo hi mx H = some v) (hx : VR φ (.slice (some a) len cap) x') (h1 : OptVR φ lo lo') (h2 : OptVR φ hi hi') (h3 : OptVR φ mx mx') :
    OpOK P m φ H w v H (do pure (.value (← Instr.sliceAt t x' lo' hi' mx'))) := by
  unfold aSlice at he
  cases ht : P.underlying t with
  | none => rw [ht] at he; cases he
  | some d =>
    rw [ht] at he
    cases d with
    | slice elem =>
      simp only at he
      cases hii : P.info? elem with
      | none => rw [hii] at he; cases he
      | some i =>
        rw [hii] at he
        simp only at he
        have key : ∀ (A' : Option Addr) (c' l h k : Nat), x' = .slice A' len c' → (Instr.sliceBounds true len c' lo hi mx).run P w = .ok (l, h, k) w → lo' = lo → hi' = hi → mx' = mx →
            (Instr.sliceAt t x' lo' hi' mx').run P w = .ok (.slice (if k = l then A' else A'.map (·.add (l * i.size))) (h - l) (k - l)) w := by
          intro A' c' l h k e1 e2 e3 e4 e5
          subst e1 e3 e4 e5
          simp only [Instr.sliceAt, Sem.run_bind, run_und ht, Result.andThen_ok]
          simp only [Instr.slice, Sem.run_bind, run_und ht, Result.andThen_ok, e2, run_size hii]
          rfl
        cases hop : Nat.beq cap OPEN with
        | true =>
          rw [hop] at he
          have hcap : cap = OPEN := Nat.eq_of_beq_eq_true hop
          subst hcap
          simp only [cond_true] at he
          cases hb : abounds len len lo hi mx with
          | none => rw [hb] at he; cases he
          | some r =>
            obtain ⟨l, h, k⟩ := r
            rw [hb] at he
            simp only at he
            obtain ⟨q1, q2, q3⟩ := abounds_same hb h1 h2 h3
            cases hx with
            | slice b o n c lo1 hl hc => exact absurd rfl hc
            | sliceOpen b o n c' l1 hl hn hc =>
              obtain ⟨r1, r2, r3, r4, r6⟩ := run_bounds (P := P) hb hn w
              have r5 := key _ _ _ _ _ rfl r1 q1 q2 q3
              cases mx with
              | some vmx =>
                simp only at he
                cases hk : Nat.blt k OPEN with
                | false => rw [hk] at he; cases he
                | true =>
                  rw [hk] at he
                  simp only [cond_true, Option.some.injEq] at he
                  subst he
                  refine opOK_value r5 hi0 (Step.refl _ _ _ _) ?_
                  have hlt : k < OPEN := Nat.lt_of_lt_of_le (Nat.lt_succ_self k) (Nat.le_of_ble_eq_true hk)
                  have hne : k - l ≠ OPEN := by omega
                  simp only [Option.isSome_some, if_true]
                  by_cases hkl : k = l
                  · rw [if_pos hkl, if_pos hkl]
                    exact .slice b o _ _ l1 hl hne
                  · rw [if_neg hkl, if_neg hkl]
                    simp only [Option.map_some, Addr.add_lit, Nat.add_assoc]
                    exact .slice b _ _ _ l1 hl hne
              | none =>
                simp only at he
                cases hg : H.get b with
                | none => rw [hg] at he; cases he
                | some blk =>
                  rw [hg] at he
                  simp only at he
                  cases hck : (blk.opn && Nat.beq blk.esz i.size && isCells blk.obj) with
                  | false => rw [hck] at he; cases he
                  | true =>
                    rw [hck] at he
                    simp only [cond_true, Option.some.injEq] at he
                    subst he
                    simp only [Bool.and_eq_true] at hck
                    obtain ⟨⟨ho, hes⟩, hob⟩ := hck
                    have hes := Nat.eq_of_beq_eq_true hes
                    have hesz : l1.esz = i.size := by
                      unfold isCells at hob
                      split at hob
                      · rename_i cc ee ff hobj
                        obtain ⟨l2, cc', ff', g1, g2, g3⟩ := hi0.cells hg hobj
                        rw [hl] at g1; cases g1
                        rw [g3.esz ho, hes]
                      · cases hob
                    refine opOK_value r5 hi0 (Step.refl _ _ _ _) ?_
                    have hk := r6 rfl
                    have hhl : h ≤ len := by rcases r3 with r3 | ⟨_, r3⟩ <;> omega
                    simp only [Option.isSome_none, Bool.false_eq_true, if_false]
                    by_cases hkl : c' = l
                    · rw [if_pos hkl]
                      have e1 : h - l = 0 := by omega
                      have e2 : c' - l = 0 := by omega
                      rw [e1, e2, Addr.add_lit]
                      exact .sliceEnd b _ l1 _ hl
                    · rw [if_neg hkl]
                      simp only [Option.map_some, Addr.add_lit]
                      rw [show l1.off + o + l * i.size = l1.off + (o + l * i.size) from Nat.add_assoc _ _ _]
                      refine .sliceOpen b _ _ _ l1 hl (by omega) ?_
                      rw [← hesz]
                      have p1 : l * l1.esz ≤ c' * l1.esz := Nat.mul_le_mul_right _ (by omega)
                      rw [Nat.sub_mul]
                      omega
            | sliceEnd b o l1 a' hl =>
              obtain ⟨r1, r2, r3, r4, r6⟩ := run_bounds (P := P) hb (Nat.le_refl 0) w
              have r5 := key _ _ _ _ _ rfl r1 q1 q2 q3
              have ek : k = 0 := by omega
              have eh : h = 0 := by rcases r3 with r3 | ⟨_, r3⟩ <;> omega
              have el : l = 0 := by omega
              subst ek eh el
              simp only [ite_self, if_true, Nat.sub_zero] at r5
              cases mx with
              | some vmx =>
                simp only at he
                cases hk : Nat.blt 0 OPEN with
                | false => rw [hk] at he; cases he
                | true =>
                  rw [hk] at he
                  simp only [cond_true, if_true, Nat.sub_zero, Option.some.injEq] at he
                  subst he
                  exact opOK_value r5 hi0 (Step.refl _ _ _ _) (.sliceZero b o l1 a' hl)
              | none =>
                simp only at he
                cases hg : H.get b with
                | none => rw [hg] at he; cases he
                | some blk =>
                  rw [hg] at he
                  simp only at he
                  cases hck : (blk.opn && Nat.beq blk.esz i.size && isCells blk.obj) with
                  | false => rw [hck] at he; cases he
                  | true =>
                    rw [hck] at he
                    simp only [cond_true, Option.some.injEq] at he
                    subst he
                    refine opOK_value r5 hi0 (Step.refl _ _ _ _) ?_
                    rw [Addr.add_lit]
                    exact .sliceEnd b _ l1 a' hl
        | false =>
          rw [hop] at he
          have hcap : cap ≠ OPEN := Nat.ne_of_beq_eq_false hop
          simp only [cond_false] at he
          cases hb : abounds len cap lo hi mx with
          | none => rw [hb] at he; cases he
          | some r =>
            obtain ⟨l, h, k⟩ := r
            rw [hb] at he
            simp only at he
            obtain ⟨q1, q2, q3⟩ := abounds_same hb h1 h2 h3
            obtain ⟨r1, r2, r3, r4, r6⟩ := run_bounds (P := P) hb (Nat.le_refl cap) w
            have hke : (if mx.isSome then k else cap) = k := by
              cases mx with
              | some _ => rfl
              | none => exact (r6 rfl).symm
            rw [hke] at r1
            cases hk : (Nat.blt k OPEN && Nat.ble h k) with
            | false => rw [hk] at he; cases he
            | true =>
              rw [hk] at he
              simp only [cond_true, Option.some.injEq] at he
              subst he
              simp only [Bool.and_eq_true] at hk
              have hlt : k < OPEN := Nat.lt_of_lt_of_le (Nat.lt_succ_self k) (Nat.le_of_ble_eq_true hk.1)
              have hne : k - l ≠ OPEN := by omega
              have hhk := Nat.le_of_ble_eq_true hk.2
              cases hx with
              | slice b o n c l1 hl hc =>
                refine opOK_value (key _ _ _ _ _ rfl r1 q1 q2 q3) hi0 (Step.refl _ _ _ _) ?_
                by_cases hkl : k = l
                · rw [if_pos hkl, if_pos hkl]
                  exact .slice b o _ _ l1 hl hne
                · rw [if_neg hkl, if_neg hkl]
                  simp only [Option.map_some, Addr.add_lit, Nat.add_assoc]
                  exact .slice b _ _ _ l1 hl hne
              | sliceOpen b o n c' l1 hl hn hc => exact absurd rfl hcap
              | sliceEnd b o l1 a' hl => exact absurd rfl hcap
              | sliceZero b o l1 a' hl =>
                have ek : k = 0 := by omega
                have eh : h = 0 := by omega
                have el : l = 0 := by omega
                subst ek eh el
                have r5 := key _ _ _ _ _ rfl r1 q1 q2 q3
                simp only [if_true, Nat.sub_zero] at r5 ⊢
                exact opOK_value r5 hi0 (Step.refl _ _ _ _) (.sliceZero b o l1 a' hl)
    | _ => cases he

end Go.Abs
