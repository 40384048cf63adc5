/- The engine, part 13 of 35: pieces of the interpreter and of its soundness. No condition. -/
import Derived.Test.YtiggbefjndkkmaaGreatDoorE12
namespace Go.Abs

variable {P : Program} {m : Nat}

def FindR (φ : Inj) : Option (Nat × Value) → Option (Nat × Value) → Prop
  | none, none => True
  | some (i, v), some (j, u) => i = j ∧ VR φ v u
  | _, _ => False

theorem findNow_rel {φ : Inj} (d : TypeDesc) (k : Value) {es es' : List MapEntry} (h : F2 (ER φ) es es') : ∀ n, (Instr.findNow d k es n = none ∧ Instr.findNow d k es' n = none) ∨
    ∃ r r', Instr.findNow d k es n = some r ∧ Instr.findNow d k es' n = some r' ∧ FindR φ r r' := by
  induction h with
  | nil => intro n; exact .inr ⟨none, none, rfl, rfl, trivial⟩
  | cons hab _ ih =>
    intro n
    simp only [Instr.findNow]
    rw [← hab.1]
    cases Instr.sameNow d k _ with
    | none => exact .inl ⟨rfl, rfl⟩
    | some b =>
      cases b
      · exact ih (n + 1)
      · exact .inr ⟨_, _, rfl, rfl, rfl, hab.2.1⟩

theorem aAsk_run {φ : Inj} (kt : TypeId) (k : Value) (w : World) {es es' : List MapEntry} (h : F2 (ER φ) es es') : ∀ (n : Nat) (r : Option (Nat × Value)), aAsk P kt k es n = some r →
    ∃ r', (Instr.findAsking kt k es' n).run P w = .ok r' w ∧ FindR φ r r' := by
  induction h with
  | nil => intro n r hr; simp only [aAsk, Option.some.injEq] at hr; subst hr; exact ⟨none, rfl, trivial⟩
  | @cons a b _ _ hab _ ih =>
    intro n r hr
    simp only [aAsk] at hr
    cases hp : peval P (Op.equal kt k a.key) with
    | none => rw [hp] at hr; cases hr
    | some q =>
      rw [hp] at hr
      have hrun := peval_run P _ _ hp w
      rw [hab.1] at hrun
      cases q
      · obtain ⟨r', h1, h2⟩ := ih (n + 1) r hr
        refine ⟨r', ?_, h2⟩
        simp only [Instr.findAsking, Sem.run_bind, hrun, Result.andThen_ok, Bool.false_eq_true, if_false]
        exact h1
      · simp only [Option.some.injEq] at hr
        subst hr
        refine ⟨some (n, b.val), ?_, rfl, hab.2.1⟩
        simp only [Instr.findAsking, Sem.run_bind, hrun, Result.andThen_ok, if_true]
        rfl

theorem aFind_run {φ : Inj} {kt : TypeId} {k : Value} (w : World) {es es' : List MapEntry} (h : F2 (ER φ) es es') {r : Option (Nat × Value)} (hr : aFind P kt k es = some r) :
    ∃ r', (Instr.findKey kt k es').run P w = .ok r' w ∧ FindR φ r r' := by
  unfold aFind at hr
  cases hu : P.underlying kt with
  | none => rw [hu] at hr; cases hr
  | some d =>
    rw [hu] at hr
    simp only at hr
    rcases findNow_rel d k h 0 with ⟨h1, h2⟩ | ⟨q, q', h1, h2, h3⟩
    · rw [h1] at hr
      obtain ⟨r', a1, a2⟩ := aAsk_run kt k w h 0 r hr
      refine ⟨r', ?_, a2⟩
      simp only [Instr.findKey, Sem.run_bind, run_und hu, Result.andThen_ok, h2]
      exact a1
    · rw [h1] at hr
      simp only [Option.some.injEq] at hr
      subst hr
      refine ⟨q', ?_, h3⟩
      simp only [Instr.findKey, Sem.run_bind, run_und hu, Result.andThen_ok, h2]
      rfl

theorem Inv.map {φ : Inj} {H : AH} {w : World} (hi : Inv φ H w) {r : Nat} {b : Blk} {es : Array MapEntry} {n : Nat} (hb : H.get r = some b) (ho : b.obj = .map es n) {l : Loc} (hl : φ r = some l) :
    ∃ es', w.heap[l.blk]? = some (.map es' n) ∧ MR φ es es' := by
  obtain ⟨l1, o', h1, h2, h3, _⟩ := hi.ref hb (by rw [ho]; rfl)
  rw [hl] at h1; cases h1
  rw [ho] at h3
  cases o' with
  | map es' n' => obtain ⟨rfl, h4⟩ := h3; exact ⟨es', h2, h4⟩
  | _ => exact h3.elim

theorem run_getObj_map {w : World} {r : Nat} {es : Array MapEntry} {n : Nat} (h : w.heap[r]? = some (.map es n)) : (getObj r).run P w = .ok (.map es n) w := by
  simp [getObj, Sem.run, h]

theorem run_setObj_map {w : World} {r : Nat} {es : Array MapEntry} {n : Nat} {o : Obj} (h : w.heap[r]? = some (.map es n)) : (setObj r o).run P w = .ok () { w with heap := w.heap.setIfInBounds r o } := by
  simp [setObj, Sem.run, h]

theorem MR.empty (φ : Inj) : MR φ #[] #[] := ⟨rfl, fun i x y h => by simp at h⟩

theorem aEntries_run {φ : Inj} {H : AH} {w : World} (hi : Inv φ H w) {x x' : Value} {es : Array MapEntry} (h : aEntries H x = some es) (hx : VR φ x x') :
    ∃ es', MR φ es es' ∧ ((x' = .map none ∧ es' = #[]) ∨ ∃ r n, x' = .map (some r) ∧ (getObj r).run P w = .ok (.map es' n) w) := by
  cases hx with
  | mapNil => simp only [aEntries, Option.some.injEq] at h; subst h; exact ⟨#[], MR.empty _, .inl ⟨rfl, rfl⟩⟩
  | map r l hl =>
    simp only [aEntries] at h
    split at h
    · rename_i es1 n _ _ _ hg
      simp only [Option.some.injEq] at h
      subst h
      obtain ⟨es', h1, h2⟩ := hi.map hg rfl hl
      exact ⟨es', h2, .inr ⟨_, n, rfl, run_getObj_map h1⟩⟩
    · cases h
  | _ => cases h

theorem run_zero {t : TypeId} {z : Value} (h : (P.info? t).bind (·.zero) = some z) (w : World) : (zeroValue t).run P w = .ok z w := by
  cases hi : P.info? t with
  | none => rw [hi] at h; cases h
  | some i =>
    rw [hi] at h
    have hz : i.zero = some z := h
    simp [zeroValue, typeInfo, hi, hz]

theorem aLookup_ok {φ : Inj} {H : AH} {w : World} {t : TypeId} {x x' k v : Value} {ok : Bool} (hi : Inv φ H w) (h : aLookup P t x k ok H = some v) (hx : VR φ x x') :
    ∃ v', (Instr.lookup t x' k ok).run P w = .ok v' w ∧ VR φ v v' := by
  unfold aLookup at h
  cases ht : P.underlying t with
  | none => rw [ht] at h; cases h
  | some d =>
    rw [ht] at h
    cases d with
    | map kt e =>
      simp only at h
      cases he : aEntries H x with
      | none => rw [he] at h; cases h
      | some es =>
        rw [he] at h
        simp only at h
        obtain ⟨es', hm, hx2⟩ := aEntries_run (P := P) hi he hx
        have hf := MR_iff.1 hm
        have hemp : es.isEmpty = es'.isEmpty := by have := hf.isEmpty; simpa using this
        cases hc : peval P (Instr.checkKey es.isEmpty 10000 kt k) with
        | none => rw [hc] at h; cases h
        | some u =>
          rw [hc] at h
          have hcr := peval_run P _ _ hc w
          rw [hemp] at hcr
          cases hfi : aFind P kt k es.toList with
          | none => rw [hfi] at h; cases h
          | some r =>
            rw [hfi] at h
            obtain ⟨r', hr1, hr2⟩ := aFind_run w hf hfi
            have tail : ∃ v', (do
                Instr.checkKey es'.isEmpty 10000 kt k
                let (v, okb) ← match ← Instr.findKey kt k es'.toList with
                  | some (_, v) => pure (v, true)
                  | none => pure (← zeroValue e, false)
                pure (if ok then Value.tuple #[v, .bool okb] else v) : Sem Value).run P w = .ok v' w ∧ VR φ v v' := by
              simp only [Sem.run_bind, hcr, Result.andThen_ok, hr1]
              cases r with
              | none =>
                cases r' with
                | some p => exact hr2.elim
                | none =>
                  simp only at h
                  cases hz : (P.info? e).bind (·.zero) with
                  | none => rw [hz] at h; cases h
                  | some z =>
                    rw [hz] at h
                    simp only at h
                    cases hfl : flat depth z with
                    | false => rw [hfl] at h; cases h
                    | true =>
                      rw [hfl] at h
                      simp only [cond_true, Option.some.injEq] at h
                      subst h
                      simp only [Sem.run_bind, run_zero hz, Result.andThen_ok, Sem.run_pure]
                      refine ⟨_, rfl, ?_⟩
                      cases ok
                      · exact flat_refl _ hfl
                      · exact vr_tuple2 (flat_refl _ hfl) (.bool false)
              | some p =>
                obtain ⟨i, u⟩ := p
                cases r' with
                | none => exact hr2.elim
                | some p' =>
                  obtain ⟨i', u'⟩ := p'
                  simp only at h
                  simp only [Option.some.injEq] at h
                  subst h
                  simp only [Sem.run_pure, Result.andThen_ok]
                  refine ⟨_, rfl, ?_⟩
                  cases ok
                  · exact hr2.2
                  · exact vr_tuple2 hr2.2 (.bool true)
            obtain ⟨v', hv1, hv2⟩ := tail
            refine ⟨v', ?_, hv2⟩
            rw [← hv1]
            rcases hx2 with ⟨rfl, rfl⟩ | ⟨rr, n, rfl, hg⟩
            · simp only [Instr.lookup, Sem.run_bind, run_und ht, Result.andThen_ok, Sem.run_pure]
              rfl
            · simp only [Instr.lookup, Sem.run_bind, run_und ht, Result.andThen_ok, Sem.run_pure, hg]
              rfl
    | _ => cases h

/-! Maps that are written. -/

theorem aMapAt_inv {H : AH} {x : Value} {r n : Nat} {b : Blk} {es : Array MapEntry} (h : aMapAt m H x = some (r, b, es, n)) :
    x = .map (some r) ∧ H.get r = some b ∧ m ≤ r ∧ b.obj = .map es n ∧ b.ro = false := by
  unfold aMapAt at h
  split at h
  · rename_i r'
    split at h
    · rename_i es1 n1 opn esz hg
      cases hb : Nat.ble m r' with
      | false => rw [hb] at h; cases h
      | true =>
        rw [hb] at h
        simp only [cond_true, Option.some.injEq, Prod.mk.injEq] at h
        obtain ⟨rfl, rfl, rfl, rfl⟩ := h
        exact ⟨rfl, hg, Nat.le_of_ble_eq_true hb, rfl, rfl⟩
    · cases h
  · cases h

/-- A map's new contents. -/
theorem map_put {φ : Inj} {H : AH} {w : World} (hi : Inv φ H w) {r n k : Nat} {b : Blk} {es es2 es' es2' : Array MapEntry} {l : Loc} (hb : H.get r = some b) (hm : m ≤ r) (ho : b.obj = .map es n) (hro : b.ro = false) (hl : φ r = some l)
    (hw : w.heap[l.blk]? = some (.map es' n)) (hes : MR φ es2 es2') :
    Inv φ (H.put r { b with obj := .map es2 k }) { w with heap := w.heap.setIfInBounds l.blk (.map es2' k) } ∧
      Step m φ H w φ (H.put r { b with obj := .map es2 k }) { w with heap := w.heap.setIfInBounds l.blk (.map es2' k) } := by
  have hlt : l.blk < w.heap.size := (hi.dom _ _ hl).2
  have hoth : ∀ c, c ≠ l.blk → ({ w with heap := w.heap.setIfInBounds l.blk (.map es2' k) } : World).heap[c]? = w.heap[c]? := by
    intro c hc
    simp only [Array.getElem?_setIfInBounds]
    rw [if_neg (fun e => hc e.symm)]
  obtain ⟨l1, o', h1, h2, h3, h0⟩ := hi.ref hb (by rw [ho]; rfl)
  rw [hl] at h1; cases h1
  have hal : alive b = true := by unfold alive; rw [ho]
  have hx : ({ w with heap := w.heap.setIfInBounds l.blk (.map es2' k) } : World).heap[l.blk]? = some (.map es2' k) := by simp [hlt]
  exact ⟨hi.put hb hro hal hl (by simp) hoth ⟨_, hx, ⟨rfl, hes⟩, h0⟩, Step.put hm hb hl (by simp) hoth rfl rfl rfl⟩

theorem sameBits_stays (P : Program) {old k : Value} (h : Instr.sameBits 10000 old k = true) (w : World) : (Instr.keyThatStays old k).run P w = .ok k w := by
  simp [Instr.keyThatStays, h]

theorem oldKey {φ : Inj} {es es' : Array MapEntry} (h : MR φ es es') (i : Nat) (k : Value) : ((es'[i]?).map (·.key)).getD k = ((es[i]?).map (·.key)).getD k := by
  rcases (MR_iff.1 h).get i with ⟨a, b⟩ | ⟨x, y, a, b, c⟩
  · rw [Array.getElem?_toList] at a b; rw [a, b]
  · rw [Array.getElem?_toList] at a b; rw [a, b]; exact c.1.symm

theorem oldBorn {φ : Inj} {es es' : Array MapEntry} (h : MR φ es es') (i : Nat) : ((es'[i]?).map fun e => (e.born : Int)).getD 0 = ((es[i]?).map fun e => (e.born : Int)).getD 0 := by
  rcases (MR_iff.1 h).get i with ⟨a, b⟩ | ⟨x, y, a, b, c⟩
  · rw [Array.getElem?_toList] at a b; rw [a, b]
  · rw [Array.getElem?_toList] at a b; rw [a, b]; exact congrArg (fun n : Nat => (n : Int)) c.2.2.1.symm

theorem aUpdate_ok {φ : Inj} {H H' : AH} {w : World} {t : TypeId} {x x' k v v' u : Value} (hi : Inv φ H w) (hfk : flat depth k = true) (h : aUpdate P m t x k v H = some (u, H')) (hx : VR φ x x') (hv : VR φ v v') :
    u = undef ∧ ∃ w', (Instr.mapUpdate t x' k v').run P w = .ok () w' ∧ Inv φ H' w' ∧ Step m φ H w φ H' w' := by
  unfold aUpdate at h
  cases ht : P.underlying t with
  | none => rw [ht] at h; cases h
  | some d =>
    rw [ht] at h
    cases d with
    | map kt e =>
      simp only at h
      cases hma : aMapAt m H x with
      | none => rw [hma] at h; cases h
      | some q =>
        obtain ⟨r, b, es, n⟩ := q
        rw [hma] at h
        simp only at h
        obtain ⟨rfl, hb, hm, ho, hro⟩ := aMapAt_inv hma
        cases hx with
        | map r l hl =>
          obtain ⟨es', hw, hes⟩ := hi.map hb ho hl
          have hf := MR_iff.1 hes
          cases hc : peval P (Instr.checkKey false 10000 kt k) with
          | none => rw [hc] at h; cases h
          | some u1 =>
            rw [hc] at h
            have hcr := peval_run P _ _ hc w
            cases hfi : aFind P kt k es.toList with
            | none => rw [hfi] at h; cases h
            | some rr =>
              rw [hfi] at h
              obtain ⟨r', hr1, hr2⟩ := aFind_run w hf hfi
              cases rr with
              | some p =>
                obtain ⟨i, v0⟩ := p
                cases r' with
                | none => exact hr2.elim
                | some p' =>
                  obtain ⟨i', v0'⟩ := p'
                  obtain ⟨rfl, _⟩ := hr2
                  simp only at h
                  cases hsb : Instr.sameBits 10000 (((es[i]?).map (·.key)).getD k) k with
                  | false => rw [hsb] at h; cases h
                  | true =>
                    rw [hsb] at h
                    simp only [cond_true, Option.some.injEq, Prod.mk.injEq] at h
                    obtain ⟨rfl, rfl⟩ := h
                    refine ⟨rfl, ?_⟩
                    have hst := sameBits_stays P (old := ((es'[i]?).map (·.key)).getD k) (k := k) (by rw [oldKey hes]; exact hsb) w
                    obtain ⟨g1, g2⟩ := map_put (k := n) hi hb hm ho hro hl hw (hes.modify i (fun e => { e with key := k, val := v }) (fun e => { e with key := k, val := v' }) fun a b hab => ⟨rfl, hv, hab.2.2.1, hfk⟩)
                    refine ⟨_, ?_, g1, g2⟩
                    simp only [Instr.mapUpdate, Sem.run_bind, run_und ht, Result.andThen_ok, run_getObj_map hw, hcr, hr1, hst, run_setObj_map hw]
              | none =>
                cases r' with
                | some p' => exact hr2.elim
                | none =>
                  simp only [Option.some.injEq, Prod.mk.injEq] at h
                  obtain ⟨rfl, rfl⟩ := h
                  refine ⟨rfl, ?_⟩
                  obtain ⟨g1, g2⟩ := map_put (k := n + 1) hi hb hm ho hro hl hw (hes.push (e := { key := k, val := v, born := n }) (e' := { key := k, val := v', born := n }) ⟨rfl, hv, rfl, hfk⟩)
                  refine ⟨_, ?_, g1, g2⟩
                  simp only [Instr.mapUpdate, Sem.run_bind, run_und ht, Result.andThen_ok, run_getObj_map hw, hcr, hr1, run_setObj_map hw]
    | _ => cases h

theorem aEntry_ok {φ : Inj} {H H' : AH} {w : World} {t : TypeId} {x x' k u : Value} (hi : Inv φ H w) (hfk : flat depth k = true) (h : aEntry P m t x k H = some (u, H')) (hx : VR φ x x') :
    ∃ u' w', (Instr.mapEntry t x' k).run P w = .ok u' w' ∧ Inv φ H' w' ∧ Step m φ H w φ H' w' ∧ VR φ u u' := by
  unfold aEntry at h
  cases ht : P.underlying t with
  | none => rw [ht] at h; cases h
  | some d =>
    rw [ht] at h
    cases d with
    | map kt e =>
      simp only at h
      cases hma : aMapAt m H x with
      | none => rw [hma] at h; cases h
      | some q =>
        obtain ⟨r, b, es, n⟩ := q
        rw [hma] at h
        simp only at h
        obtain ⟨rfl, hb, hm, ho, hro⟩ := aMapAt_inv hma
        cases hx with
        | map r l hl =>
          obtain ⟨es', hw, hes⟩ := hi.map hb ho hl
          have hf := MR_iff.1 hes
          cases hc : peval P (Instr.checkKey false 10000 kt k) with
          | none => rw [hc] at h; cases h
          | some u1 =>
            rw [hc] at h
            have hcr := peval_run P _ _ hc w
            cases hfi : aFind P kt k es.toList with
            | none => rw [hfi] at h; cases h
            | some rr =>
              rw [hfi] at h
              obtain ⟨r', hr1, hr2⟩ := aFind_run w hf hfi
              cases rr with
              | some p =>
                obtain ⟨i, v0⟩ := p
                cases r' with
                | none => exact hr2.elim
                | some p' =>
                  obtain ⟨i', v0'⟩ := p'
                  obtain ⟨rfl, hv0⟩ := hr2
                  simp only at h
                  cases hsb : Instr.sameBits 10000 (((es[i]?).map (·.key)).getD k) k with
                  | false => rw [hsb] at h; cases h
                  | true =>
                    rw [hsb] at h
                    simp only [cond_true, Option.some.injEq, Prod.mk.injEq] at h
                    obtain ⟨rfl, rfl⟩ := h
                    have hst := sameBits_stays P (old := ((es'[i]?).map (·.key)).getD k) (k := k) (by rw [oldKey hes]; exact hsb) w
                    obtain ⟨g1, g2⟩ := map_put (k := n) hi hb hm ho hro hl hw (hes.modify i (fun e => { e with key := k }) (fun e => { e with key := k }) fun a b hab => ⟨rfl, hab.2.1, hab.2.2.1, hfk⟩)
                    refine ⟨.tuple #[v0', goInt (((es'[i]?).map (·.born)).getD 0)], _, ?_, g1, g2, ?_⟩
                    · simp only [Instr.mapEntry, Sem.run_bind, run_und ht, Result.andThen_ok, run_getObj_map hw, hcr, hr1, hst, run_setObj_map hw, Sem.run_pure]
                    · rw [oldBorn hes]; exact vr_tuple2 hv0 (.int _ _)
              | none =>
                cases r' with
                | some p' => exact hr2.elim
                | none =>
                  simp only at h
                  cases hz : (P.info? e).bind (·.zero) with
                  | none => rw [hz] at h; cases h
                  | some z =>
                    rw [hz] at h
                    simp only at h
                    cases hfl : flat depth z with
                    | false => rw [hfl] at h; cases h
                    | true =>
                      rw [hfl] at h
                      simp only [cond_true, Option.some.injEq, Prod.mk.injEq] at h
                      obtain ⟨rfl, rfl⟩ := h
                      obtain ⟨g1, g2⟩ := map_put (k := n + 1) hi hb hm ho hro hl hw (hes.push (e := { key := k, val := z, born := n }) (e' := { key := k, val := z, born := n }) ⟨rfl, flat_refl _ hfl, rfl, hfk⟩)
                      refine ⟨_, _, ?_, g1, g2, vr_tuple2 (flat_refl _ hfl) (.int _ _)⟩
                      simp only [Instr.mapEntry, Sem.run_bind, run_und ht, Result.andThen_ok, run_getObj_map hw, hcr, hr1, run_setObj_map hw, run_zero hz, Sem.run_pure]
                      rfl
    | _ => cases h

theorem F2.eraseIdx {α β : Type} {R : α → β → Prop} {l : List α} {l' : List β} (h : F2 R l l') : ∀ i, F2 R (l.eraseIdx i) (l'.eraseIdx i) := by
  induction h with
  | nil => intro i; exact .nil
  | cons a t ih =>
    intro i
    cases i with
    | zero => exact t
    | succ i => exact .cons a (ih i)

theorem MR.erase {φ : Inj} {es es' : Array MapEntry} (h : MR φ es es') (i : Nat) : MR φ (es.eraseIdxIfInBounds i) (es'.eraseIdxIfInBounds i) := by
  rw [MR_iff] at *
  have := h.eraseIdx i
  have tl : ∀ a : Array MapEntry, (a.eraseIdxIfInBounds i).toList = a.toList.eraseIdx i := by
    intro a
    unfold Array.eraseIdxIfInBounds
    split
    · simp
    · rename_i hi; rw [List.eraseIdx_of_length_le]; simpa using hi
  rw [tl, tl]; exact this

theorem aDelete_ok {φ : Inj} {H H' : AH} {w : World} {ts : Array TypeId} {ty : TypeId} {x x' k u : Value} (hi : Inv φ H w) (h : aDelete P m ts [x, k] H = some (u, H')) (hx : VR φ x x') :
    ∃ w', (Builtin.delete_ ts ty #[x', k]).run P w = .ok (.tuple #[]) w' ∧ Inv φ H' w' ∧ Step m φ H w φ H' w' ∧ u = .tuple #[] := by
  unfold aDelete at h
  cases ht0 : ts[0]? with
  | none => rw [ht0] at h; cases h
  | some t =>
    rw [ht0] at h
    simp only at h
    cases hfk : flat depth k with
    | false => rw [hfk] at h; cases h
    | true =>
      rw [hfk] at h
      simp only [cond_true] at h
      cases ht : P.underlying t with
      | none => rw [ht] at h; cases h
      | some d =>
        rw [ht] at h
        cases d with
        | map kt e =>
          simp only at h
          split at h
          · cases hx
            cases hc : peval P (Instr.checkKey true 10000 kt k) with
            | none => rw [hc] at h; cases h
            | some u1 =>
              rw [hc] at h
              simp only [Option.some.injEq, Prod.mk.injEq] at h
              obtain ⟨rfl, rfl⟩ := h
              refine ⟨w, ?_, hi, Step.refl _ _ _ _, rfl⟩
              have hcr := peval_run P _ _ hc w
              simp [Builtin.delete_, ht0, run_und ht, hcr]
          · cases hma : aMapAt m H x with
            | none => rw [hma] at h; cases h
            | some q =>
              obtain ⟨r, b, es, n⟩ := q
              rw [hma] at h
              simp only at h
              obtain ⟨rfl, hb, hm, ho, hro⟩ := aMapAt_inv hma
              cases hx with
              | map r l hl =>
                obtain ⟨es', hw, hes⟩ := hi.map hb ho hl
                have hf := MR_iff.1 hes
                have hemp : es.isEmpty = es'.isEmpty := by have := hf.isEmpty; simpa using this
                cases hc : peval P (Instr.checkKey es.isEmpty 10000 kt k) with
                | none => rw [hc] at h; cases h
                | some u1 =>
                  rw [hc] at h
                  have hcr := peval_run P _ _ hc w
                  rw [hemp] at hcr
                  cases hfi : aFind P kt k es.toList with
                  | none => rw [hfi] at h; cases h
                  | some rr =>
                    rw [hfi] at h
                    obtain ⟨r', hr1, hr2⟩ := aFind_run w hf hfi
                    cases rr with
                    | some p =>
                      obtain ⟨i, v0⟩ := p
                      cases r' with
                      | none => exact hr2.elim
                      | some p' =>
                        obtain ⟨i', v0'⟩ := p'
                        obtain ⟨rfl, _⟩ := hr2
                        simp only [Option.some.injEq, Prod.mk.injEq] at h
                        obtain ⟨rfl, rfl⟩ := h
                        obtain ⟨g1, g2⟩ := map_put (k := n) hi hb hm ho hro hl hw (hes.erase i)
                        refine ⟨_, ?_, g1, g2, rfl⟩
                        have hs := run_setObj_map (P := P) (o := .map (es'.eraseIdxIfInBounds i) n) hw
                        simp [Builtin.delete_, ht0, run_und ht, run_getObj_map hw, hcr, hr1, hs]
                    | none =>
                      cases r' with
                      | some p' => exact hr2.elim
                      | none =>
                        simp only [Option.some.injEq, Prod.mk.injEq] at h
                        obtain ⟨rfl, rfl⟩ := h
                        have hs := run_setObj_map (P := P) (o := .map es' n) hw
                        have hsame : ({ w with heap := w.heap.setIfInBounds l.blk (.map es' n) } : World) = w := by
                          have : w.heap.setIfInBounds l.blk (.map es' n) = w.heap := by
                            apply Array.ext
                            · simp
                            · intro j h1 h2
                              rw [Array.getElem_setIfInBounds]
                              split
                              · rename_i e; subst e
                                rw [Array.getElem?_eq_some_iff] at hw; exact hw.2.symm
                              · rfl
                          rw [this]
                        rw [hsame] at hs
                        refine ⟨w, ?_, hi, Step.refl _ _ _ _, rfl⟩
                        simp [Builtin.delete_, ht0, run_und ht, run_getObj_map hw, hcr, hr1, hs]
        | _ => cases h

end Go.Abs
