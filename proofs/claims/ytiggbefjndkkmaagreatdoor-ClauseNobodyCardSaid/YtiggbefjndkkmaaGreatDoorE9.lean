/- The engine, part 9 of 35: pieces of the interpreter and of its soundness. No condition. -/
import Derived.Test.YtiggbefjndkkmaaGreatDoorE8
namespace Go.Abs

variable {P : Program} {m : Nat}

theorem F2.length {α β : Type} {R : α → β → Prop} {l : List α} {l' : List β} (h : F2 R l l') : l.length = l'.length := (get_of_forall₂ h).1

theorem F2.get {α β : Type} {R : α → β → Prop} {l : List α} {l' : List β} (h : F2 R l l') (i : Nat) : (l[i]? = none ∧ l'[i]? = none) ∨ ∃ x y, l[i]? = some x ∧ l'[i]? = some y ∧ R x y := by
  induction h generalizing i with
  | nil => exact .inl ⟨rfl, rfl⟩
  | cons a _ ih =>
    cases i with
    | zero => exact .inr ⟨_, _, rfl, rfl, a⟩
    | succ i => simpa using ih i

theorem F2.append {α β : Type} {R : α → β → Prop} {l k : List α} {l' k' : List β} (h : F2 R l l') (g : F2 R k k') : F2 R (l ++ k) (l' ++ k') := by
  induction h with
  | nil => exact g
  | cons a _ ih => exact .cons a ih

theorem F2.filter {α β : Type} {R : α → β → Prop} {l : List α} {l' : List β} (p : α → Bool) (q : β → Bool) (hp : ∀ x y, R x y → p x = q y) (h : F2 R l l') : F2 R (l.filter p) (l'.filter q) := by
  induction h with
  | nil => exact .nil
  | cons a _ ih =>
    simp only [List.filter_cons, hp _ _ a]
    split
    · exact .cons a ih
    · exact ih

theorem F2.all {α β : Type} {R : α → β → Prop} {l : List α} {l' : List β} (p : α → Bool) (q : β → Bool) (hp : ∀ x y, R x y → p x = q y) (h : F2 R l l') : l.all p = l'.all q := by
  induction h with
  | nil => rfl
  | cons a _ ih => simp only [List.all_cons, hp _ _ a, ih]

theorem F2.findIdx {α β : Type} {R : α → β → Prop} {l : List α} {l' : List β} (p : α → Bool) (q : β → Bool) (hp : ∀ x y, R x y → p x = q y) (h : F2 R l l') : l.findIdx? p = l'.findIdx? q := by
  induction h with
  | nil => rfl
  | cons a _ ih => simp only [List.findIdx?_cons, hp _ _ a, ih]

theorem F2.find {α β : Type} {R : α → β → Prop} {l : List α} {l' : List β} (p : α → Bool) (q : β → Bool) (hp : ∀ x y, R x y → p x = q y) (h : F2 R l l') :
    (l.find? p = none ∧ l'.find? q = none) ∨ ∃ x y, l.find? p = some x ∧ l'.find? q = some y ∧ R x y := by
  induction h with
  | nil => exact .inl ⟨rfl, rfl⟩
  | @cons x y _ _ a _ ih =>
    simp only [List.find?_cons, hp _ _ a]
    cases q y
    · exact ih
    · exact .inr ⟨_, _, rfl, rfl, a⟩

theorem F2.map {α β γ δ : Type} {R : α → β → Prop} {S : γ → δ → Prop} (f : α → γ) (g : β → δ) (hf : ∀ x y, R x y → S (f x) (g y)) {l : List α} {l' : List β} (h : F2 R l l') : F2 S (l.map f) (l'.map g) := by
  induction h with
  | nil => exact .nil
  | cons a _ ih => exact .cons (hf _ _ a) ih

theorem F2.isEmpty {α β : Type} {R : α → β → Prop} {l : List α} {l' : List β} (h : F2 R l l') : l.isEmpty = l'.isEmpty := by cases h <;> rfl

theorem MR_iff {φ : Inj} {es es' : Array MapEntry} : MR φ es es' ↔ F2 (ER φ) es.toList es'.toList := by
  constructor
  · intro h
    exact forall₂_of_get _ _ (by simpa using h.1) fun i x y hx hy => h.2 i x y (by simpa using hx) (by simpa using hy)
  · intro h
    have := get_of_forall₂ h
    exact ⟨by simpa using this.1, fun i x y hx hy => this.2 i x y (by simpa using hx) (by simpa using hy)⟩

theorem MR.modify {φ : Inj} {es es' : Array MapEntry} (h : MR φ es es') (i : Nat) (f g : MapEntry → MapEntry) (hf : ∀ x y, ER φ x y → ER φ (f x) (g y)) : MR φ (es.modify i f) (es'.modify i g) := by
  refine ⟨by simp [h.1], fun j x y hx hy => ?_⟩
  rw [Array.getElem?_modify] at hx hy
  split at hx
  · rename_i e
    rw [if_pos e] at hy
    simp only [Option.map_eq_some_iff] at hx hy
    obtain ⟨a, h1, rfl⟩ := hx
    obtain ⟨b, h2, rfl⟩ := hy
    exact hf _ _ (h.2 j a b h1 h2)
  · rename_i e
    rw [if_neg e] at hy
    exact h.2 j x y hx hy

theorem MR.push {φ : Inj} {es es' : Array MapEntry} (h : MR φ es es') {e e' : MapEntry} (he : ER φ e e') : MR φ (es.push e) (es'.push e') := by
  refine ⟨by simp [h.1], fun i x y hx hy => ?_⟩
  rw [Array.getElem?_push] at hx hy
  rw [← h.1] at hy
  split at hx
  · rename_i e; rw [if_pos e] at hy; cases hx; cases hy; exact he
  · rename_i e; rw [if_neg e] at hy; exact h.2 i x y hx hy

theorem sim_entryStore {φ : Inj} (t : TypeId) {x x' s s' v v' : Value} (hx : VR φ x x') (hs : VR φ s s') (hv : VR φ v v') : Sim P m (EqR Unit) φ (Instr.entryStore t x s v) (Instr.entryStore t x' s' v') := by
  unfold Instr.entryStore
  cases hx with
  | map r l h =>
    simp only
    refine sim_bind (sim_getObj h) fun φ1 h1 o o' ho => ?_
    cases o with
    | map es n =>
      cases o' with
      | map es' n' =>
        obtain ⟨rfl, hm⟩ := ho
        simp only
        refine sim_bind (sim_asInt (hs.mono h1)) fun φ2 h2 b b' e => ?_
        cases e
        have hi := F2.findIdx (fun e : MapEntry => (e.born : Int) == b) (fun e : MapEntry => (e.born : Int) == b) (fun x y hxy => by rw [hxy.2.2.1]) (MR_iff.1 hm)
        rw [← List.findIdx?_toArray, ← List.findIdx?_toArray] at hi
        rw [← hi]
        cases es.findIdx? (fun e : MapEntry => (e.born : Int) == b) with
        | none => exact sim_halt
        | some i =>
          have hle := Inj.le_trans h1 h2
          refine sim_setObj (hle _ _ h) ⟨rfl, (hm.mono h2).modify i _ _ fun x y hxy => ⟨hxy.1, hv.mono hle, hxy.2.2⟩⟩
      | _ => exact ho.elim
    | _ => exact sim_halt
  | _ => exact sim_halt

theorem sim_range {φ : Inj} (t : TypeId) {x x' : Value} (hx : VR φ x x') : Sim P m VR φ (Instr.range t x) (Instr.range t x') := by
  unfold Instr.range
  refine sim_bind (sim_underlying t) fun φ1 h1 d d' e => ?_
  cases e
  have tail : ∀ φ2 o o', ObjR φ2 o o' → Sim P m VR φ2 (newObj o >>= fun r => pure (.pointer (some ⟨r, 0, none⟩))) (newObj o' >>= fun r => pure (.pointer (some ⟨r, 0, none⟩))) := by
    intro φ2 o o' ho
    refine sim_bind (sim_newRef ho) fun φ3 h3 x y h => ?_
    obtain ⟨l, h3, h4, rfl⟩ := h
    have := VR.ptr (φ := φ3) x 0 l h3
    rw [h4] at this
    exact sim_pure this
  have hx1 := hx.mono h1
  cases d with
  | string =>
    cases hx1 with
    | string s => exact sim_bind (R := ObjR) (sim_pure ⟨rfl, rfl⟩) fun φ2 h2 o o' ho => tail φ2 o o' ho
    | _ => exact sim_halt
  | map a b =>
    cases hx1 with
    | mapNil => exact sim_bind (R := ObjR) (sim_pure ⟨.mapNil, rfl, rfl, rfl⟩) fun φ2 h2 o o' ho => tail φ2 o o' ho
    | map r l h =>
      simp only
      refine sim_bind (sim_getObj h) fun φ2 h2 o o' ho => ?_
      cases o with
      | map es n =>
        cases o' with
        | map es' n' =>
          obtain ⟨rfl, hm⟩ := ho
          exact sim_bind (R := ObjR) (sim_pure ⟨.map r l (h2 _ _ h), rfl, rfl, rfl⟩) fun φ2 h2 o o' ho => tail φ2 o o' ho
        | _ => exact ho.elim
      | _ => exact sim_halt
    | _ => exact sim_halt
  | _ => cases hx1 <;> exact sim_halt

def OptR {α β : Type} (R : α → β → Prop) : Option α → Option β → Prop
  | none, none => True
  | some x, some y => R x y
  | _, _ => False

theorem vr_tuple3 {φ : Inj} {a a' b b' c c' : Value} (h1 : VR φ a a') (h2 : VR φ b b') (h3 : VR φ c c') : VR φ (.tuple #[a, b, c]) (.tuple #[a', b', c']) := by
  have := ((AR.single h1).push h2).push h3
  exact .tuple _ _ this.1 this.2

theorem vr_tuple2 {φ : Inj} {a a' b b' : Value} (h1 : VR φ a a') (h2 : VR φ b b') : VR φ (.tuple #[a, b]) (.tuple #[a', b']) := by
  have := (AR.single h1).push h2
  exact .tuple _ _ this.1 this.2

theorem vr_tuple1 {φ : Inj} {a a' : Value} (h1 : VR φ a a') : VR φ (.tuple #[a]) (.tuple #[a']) := by
  have := AR.single h1
  exact .tuple _ _ this.1 this.2

/-- An iterator's address is its block's. -/
theorem sim_atRef {α β : Type} {R : Inj → α → β → Prop} {φ : Inj} {r : Nat} {l : Loc} (hl : φ r = some l) {k : Obj → Sem α} {s' : Sem β} (h : l.off = 0 → Sim P m R φ (getObj r >>= k) s') : Sim P m R φ (getObj r >>= k) s' := by
  intro H w x H' hr hi
  have hr' := hr
  change arun P m ((getObj r).bind k) H = _ at hr'
  rw [arun_bind] at hr'
  simp only [Go.getObj, arun] at hr'
  cases hb : H.get r with
  | none => rw [hb] at hr'; cases hr'
  | some b =>
    rw [hb] at hr'
    simp only at hr'
    cases hq : isRef b.obj with
    | false => rw [hq] at hr'; cases hr'
    | true =>
      obtain ⟨l1, o', h1, h2, h3, h0⟩ := hi.ref hb hq
      rw [hl] at h1; cases h1
      exact h h0 H w x H' hr hi

theorem sim_mapNext {φ : Inj} {b r n since : Nat} {seen : Array Nat} {l lr : Loc} (h : φ b = some l) (hr : φ r = some lr) (cs cs' : Array (Option MapEntry)) (hc : F2 (OptR (ER φ)) cs.toList cs'.toList) : Sim P m VR φ
    (choose (.mapNext cs.size) >>= fun k => match cs[k]? with
      | some (some e) => (setObj b (.mapIter (some r) since (seen.push e.born) n) >>= fun _ => pure (.tuple #[.bool true, e.key, e.val]))
      | some none => pure (.tuple #[.bool false])
      | none => stuck "Next: no such candidate")
    (choose (.mapNext cs'.size) >>= fun k => match cs'[k]? with
      | some (some e) => (setObj l.blk (.mapIter (some lr.blk) since (seen.push e.born) n) >>= fun _ => pure (.tuple #[.bool true, e.key, e.val]))
      | some none => pure (.tuple #[.bool false])
      | none => stuck "Next: no such candidate") := by
  have hs : cs.size = cs'.size := by simpa using hc.length
  rw [← hs]
  refine sim_bind (sim_choose _) fun φ3 h3 k k' e => ?_
  cases e
  rcases hc.get k with ⟨a1, a2⟩ | ⟨p, q, a1, a2, a3⟩
  · rw [Array.getElem?_toList] at a1 a2
    rw [a1]; exact sim_halt
  · rw [Array.getElem?_toList] at a1 a2
    rw [a1, a2]
    cases p with
    | none => cases q with
      | none => exact sim_pure (vr_tuple1 (.bool false))
      | some _ => exact a3.elim
    | some e => cases q with
      | none => exact a3.elim
      | some e' =>
        obtain ⟨k1, k2, k3, k4⟩ := a3
        simp only
        rw [← k3, ← k1]
        refine sim_bind (sim_setObj (h3 _ _ h) ⟨.map r lr (h3 _ _ hr), rfl, rfl, rfl⟩) fun φ4 h4 _ _ _ => ?_
        exact sim_pure (vr_tuple3 (.bool true) (flat_refl _ k4) (k2.mono (Inj.le_trans h3 h4)))

theorem sim_next {φ : Inj} (isS : Bool) (t : TypeId) {x x' : Value} (hx : VR φ x x') : Sim P m VR φ (Instr.next x isS t) (Instr.next x' isS t) := by
  unfold Instr.next
  cases hx with
  | ptr b o l h =>
    cases o with
    | succ k => exact sim_halt
    | zero =>
      refine sim_atRef h fun hl => ?_
      simp only [hl, Nat.add_zero]
      refine sim_bind (sim_getObj h) fun φ1 h1 q q' ho => ?_
      have over : ∀ φ2, Sim P m VR φ2 (pure (.tuple #[.bool false])) (pure (.tuple #[.bool false])) := fun φ2 => sim_pure (vr_tuple1 (.bool false))
      cases q with
      | stringIter s p =>
        cases q' with
        | stringIter s' p' =>
          obtain ⟨rfl, rfl⟩ := ho
          cases isS
          · exact sim_halt
          · simp only
            split
            · exact sim_bind (sim_setObj (h1 _ _ h) ⟨rfl, rfl⟩) fun φ2 h2 _ _ _ => sim_pure (vr_tuple3 (.bool _) (.int _ _) (.int _ _))
            · exact over _
        | _ => exact ho.elim
      | mapIter mp since seen last =>
        cases q' with
        | mapIter mp' since' seen' last' =>
          obtain ⟨hm, rfl, rfl, rfl⟩ := ho
          cases isS
          · cases hm with
            | mapNil => exact over _
            | map r lr hr =>
              simp only
              refine sim_bind (sim_getObj hr) fun φ2 h2 u u' hu => ?_
              cases u with
              | map es n =>
                cases u' with
                | map es' n' =>
                  obtain ⟨rfl, hes⟩ := hu
                  have hf := MR_iff.1 hes
                  have e1 : es.isEmpty = es'.isEmpty := by simpa using hf.isEmpty
                  have e2 : (es.all fun e => decide (e.born ≥ last)) = (es'.all fun e => decide (e.born ≥ last)) := by
                    have := F2.all (fun e : MapEntry => decide (e.born ≥ last)) (fun e : MapEntry => decide (e.born ≥ last)) (fun x y hxy => by rw [hxy.2.2.1]) hf
                    simpa using this
                  have f1 := F2.filter (fun e : MapEntry => !seen.contains e.born) (fun e : MapEntry => !seen.contains e.born) (fun x y hxy => by rw [hxy.2.2.1]) hf
                  have fo := F2.filter (fun e : MapEntry => decide (e.born < since)) (fun e : MapEntry => decide (e.born < since)) (fun x y hxy => by rw [hxy.2.2.1]) f1
                  have fn := F2.filter (fun e : MapEntry => decide (e.born ≥ since)) (fun e : MapEntry => decide (e.born ≥ since)) (fun x y hxy => by rw [hxy.2.2.1]) f1
                  simp only
                  rw [← e1, ← e2]
                  split
                  · exact sim_halt
                  · refine sim_mapNext ((Inj.le_trans h1 h2) _ _ h) (h2 _ _ hr) _ _ ?_
                    have e3 : (((es.filter fun e => !seen.contains e.born).filter fun e => decide (e.born < since)).isEmpty) = (((es'.filter fun e => !seen.contains e.born).filter fun e => decide (e.born < since)).isEmpty) := by
                      have := fo.isEmpty
                      rw [← Array.toList_filter, ← Array.toList_filter, ← Array.toList_filter, ← Array.toList_filter, Array.isEmpty_toList, Array.isEmpty_toList] at this
                      exact this
                    rw [← e3, Array.toList_append, Array.toList_append]
                    refine F2.append ?_ ?_
                    · split
                      · exact .cons trivial .nil
                      · exact .nil
                    · rw [Array.toList_map, Array.toList_map]
                      refine F2.map (R := ER φ2) some some (fun x y hxy => hxy) ?_
                      rw [Array.toList_append, Array.toList_append]
                      refine F2.append ?_ ?_
                      · simpa only [Array.toList_filter] using fo
                      · simpa only [Array.toList_filter] using fn
                | _ => exact hu.elim
              | _ => exact sim_halt
          · cases hm <;> exact sim_halt
        | _ => exact ho.elim
      | _ => exact sim_halt
  | _ => exact sim_halt

theorem sim_entry {φ : Inj} {x x' : Value} (hx : VR φ x x') : Sim P m VR φ (Instr.entry x) (Instr.entry x') := by
  unfold Instr.entry
  cases hx with
  | ptr b o l h =>
    cases o with
    | succ k => exact sim_halt
    | zero =>
      refine sim_atRef h fun hl => ?_
      simp only [hl, Nat.add_zero]
      refine sim_bind (sim_getObj h) fun φ1 h1 q q' ho => ?_
      cases q with
      | mapIter mp since seen last =>
        cases q' with
        | mapIter mp' since' seen' last' =>
          obtain ⟨hm, rfl, rfl, rfl⟩ := ho
          cases hm with
          | mapNil => exact sim_halt
          | map r lr hr =>
            simp only
            cases seen.back? with
            | none => exact sim_halt
            | some stamp =>
              simp only
              refine sim_bind (sim_getObj hr) fun φ2 h2 u u' hu => ?_
              cases u with
              | map es n =>
                cases u' with
                | map es' n' =>
                  obtain ⟨rfl, hes⟩ := hu
                  have hf := MR_iff.1 hes
                  simp only
                  split
                  · exact sim_halt
                  · rcases F2.find (fun e : MapEntry => e.born == stamp) (fun e : MapEntry => e.born == stamp) (fun x y hxy => by rw [hxy.2.2.1]) hf with ⟨a1, a2⟩ | ⟨p, q, a1, a2, a3⟩
                    · rw [Array.find?_toList] at a1
                      show Sim P m VR φ2 (match es.find? (fun e : MapEntry => e.born == stamp) with | some e => _ | none => _) _
                      rw [a1]; exact sim_halt
                    · rw [Array.find?_toList] at a1 a2
                      show Sim P m VR φ2 (match es.find? (fun e : MapEntry => e.born == stamp) with | some e => _ | none => _) (match es'.find? (fun e : MapEntry => e.born == stamp) with | some e => _ | none => _)
                      rw [a1, a2]
                      obtain ⟨k1, k2, k3, k4⟩ := a3
                      simp only
                      rw [← k1]
                      exact sim_pure (vr_tuple2 (flat_refl _ k4) k2)
                | _ => exact hu.elim
              | _ => exact sim_halt
        | _ => exact ho.elim
      | _ => exact sim_halt
  | _ => exact sim_halt

end Go.Abs
