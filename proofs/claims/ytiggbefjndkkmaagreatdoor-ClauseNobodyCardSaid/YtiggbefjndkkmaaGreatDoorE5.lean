/- The engine, part 5 of 35: pieces of the interpreter and of its soundness. No condition. -/
import Derived.Test.YtiggbefjndkkmaaGreatDoorE4
namespace Go.Abs

variable {P : Program} {m : Nat}

theorem AR.empty (φ : Inj) : AR φ #[] #[] := ⟨rfl, fun i x y h => by simp at h⟩

theorem AR.push {φ : Inj} {f f' : Array Value} (h : AR φ f f') {v v' : Value} (hv : VR φ v v') : AR φ (f.push v) (f'.push v') := by
  refine ⟨by simp [h.1], fun i x y hx hy => ?_⟩
  rw [Array.getElem?_push] at hx hy
  rw [← h.1] at hy
  split at hx
  · rename_i e; rw [if_pos e] at hy; cases hx; cases hy; exact hv
  · rename_i e; rw [if_neg e] at hy; exact h.2 i x y hx hy

theorem AR.extract {φ : Inj} {f f' : Array Value} (h : AR φ f f') (a b : Nat) : AR φ (f.extract a b) (f'.extract a b) := by
  refine ⟨by simp [h.1], fun i x y hx hy => ?_⟩
  rw [Array.getElem?_extract] at hx hy
  rw [← h.1] at hy
  split at hx
  · rename_i e; rw [if_pos e] at hy; exact h.2 _ x y hx hy
  · cases hx

theorem AR.append {φ : Inj} {f f' g g' : Array Value} (h : AR φ f f') (k : AR φ g g') : AR φ (f ++ g) (f' ++ g') := by
  refine ⟨by simp [h.1, k.1], fun i x y hx hy => ?_⟩
  rw [Array.getElem?_append] at hx hy
  rw [← h.1] at hy
  split at hx
  · rename_i e; rw [if_pos e] at hy; exact h.2 _ x y hx hy
  · rename_i e; rw [if_neg e] at hy; exact k.2 _ x y hx hy

theorem AR.set {φ : Inj} {f f' : Array Value} (h : AR φ f f') (j : Nat) {v v' : Value} (hv : VR φ v v') : AR φ (f.setIfInBounds j v) (f'.setIfInBounds j v') := by
  refine ⟨by simp [h.1], fun i x y hx hy => ?_⟩
  rw [Array.getElem?_setIfInBounds] at hx hy
  rw [← h.1] at hy
  split at hx
  · rename_i e; rw [if_pos e] at hy
    split at hx
    · rename_i e2; rw [if_pos e2] at hy; cases hx; cases hy; exact hv
    · cases hx
  · rename_i e; rw [if_neg e] at hy; exact h.2 _ x y hx hy

theorem AR.single {φ : Inj} {v v' : Value} (h : VR φ v v') : AR φ #[v] #[v'] := by simpa using (AR.empty φ).push h

theorem AR.map {φ : Inj} {α : Type} (f f' : α → Value) (xs : Array α) (h : ∀ x ∈ xs, VR φ (f x) (f' x)) : AR φ (xs.map f) (xs.map f') := by
  refine ⟨by simp, fun i x y hx hy => ?_⟩
  simp only [Array.getElem?_map, Option.map_eq_some_iff] at hx hy
  obtain ⟨a, h1, rfl⟩ := hx
  obtain ⟨b, h2, rfl⟩ := hy
  rw [h1] at h2; cases h2
  exact h a (Array.mem_of_getElem? h1)

theorem cells_single {v : Value} (h : one v = true) : v.cells = #[v] := by cases v <;> first | rfl | cases h

theorem VR.cells {φ : Inj} {v v' : Value} (h : VR φ v v') : AR φ v.cells v'.cells := by
  cases h with
  | agg f f' hf h1 => exact ⟨hf, h1⟩
  | bool b => exact AR.single (.bool b)
  | int k n => exact AR.single (.int k n)
  | float k n => exact AR.single (.float k n)
  | complex k a b v hv => rw [cells_single hv]; exact AR.single (.complex k a b _ hv)
  | string s => exact AR.single (.string s)
  | ptrNil => exact AR.single .ptrNil
  | ptr b o l h => exact AR.single (.ptr b o l h)
  | sliceNil n c => exact AR.single (.sliceNil n c)
  | slice b o n c l h hc => exact AR.single (.slice b o n c l h hc)
  | sliceOpen b o n c l h hn hc => exact AR.single (.sliceOpen b o n c l h hn hc)
  | sliceEnd b o l a h => exact AR.single (.sliceEnd b o l a h)
  | sliceZero b o l a h => exact AR.single (.sliceZero b o l a h)
  | mapNil => exact AR.single .mapNil
  | map r l h => exact AR.single (.map r l h)
  | chanNil => exact AR.single .chanNil
  | func fn f g f' g' hf hg i1 i2 => exact AR.single (.func fn f g f' g' hf hg i1 i2)
  | nilFunc => exact AR.single .nilFunc
  | iface t v v' h => exact AR.single (.iface t v v' h)
  | nilIface => exact AR.single .nilIface
  | tuple f f' hf h1 => exact AR.single (.tuple f f' hf h1)

theorem sim_loadCellsFrom : ∀ (n i : Nat) {φ : Inj} {a a' : Addr} {acc acc' : Array Value}, AddrR φ a a' → AR φ acc acc' →
    Sim P m AR φ (loadCellsFrom a i n acc) (loadCellsFrom a' i n acc') := by
  intro n
  induction n with
  | zero => intro i φ a a' acc acc' _ h; exact sim_pure h
  | succ n ih =>
    intro i φ a a' acc acc' ha h
    unfold Go.loadCellsFrom
    exact sim_bind (sim_load (ha.add i)) fun φ' hle x y hxy => ih (i + 1) (ha.mono hle) ((h.mono hle).push hxy)

theorem sim_loadCells {φ : Inj} {a a' : Addr} (n : Nat) (ha : AddrR φ a a') : Sim P m AR φ (loadCells a n) (loadCells a' n) := sim_loadCellsFrom n 0 ha (AR.empty φ)

theorem sim_loadVar {φ : Inj} {a a' : Addr} (t : TypeId) (ha : AddrR φ a a') : Sim P m VR φ (loadVar t a) (loadVar t a') := by
  unfold Go.loadVar
  refine sim_bind (sim_isAgg t) fun φ1 h1 x y e => ?_
  cases e
  cases x
  · exact sim_load (ha.mono h1)
  · refine sim_bind (sim_sizeOf t) fun φ2 h2 n n' e => ?_
    cases e
    refine sim_bind (sim_loadCells n ((ha.mono h1).mono h2)) fun φ3 h3 f f' hf => ?_
    exact sim_pure (.agg f f' hf.1 hf.2)

theorem sim_storeCells : ∀ (l l' : List Value) (i : Nat) {φ : Inj} {a a' : Addr}, AddrR φ a a' → LR φ l l' → Sim P m (EqR Unit) φ (storeCells a l i) (storeCells a' l' i) := by
  intro l
  induction l with
  | nil => intro l' i φ a a' _ h; cases h; exact sim_pure rfl
  | cons v l ih =>
    intro l' i φ a a' ha h
    cases h with
    | cons hv ht =>
      unfold Go.storeCells
      exact sim_bind (sim_store (ha.add i) hv) fun φ' hle _ _ _ => ih _ (i + 1) (ha.mono hle) (LR.mono hle ht)

theorem sim_storeVar {φ : Inj} {a a' : Addr} {v v' : Value} (t : TypeId) (ha : AddrR φ a a') (hv : VR φ v v') : Sim P m (EqR Unit) φ (storeVar t a v) (storeVar t a' v') := by
  unfold Go.storeVar
  refine sim_bind (sim_sizeOf t) fun φ1 h1 n n' e => ?_
  cases e
  have hc := hv.cells
  rw [← hc.1]
  split
  · exact sim_halt
  · exact sim_storeCells _ _ 0 (ha.mono h1) (LR.mono h1 (AR_iff.1 hc))

theorem heap_alloc_new (w : World) (o : Obj) : (w.alloc o).heap[w.heap.size]? = some o := by
  simp only [World.alloc, Array.getElem?_push_size]

/-- New objects. -/
theorem sim_newCells {φ : Inj} {c c' : Array Value} (e : TypeId) (hc : AR φ c c') : Sim P m (fun φ r r' => ∃ l, φ r = some l ∧ l.off = 0 ∧ r' = l.blk) φ (newObj (.cells c e)) (newObj (.cells c' e)) := by
  intro H w z H' hr hi
  simp only [newObj, arun, blkOf] at hr
  simp only [Option.some.injEq, Prod.mk.injEq] at hr
  obtain ⟨rfl, rfl⟩ := hr
  let l : Loc := ⟨w.heap.size, 0, c'.size, 0⟩
  refine ⟨φ.upd H.next l, w.heap.size, w.alloc (.cells c' e), rfl, ?_, Step.push hi rfl, l, Inj.upd_same _ _ _, rfl, rfl⟩
  refine hi.push rfl ⟨c', e, (0, 0), heap_alloc_new _ _, ?_⟩
  refine ⟨fun i v hv => ?_, Nat.le_refl _, fun h => (by cases h), fun _ => ⟨rfl, hc.1.symm⟩, fun _ => .inl (Nat.le_refl _), rfl⟩
  obtain ⟨v', h1, h2⟩ := hc.get hv
  exact ⟨v', by simpa [l] using h1, h2.mono (Inj.le_upd l hi.fresh)⟩

theorem sim_newRow {φ : Inj} {c c' : Array Value} (e : TypeId) (hc : AR φ c c') : Sim P m AddrR φ (newRow e c) (newRow e c') := by
  unfold Go.newRow
  refine sim_bind (sim_newCells e hc) fun φ1 h1 x y h => ?_
  obtain ⟨l, h2, h3, rfl⟩ := h
  exact sim_pure ⟨rfl, l, h2, by simp [h3]⟩

theorem sim_newVar {φ : Inj} {v v' : Value} (t : TypeId) (hv : VR φ v v') : Sim P m AddrR φ (newVar t v) (newVar t v') := sim_newRow t hv.cells

/-- New maps and iterators. -/
theorem sim_newRef {φ : Inj} {o o' : Obj} (ho : ObjR φ o o') : Sim P m (fun φ r r' => ∃ l, φ r = some l ∧ l.off = 0 ∧ r' = l.blk) φ (newObj o) (newObj o') := by
  intro H w z H' hr hi
  have hle := Inj.le_upd (⟨w.heap.size, 0, 0, 0⟩ : Loc) hi.fresh
  have go : ∀ b : Blk, b.obj = o → alive b = true → blkOf o = some b → ∃ φ' y w', (newObj o').run P w = .ok y w' ∧ Inv φ' H' w' ∧ Step m φ H w φ' H' w' ∧ ∃ l, φ' z = some l ∧ l.off = 0 ∧ y = l.blk := by
    intro b hb ha hk
    simp only [newObj, arun, hk, Option.some.injEq, Prod.mk.injEq] at hr
    obtain ⟨rfl, rfl⟩ := hr
    refine ⟨φ.upd H.next ⟨w.heap.size, 0, 0, 0⟩, w.heap.size, w.alloc o', rfl, ?_, Step.push hi rfl, _, Inj.upd_same _ _ _, rfl, rfl⟩
    refine hi.push rfl ?_
    have hx := heap_alloc_new w o'
    unfold OR
    rw [hb]
    have h2 := ho.mono hle
    cases o <;> first | exact ⟨o', hx, h2, rfl⟩ | exact h2.elim
  cases o with
  | map es n => exact go _ rfl rfl rfl
  | stringIter s p => exact go _ rfl rfl rfl
  | mapIter a b c d => exact go _ rfl rfl rfl
  | _ => exact ho.elim

theorem Inv.ref {φ : Inj} {H : AH} {w : World} (hi : Inv φ H w) {id : Nat} {b : Blk} (hb : H.get id = some b) (hr : isRef b.obj = true) :
    ∃ l o', φ id = some l ∧ w.heap[l.blk]? = some o' ∧ ObjR φ b.obj o' ∧ l.off = 0 := by
  obtain ⟨l, hl, h⟩ := hi.obj id b hb
  unfold OR at h
  unfold isRef at hr
  split at h
  · rename_i hq; rw [hq] at hr; cases hr
  · rename_i hq; rw [hq] at hr; cases hr
  · obtain ⟨o', h3, h4⟩ := h
    exact ⟨l, o', hl, h3, h4⟩

theorem ObjR.notCells {φ : Inj} {o o' : Obj} (h : ObjR φ o o') : ∀ c e f, o' ≠ .cells c e f := by
  intro c e f he
  subst he
  unfold ObjR at h
  split at h <;> first | exact h.elim | (rename_i hq; cases hq) | (rename_i hq _; cases hq)

theorem sim_getObj {φ : Inj} {r : Nat} {l : Loc} (hl : φ r = some l) : Sim P m ObjR φ (getObj r) (getObj l.blk) := by
  intro H w z H' hr hi
  simp only [Go.getObj, arun] at hr
  cases hb : H.get r with
  | none => rw [hb] at hr; cases hr
  | some b =>
    rw [hb] at hr
    simp only at hr
    cases hq : isRef b.obj with
    | false => rw [hq] at hr; cases hr
    | true =>
      rw [hq] at hr
      simp only [cond_true, Option.some.injEq, Prod.mk.injEq] at hr
      obtain ⟨rfl, rfl⟩ := hr
      obtain ⟨l1, o', h1, h2, h3, _⟩ := hi.ref hb hq
      rw [hl] at h1; cases h1
      have hn := h3.notCells
      refine ⟨φ, o', w, ?_, hi, Step.refl _ _ _ _, h3⟩
      simp only [Go.getObj, Sem.run, h2]

theorem sim_setObj {φ : Inj} {r : Nat} {l : Loc} {o o' : Obj} (hl : φ r = some l) (ho : ObjR φ o o') : Sim P m (EqR Unit) φ (setObj r o) (setObj l.blk o') := by
  intro H w z H' hr hi
  simp only [Go.setObj, arun] at hr
  cases hb : H.get r with
  | none => rw [hb] at hr; cases hr
  | some b =>
    rw [hb] at hr
    simp only at hr
    cases hq : (Nat.ble m r && isRef b.obj && isRef o && !b.ro) with
    | false => rw [hq] at hr; cases hr
    | true =>
      rw [hq] at hr
      simp only [cond_true, Option.some.injEq, Prod.mk.injEq] at hr
      obtain ⟨_, rfl⟩ := hr
      simp only [Bool.and_eq_true, Bool.not_eq_true'] at hq
      obtain ⟨⟨⟨hm, hb1⟩, ho1⟩, hro⟩ := hq
      obtain ⟨l1, o1, h1, h2, h3, h0⟩ := hi.ref hb hb1
      rw [hl] at h1; cases h1
      have hn := h3.notCells
      have hlt : l.blk < w.heap.size := (hi.dom _ _ hl).2
      have hoth : ∀ c, c ≠ l.blk → ({ w with heap := w.heap.setIfInBounds l.blk o' } : World).heap[c]? = w.heap[c]? := by
        intro c hc
        simp only [Array.getElem?_setIfInBounds]
        rw [if_neg (fun e => hc e.symm)]
      refine ⟨φ, (), { w with heap := w.heap.setIfInBounds l.blk o' }, ?_, ?_, Step.put (Nat.le_of_ble_eq_true hm) hb hl (by simp) hoth rfl rfl rfl, rfl⟩
      · simp only [Go.setObj, Sem.run, h2]
      · have hal : alive b = true := by unfold alive; unfold isRef at hb1; split <;> simp_all
        refine hi.put hb hro hal hl (by simp) hoth ?_
        have hx : ({ w with heap := w.heap.setIfInBounds l.blk o' } : World).heap[l.blk]? = some o' := by simp [hlt]
        unfold OR
        cases o <;> first | exact ⟨o', hx, ho, h0⟩ | exact ho.elim

end Go.Abs
