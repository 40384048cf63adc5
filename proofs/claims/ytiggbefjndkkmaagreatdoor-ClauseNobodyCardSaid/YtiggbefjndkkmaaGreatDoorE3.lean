/- The engine, part 3 of 35: pieces of the interpreter and of its soundness. No condition. -/
import Derived.Test.YtiggbefjndkkmaaGreatDoorE2
namespace Go.Abs

def alive (b : Blk) : Bool := match b.obj with | .deferred _ => false | _ => true

/-- Map entries, one by one. -/
def ER (φ : Inj) (e e' : MapEntry) : Prop := e.key = e'.key ∧ VR φ e.val e'.val ∧ e.born = e'.born ∧ flat depth e.key = true

def MR (φ : Inj) (es es' : Array MapEntry) : Prop := es.size = es'.size ∧ ∀ (i : Nat) (x y : MapEntry), es[i]? = some x → es'[i]? = some y → ER φ x y

/-- Objects that are read and written whole. -/
def ObjR (φ : Inj) : Obj → Obj → Prop
  | .map es n, .map es' n' => n = n' ∧ MR φ es es'
  | .stringIter s p, .stringIter s' p' => s = s' ∧ p = p'
  | .mapIter m a b c, .mapIter m' a' b' c' => VR φ (.map m) (.map m') ∧ a = a' ∧ b = b' ∧ c = c'
  | _, _ => False

/-- A row of cells. -/
structure CellsR (φ : Inj) (l : Loc) (b : Blk) (c : Array Value) (e : TypeId) (c' : Array Value) (e' : TypeId) (f' : Nat × Nat) : Prop where
  cell : ∀ (i : Nat) (v : Value), c[i]? = some v → ∃ v', c'[l.off + i]? = some v' ∧ VR φ v v'
  fin : l.fin ≤ c'.size
  esz : b.opn = true → l.esz = b.esz
  exact_ : b.opn = false → l.off = 0 ∧ c'.size = c.size
  own : b.ro = false → f'.2 ≤ f'.1 ∨ c'.size ≤ f'.1
  elem : e' = e

/-- A block of the abstract heap and the world. -/
def OR (φ : Inj) (l : Loc) (b : Blk) (w : World) : Prop :=
  match b.obj with
  | .cells c e _ => ∃ c' e' f', w.heap[l.blk]? = some (.cells c' e' f') ∧ CellsR φ l b c e c' e' f'
  | .deferred _ => True
  | o => ∃ o', w.heap[l.blk]? = some o' ∧ ObjR φ o o' ∧ l.off = 0

theorem MR.mono {φ ψ : Inj} (hle : φ.le ψ) {a b : Array MapEntry} (h : MR φ a b) : MR ψ a b :=
  ⟨h.1, fun i x y hx hy => let ⟨h1, h2, h3⟩ := h.2 i x y hx hy; ⟨h1, h2.mono hle, h3⟩⟩

theorem ObjR.mono {φ ψ : Inj} (hle : φ.le ψ) {o o' : Obj} (h : ObjR φ o o') : ObjR ψ o o' := by
  unfold ObjR at h ⊢
  split at h
  · exact ⟨h.1, h.2.mono hle⟩
  · exact h
  · exact ⟨h.1.mono hle, h.2⟩
  · exact h.elim

theorem CellsR.mono {φ ψ : Inj} (hle : φ.le ψ) {l : Loc} {b : Blk} {c : Array Value} {e : TypeId} {c' : Array Value} {e' : TypeId} {f' : Nat × Nat}
    (h : CellsR φ l b c e c' e' f') : CellsR ψ l b c e c' e' f' :=
  ⟨fun i v hv => let ⟨v', h1, h2⟩ := h.cell i v hv; ⟨v', h1, h2.mono hle⟩, h.fin, h.esz, h.exact_, h.own, h.elem⟩

theorem OR.mono {φ ψ : Inj} (hle : φ.le ψ) {l : Loc} {b : Blk} {w : World} (h : OR φ l b w) : OR ψ l b w := by
  unfold OR at h ⊢
  split at h
  · rename_i c e f hb
    obtain ⟨c', e', f', h1, h2⟩ := h
    exact ⟨c', e', f', h1, h2.mono hle⟩
  · trivial
  · rename_i o h1 h2
    obtain ⟨o', h3, h4⟩ := h
    exact ⟨o', h3, h4.1.mono hle, h4.2⟩

/-- It hangs on the one block alone. -/
theorem OR.same {φ : Inj} {l : Loc} {b : Blk} {w w' : World} (h : OR φ l b w) (hw : w'.heap[l.blk]? = w.heap[l.blk]?) : OR φ l b w' := by
  unfold OR at h ⊢
  split at h
  · rename_i c e f hb
    obtain ⟨c', e', f', h1, h2⟩ := h
    exact ⟨c', e', f', hw.trans h1, h2⟩
  · trivial
  · rename_i o h1 h2
    obtain ⟨o', h3, h4⟩ := h
    exact ⟨o', hw.trans h3, h4⟩

structure Inv (φ : Inj) (H : AH) (w : World) : Prop where
  dom : ∀ id l, φ id = some l → id < H.next ∧ l.blk < w.heap.size
  obj : ∀ id b, H.get id = some b → ∃ l, φ id = some l ∧ OR φ l b w
  sep : ∀ id id' b b' l l', H.get id = some b → H.get id' = some b' → id ≠ id' → b.ro = false → alive b = true → alive b' = true →
    φ id = some l → φ id' = some l' → l.blk ≠ l'.blk

structure Step (m : Nat) (φ : Inj) (H : AH) (w : World) (φ' : Inj) (H' : AH) (w' : World) : Prop where
  le : H.next ≤ H'.next
  ext : φ.le φ'
  new : ∀ id l, φ' id = some l → φ id = none → H.next ≤ id ∧ (w.heap.size ≤ l.blk ∨ ∃ id0 l0, m ≤ id0 ∧ (H.get id0).isSome = true ∧ φ id0 = some l0 ∧ l0.blk = l.blk)
  alv : ∀ id, (H'.get id).isSome = true → (H.get id).isSome = true ∨ φ id = none
  size : w.heap.size ≤ w'.heap.size
  keep : ∀ c, c < w.heap.size → (∀ id l, m ≤ id → (H.get id).isSome = true → φ id = some l → l.blk ≠ c) → w'.heap[c]? = w.heap[c]?
  os : w'.os = w.os
  tape : w'.tape = w.tape
  output : w'.output = w.output

theorem Step.refl (m : Nat) (φ : Inj) (H : AH) (w : World) : Step m φ H w φ H w :=
  ⟨Nat.le_refl _, Inj.le_refl _, fun id l h h' => by rw [h] at h'; simp at h', fun _ h => .inl h, Nat.le_refl _, fun _ _ _ => rfl, rfl, rfl, rfl⟩

theorem Step.trans {m : Nat} {φ : Inj} {H : AH} {w : World} {φ' : Inj} {H' : AH} {w' : World} {φ'' : Inj} {H'' : AH} {w'' : World} (hi : Inv φ H w)
    (h : Step m φ H w φ' H' w') (k : Step m φ' H' w' φ'' H'' w'') : Step m φ H w φ'' H'' w'' := by
  have al : ∀ id l, (H.get id).isSome = true → φ' id = some l → φ id = some l := by
    intro id l ha hl
    obtain ⟨b, hb⟩ := Option.isSome_iff_exists.1 ha
    obtain ⟨l0, h0, _⟩ := hi.obj id b hb
    have := h.ext _ _ h0
    rw [hl] at this; cases this; exact h0
  refine ⟨Nat.le_trans h.le k.le, Inj.le_trans h.ext k.ext, ?_, ?_, Nat.le_trans h.size k.size, ?_, k.os.trans h.os, k.tape.trans h.tape, k.output.trans h.output⟩
  · intro id l h2 h0
    cases h1 : φ' id with
    | some l1 =>
      have := k.ext _ _ h1
      rw [h2] at this; cases this
      exact h.new id l h1 h0
    | none =>
      obtain ⟨n1, n2⟩ := k.new id l h2 h1
      refine ⟨Nat.le_trans h.le n1, ?_⟩
      rcases n2 with n2 | ⟨id0, l0, a1, a2, a3, a4⟩
      · exact .inl (Nat.le_trans h.size n2)
      · cases h00 : φ id0 with
        | none =>
          obtain ⟨_, m2⟩ := h.new id0 l0 a3 h00
          rcases m2 with m2 | ⟨id1, l1, b1, b2, b3, b4⟩
          · exact .inl (a4 ▸ m2)
          · exact .inr ⟨id1, l1, b1, b2, b3, b4.trans a4⟩
        | some l00 =>
          rcases h.alv id0 a2 with ha | ha
          · have := h.ext _ _ h00
            rw [a3] at this; cases this
            exact .inr ⟨id0, l0, a1, ha, h00, a4⟩
          · rw [h00] at ha; cases ha
  · intro id h2
    rcases k.alv id h2 with h1 | h1
    · exact h.alv id h1
    · refine .inr ?_
      cases h0 : φ id with
      | none => rfl
      | some l => rw [h.ext _ _ h0] at h1; cases h1
  · intro c hc hno
    rw [k.keep c (Nat.lt_of_lt_of_le hc h.size) ?_, h.keep c hc hno]
    intro id l hm ha hl
    rcases h.alv id ha with h0 | h0
    · exact hno id l hm h0 (al id l h0 hl)
    · obtain ⟨_, m2⟩ := h.new id l hl h0
      rcases m2 with m2 | ⟨id1, l1, b1, b2, b3, b4⟩
      · omega
      · exact b4 ▸ hno id1 l1 b1 b2 b3

theorem Step.mark {m m' : Nat} (hm : m ≤ m') {φ : Inj} {H : AH} {w : World} {φ' : Inj} {H' : AH} {w' : World} (h : Step m' φ H w φ' H' w') : Step m φ H w φ' H' w' :=
  ⟨h.le, h.ext, fun id l a b => let ⟨c, d⟩ := h.new id l a b; ⟨c, d.imp (fun h => h) (fun ⟨i, l, x, y⟩ => ⟨i, l, Nat.le_trans hm x, y⟩)⟩, h.alv, h.size,
    fun c hc hno => h.keep c hc fun id l a b d => hno id l (Nat.le_trans hm a) b d, h.os, h.tape, h.output⟩

/-! ### Runs of the model's own text -/

theorem arun_bind {α β : Type} (P : Program) (m : Nat) (s : Sem α) (k : α → Sem β) (H : AH) :
    arun P m (s.bind k) H = match arun P m s H with | some (a, H') => arun P m (k a) H' | none => none := by
  induction s generalizing H with
  | pure a => simp [Sem.bind, arun]
  | load md a c ih => simp only [Sem.bind, arun]; split <;> simp_all
  | store md a v c ih =>
    simp only [Sem.bind, arun]
    cases one v <;> simp only [cond_true, cond_false]
    split <;> simp_all
  | new o c ih => simp only [Sem.bind, arun]; split <;> simp_all
  | shape r c ih => simp [Sem.bind, arun]
  | freeze a n c ih => simp [Sem.bind, arun]
  | frozen a c ih => simp [Sem.bind, arun]
  | getObj r c ih =>
    simp only [Sem.bind, arun]
    split
    · rename_i b _; cases isRef b.obj <;> simp_all
    · rfl
  | setObj r o c ih =>
    simp only [Sem.bind, arun]
    split
    · rename_i b _; cases (Nat.ble m r && isRef b.obj && isRef o && !b.ro) <;> simp_all
    · rfl
  | choose q c ih => simp only [Sem.bind, arun]; cases q.forced <;> simp_all
  | sys c k ih => simp [Sem.bind, arun]
  | program c ih => simp [Sem.bind, arun, ih]
  | mark mk c ih => simp [Sem.bind, arun, ih]
  | halt h => simp [Sem.bind, arun]

theorem peval_run {α : Type} (P : Program) (s : Sem α) (a : α) (h : peval P s = some a) (w : World) : s.run P w = .ok a w := by
  induction s generalizing w with
  | pure b => simp [peval] at h; subst h; rfl
  | program c ih => exact ih _ h w
  | mark mk c ih => exact ih h w
  | _ => simp [peval] at h

/-- What runs over the abstract heap runs over the world. -/
def Sim (P : Program) (m : Nat) {α β : Type} (R : Inj → α → β → Prop) (φ : Inj) (s : Sem α) (s' : Sem β) : Prop :=
  ∀ H w x H', arun P m s H = some (x, H') → Inv φ H w → ∃ φ' y w', s'.run P w = .ok y w' ∧ Inv φ' H' w' ∧ Step m φ H w φ' H' w' ∧ R φ' x y

variable {P : Program} {m : Nat} {α β γ δ : Type}

theorem sim_bind {R : Inj → α → β → Prop} {R' : Inj → γ → δ → Prop} {φ : Inj} {s : Sem α} {s' : Sem β} {k : α → Sem γ} {k' : β → Sem δ}
    (h : Sim P m R φ s s') (hk : ∀ φ', φ.le φ' → ∀ x y, R φ' x y → Sim P m R' φ' (k x) (k' y)) : Sim P m R' φ (s >>= k) (s' >>= k') := by
  intro H w z H'' hr hi
  change arun P m (s.bind k) H = _ at hr
  rw [arun_bind] at hr
  cases hs : arun P m s H with
  | none => rw [hs] at hr; cases hr
  | some p =>
    obtain ⟨x, H'⟩ := p
    rw [hs] at hr
    obtain ⟨φ', y, w', r1, i1, s1, q1⟩ := h H w x H' hs hi
    obtain ⟨φ'', u, w'', r2, i2, s2, q2⟩ := hk φ' s1.ext x y q1 H' w' z H'' hr i1
    exact ⟨φ'', u, w'', by rw [Sem.run_bind, r1]; exact r2, i2, s1.trans hi s2, q2⟩

theorem sim_pure {R : Inj → α → β → Prop} {φ : Inj} {x : α} {y : β} (h : R φ x y) : Sim P m R φ (Pure.pure x) (Pure.pure y) := by
  intro H w z H' hr hi
  have : some (x, H) = some (z, H') := hr
  simp only [Option.some.injEq, Prod.mk.injEq] at this
  obtain ⟨rfl, rfl⟩ := this
  exact ⟨φ, y, w, rfl, hi, Step.refl _ _ _ _, h⟩

theorem sim_halt {R : Inj → α → β → Prop} {φ : Inj} {h : Halt} {s' : Sem β} : Sim P m R φ (.halt h) s' := by
  intro H w z H' hr hi
  simp [arun] at hr

theorem sim_mono {R R' : Inj → α → β → Prop} {φ : Inj} {s : Sem α} {s' : Sem β} (h : Sim P m R φ s s') (hr : ∀ φ', φ.le φ' → ∀ x y, R φ' x y → R' φ' x y) : Sim P m R' φ s s' :=
  fun H w x H' a b => let ⟨φ', y, w', c, d, e, f⟩ := h H w x H' a b; ⟨φ', y, w', c, d, e, hr φ' e.ext x y f⟩

/-- Equal on both sides. -/
def EqR (α : Type) : Inj → α → α → Prop := fun _ x y => x = y

theorem sim_program {φ : Inj} : Sim P m (EqR Program) φ program program := by
  intro H w z H' hr hi
  have : some (P, H) = some (z, H') := hr
  simp only [Option.some.injEq, Prod.mk.injEq] at this
  obtain ⟨rfl, rfl⟩ := this
  exact ⟨φ, P, w, rfl, hi, Step.refl _ _ _ _, rfl⟩

theorem sim_underlying {φ : Inj} (t : TypeId) : Sim P m (EqR TypeDesc) φ (underlying t) (underlying t) := by
  unfold Go.underlying
  refine sim_bind sim_program fun φ' _ x y e => ?_
  cases e
  cases x.underlying t with
  | some d => exact sim_pure rfl
  | none => exact sim_halt

theorem sim_typeInfo {φ : Inj} (t : TypeId) : Sim P m (EqR TypeInfo) φ (typeInfo t) (typeInfo t) := by
  unfold Go.typeInfo
  refine sim_bind sim_program fun φ' _ x y e => ?_
  cases e
  cases x.info? t with
  | some d => exact sim_pure rfl
  | none => exact sim_halt

theorem sim_sizeOf {φ : Inj} (t : TypeId) : Sim P m (EqR Nat) φ (sizeOf t) (sizeOf t) := by
  unfold Go.sizeOf
  exact sim_bind (sim_typeInfo t) fun φ' _ x y e => by cases e; exact sim_pure rfl

theorem sim_isAgg {φ : Inj} (t : TypeId) : Sim P m (EqR Bool) φ (isAgg t) (isAgg t) := by
  unfold Go.isAgg
  exact sim_bind (sim_underlying t) fun φ' _ x y e => by cases e; split <;> exact sim_pure rfl

theorem sim_peval {φ : Inj} {s : Sem α} {a : α} (h : peval P s = some a) : ∀ H w, Inv φ H w → ∃ φ' y w', s.run P w = .ok y w' ∧ Inv φ' H w' ∧ Step m φ H w φ' H w' ∧ y = a :=
  fun H w hi => ⟨φ, a, w, peval_run P s a h w, hi, Step.refl _ _ _ _, rfl⟩

end Go.Abs
