/- The engine, part 4 of 35: pieces of the interpreter and of its soundness. No condition. -/
import Derived.Test.YtiggbefjndkkmaaGreatDoorE3
namespace Go.Abs

variable {P : Program} {m : Nat}

/-- An address and what it stands for. -/
def AddrR (φ : Inj) (a a' : Addr) : Prop := a.spot = none ∧ ∃ l, φ a.block = some l ∧ a' = ⟨l.blk, l.off + a.off, none⟩

theorem AddrR.mono {φ ψ : Inj} (hle : φ.le ψ) {a a' : Addr} (h : AddrR φ a a') : AddrR ψ a a' :=
  let ⟨h1, l, h2, h3⟩ := h; ⟨h1, l, hle _ _ h2, h3⟩

theorem AddrR.add {φ : Inj} {a a' : Addr} (h : AddrR φ a a') (n : Nat) : AddrR φ (a.add n) (a'.add n) := by
  obtain ⟨h1, l, h2, h3⟩ := h
  subst h3
  unfold Addr.add
  split
  · exact ⟨h1, l, h2, rfl⟩
  · exact ⟨rfl, l, h2, by simp [Nat.add_assoc]⟩

theorem VR.ptr_inv {φ : Inj} {a : Addr} {v' : Value} (h : VR φ (.pointer (some a)) v') : ∃ a', v' = .pointer (some a') ∧ AddrR φ a a' := by
  cases h with
  | ptr b o l h => exact ⟨_, rfl, rfl, l, h, rfl⟩

theorem AddrR.ptr {φ : Inj} {a a' : Addr} (h : AddrR φ a a') : VR φ (.pointer (some a)) (.pointer (some a')) := by
  obtain ⟨h1, l, h2, h3⟩ := h
  obtain ⟨b, o, s⟩ := a
  simp only at h1 h2 h3; subst h1 h3
  exact .ptr b o l h2

theorem cell_get {H : AH} {a : Addr} {v : Value} (h : H.cell a = some v) : a.spot = none ∧ ∃ b c e f, H.get a.block = some b ∧ b.obj = .cells c e f ∧ c[a.off]? = some v := by
  unfold AH.cell at h
  split at h
  · rename_i b s c e f opn esz ro h1 h2
    exact ⟨h2, _, c, e, f, h1, rfl, h⟩
  · cases h

theorem Inv.cells {φ : Inj} {H : AH} {w : World} (hi : Inv φ H w) {id : Nat} {b : Blk} {c : Array Value} {e : TypeId} {f : Nat × Nat} (hb : H.get id = some b) (ho : b.obj = .cells c e f) :
    ∃ l c' f', φ id = some l ∧ w.heap[l.blk]? = some (.cells c' e f') ∧ CellsR φ l b c e c' e f' := by
  obtain ⟨l, hl, h⟩ := hi.obj id b hb
  unfold OR at h
  rw [ho] at h
  obtain ⟨c', e', f', h1, h2⟩ := h
  have := h2.elem
  subst this
  exact ⟨l, c', f', hl, h1, h2⟩

theorem Inv.cell {φ : Inj} {H : AH} {w : World} (hi : Inv φ H w) {a a' : Addr} {v : Value} (h : H.cell a = some v) (ha : AddrR φ a a') : ∃ v', w.cell? a' = some v' ∧ VR φ v v' := by
  obtain ⟨h1, b, c, e, f, h2, h3, h4⟩ := cell_get h
  obtain ⟨l, c', f', h5, h6, h7⟩ := hi.cells h2 h3
  obtain ⟨_, l', h8, h9⟩ := ha
  rw [h5] at h8; cases h8
  obtain ⟨v', h10, h11⟩ := h7.cell _ _ h4
  subst h9
  exact ⟨v', by simp [World.cell?, h6, h10], h11⟩

theorem sim_load {φ : Inj} {a a' : Addr} {md : Mode} (ha : AddrR φ a a') : Sim P m VR φ (load a md) (load a' md) := by
  intro H w z H' hr hi
  simp only [Go.load, arun] at hr
  cases hc : H.cell a with
  | none => rw [hc] at hr; cases hr
  | some v =>
    rw [hc] at hr
    simp only [Option.some.injEq, Prod.mk.injEq] at hr
    obtain ⟨rfl, rfl⟩ := hr
    obtain ⟨v', h1, h2⟩ := hi.cell hc ha
    exact ⟨φ, v', w, by simp [Go.load, Sem.run, h1], hi, Step.refl _ _ _ _, h2⟩

/-- One block is changed, in both. -/
theorem Inv.put {φ : Inj} {H : AH} {w w' : World} {id : Nat} {b b' : Blk} {l : Loc} (hi : Inv φ H w) (hb : H.get id = some b) (hro : b.ro = false) (hal : alive b = true) (hl : φ id = some l)
    (hsz : w'.heap.size = w.heap.size) (hoth : ∀ c, c ≠ l.blk → w'.heap[c]? = w.heap[c]?) (hor : OR φ l b' w') : Inv φ (H.put id b') w' := by
  refine ⟨fun i k h => ?_, ?_, ?_⟩
  · have := hi.dom i k h; rw [hsz]; exact this
  · intro i k h
    by_cases e : i = id
    · subst e
      rw [AH.get_put_same] at h; cases h
      exact ⟨l, hl, hor⟩
    · rw [AH.get_put_other _ _ e] at h
      obtain ⟨l1, h1, h2⟩ := hi.obj i k h
      refine ⟨l1, h1, ?_⟩
      by_cases hk : alive k = true
      · exact h2.same (hoth _ fun hc => hi.sep id i b k l l1 hb h (fun hh => e hh.symm) hro hal hk hl h1 hc.symm)
      · unfold alive at hk
        unfold OR
        split at hk
        · rename_i hd; rw [hd]; trivial
        · exact absurd rfl hk
  · intro i j k k' l1 l2 h h' hne hr ha ha' hl1 hl2
    by_cases e : i = id
    · subst e
      rw [AH.get_put_other _ _ (fun hh => hne hh.symm)] at h'
      exact hi.sep i j b k' l1 l2 hb h' hne hro hal ha' hl1 hl2
    · rw [AH.get_put_other _ _ e] at h
      by_cases e' : j = id
      · subst e'
        exact hi.sep i j k b l1 l2 h hb hne hr ha hal hl1 hl2
      · rw [AH.get_put_other _ _ e'] at h'
        exact hi.sep i j k k' l1 l2 h h' hne hr ha ha' hl1 hl2

theorem Step.put {φ : Inj} {H : AH} {w w' : World} {id : Nat} {b b' : Blk} {l : Loc} (hm : m ≤ id) (hb : H.get id = some b) (hl : φ id = some l)
    (hsz : w'.heap.size = w.heap.size) (hoth : ∀ c, c ≠ l.blk → w'.heap[c]? = w.heap[c]?) (ho : w'.os = w.os) (ht : w'.tape = w.tape) (hp : w'.output = w.output) : Step m φ H w φ (H.put id b') w' := by
  refine ⟨Nat.le_refl _, Inj.le_refl _, fun i k h h' => (by rw [h] at h'; cases h'), ?_, Nat.le_of_eq hsz.symm, ?_, ho, ht, hp⟩
  · intro i h
    by_cases e : i = id
    · subst e; exact .inl (by rw [hb]; rfl)
    · rw [AH.get_put_other _ _ e] at h; exact .inl h
  · intro c hc hno
    exact hoth c fun e => hno id l hm (by rw [hb]; rfl) hl e.symm

def Inj.upd (φ : Inj) (id : Nat) (l : Loc) : Inj := fun i => if i = id then some l else φ i

theorem Inj.upd_same (φ : Inj) (id : Nat) (l : Loc) : φ.upd id l id = some l := by simp [Inj.upd]
theorem Inj.upd_other (φ : Inj) {id i : Nat} (l : Loc) (h : i ≠ id) : φ.upd id l i = φ i := by simp [Inj.upd, h]
theorem Inj.le_upd {φ : Inj} {id : Nat} (l : Loc) (h : φ id = none) : φ.le (φ.upd id l) := by
  intro i k hk
  by_cases e : i = id
  · subst e; rw [h] at hk; cases hk
  · rw [Inj.upd_other _ _ e]; exact hk

theorem Inv.fresh {φ : Inj} {H : AH} {w : World} (hi : Inv φ H w) : φ H.next = none := by
  cases h : φ H.next with
  | none => rfl
  | some l => exact absurd (hi.dom _ _ h).1 (Nat.lt_irrefl _)

theorem Inv.get_lt {φ : Inj} {H : AH} {w : World} (hi : Inv φ H w) {id : Nat} {b : Blk} (h : H.get id = some b) : id < H.next := by
  obtain ⟨l, hl, _⟩ := hi.obj id b h
  exact (hi.dom id l hl).1

/-- A new block, in both. -/
theorem Inv.push {φ : Inj} {H : AH} {w : World} {b : Blk} {l : Loc} {o : Obj} (hi : Inv φ H w) (hl : l.blk = w.heap.size) (hor : OR (φ.upd H.next l) l b (w.alloc o)) :
    Inv (φ.upd H.next l) (H.push b) (w.alloc o) := by
  have hf := hi.fresh
  have hle := Inj.le_upd l hf
  refine ⟨fun i k h => ?_, ?_, ?_⟩
  · by_cases e : i = H.next
    · subst e; rw [Inj.upd_same] at h; cases h; simp [hl]
    · rw [Inj.upd_other _ _ e] at h
      have := hi.dom i k h
      simp only [AH.next_push, World.size_alloc]; omega
  · intro i k h
    by_cases e : i = H.next
    · subst e; rw [AH.get_push_same] at h; cases h
      exact ⟨l, Inj.upd_same _ _ _, hor⟩
    · rw [AH.get_push_other _ _ e] at h
      obtain ⟨l1, h1, h2⟩ := hi.obj i k h
      refine ⟨l1, hle _ _ h1, (h2.mono hle).same ?_⟩
      have := (hi.dom i l1 h1).2
      have hne : l1.blk ≠ w.heap.size := by omega
      simp only [World.alloc, Array.getElem?_push]
      rw [if_neg hne]
  · intro i j k k' l1 l2 h h' hne hr ha ha' hl1 hl2
    by_cases e : i = H.next
    · subst e
      rw [AH.get_push_other _ _ (fun hh => hne hh.symm)] at h'
      rw [Inj.upd_same] at hl1; cases hl1
      rw [Inj.upd_other _ _ (fun hh => hne hh.symm)] at hl2
      have := (hi.dom j l2 hl2).2
      omega
    · rw [AH.get_push_other _ _ e] at h
      rw [Inj.upd_other _ _ e] at hl1
      by_cases e' : j = H.next
      · subst e'
        rw [Inj.upd_same] at hl2; cases hl2
        have := (hi.dom i l1 hl1).2
        omega
      · rw [AH.get_push_other _ _ e'] at h'
        rw [Inj.upd_other _ _ e'] at hl2
        exact hi.sep i j k k' l1 l2 h h' hne hr ha ha' hl1 hl2

theorem Step.push {φ : Inj} {H : AH} {w : World} {b : Blk} {l : Loc} {o : Obj} (hi : Inv φ H w) (hl : l.blk = w.heap.size) :
    Step m φ H w (φ.upd H.next l) (H.push b) (w.alloc o) := by
  refine ⟨by simp, Inj.le_upd l hi.fresh, ?_, ?_, by simp, ?_, rfl, rfl, rfl⟩
  · intro i k h h'
    by_cases e : i = H.next
    · subst e; rw [Inj.upd_same] at h; cases h
      exact ⟨Nat.le_refl _, .inl (Nat.le_of_eq hl.symm)⟩
    · rw [Inj.upd_other _ _ e, h'] at h; cases h
  · intro i h
    by_cases e : i = H.next
    · subst e; exact .inr hi.fresh
    · rw [AH.get_push_other _ _ e] at h; exact .inl h
  · intro c hc _
    simp only [World.alloc, Array.getElem?_push]
    rw [if_neg (by omega)]

theorem heap_setCell_same {w : World} {a : Addr} {v : Value} {c : Array Value} {e : TypeId} {f : Nat × Nat} (h : w.heap[a.block]? = some (.cells c e f)) (hs : a.spot = none) :
    (w.setCell a v).heap[a.block]? = some (.cells (c.setIfInBounds a.off v) e f) := by
  simp [World.setCell, Array.getElem?_modify, h, hs]

theorem heap_setCell_other {w : World} {a : Addr} {v : Value} {k : Nat} (h : k ≠ a.block) : (w.setCell a v).heap[k]? = w.heap[k]? := by
  simp only [World.setCell, Array.getElem?_modify]
  rw [if_neg (fun e => h e.symm)]

theorem setCell_get {H H' : AH} {a : Addr} {v : Value} (h : H.setCell m a v = some H') :
    a.spot = none ∧ m ≤ a.block ∧ ∃ c e f opn esz, H.get a.block = some { obj := .cells c e f, opn, esz, ro := false } ∧ a.off < c.size ∧
      H' = H.put a.block { obj := .cells (c.setIfInBounds a.off v) e f, opn, esz, ro := false } := by
  unfold AH.setCell at h
  split at h
  · rename_i c e f opn esz h1 h2
    cases hb : (Nat.ble m a.block && Nat.blt a.off c.size) with
    | false => rw [hb] at h; cases h
    | true =>
      rw [hb] at h
      simp only [Bool.and_eq_true] at hb
      refine ⟨h2, Nat.le_of_ble_eq_true hb.1, c, e, f, opn, esz, h1, ?_, (Option.some.inj h).symm⟩
      have := Nat.le_of_ble_eq_true hb.2; omega
  · cases h

theorem one_eq {φ : Inj} {v v' : Value} (h : VR φ v v') : one v' = one v := by
  cases h with
  | complex _ _ _ _ hv => rw [hv]; rfl
  | _ => rfl

theorem run_store_one (w : World) (a : Addr) (v u : Value) (md : Mode) (hv : one v = true) (hc : w.cell? a = some u) (hf : w.frozen? a = false) :
    (store a v md).run P w = .ok () (w.setCell a v) := by
  cases v <;> simp_all [store, Sem.run, one]

theorem sim_setCell {φ : Inj} {H H' : AH} {w : World} {a a' : Addr} {v v' : Value} (hi : Inv φ H w) (ha : AddrR φ a a') (hv : VR φ v v') (hone : one v = true) (hs : H.setCell m a v = some H') (md : Mode) :
    (store a' v' md).run P w = .ok () (w.setCell a' v') ∧ Inv φ H' (w.setCell a' v') ∧ Step m φ H w φ H' (w.setCell a' v') := by
  obtain ⟨h1, h2, c, e, f, opn, esz, h3, h4, rfl⟩ := setCell_get hs
  obtain ⟨l, c', f', h5, h6, h7⟩ := hi.cells h3 rfl
  obtain ⟨_, l', h8, h9⟩ := ha
  rw [h5] at h8; cases h8
  have hf := h7.own rfl
  subst h9
  obtain ⟨u, hu1, hu2⟩ := h7.cell a.off c[a.off] (by simp [h4])
  have hcell : w.cell? ⟨l.blk, l.off + a.off, none⟩ = some u := by simp [World.cell?, h6, hu1]
  have hfz : w.frozen? ⟨l.blk, l.off + a.off, none⟩ = false := by
    have hlt : l.off + a.off < c'.size := by
      rw [Array.getElem?_eq_some_iff] at hu1; exact hu1.1
    obtain ⟨p, q⟩ := f'
    simp only [World.frozen?, h6]
    simp only at hf
    rw [Bool.eq_false_iff]; simp only [ne_eq, Bool.and_eq_true, decide_eq_true_eq]; omega
  have hoth : ∀ k, k ≠ l.blk → (w.setCell ⟨l.blk, l.off + a.off, none⟩ v').heap[k]? = w.heap[k]? := fun k hk => heap_setCell_other hk
  have hsame := heap_setCell_same (w := w) (a := ⟨l.blk, l.off + a.off, none⟩) (v := v') h6 rfl
  refine ⟨run_store_one w _ v' u md ((one_eq hv).trans hone) hcell hfz, ?_, ?_⟩
  · refine hi.put h3 rfl rfl h5 (by simp) hoth ?_
    refine ⟨_, _, _, hsame, ?_⟩
    refine ⟨?_, by simpa using h7.fin, h7.esz, ?_, fun _ => by simpa using hf, rfl⟩
    · intro i x hx
      by_cases ei : i = a.off
      · subst ei
        have hx' : x = v := by simpa [Array.getElem?_setIfInBounds, h4] using hx.symm
        subst hx'
        refine ⟨v', ?_, hv⟩
        have : l.off + a.off < c'.size := by
          rw [Array.getElem?_eq_some_iff] at hu1; exact hu1.1
        simp [this]
      · have hx' : c[i]? = some x := by
          rw [Array.getElem?_setIfInBounds, if_neg (fun e => ei e.symm)] at hx; exact hx
        obtain ⟨y, hy1, hy2⟩ := h7.cell i x hx'
        refine ⟨y, ?_, hy2⟩
        rw [Array.getElem?_setIfInBounds, if_neg (by simp; omega)]
        exact hy1
    · intro ho
      have := h7.exact_ ho
      simpa using this
  · exact Step.put h2 h3 h5 (by simp) hoth rfl rfl rfl

theorem sim_store {φ : Inj} {a a' : Addr} {v v' : Value} {md : Mode} (ha : AddrR φ a a') (hv : VR φ v v') : Sim P m (EqR Unit) φ (store a v md) (store a' v' md) := by
  intro H w z H' hr hi
  simp only [Go.store, arun] at hr
  cases ho : one v with
  | false => rw [ho] at hr; cases hr
  | true =>
    rw [ho] at hr
    simp only [cond_true] at hr
    cases hs : H.setCell m a v with
    | none => rw [hs] at hr; cases hr
    | some H1 =>
      rw [hs] at hr
      simp only [Option.some.injEq, Prod.mk.injEq] at hr
      obtain ⟨_, rfl⟩ := hr
      obtain ⟨r1, r2, r3⟩ := sim_setCell (P := P) hi ha hv ho hs md
      exact ⟨φ, (), _, r1, r2, r3, rfl⟩

end Go.Abs
