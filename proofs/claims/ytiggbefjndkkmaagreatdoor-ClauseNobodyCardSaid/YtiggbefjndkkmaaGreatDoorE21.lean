/- The engine, part 21 of 35: pieces of the interpreter and of its soundness. No condition. -/
import Derived.Test.YtiggbefjndkkmaaGreatDoorE20
namespace Go.Abs

variable {P : Program} {m : Nat}

/-- As Inv, over a heap that is any function. -/
structure InvG (φ : Inj) (g : Nat → Option Blk) (n : Nat) (w : World) : Prop where
  dom : ∀ id l, φ id = some l → id < n ∧ l.blk < w.heap.size
  obj : ∀ id b, g id = some b → ∃ l, φ id = some l ∧ OR φ l b w
  sep : ∀ id id' b b' l l', g id = some b → g id' = some b' → id ≠ id' → b.ro = false → alive b = true → alive b' = true →
    φ id = some l → φ id' = some l' → l.blk ≠ l'.blk

theorem Inv.g {φ : Inj} {H : AH} {w : World} (h : Inv φ H w) : InvG φ H.get H.next w := ⟨h.dom, h.obj, h.sep⟩

structure StepG (m lo : Nat) (φ : Inj) (g : Nat → Option Blk) (w : World) (φ' : Inj) (g' : Nat → Option Blk) (w' : World) : Prop where
  ext : φ.le φ'
  new : ∀ id l, φ' id = some l → φ id = none → lo ≤ id ∧ (w.heap.size ≤ l.blk ∨ ∃ id0 l0, m ≤ id0 ∧ (g id0).isSome = true ∧ φ id0 = some l0 ∧ l0.blk = l.blk)
  alv : ∀ id, (g' id).isSome = true → (g id).isSome = true ∨ φ id = none
  size : w.heap.size ≤ w'.heap.size
  keep : ∀ c, c < w.heap.size → (∀ id l, m ≤ id → (g id).isSome = true → φ id = some l → l.blk ≠ c) → w'.heap[c]? = w.heap[c]?
  os : w'.os = w.os
  tape : w'.tape = w.tape
  output : w'.output = w.output

theorem StepG.refl (m lo : Nat) (φ : Inj) (g : Nat → Option Blk) (w : World) : StepG m lo φ g w φ g w :=
  ⟨Inj.le_refl _, fun id l h h' => (by rw [h] at h'; cases h'), fun _ h => .inl h, Nat.le_refl _, fun _ _ _ => rfl, rfl, rfl, rfl⟩

theorem StepG.trans {m lo : Nat} {φ : Inj} {g : Nat → Option Blk} {n : Nat} {w : World} {φ' : Inj} {g' : Nat → Option Blk} {w' : World} {φ'' : Inj} {g'' : Nat → Option Blk} {w'' : World} (hi : InvG φ g n w)
    (h : StepG m lo φ g w φ' g' w') (k : StepG m lo φ' g' w' φ'' g'' w'') : StepG m lo φ g w φ'' g'' w'' := by
  have al : ∀ id l, (g id).isSome = true → φ' id = some l → φ id = some l := by
    intro id l ha hl
    obtain ⟨b, hb⟩ := Option.isSome_iff_exists.1 ha
    obtain ⟨l0, h0, _⟩ := hi.obj id b hb
    have := h.ext _ _ h0
    rw [hl] at this; cases this; exact h0
  refine ⟨Inj.le_trans h.ext k.ext, ?_, ?_, Nat.le_trans h.size k.size, ?_, k.os.trans h.os, k.tape.trans h.tape, k.output.trans h.output⟩
  · intro id l h2 h0
    cases h1 : φ' id with
    | some l1 =>
      have := k.ext _ _ h1
      rw [h2] at this; cases this
      exact h.new id l h1 h0
    | none =>
      obtain ⟨n1, n2⟩ := k.new id l h2 h1
      refine ⟨n1, ?_⟩
      rcases n2 with n2 | ⟨id0, l0, a1, a2, a3, a4⟩
      · exact .inl (Nat.le_trans h.size n2)
      · cases h00 : φ id0 with
        | none =>
          obtain ⟨_, m2⟩ := h.new id0 l0 a3 h00
          rcases m2 with m2 | ⟨id1, l1, b1, b2, b3, b4⟩
          · exact .inl (a4 ▸ m2)
          · exact .inr ⟨id1, l1, b1, b2, b3, b4.trans a4⟩
        | some l00 =>
          rcases h.alv id0 a2 with ha | ha
          · have := h.ext _ _ h00
            rw [a3] at this; cases this
            exact .inr ⟨id0, l0, a1, ha, h00, a4⟩
          · rw [h00] at ha; cases ha
  · intro id h2
    rcases k.alv id h2 with h1 | h1
    · exact h.alv id h1
    · refine .inr ?_
      cases h0 : φ id with
      | none => rfl
      | some l => rw [h.ext _ _ h0] at h1; cases h1
  · intro c hc hno
    rw [k.keep c (Nat.lt_of_lt_of_le hc h.size) ?_, h.keep c hc hno]
    intro id l hm ha hl
    rcases h.alv id ha with h0 | h0
    · exact hno id l hm h0 (al id l h0 hl)
    · obtain ⟨_, m2⟩ := h.new id l hl h0
      rcases m2 with m2 | ⟨id1, l1, b1, b2, b3, b4⟩
      · omega
      · exact b4 ▸ hno id1 l1 b1 b2 b3

/-- The numbers below n alone. -/
def restr (φ : Inj) (n : Nat) : Inj := fun id => if id < n then φ id else none

theorem restr_lt {φ : Inj} {n id : Nat} (h : id < n) : restr φ n id = φ id := by simp [restr, h]
theorem restr_some {φ : Inj} {n id : Nat} {l : Loc} (h : restr φ n id = some l) : id < n ∧ φ id = some l := by
  unfold restr at h
  split at h
  · rename_i hh; exact ⟨hh, h⟩
  · cases h

theorem restr_le {φ ψ : Inj} (n k : Nat) (hn : n ≤ k) (h : φ.le ψ) : (restr φ n).le (restr ψ k) := by
  intro id l hl
  obtain ⟨h1, h2⟩ := restr_some hl
  rw [restr_lt (by omega)]
  exact h _ _ h2

/-- The numbers after an operation on a part of the heap. -/
def joined (φ φ' : Inj) (nx : Nat) : Inj := fun id => if id < nx then φ' id else φ id

def joinedG (g : Nat → Option Blk) (Hin H' : AH) : Nat → Option Blk := fun id => if (Hin.get id).isSome = true ∨ (Hin.next ≤ id ∧ id < H'.next) then H'.get id else g id

structure FrameRes (m lo : Nat) (φ : Inj) (g : Nat → Option Blk) (w : World) (Hin : AH) (φ' : Inj) (H' : AH) (w' : World) (n' : Nat) : Prop where
  le : φ.le (joined φ φ' H'.next)
  le' : φ'.le (joined φ φ' H'.next)
  inv : InvG (joined φ φ' H'.next) (joinedG g Hin H') n' w'
  step : StepG m lo φ g w (joined φ φ' H'.next) (joinedG g Hin H') w'
  none_ : ∀ id, (H'.get id).isSome = true → (Hin.get id).isSome = true ∨ (Hin.next ≤ id ∧ id < H'.next)
  excl : ∀ id id' l l', (g id).isSome = true → Hin.get id = none → id < Hin.next ∨ H'.next ≤ id → id ≠ id' → (joinedG g Hin H' id').isSome = true → joined φ φ' H'.next id = some l → joined φ φ' H'.next id' = some l' →
    (∀ id2 l2, id2 ≠ id → (g id2).isSome = true → φ id2 = some l2 → ∀ l1, φ id = some l1 → l2.blk ≠ l1.blk) → l'.blk ≠ l.blk

theorem frame {φ : Inj} {g : Nat → Option Blk} {n n' lo : Nat} {w : World} {Hin : AH} {φ' : Inj} {H' : AH} {w' : World} (hi : InvG φ g n w) (hsub : ∀ id b, Hin.get id = some b → g id = some b ∧ id < Hin.next)
    (hfree : ∀ id, Hin.next ≤ id → id < H'.next → φ id = none) (hn : n ≤ n') (hn' : H'.next ≤ n') (hlo : lo ≤ Hin.next)
    (hex : ∀ id b, g id = some b → Hin.get id = none → ∀ id' l l', (Hin.get id').isSome = true → φ id = some l → φ id' = some l' → l'.blk ≠ l.blk)
    (h1 : Inv φ' H' w') (h2 : Step m (restr φ Hin.next) Hin w φ' H' w') : FrameRes m lo φ g w Hin φ' H' w' n' := by
  have hle : φ.le (joined φ φ' H'.next) := by
    intro id l hl
    unfold joined
    split
    · rename_i hlt
      by_cases h : id < Hin.next
      · exact h2.ext _ _ (by rw [restr_lt h]; exact hl)
      · rw [hfree id (by omega) hlt] at hl; cases hl
    · exact hl
  have hle' : φ'.le (joined φ φ' H'.next) := by
    intro id l hl
    unfold joined
    rw [if_pos (h1.dom id l hl).1]; exact hl
  have hnone : ∀ id, (H'.get id).isSome = true → (Hin.get id).isSome = true ∨ (Hin.next ≤ id ∧ id < H'.next) := by
    intro id hs
    rcases h2.alv id hs with h | h
    · exact .inl h
    · obtain ⟨b, hb⟩ := Option.isSome_iff_exists.1 hs
      obtain ⟨l, hl, _⟩ := h1.obj id b hb
      obtain ⟨q1, _⟩ := h2.new id l hl h
      exact .inr ⟨q1, (h1.dom id l hl).1⟩
  -- the place of what is in the part, afterwards
  have hin : ∀ id l, (H'.get id).isSome = true → φ' id = some l → w.heap.size ≤ l.blk ∨ ∃ id0 l0, (Hin.get id0).isSome = true ∧ φ id0 = some l0 ∧ l0.blk = l.blk := by
    intro id l hs hl
    cases hr : restr φ Hin.next id with
    | some l0 =>
      have := h2.ext _ _ hr
      rw [hl] at this; cases this
      rcases h2.alv id hs with h | h
      · exact .inr ⟨id, l, h, (restr_some hr).2, rfl⟩
      · rw [h] at hr; cases hr
    | none =>
      obtain ⟨_, q2⟩ := h2.new id l hl hr
      rcases q2 with q2 | ⟨id0, l0, a1, a2, a3, a4⟩
      · exact .inl q2
      · exact .inr ⟨id0, l0, a2, (restr_some a3).2, a4⟩
  have hout : ∀ id b, g id = some b → ¬ ((Hin.get id).isSome = true ∨ (Hin.next ≤ id ∧ id < H'.next)) → ∃ l, φ id = some l ∧ joined φ φ' H'.next id = some l ∧ l.blk < w.heap.size ∧ OR φ l b w ∧ w'.heap[l.blk]? = w.heap[l.blk]? ∧
      (∀ id' l', (H'.get id').isSome = true → φ' id' = some l' → l'.blk ≠ l.blk) := by
    intro id b hb hno
    obtain ⟨l, hl, hor⟩ := hi.obj id b hb
    have hnn : Hin.get id = none := by
      cases hq : Hin.get id with
      | none => rfl
      | some b' => exact absurd (.inl (by rw [hq]; rfl)) hno
    have hblk := (hi.dom id l hl).2
    refine ⟨l, hl, hle _ _ hl, hblk, hor, ?_, ?_⟩
    · refine h2.keep _ hblk fun id' l' _ hs' hl' => ?_
      exact hex id b hb hnn id' l l' hs' hl (restr_some hl').2
    · intro id' l' hs' hl'
      rcases hin id' l' hs' hl' with h | ⟨id0, l0, a1, a2, a3⟩
      · omega
      · rw [← a3]; exact hex id b hb hnn id0 l l0 a1 hl a2
  refine ⟨hle, hle', ?_, ?_, hnone, ?_⟩
  · refine ⟨?_, ?_, ?_⟩
    · intro id l hl
      unfold joined at hl
      split at hl
      · have := h1.dom id l hl; exact ⟨by omega, this.2⟩
      · have := hi.dom id l hl; have := h2.size; omega
    · intro id b hb
      unfold joinedG at hb
      split at hb
      · obtain ⟨l, hl, hor⟩ := h1.obj id b hb
        exact ⟨l, hle' _ _ hl, hor.mono hle'⟩
      · rename_i hno
        obtain ⟨l, q1, q2, q3, q4, q5, q6⟩ := hout id b hb hno
        exact ⟨l, q2, (q4.mono hle).same q5⟩
    · intro id id' b b' l l' hb hb' hne hr ha ha' hl hl'
      unfold joinedG at hb hb'
      split at hb
      · rename_i hyes
        obtain ⟨k, hk, _⟩ := h1.obj id b hb
        have e1 := hle' _ _ hk
        rw [hl] at e1; cases e1
        split at hb'
        · obtain ⟨k', hk', _⟩ := h1.obj id' b' hb'
          have e2 := hle' _ _ hk'
          rw [hl'] at e2; cases e2
          exact h1.sep id id' b b' l l' hb hb' hne hr ha ha' hk hk'
        · rename_i hno
          obtain ⟨k', q1, q2, q3, q4, q5, q6⟩ := hout id' b' hb' hno
          rw [hl'] at q2; cases q2
          exact q6 id l (by rw [hb]; rfl) hk
      · rename_i hno
        obtain ⟨k, q1, q2, q3, q4, q5, q6⟩ := hout id b hb hno
        rw [hl] at q2; cases q2
        split at hb'
        · obtain ⟨k', hk', _⟩ := h1.obj id' b' hb'
          have e2 := hle' _ _ hk'
          rw [hl'] at e2; cases e2
          exact fun e => q6 id' l' (by rw [hb']; rfl) hk' e.symm
        · rename_i hno'
          obtain ⟨k', p1, p2, _⟩ := hout id' b' hb' hno'
          rw [hl'] at p2; cases p2
          exact hi.sep id id' b b' l l' hb hb' hne hr ha ha' q1 p1
  · refine ⟨hle, ?_, ?_, h2.size, ?_, h2.os, h2.tape, h2.output⟩
    · intro id l hl h0
      unfold joined at hl
      split at hl
      · have hr : restr φ Hin.next id = none := by unfold restr; split <;> first | exact h0 | rfl
        obtain ⟨q1, q2⟩ := h2.new id l hl hr
        refine ⟨by omega, q2.imp (fun h => h) fun ⟨id0, l0, a1, a2, a3, a4⟩ => ?_⟩
        obtain ⟨b, hb⟩ := Option.isSome_iff_exists.1 a2
        exact ⟨id0, l0, a1, by rw [(hsub _ _ hb).1]; rfl, (restr_some a3).2, a4⟩
      · rw [h0] at hl; cases hl
    · intro id hs
      unfold joinedG at hs
      split at hs
      · rename_i hyes
        rcases h2.alv id hs with h | h
        · obtain ⟨b, hb⟩ := Option.isSome_iff_exists.1 h
          exact .inl (by rw [(hsub _ _ hb).1]; rfl)
        · rcases hyes with hy | ⟨y1, y2⟩
          · obtain ⟨b, hb⟩ := Option.isSome_iff_exists.1 hy
            exact .inl (by rw [(hsub _ _ hb).1]; rfl)
          · exact .inr (hfree id y1 y2)
      · exact .inl hs
    · intro c hc hno
      refine h2.keep c hc fun id l hm hs hl => ?_
      obtain ⟨b, hb⟩ := Option.isSome_iff_exists.1 hs
      exact hno id l hm (by rw [(hsub _ _ hb).1]; rfl) (restr_some hl).2
  · intro id id' l l' hs hnn hrange hne hs' hl hl' hold
    obtain ⟨b, hb⟩ := Option.isSome_iff_exists.1 hs
    have hno : ¬ ((Hin.get id).isSome = true ∨ (Hin.next ≤ id ∧ id < H'.next)) := by
      rw [hnn]; simp; omega
    obtain ⟨k, q1, q2, q3, q4, q5, q6⟩ := hout id b hb hno
    rw [hl] at q2; cases q2
    unfold joinedG at hs'
    split at hs'
    · obtain ⟨b', hb'⟩ := Option.isSome_iff_exists.1 hs'
      obtain ⟨k', hk', _⟩ := h1.obj id' b' hb'
      have e2 := hle' _ _ hk'
      rw [hl'] at e2; cases e2
      exact q6 id' l' hs' hk'
    · rename_i hno'
      obtain ⟨b', hb'⟩ := Option.isSome_iff_exists.1 hs'
      obtain ⟨k', p1, p2, _⟩ := hout id' b' hb' hno'
      rw [hl'] at p2; cases p2
      exact hold id' l' (fun e => hne e.symm) hs' p1 l q1

end Go.Abs
