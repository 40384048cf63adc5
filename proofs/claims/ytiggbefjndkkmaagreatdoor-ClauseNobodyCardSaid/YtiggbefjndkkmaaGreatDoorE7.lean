/- The engine, part 7 of 35: pieces of the interpreter and of its soundness. No condition. -/
import Derived.Test.YtiggbefjndkkmaaGreatDoorE6
namespace Go.Abs

variable {P : Program} {m : Nat}

theorem sim_extract {φ : Inj} {v v' : Value} (k : Nat) (hv : VR φ v v') : Sim P m VR φ (Instr.extract v k) (Instr.extract v' k) := by
  cases hv with
  | tuple f f' hf h1 =>
    simp only [Instr.extract]
    cases hx : f[k]? with
    | none => exact sim_halt
    | some u =>
      obtain ⟨u', h2, h3⟩ := AR.get ⟨hf, h1⟩ hx
      rw [h2]
      exact sim_pure h3
  | _ => exact sim_halt

theorem sim_makeInterface {φ : Inj} {v v' : Value} (t : TypeId) (hv : VR φ v v') : Sim P m VR φ (Instr.makeInterface t v) (Instr.makeInterface t v') := by
  unfold Instr.makeInterface
  refine sim_bind (sim_underlying t) fun φ1 h1 d d' e => ?_
  cases e
  split
  · exact sim_halt
  · exact sim_pure (.iface t v v' (hv.mono h1))

theorem sim_makeFunc {φ : Inj} (fn : Fn) {f f' g g' : Array Value} (hf : AR φ f f') (hg : AR φ g g') : Sim P m VR φ (Instr.makeFunc fn f g) (Instr.makeFunc fn f' g') :=
  sim_pure (.func fn f g f' g' hf.1 hg.1 hf.2 hg.2)

theorem sim_makeMap {φ : Inj} (t : TypeId) {r r' : Option Value} (hr : (r = none ∧ r' = none) ∨ ∃ v v', r = some v ∧ r' = some v' ∧ VR φ v v') : Sim P m VR φ (Instr.makeMap t r) (Instr.makeMap t r') := by
  have go : ∀ φ1, φ.le φ1 → Sim P m VR φ1 (do pure (.map (some (← newObj (.map #[] 0))))) (do pure (.map (some (← newObj (.map #[] 0))))) := by
    intro φ1 _
    refine sim_bind (sim_newRef (o := .map #[] 0) (o' := .map #[] 0) ⟨rfl, rfl, fun i x y h => by simp at h⟩) fun φ2 h2 x y h => ?_
    obtain ⟨l, h3, _, rfl⟩ := h
    exact sim_pure (.map x l h3)
  rcases hr with ⟨rfl, rfl⟩ | ⟨v, v', rfl, rfl, hv⟩
  · exact go φ (Inj.le_refl _)
  · unfold Instr.makeMap
    simp only
    refine sim_bind (sim_underlying t) fun φ1 h1 d d' e => ?_
    cases e
    cases d with
    | map a b =>
      simp only
      exact sim_bind (sim_asInt (hv.mono h1)) fun φ2 h2 x y e => go φ2 (Inj.le_trans h1 h2)
    | _ => exact sim_halt

theorem sim_indexTail {φ : Inj} (t : TypeId) (k : IntKind) (n : Int) (p q : Option Addr × Nat × TypeId) (e1 : p.2 = q.2)
    (e2 : (p.1 = none ∧ q.1 = none) ∨ ∃ a a', p.1 = some a ∧ q.1 = some a' ∧ (p.2.1 = 0 ∨ AddrR φ a a')) : Sim P m VR φ
      (do
        let d ← underlying t
        match p.fst with
          | some a => (if 0 ≤ n ∧ n < ↑p.2.fst then (sizeOf p.2.snd >>= fun z => pure (Value.pointer (some (a.add (n.toNat * z))))) else (if (decide (p.2.fst ≤ 1) && (match d with | TypeDesc.array len elem => true | x => false)) = true then unsupported (.noEntry "op/indexAddr.an index out of range at an array of length 0 or 1 (ledger 616)") else boundsPanic k n (↑p.2.fst) BoundsCode.index))
          | none => boundsPanic k n 0 BoundsCode.index)
      (do
        let d ← underlying t
        match q.fst with
          | some a => (if 0 ≤ n ∧ n < ↑q.2.fst then (sizeOf q.2.snd >>= fun z => pure (Value.pointer (some (a.add (n.toNat * z))))) else (if (decide (q.2.fst ≤ 1) && (match d with | TypeDesc.array len elem => true | x => false)) = true then unsupported (.noEntry "op/indexAddr.an index out of range at an array of length 0 or 1 (ledger 616)") else boundsPanic k n (↑q.2.fst) BoundsCode.index))
          | none => boundsPanic k n 0 BoundsCode.index) := by
  obtain ⟨base, len, elem⟩ := p
  obtain ⟨base', len', elem'⟩ := q
  simp only [Prod.mk.injEq] at e1
  obtain ⟨rfl, rfl⟩ := e1
  simp only at e2 ⊢
  refine sim_bind (sim_underlying t) fun φ3 h3 d d' e => ?_
  cases e
  rcases e2 with ⟨rfl, rfl⟩ | ⟨a, a', rfl, rfl, ha⟩
  · exact sim_boundsPanic _ _ _ _
  · simp only
    split
    · rename_i hn
      rcases ha with ha | ha
      · subst ha; omega
      · exact sim_bind (sim_sizeOf elem) fun φ4 h4 z z' e => by cases e; exact sim_pure (((ha.mono h3).mono h4).add _).ptr
    · have both : ∀ b : Bool, Sim P m VR φ3 (if b = true then unsupported (.noEntry "op/indexAddr.an index out of range at an array of length 0 or 1 (ledger 616)") else boundsPanic k n (↑len) BoundsCode.index)
          (if b = true then unsupported (.noEntry "op/indexAddr.an index out of range at an array of length 0 or 1 (ledger 616)") else boundsPanic k n (↑len) BoundsCode.index) := by
        intro b; cases b
        · exact sim_boundsPanic _ _ _ _
        · exact sim_halt
      exact both _

theorem sim_indexAt {φ : Inj} {x x' i i' : Value} (t : TypeId) (hx : VR φ x x') (hi : VR φ i i') : Sim P m VR φ (Instr.indexAt t x i) (Instr.indexAt t x' i') := by
  unfold Instr.indexAt
  refine sim_bind (sim_asIntOf hi) fun φ1 h1 k k' e => ?_
  cases e
  obtain ⟨k, n⟩ := k
  simp only
  refine sim_bind (sim_underlying t) fun φ2 h2 d d' e => ?_
  cases e
  have hx2 := (hx.mono h1).mono h2
  cases d with
  | array len elem =>
    simp only
    exact sim_bind (sim_sureAddr hx2) fun φ3 h3 a a' ha => sim_indexTail t k n (some a, len, elem) (some a', len, elem) rfl (.inr ⟨a, a', rfl, rfl, .inr ha⟩)
  | slice elem =>
    cases hx2 with
    | sliceNil n' c => exact sim_indexTail t k n (none, n', elem) (none, n', elem) rfl (.inl ⟨rfl, rfl⟩)
    | slice b o n' c l h hc => exact sim_indexTail t k n (some _, n', elem) (some _, n', elem) rfl (.inr ⟨_, _, rfl, rfl, .inr ⟨rfl, l, h, rfl⟩⟩)
    | sliceOpen b o n' c l h hn hc => exact sim_indexTail t k n (some _, n', elem) (some _, n', elem) rfl (.inr ⟨_, _, rfl, rfl, .inr ⟨rfl, l, h, rfl⟩⟩)
    | sliceEnd b o l a h => exact sim_indexTail t k n (some _, 0, elem) (some _, 0, elem) rfl (.inr ⟨_, _, rfl, rfl, .inl rfl⟩)
    | sliceZero b o l a h => exact sim_indexTail t k n (some _, 0, elem) (some _, 0, elem) rfl (.inr ⟨_, _, rfl, rfl, .inl rfl⟩)
    | _ => exact sim_halt
  | _ => exact sim_halt

theorem sim_index {φ : Inj} {x x' i i' : Value} (t : TypeId) (hx : VR φ x x') (hi : VR φ i i') : Sim P m VR φ (Instr.index t x i) (Instr.index t x' i') := by
  unfold Instr.index
  refine sim_bind (sim_asIntOf hi) fun φ1 h1 k k' e => ?_
  cases e
  obtain ⟨k, n⟩ := k
  simp only
  refine sim_bind (sim_underlying t) fun φ2 h2 d d' e => ?_
  cases e
  have hx2 := (hx.mono h1).mono h2
  cases d with
  | array len elem =>
    cases hx2 with
    | agg f f' hf h =>
      simp only
      split
      · exact sim_bind (sim_sizeOf elem) fun φ3 h3 z z' e => by cases e; exact sim_part _ _ (AR.mono h3 ⟨hf, h⟩)
      · exact sim_boundsPanic _ _ _ _
    | _ => exact sim_halt
  | string =>
    cases hx2 with
    | string s =>
      simp only
      split
      · exact sim_pure (.int _ _)
      · exact sim_boundsPanic _ _ _ _
    | _ => exact sim_halt
  | _ => exact sim_halt

/-! Building values. -/

def PR (φ : Inj) (p q : Nat × Value) : Prop := p.1 = q.1 ∧ VR φ p.2 q.2

theorem ar_foldl {φ : Inj} (off : Nat) : ∀ (l l' : List (Value × Nat)) (cs cs' : Array Value), F2 (fun p q => VR φ p.1 q.1 ∧ p.2 = q.2) l l' → AR φ cs cs' →
    AR φ (l.foldl (fun cs (c, j) => cs.setIfInBounds (off + j) c) cs) (l'.foldl (fun cs (c, j) => cs.setIfInBounds (off + j) c) cs') := by
  intro l
  induction l with
  | nil => intro l' cs cs' h hc; cases h; exact hc
  | cons a l ih =>
    intro l' cs cs' h hc
    cases h with
    | cons hab ht =>
      rename_i b l'
      obtain ⟨x, j⟩ := a
      obtain ⟨y, k⟩ := b
      obtain ⟨h1, h2⟩ := hab
      simp only at h1 h2
      subst h2
      simp only [List.foldl_cons]
      exact ih _ _ _ ht (hc.set _ h1)

theorem ar_fill {φ : Inj} (place : Nat → Option (Nat × Nat)) : ∀ (l l' : List (Nat × Value)) (cs cs' : Array Value), F2 (PR φ) l l' → AR φ cs cs' →
    (Instr.fill place cs l = none ∧ Instr.fill place cs' l' = none) ∨ ∃ o o', Instr.fill place cs l = some o ∧ Instr.fill place cs' l' = some o' ∧ AR φ o o' := by
  intro l
  induction l with
  | nil => intro l' cs cs' h hc; cases h; exact .inr ⟨cs, cs', rfl, rfl, hc⟩
  | cons a l ih =>
    intro l' cs cs' h hc
    cases h with
    | cons hab ht =>
      rename_i b l'
      obtain ⟨i, v⟩ := a
      obtain ⟨j, u⟩ := b
      obtain ⟨h1, h2⟩ := hab
      simp only at h1 h2
      subst h1
      have hcl := h2.cells
      simp only [Instr.fill]
      cases place i with
      | none => exact .inl ⟨rfl, rfl⟩
      | some os =>
        obtain ⟨off, size⟩ := os
        simp only
        rw [← hcl.1, ← hc.1]
        split
        · exact .inl ⟨rfl, rfl⟩
        · refine ih _ _ _ ht ?_
          rw [← Array.foldl_toList, ← Array.foldl_toList]
          refine ar_foldl off _ _ _ _ ?_ hc
          refine forall₂_of_get _ _ (by simp [hcl.1]) fun k x y hx hy => ?_
          simp only [Array.toList_zipIdx, List.getElem?_zipIdx, Option.map_eq_some_iff] at hx hy
          obtain ⟨p, hp, rfl⟩ := hx
          obtain ⟨q, hq, rfl⟩ := hy
          exact ⟨hcl.2 k p q (by simpa using hp) (by simpa using hq), rfl⟩

end Go.Abs
