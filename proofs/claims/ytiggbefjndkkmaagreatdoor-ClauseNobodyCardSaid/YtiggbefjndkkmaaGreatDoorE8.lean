/- The engine, part 8 of 35: pieces of the interpreter and of its soundness. No condition. -/
import Derived.Test.YtiggbefjndkkmaaGreatDoorE7
namespace Go.Abs

variable {P : Program} {m : Nat}

theorem f2_map {φ : Inj} {α : Type} (f f' : α → Value) (g : α → Nat) (xs : List α) (h : ∀ x ∈ xs, VR φ (f x) (f' x)) : F2 (PR φ) (xs.map fun x => (g x, f x)) (xs.map fun x => (g x, f' x)) := by
  induction xs with
  | nil => exact .nil
  | cons a xs ih => exact .cons ⟨rfl, h a (by simp)⟩ (ih fun x hx => h x (by simp [hx]))

theorem F2.mono {α β : Type} {R R' : α → β → Prop} (hr : ∀ x y, R x y → R' x y) {l : List α} {l' : List β} (h : F2 R l l') : F2 R' l l' := by
  induction h with
  | nil => exact .nil
  | cons a _ ih => exact .cons (hr _ _ a) ih

theorem PR.mono {φ ψ : Inj} (hle : φ.le ψ) {l l' : List (Nat × Value)} (h : F2 (PR φ) l l') : F2 (PR ψ) l l' := F2.mono (fun x y hxy => ⟨hxy.1, hxy.2.mono hle⟩) h

theorem sim_mapM {α : Type} (f : α → Sem (Nat × Nat)) (hf : ∀ x φ, Sim P m (EqR _) φ (f x) (f x)) : ∀ (l : List α) (φ : Inj), Sim P m (EqR _) φ (l.mapM f) (l.mapM f) := by
  intro l
  induction l with
  | nil => intro φ; exact sim_pure rfl
  | cons a l ih =>
    intro φ
    rw [List.mapM_cons]
    exact sim_bind (hf a φ) fun φ1 h1 x y e => by
      cases e
      exact sim_bind (ih φ1) fun φ2 h2 x y e => by cases e; exact sim_pure rfl

theorem sim_build {φ : Inj} {t : TypeId} (hz : zflat P t = true) {ps ps' : Array (Nat × Value)} (h : F2 (PR φ) ps.toList ps'.toList) : Sim P m VR φ (Instr.build t ps) (Instr.build t ps') := by
  unfold Instr.build
  refine sim_bind (sim_zeroValue hz) fun φ1 h1 z z' e => ?_
  obtain ⟨rfl, hf⟩ := e
  have hc : AR φ1 z.cells z.cells := flat_cells_refl hf
  simp only
  refine sim_bind (sim_underlying t) fun φ2 h2 d d' e => ?_
  cases e
  have hps := PR.mono (Inj.le_trans h1 h2) h
  cases d with
  | struct fields =>
    simp only
    refine sim_bind (R := EqR (Array (Nat × Nat))) ?_ fun φ3 h3 pl pl' e => ?_
    · rw [Array.mapM_eq_mapM_toList]
      refine sim_bind (sim_mapM _ (fun x φ => ?_) _ _) fun φ3 h3 a b e => by cases e; exact sim_pure rfl
      exact sim_bind (sim_sizeOf _) fun φ3 h3 a b e => by cases e; exact sim_pure rfl
    · cases e
      rcases ar_fill (φ := φ3) (fun i => pl[i]?) _ _ _ _ (PR.mono h3 hps) ((hc.mono h2).mono h3) with ⟨e1, e2⟩ | ⟨o, o', e1, e2, ho⟩
      · rw [e1]; exact sim_halt
      · rw [e1, e2]; exact sim_pure (.agg o o' ho.1 ho.2)
  | array len elem =>
    simp only
    refine sim_bind (sim_sizeOf elem) fun φ3 h3 s s' e => ?_
    cases e
    rcases ar_fill (φ := φ3) (fun i => some (i * s, s)) _ _ _ _ (PR.mono h3 hps) ((hc.mono h2).mono h3) with ⟨e1, e2⟩ | ⟨o, o', e1, e2, ho⟩
    · rw [e1]; exact sim_halt
    · rw [e1, e2]; exact sim_pure (.agg o o' ho.1 ho.2)
  | _ => exact sim_halt

theorem ar_zeros {φ : Inj} {c : Array Value} (hc : AR φ c c) (n : Nat) : AR φ ((Array.range n).map (c[· % c.size]!)) ((Array.range n).map (c[· % c.size]!)) := by
  refine AR.map _ _ _ fun x hx => ?_
  by_cases h : x % c.size < c.size
  · have : c[x % c.size]! = c[x % c.size] := by simp [h]
    rw [this]
    exact hc.2 _ _ _ (Array.getElem?_eq_getElem h) (Array.getElem?_eq_getElem h)
  · have : c[x % c.size]! = default := getElem!_neg _ _ h
    rw [this]
    exact flat_refl 1 rfl

theorem slice_cap_ne {n : Nat} (h : n ≤ 2 ^ 62) : n ≠ OPEN := by
  intro e; rw [e] at h; revert h; unfold OPEN; omega

theorem sim_buildSlice {φ : Inj} {t : TypeId} (hz : zelem P t = true) (len : Nat) {ps ps' : Array (Nat × Value)} (hlen : len ≠ OPEN) (h : F2 (PR φ) ps.toList ps'.toList) :
    Sim P m VR φ (Instr.buildSlice t len ps) (Instr.buildSlice t len ps') := by
  unfold Instr.buildSlice
  have hu : ∀ e, P.underlying t = some (.slice e) → zflat P e = true := by
    intro e he; unfold zelem at hz; rw [he] at hz; exact hz
  refine sim_bind (R := fun φ d d' => d = d' ∧ P.underlying t = some d) ?_ fun φ1 h1 d d' e => ?_
  · intro H w x H' hr hi
    obtain ⟨φ', y, w', a1, a2, a3, a4⟩ := sim_underlying (P := P) (m := m) (φ := φ) t H w x H' hr hi
    refine ⟨φ', y, w', a1, a2, a3, a4, ?_⟩
    unfold Go.underlying at hr
    simp only [bind, arun_bind, program, arun] at hr
    cases hp : P.underlying t with
    | none => rw [hp] at hr; simp [stuck, arun] at hr
    | some q => rw [hp] at hr; simp only [pure, arun, Option.some.injEq, Prod.mk.injEq] at hr; rw [hr.1]
  · obtain ⟨rfl, hd⟩ := e
    cases d with
    | slice elem =>
      simp only
      have hze := hu elem hd
      refine sim_bind (sim_sizeOf elem) fun φ2 h2 s s' e => ?_
      cases e
      split
      · exact sim_halt
      · have tail : ∀ φ3, φ2.le φ3 → ∀ c c' : Array Value, (c = c' ∧ AR φ3 c c) → Sim P m VR φ3
            (match Instr.fill (fun i => some (i * s, s)) (Array.map (fun x => c[x % c.size]!) (Array.range (len * s))) ps.toList with
              | some cells => (newRow elem cells >>= fun r => pure (Value.slice (some r) len len))
              | x => stuck "buildSlice: a part of the wrong size")
            (match Instr.fill (fun i => some (i * s, s)) (Array.map (fun x => c'[x % c'.size]!) (Array.range (len * s))) ps'.toList with
              | some cells => (newRow elem cells >>= fun r => pure (Value.slice (some r) len len))
              | x => stuck "buildSlice: a part of the wrong size") := by
          intro φ3 h3 c c' e
          obtain ⟨rfl, hc⟩ := e
          rcases ar_fill (φ := φ3) (fun i => some (i * s, s)) _ _ _ _ (PR.mono (Inj.le_trans (Inj.le_trans h1 h2) h3) h) (ar_zeros hc (len * s)) with ⟨e1, e2⟩ | ⟨o, o', e1, e2, ho⟩
          · rw [e1]; exact sim_halt
          · rw [e1, e2]
            refine sim_bind (sim_newRow elem ho) fun φ4 h4 a a' ha => ?_
            obtain ⟨ha1, l, ha2, rfl⟩ := ha
            obtain ⟨b, off, sp⟩ := a
            simp only at ha1 ha2; subst ha1
            exact sim_pure (.slice b off len len l ha2 hlen)
        split
        · exact sim_bind (R := fun φ c c' => c = c' ∧ AR φ c c) (sim_pure ⟨rfl, AR.empty _⟩) fun φ3 h3 c c' e => tail φ3 h3 c c' e
        · refine sim_bind (sim_zeroValue hze) fun φ3 h3 z z' e => ?_
          obtain ⟨rfl, hf⟩ := e
          exact sim_bind (R := fun φ c c' => c = c' ∧ AR φ c c) (sim_pure ⟨rfl, flat_cells_refl hf⟩) fun φ4 h4 c c' e => tail φ4 (Inj.le_trans h3 h4) c c' e
    | _ => exact sim_halt

theorem sim_makeSlice {φ : Inj} {t : TypeId} (hz : zelem P t = true) {x x' y y' : Value} (hx : VR φ x x') (hy : VR φ y y') (hcap : ∀ k n, y = .int k n → (IntKind.i64.wrap n).toNat ≠ OPEN) :
    Sim P m VR φ (Instr.makeSlice t x y) (Instr.makeSlice t x' y') := by
  unfold Instr.makeSlice
  have hu : ∀ e, P.underlying t = some (.slice e) → zflat P e = true := by
    intro e he; unfold zelem at hz; rw [he] at hz; exact hz
  refine sim_bind (R := fun φ d d' => d = d' ∧ P.underlying t = some d) ?_ fun φ1 h1 d d' e => ?_
  · intro H w x H' hr hi
    obtain ⟨φ', y, w', a1, a2, a3, a4⟩ := sim_underlying (P := P) (m := m) (φ := φ) t H w x H' hr hi
    refine ⟨φ', y, w', a1, a2, a3, a4, ?_⟩
    unfold Go.underlying at hr
    simp only [bind, arun_bind, program, arun] at hr
    cases hp : P.underlying t with
    | none => rw [hp] at hr; simp [stuck, arun] at hr
    | some q => rw [hp] at hr; simp only [pure, arun, Option.some.injEq, Prod.mk.injEq] at hr; rw [hr.1]
  · obtain ⟨rfl, hd⟩ := e
    cases d with
    | slice elem =>
      simp only
      have hze := hu elem hd
      refine sim_bind (sim_asInt (hx.mono h1)) fun φ2 h2 len len' e => ?_
      cases e
      refine sim_bind (R := fun φ c c' => c = c' ∧ (IntKind.i64.wrap c).toNat ≠ OPEN) ?_ fun φ3 h3 cap cap' e => ?_
      · cases y with
        | int k n =>
          have := (hy.mono h1).mono h2
          cases this
          exact sim_pure ⟨rfl, hcap k n rfl⟩
        | pointer a =>
          refine sim_none fun H => ?_
          cases a <;> rfl
        | _ => exact sim_none fun H => rfl
      · obtain ⟨rfl, hc⟩ := e
        refine sim_bind (sim_typeInfo elem) fun φ4 h4 i i' e => ?_
        cases e
        split
        · refine sim_none fun H => ?_
          split
          · exact arun_none_bind _ _ H (arun_runtimePanic _ _)
          · split
            · exact arun_none_bind _ _ H (arun_runtimePanic _ _)
            · exact arun_bind_none _ _ (fun a H => arun_none_bind _ _ H (arun_runtimePanic _ _)) H
        · refine sim_bind (sim_askRoom _) fun φ5 h5 _ _ _ => ?_
          refine sim_bind (sim_sizeOf elem) fun φ6 h6 s s' e => ?_
          cases e
          have tail : ∀ φ7, φ6.le φ7 → ∀ c c' : Array Value, (c = c' ∧ AR φ7 c c) → Sim P m VR φ7
              (newRow elem (Array.map (fun x => c[x % c.size]!) (Array.range ((IntKind.i64.wrap cap).toNat * s))) >>= fun a => pure (Value.slice (some a) (IntKind.i64.wrap len).toNat (IntKind.i64.wrap cap).toNat))
              (newRow elem (Array.map (fun x => c'[x % c'.size]!) (Array.range ((IntKind.i64.wrap cap).toNat * s))) >>= fun a => pure (Value.slice (some a) (IntKind.i64.wrap len).toNat (IntKind.i64.wrap cap).toNat)) := by
            intro φ7 h7 c c' e
            obtain ⟨rfl, hcc⟩ := e
            refine sim_bind (sim_newRow elem (ar_zeros hcc _)) fun φ8 h8 a a' ha => ?_
            obtain ⟨ha1, l, ha2, rfl⟩ := ha
            obtain ⟨b, off, sp⟩ := a
            simp only at ha1 ha2; subst ha1
            exact sim_pure (.slice b off _ _ l ha2 hc)
          split
          · exact sim_bind (R := fun φ c c' => c = c' ∧ AR φ c c) (sim_pure ⟨rfl, AR.empty _⟩) fun φ3 h3 c c' e => tail φ3 h3 c c' e
          · refine sim_bind (sim_zeroValue hze) fun φ3 h3 z z' e => ?_
            obtain ⟨rfl, hf⟩ := e
            exact sim_bind (R := fun φ c c' => c = c' ∧ AR φ c c) (sim_pure ⟨rfl, flat_cells_refl hf⟩) fun φ4 h4 c c' e => tail φ4 (Inj.le_trans h3 h4) c c' e
    | _ => exact sim_halt

end Go.Abs
