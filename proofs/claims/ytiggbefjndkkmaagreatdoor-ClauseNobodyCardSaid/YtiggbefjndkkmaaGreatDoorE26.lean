/- The engine, part 26 of 35: pieces of the interpreter and of its soundness. No condition. -/
import Derived.Test.YtiggbefjndkkmaaGreatDoorE25
namespace Go.Abs

variable {P : Program} {m : Nat}

def LL (la : Array Bool) (i : Nat) : Prop := la.getD i false = true

theorem LL_set {la : Array Bool} {i : Nat} (hi : i < la.size) (j : Nat) : LL (la.setIfInBounds i true) j ↔ j = i ∨ LL la j := by
  unfold LL
  rw [Array.getD_eq_getD_getElem?, Array.getD_eq_getD_getElem?, Array.getElem?_setIfInBounds]
  by_cases e : i = j
  · subst e; simp [hi]
  · rw [if_neg e]
    constructor
    · exact .inr
    · rintro (h | h)
      · exact absurd h.symm e
      · exact h

structure JC (ops : Array Oper) (bs : List Nat) (la : Array Bool) : Prop where
  size : la.size = ops.size
  closed : ∀ i j, LL la i → j < i → pre bs i j = true → LL la j

structure Rdy (ops : Array Oper) (bs : List Nat) (la : Array Bool) (i : Nat) : Prop where
  lt : i < ops.size
  no : ¬ LL la i
  all : ∀ j, j < i → pre bs i j = true → LL la j

theorem rdy_of {ops : Array Oper} {bs : List Nat} {la : Array Bool} (hc : closedOk ops.toList bs = true) (hj : JC ops bs la) {i : Nat} (h : i ∈ Region.ready .any ops la) : Rdy ops bs la i := by
  unfold Region.ready at h
  rw [List.mem_filter, List.mem_range] at h
  obtain ⟨hlt, h2⟩ := h
  obtain ⟨o, ho, ho'⟩ := op_at hlt
  rw [ho'] at h2
  simp only [Option.map_some, Option.getD_some, Bool.and_eq_true, Bool.not_eq_true', Array.all_eq_true_iff_forall_mem] at h2
  refine ⟨hlt, fun hh => ?_, fun j hji hp => ?_⟩
  · unfold LL at hh
    have h3 := h2.1
    rw [Array.getD_eq_getD_getElem?] at h3 hh
    have : i < la.size := by rw [hj.size]; exact hlt
    rw [Array.getElem?_eq_getElem this] at h3 hh
    simp only [Option.getD_some] at h3 hh
    rw [h3] at hh; cases hh
  · obtain ⟨e, he, hb, hcase⟩ := closedOk_spec hc ho hji hp
    have := h2.2 e he
    rw [hb] at this
    simp only [Bool.not_true, Bool.false_or] at this
    rcases hcase with h | ⟨h, h'⟩
    · subst h; exact this
    · exact hj.closed e.on j this h h'

theorem JC.next {ops : Array Oper} {bs : List Nat} {la : Array Bool} (hj : JC ops bs la) {i : Nat} (r : Rdy ops bs la i) : JC ops bs (la.setIfInBounds i true) := by
  have hlt : i < la.size := by rw [hj.size]; exact r.lt
  refine ⟨by simpa using hj.size, fun k j hk hjk hp => ?_⟩
  rw [LL_set hlt] at hk ⊢
  rcases hk with rfl | hk
  · exact .inr (r.all j hjk hp)
  · exact .inr (hj.closed k j hk hjk hp)

/-- With nothing ready all stand listed. -/
theorem all_listed {ops : Array Oper} {bs : List Nat} {la : Array Bool} (he : edgesOk ops.toList = true) (hj : JC ops bs la) (hr : Region.ready .any ops la = []) : ∀ i, i < ops.size → LL la i := by
  intro i
  induction i using Nat.strongRecOn with
  | ind i ih =>
    intro hlt
    apply Classical.byContradiction
    intro hn
    obtain ⟨o, ho, ho'⟩ := op_at hlt
    have hm : i ∈ Region.ready .any ops la := by
      unfold Region.ready
      rw [List.mem_filter, List.mem_range]
      refine ⟨hlt, ?_⟩
      rw [ho']
      simp only [Option.map_some, Option.getD_some, Bool.and_eq_true, Bool.not_eq_true', Array.all_eq_true_iff_forall_mem]
      refine ⟨?_, fun e hem => ?_⟩
      · unfold LL at hn
        rw [Array.getD_eq_getD_getElem?] at hn ⊢
        have : i < la.size := by rw [hj.size]; exact hlt
        rw [Array.getElem?_eq_getElem this] at hn ⊢
        simpa using hn
      · cases hb : Region.binds .any e with
        | false => rfl
        | true =>
          have h1 := edgesOk_spec he ho hem hb
          have := ih e.on h1 (by omega)
          unfold LL at this
          rw [this]; rfl
    rw [hr] at hm; cases hm

section
variable {ne : Nat} {ih : Ex} {n : Nat} {ops : Array Oper} {bs : List Nat} {D : Nat → DSt} {ss0 : Sl} {H0 : AH}

structure JS (ops : Array Oper) (D : Nat → DSt) (n : Nat) (la : Array Bool) (φ : Inj) (a : Act) : Prop where
  slot : ∀ t, ∃ e, e ≤ ops.size ∧ (∀ j o, ops.toList[j]? = some o → LL la j → o.dst = some t → j < e) ∧ (e = 0 ∨ ∃ j o, e = j + 1 ∧ ops.toList[j]? = some o ∧ LL la j ∧ o.dst = some t) ∧
    VR (restr φ (D e).cnt) (((D e).ss.get t).getD undef) (a.tmps.getD t undef)
  size : n ≤ a.tmps.size
  defers : a.defers = []

theorem dst_names {ops : Array Oper} {o : Oper} {t : Nat} (h : o.dst = some t) : t ∈ namesOf ops o := by
  unfold namesOf; rw [h]; simp

theorem lt_of_at {i : Nat} {o : Oper} (h : ops.toList[i]? = some o) : i < ops.size := by
  rw [List.getElem?_eq_some_iff] at h; simpa using h.1

theorem JS.read (p : Plan P ne ih m n ops bs D ss0 H0) {la : Array Bool} (hc : JC ops bs la) {φ : Inj} {a : Act} (h : JS ops D n la φ a) {i : Nat} (r : Rdy ops bs la i) {o : Oper} (ho : ops.toList[i]? = some o) {t : Nat} (ht : t ∈ namesOf ops o) :
    VR (restr φ (D i).cnt) (((D i).ss.get t).getD undef) (a.tmps.getD t undef) := by
  obtain ⟨e, he, hw, hs, hv⟩ := h.slot t
  have h1 : e ≤ i := by
    rcases hs with rfl | ⟨j, q, rfl, hj, hl, hd⟩
    · omega
    · by_cases hji : j < i
      · omega
      · exfalso
        by_cases e : j = i
        · subst e; exact r.no hl
        · have := slotsOk_spec p.slots (i := i) (j := j) hj ho (by omega) (t := t) (.inr ⟨hd, ht⟩)
          exact r.no (hc.closed j i hl (by omega) this)
  have h2 : (D i).ss.get t = (D e).ss.get t := by
    refine p.ss_same h1 (Nat.le_of_lt r.lt) fun k q hk1 hk2 hq hd => ?_
    have := slotsOk_spec p.slots (i := k) (j := i) ho hq hk2 (t := t) (.inl ⟨hd, ht⟩)
    have := hw k q hq (r.all k hk2 this) hd
    omega
  rw [h2]
  exact hv.mono (restr_le _ _ (p.cnt_mono h1 (Nat.le_of_lt r.lt)) (Inj.le_refl φ))

theorem putA_same {ss ss' : Sl} {t : Nat} {v : Value} (h : putA n ss (some t) v = some ss') : t < n ∧ ss'.get t = some v := by
  unfold putA at h
  simp only at h
  cases hb : Nat.blt t n with
  | false => rw [hb] at h; cases h
  | true =>
    rw [hb] at h
    simp only [cond_true, Option.some.injEq] at h
    subst h
    exact ⟨blt_lt hb, Tr.get_set_same _ _ _ _ (by omega)⟩

theorem JS.next (p : Plan P ne ih m n ops bs D ss0 H0) {la : Array Bool} (hc : JC ops bs la) {φ φ' : Inj} (hle : φ.le φ') {a : Act} (h : JS ops D n la φ a) {i : Nat} (r : Rdy ops bs la i) {o : Oper} (ho : ops.toList[i]? = some o) {v v' : Value}
    (hp : putA n (D i).ss o.dst v = some (D (i + 1)).ss) (hv : VR (restr φ' (D (i + 1)).cnt) v v') : JS ops D n (la.setIfInBounds i true) φ' (a.put o.dst v') := by
  have hlt : i < la.size := by rw [hc.size]; exact r.lt
  have old : ∀ t, o.dst ≠ some t → (a.put o.dst v').tmps.getD t undef = a.tmps.getD t undef := by
    intro t ht
    cases hd : o.dst with
    | none => rfl
    | some d =>
      simp only [Act.put]
      rw [Array.getD_eq_getD_getElem?, Array.getElem?_setIfInBounds, if_neg (fun hh => ht (by rw [hd, hh])), ← Array.getD_eq_getD_getElem?]
  refine ⟨fun t => ?_, ?_, ?_⟩
  · by_cases ht : o.dst = some t
    · refine ⟨i + 1, r.lt, fun j q hq hl hd => ?_, .inr ⟨i, o, rfl, ho, (LL_set hlt i).2 (.inl rfl), ht⟩, ?_⟩
      · rw [LL_set hlt] at hl
        rcases hl with rfl | hl
        · omega
        · apply Classical.byContradiction
          intro hge
          have := slotsOk_spec p.slots (i := i) (j := j) hq ho (by omega) (t := t) (.inl ⟨ht, dst_names hd⟩)
          exact r.no (hc.closed j i hl (by omega) this)
      · rw [ht] at hp
        obtain ⟨h1, h2⟩ := putA_same hp
        rw [h2, ht]
        simp only [Act.put, Option.getD_some]
        rw [Array.getD_eq_getD_getElem?, Array.getElem?_setIfInBounds, if_pos rfl, if_pos (Nat.lt_of_lt_of_le h1 h.size)]
        exact hv
    · obtain ⟨e, he, hw, hs, hv2⟩ := h.slot t
      refine ⟨e, he, fun j q hq hl hd => ?_, hs.imp (fun h => h) (fun ⟨j, q, h1, h2, h3, h4⟩ => ⟨j, q, h1, h2, (LL_set hlt j).2 (.inr h3), h4⟩), ?_⟩
      · rw [LL_set hlt] at hl
        rcases hl with rfl | hl
        · rw [ho] at hq; cases hq; exact absurd hd ht
        · exact hw j q hq hl hd
      · rw [old t ht]
        exact hv2.mono (restr_le _ _ (Nat.le_refl _) hle)
  · have := h.size
    cases hd : o.dst <;> simpa [Act.put] using this
  · have := h.defers
    cases hd : o.dst <;> simpa [Act.put] using this

theorem wanted_names {φ : Inj} {o : Oper} {ss : Sl} {a : Act} {b : Bool} (hs : ∀ t ∈ namesOf ops o, VR φ ((ss.get t).getD undef) (a.tmps.getD t undef)) (h : wantedA ops o ss = some b) : Region.wanted o (yielded ops a.tmps) = b := by
  unfold wantedA at h
  unfold Region.wanted
  cases hg : o.guard with
  | none => rw [hg] at h; simp only [Option.some.injEq] at h ⊢; exact h
  | some jw =>
    obtain ⟨j, want⟩ := jw
    rw [hg] at h
    simp only at h ⊢
    unfold yielded
    cases hd : (ops[j]?).bind (·.dst) with
    | none => rw [hd] at h; cases h
    | some d =>
      rw [hd] at h
      simp only [Option.bind_some] at h ⊢
      have hv := hs d (by unfold namesOf; rw [hg]; simp [hd])
      split at h
      · rename_i c hc
        simp only [Option.some.injEq] at h
        rw [hc] at hv
        rw [getD_bool hv, ← h]
        cases c <;> cases want <;> rfl
      · rename_i vs hc
        simp only [Option.some.injEq] at h
        rw [hc] at hv
        rw [← h]
        have : ∀ c, a.tmps[d]? ≠ some (.bool c) := by
          intro c hcc
          rw [Array.getD_eq_getD_getElem?, hcc] at hv
          cases hv
        split
        · rename_i c hcc; exact absurd hcc (this c)
        · cases want <;> rfl
      · cases h

theorem eval_names {φ : Inj} {o : Oper} {ss : Sl} {a : Act} (hs : ∀ t ∈ namesOf ops o, VR φ ((ss.get t).getD undef) (a.tmps.getD t undef)) (hg : Glob P φ) (hx : o.op.operands.all (okx P) = true) :
    ∀ x ∈ o.op.operands, VR φ (evalA ss x) (a.eval x) := by
  intro x hm
  rw [Array.all_eq_true_iff_forall_mem] at hx
  have hx := hx x hm
  cases x with
  | tmp t =>
    refine hs t ?_
    unfold namesOf tmpsOf
    simp only [List.mem_append, List.mem_filterMap]
    exact .inl (.inr ⟨.tmp t, by simpa using hm, rfl⟩)
  | const v => exact flat_refl depth hx
  | global g =>
    have hlt : g < P.globals.size := blt_lt hx
    obtain ⟨l, h1, h2, h3⟩ := hg g hlt
    have := VR.ptr (φ := φ) g 0 l h1
    rw [h2, h3] at this
    exact this
  | func f => exact .func (.func f) #[] #[] #[] #[] rfl rfl (fun i x y hx => by simp at hx) (fun i x y hx => by simp at hx)

end
end Go.Abs
