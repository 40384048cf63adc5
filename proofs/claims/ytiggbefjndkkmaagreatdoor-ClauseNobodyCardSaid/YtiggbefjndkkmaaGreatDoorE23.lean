/- The engine, part 23 of 35: pieces of the interpreter and of its soundness. No condition. -/
import Derived.Test.YtiggbefjndkkmaaGreatDoorE22
namespace Go.Abs

variable {P : Program} {m : Nat}

theorem veq_eq : ∀ (n : Nat) {v u : Value}, veq n v u = true → v = u := by
  intro n
  induction n with
  | zero =>
    intro v u h
    unfold veq at h
    split at h <;> first | (cases h; done) | skip
    · simp at h; rw [h]
    · simp at h; rw [h.1, h.2]
    · rename_i a b; simp at h; exact congrArg _ (ByteArray.ext h)
    · simp only [Bool.and_eq_true, beq_iff_eq] at h
      rw [h.1.1, Nat.eq_of_beq_eq_true h.1.2, Nat.eq_of_beq_eq_true h.2]
    · simp at h; rw [h]
    · simp only [Bool.and_eq_true, beq_iff_eq] at h
      rw [h.1.1, Nat.eq_of_beq_eq_true h.1.2, Nat.eq_of_beq_eq_true h.2]
    · simp at h; rw [h]
    · rfl
    · rfl
    all_goals (rename_i hk; cases hk)
  | succ n ih =>
    have zz : ∀ (a b : Array Value), Nat.beq a.size b.size = true → ((a.toList.zip b.toList).all fun (x, y) => veq n x y) = true → a = b := by
      intro a b hs hall
      have hs := Nat.eq_of_beq_eq_true hs
      refine Array.ext hs fun i h1 h2 => ih ?_
      rw [List.all_eq_true] at hall
      have := hall (a[i], b[i]) (by
        rw [List.mem_iff_getElem?]
        exact ⟨i, by rw [List.getElem?_zip_eq_some]; simp [h1, h2]⟩)
      exact this
    intro v u h
    unfold veq at h
    split at h <;> first | (cases h; done) | skip
    · simp at h; rw [h]
    · simp at h; rw [h.1, h.2]
    · rename_i a b; simp at h; exact congrArg _ (ByteArray.ext h)
    · simp only [Bool.and_eq_true, beq_iff_eq] at h
      rw [h.1.1, Nat.eq_of_beq_eq_true h.1.2, Nat.eq_of_beq_eq_true h.2]
    · simp at h; rw [h]
    · simp only [Bool.and_eq_true, beq_iff_eq] at h
      rw [h.1.1, Nat.eq_of_beq_eq_true h.1.2, Nat.eq_of_beq_eq_true h.2]
    · simp at h; rw [h]
    · rfl
    · rfl
    · rename_i k t v' u' w' hk
      cases hk
      simp only [Bool.and_eq_true] at h
      rw [Nat.eq_of_beq_eq_true h.1, ih h.2]
    · rename_i k a b hk
      cases hk
      simp only [Bool.and_eq_true] at h
      rw [zz a b h.1 h.2]
    · rename_i k a b hk
      cases hk
      simp only [Bool.and_eq_true] at h
      rw [zz a b h.1 h.2]
    · rename_i k f a c g b d hk
      cases hk
      simp only [Bool.and_eq_true, beq_iff_eq] at h
      obtain ⟨⟨⟨⟨h1, h2⟩, h3⟩, h4⟩, h5⟩ := h
      rw [h1, zz a b h2 h3, zz c d h4 h5]

/-! ### Facts that are checked of a drawn region -/

theorem all_zipIdx {α : Type} {l : List α} {f : α × Nat → Bool} (h : l.zipIdx.all f = true) {i : Nat} {x : α} (hi : l[i]? = some x) : f (x, i) = true := by
  rw [List.all_eq_true] at h
  refine h (x, i) ?_
  rw [List.mem_iff_getElem?]
  exact ⟨i, by simp [List.getElem?_zipIdx, hi]⟩

theorem edgesOk_spec {ops : List Oper} (h : edgesOk ops = true) {i : Nat} {o : Oper} (hi : ops[i]? = some o) {e : Edge} (he : e ∈ o.after) (hb : Region.binds .any e = true) : e.on < i := by
  have := all_zipIdx h hi
  simp only at this
  rw [Array.all_eq_true_iff_forall_mem] at this
  have := this e he
  rw [hb] at this
  simp only [Bool.not_true, Bool.false_or] at this
  exact Nat.lt_of_lt_of_le (Nat.lt_succ_self _) (Nat.le_of_ble_eq_true this)

theorem closedOk_spec {ops : List Oper} {bs : List Nat} (h : closedOk ops bs = true) {i j : Nat} {o : Oper} (hi : ops[i]? = some o) (hj : j < i) (hp : pre bs i j = true) : ∃ e ∈ o.after, Region.binds .any e = true ∧ (e.on = j ∨ (j < e.on ∧ pre bs e.on j = true)) := by
  have := all_zipIdx h hi
  simp only [List.all_eq_true, List.mem_range] at this
  have := this j hj
  rw [hp] at this
  simp only [Bool.not_true, Bool.false_or, Array.any_eq_true'] at this
  obtain ⟨e, he, hh⟩ := this
  simp only [Bool.and_eq_true, Bool.or_eq_true] at hh
  refine ⟨e, he, hh.1, hh.2.imp (fun h => Nat.eq_of_beq_eq_true h) (fun h => ⟨Nat.lt_of_lt_of_le (Nat.lt_succ_self _) (Nat.le_of_ble_eq_true h.1), h.2⟩)⟩

theorem slotsOk_spec {ops : Array Oper} {bs : List Nat} (h : slotsOk ops bs = true) {i j : Nat} {o p : Oper} (hj : ops.toList[j]? = some o) (hi : ops.toList[i]? = some p) (hij : i < j) {t : Nat}
    (ht : (p.dst = some t ∧ t ∈ namesOf ops o) ∨ (o.dst = some t ∧ t ∈ namesOf ops p)) : pre bs j i = true := by
  have h1 := all_zipIdx h hj
  have h2 := all_zipIdx h1 hi
  simp only at h2
  have hb : Nat.blt i j = true := Nat.ble_eq_true_of_le hij
  rw [hb] at h2
  simp only [Bool.not_true, Bool.false_or, Bool.or_eq_true, Bool.not_eq_true'] at h2
  rcases h2 with h2 | h2
  · exact h2
  · exfalso
    simp only [Bool.or_eq_false_iff] at h2
    rcases ht with ⟨h3, h4⟩ | ⟨h3, h4⟩
    · have := h2.1
      rw [h3] at this
      simp at this
      exact this h4
    · have := h2.2
      rw [h3] at this
      simp at this
      exact this h4

theorem putAll_next : ∀ (l : List (Nat × Nat × Blk)) (H : AH), (putAll l H).next = H.next := by
  intro l
  induction l with
  | nil => intro H; rfl
  | cons a l ih => intro H; exact ih _

theorem putAll_out : ∀ (l : List (Nat × Nat × Blk)) (H : AH) (id : Nat), (∀ p ∈ l, p.2.1 ≠ id) → (putAll l H).get id = H.get id := by
  intro l
  induction l with
  | nil => intro H id _; rfl
  | cons a l ih =>
    intro H id h
    obtain ⟨i, id', b⟩ := a
    show (putAll l (H.put id' b)).get id = H.get id
    rw [ih _ _ (fun p hp => h p (by simp [hp])), AH.get_put_other _ _ (fun e => h (i, id', b) (by simp) e.symm)]

theorem putAll_in : ∀ (l : List (Nat × Nat × Blk)) (H : AH) (p : Nat × Nat × Blk), p ∈ l → (∀ q ∈ l, q.2.1 = p.2.1 → q = p) → (putAll l H).get p.2.1 = some p.2.2 := by
  intro l
  induction l with
  | nil => intro H p hp; cases hp
  | cons a l ih =>
    intro H p hp hu
    obtain ⟨i, id', b⟩ := a
    show (putAll l (H.put id' b)).get p.2.1 = some p.2.2
    by_cases hl : p ∈ l
    · exact ih _ p hl fun q hq => hu q (by simp [hq])
    · have hpa : p = (i, id', b) := by simpa [hl] using hp
      subst hpa
      rw [putAll_out _ _ _ (fun q hq e => hl (by have := hu q (by simp [hq]) e; subst this; exact hq)), AH.get_put_same]

/-! ### The plan -/

section plan
variable {ne : Nat} {ih : Ex} {n : Nat} {ops : Array Oper} {bs : List Nat}

inductive PCase (P : Program) (ne : Nat) (ih : Ex) (m n : Nat) (ops : Array Oper) (bs : List Nat) (i : Nat) (o : Oper) (d d' : DSt) : Prop
  | pass (hw : wantedA ops o d.ss = some false) (hp : putA n d.ss o.dst undef = some d'.ss) (hc : d'.cnt = d.cnt) (hG : d'.G = d.G) (hpe : d'.pend = d.pend) (ha : d'.acts = d.acts) (hgs : d'.gs = d.gs)
      (hpl : d'.pls = ⟨.pass, d.ss, d.cnt, undef, d.cnt⟩ :: d.pls)
  | quiet (v : Value) (hw : wantedA ops o d.ss = some true) (hx : o.op.operands.all (okx P) = true) (hq : quiet o = true) (hp : putA n d.ss o.dst v = some d'.ss) (hc : d'.cnt = d.cnt) (hG : d'.G = d.G) (hpe : d'.pend = d.pend) (ha : d'.acts = d.acts) (hgs : d'.gs = d.gs)
      (hpl : d'.pls = ⟨.quiet, d.ss, d.cnt, v, d.cnt⟩ :: d.pls)
  | new (v : Value) (H : AH) (b : Blk) (hw : wantedA ops o d.ss = some true) (hx : o.op.operands.all (okx P) = true) (hr : aOp P m o (evalA d.ss) ⟨d.cnt, .nil⟩ = some (v, H)) (hb : H.get d.cnt = some b) (hn : H.next = d.cnt + 1)
      (hm : makes o = true) (hp : putA n d.ss o.dst v = some d'.ss) (hc : d'.cnt = d.cnt + 1) (hG : d'.G = d.G) (hpe : d'.pend = (i, d.cnt, b) :: d.pend) (ha : d'.acts = d.acts) (hgs : d'.gs = d.gs)
      (hpl : d'.pls = ⟨.new b, d.ss, d.cnt, v, d.cnt + 1⟩ :: d.pls)
  | act (v : Value) (hw : wantedA ops o d.ss = some true) (hx : o.op.operands.all (okx P) = true) (hch : d.acts.all (pre bs i) = true)
      (hr : runOp P ne ih m o (evalA d.ss) (putAll (d.pend.filter fun p => pre bs i p.1) { d.G with next := d.cnt }) = some (v, d'.G)) (hle : d.cnt ≤ d'.G.next)
      (hp : putA n d.ss o.dst v = some d'.ss) (hc : d'.cnt = d'.G.next) (hpe : d'.pend = d.pend.filter fun p => !pre bs i p.1) (ha : d'.acts = i :: d.acts) (hgs : d'.gs = d'.G :: d.gs)
      (hpl : d'.pls = ⟨.act, d.ss, d.cnt, v, d'.G.next⟩ :: d.pls)

theorem planOp_case {i : Nat} {o : Oper} {d d' : DSt} (h : planOp P ne ih m n ops bs i o d = some d') : PCase P ne ih m n ops bs i o d d' := by
  unfold planOp at h
  split at h
  · rename_i hw
    split at h
    · rename_i ss hp
      simp only [Option.some.injEq] at h
      subst h
      exact .pass hw hp rfl rfl rfl rfl rfl rfl
    · cases h
  · rename_i hw
    cases hx : o.op.operands.all (okx P) with
    | false => rw [hx] at h; cases h
    | true =>
      rw [hx] at h
      simp only [cond_true] at h
      cases hq : quiet o with
      | true =>
        rw [hq] at h
        simp only [cond_true] at h
        split at h
        · rename_i v _ _
          split at h
          · rename_i ss hp
            simp only [Option.some.injEq] at h
            subst h
            exact .quiet v hw hx hq hp rfl rfl rfl rfl rfl rfl
          · cases h
        · cases h
      | false =>
        rw [hq] at h
        simp only [cond_false] at h
        cases hm : makes o with
        | true =>
          rw [hm] at h
          simp only [cond_true] at h
          split at h
          · rename_i v H hr
            split at h
            · rename_i b hb
              cases hn : Nat.beq H.next (d.cnt + 1) with
              | false => rw [hn] at h; cases h
              | true =>
                rw [hn] at h
                simp only [cond_true] at h
                split at h
                · rename_i ss hp
                  simp only [Option.some.injEq] at h
                  subst h
                  exact .new v H b hw hx hr hb (Nat.eq_of_beq_eq_true hn) hm hp rfl rfl rfl rfl rfl rfl
                · cases h
            · cases h
          · cases h
        | false =>
          rw [hm] at h
          simp only [cond_false] at h
          cases hch : d.acts.all (pre bs i) with
          | false => rw [hch] at h; cases h
          | true =>
            rw [hch] at h
            simp only [cond_true] at h
            split at h
            · rename_i v G hr
              cases hG : Nat.ble d.cnt G.next with
              | false => rw [hG] at h; cases h
              | true =>
                rw [hG] at h
                simp only [cond_true] at h
                split at h
                · rename_i ss hp
                  simp only [Option.some.injEq] at h
                  subst h
                  exact .act v hw hx hch hr (Nat.le_of_ble_eq_true hG) hp rfl rfl rfl rfl rfl
                · cases h
            · cases h
  · cases h

theorem planOps_seq : ∀ (l : List Oper) (i : Nat) (d d' : DSt), planOps P ne ih m n ops bs i l d = some d' →
    ∃ D : Nat → DSt, D i = d ∧ D (i + l.length) = d' ∧ ∀ j o, l[j]? = some o → PCase P ne ih m n ops bs (i + j) o (D (i + j)) (D (i + j + 1)) := by
  intro l
  induction l with
  | nil =>
    intro i d d' h
    simp only [planOps, Option.some.injEq] at h
    subst h
    exact ⟨fun _ => d, rfl, rfl, fun j o hj => by simp at hj⟩
  | cons o l ihl =>
    intro i d d' h
    simp only [planOps] at h
    cases hp : planOp P ne ih m n ops bs i o d with
    | none => rw [hp] at h; cases h
    | some d1 =>
      rw [hp] at h
      obtain ⟨D, h1, h2, h3⟩ := ihl (i + 1) d1 d' h
      refine ⟨fun k => if k = i then d else D k, by simp, ?_, ?_⟩
      · show (if i + (o :: l).length = i then d else D (i + (o :: l).length)) = d'
        rw [if_neg (by simp)]
        rw [← h2]; congr 1; simp; omega
      · intro j o' hj
        cases j with
        | zero =>
          simp only [List.getElem?_cons_zero, Option.some.injEq] at hj
          subst hj
          show PCase P ne ih m n ops bs i o (if i = i then d else D i) (if i + 1 = i then d else D (i + 1))
          rw [if_pos rfl, if_neg (by omega), h1]
          exact planOp_case hp
        | succ j =>
          have := h3 j o' (by simpa using hj)
          show PCase P ne ih m n ops bs (i + (j + 1)) o' (if i + (j + 1) = i then d else D (i + (j + 1))) (if i + (j + 1) + 1 = i then d else D (i + (j + 1) + 1))
          rw [if_neg (by omega), if_neg (by omega)]
          have e : i + 1 + j = i + (j + 1) := by omega
          rw [e] at this
          exact this

end plan

end Go.Abs
