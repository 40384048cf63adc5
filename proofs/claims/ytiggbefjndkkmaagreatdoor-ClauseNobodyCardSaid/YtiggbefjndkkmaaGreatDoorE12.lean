/- The engine, part 12 of 35: pieces of the interpreter and of its soundness. No condition. -/
import Derived.Test.YtiggbefjndkkmaaGreatDoorE11
namespace Go.Abs

variable {P : Program} {m : Nat}

theorem Inv.drew {φ : Inj} {H : AH} {w : World} (h : Inv φ H w) : Inv φ H w.drew := ⟨h.dom, h.obj, h.sep⟩

theorem Step.drew {φ : Inj} (H : AH) (w : World) : Step m φ H w φ H w.drew := ⟨Nat.le_refl _, Inj.le_refl _, fun id l h h' => (by rw [h] at h'; cases h'), fun _ h => .inl h, Nat.le_refl _, fun _ _ _ => rfl, rfl, rfl, rfl⟩

theorem Inv.kill {φ : Inj} {H : AH} {w : World} {id : Nat} {b : Blk} {l : Loc} (hi : Inv φ H w) (hb : H.get id = some b) (hro : b.ro = false) (hal : alive b = true) (hl : φ id = some l) : Inv φ (H.put id dead) w :=
  hi.put hb hro hal hl rfl (fun _ _ => rfl) trivial

theorem Step.kill {φ : Inj} {H : AH} {w : World} {id : Nat} {b : Blk} {l : Loc} (hm : m ≤ id) (hb : H.get id = some b) (hl : φ id = some l) : Step m φ H w φ (H.put id dead) w :=
  Step.put hm hb hl rfl (fun _ _ => rfl) rfl rfl rfl

/-- The same memory under a new number; the old one is given up. -/
theorem Inv.reuse {φ : Inj} {H : AH} {w w' : World} {id : Nat} {b nb : Blk} {l l' : Loc} (hi : Inv φ H w) (hb : H.get id = some b) (hro : b.ro = false) (hal : alive b = true) (hl : φ id = some l) (hl' : l'.blk = l.blk)
    (hsz : w'.heap.size = w.heap.size) (hoth : ∀ c, c ≠ l.blk → w'.heap[c]? = w.heap[c]?) (hor : OR (φ.upd H.next l') l' nb w') : Inv (φ.upd H.next l') ((H.put id dead).push nb) w' := by
  have hf := hi.fresh
  have hle := Inj.le_upd l' hf
  have hid : id ≠ H.next := by have := hi.get_lt hb; omega
  have hi1 : Inv φ (H.put id dead) w' := hi.put hb hro hal hl hsz hoth trivial
  refine ⟨fun i k h => ?_, ?_, ?_⟩
  · by_cases e : i = H.next
    · subst e; rw [Inj.upd_same] at h; cases h
      have := (hi.dom id l hl).2
      simp only [AH.next_push, AH.next_put]; omega
    · rw [Inj.upd_other _ _ e] at h
      have := hi1.dom i k h
      simp only [AH.next_push, AH.next_put] at this ⊢; omega
  · intro i k h
    by_cases e : i = H.next
    · subst e
      have : ((H.put id dead).push nb).get H.next = some nb := AH.get_push_same (H.put id dead) nb
      rw [this] at h; cases h
      exact ⟨l', Inj.upd_same _ _ _, hor⟩
    · rw [AH.get_push_other (H.put id dead) nb (j := i) e] at h
      obtain ⟨l1, h1, h2⟩ := hi1.obj i k h
      exact ⟨l1, hle _ _ h1, h2.mono hle⟩
  · intro i j k k' l1 l2 h h' hne hr ha ha' hl1 hl2
    by_cases e : i = H.next
    · subst e
      rw [AH.get_push_other (H.put id dead) nb (j := j) (fun hh => hne hh.symm)] at h'
      rw [Inj.upd_same] at hl1; cases hl1
      rw [Inj.upd_other _ _ (fun hh => hne hh.symm)] at hl2
      by_cases ej : j = id
      · subst ej; rw [AH.get_put_same] at h'; cases h'; cases ha'
      · rw [AH.get_put_other _ _ ej] at h'
        rw [hl']
        exact hi.sep id j b k' l l2 hb h' (fun hh => ej hh.symm) hro hal ha' hl hl2
    · rw [AH.get_push_other (H.put id dead) nb (j := i) e] at h
      rw [Inj.upd_other _ _ e] at hl1
      by_cases e' : j = H.next
      · subst e'
        rw [Inj.upd_same] at hl2; cases hl2
        by_cases ei : i = id
        · subst ei; rw [AH.get_put_same] at h; cases h; cases ha
        · rw [AH.get_put_other _ _ ei] at h
          rw [hl']
          exact hi.sep i id k b l1 l h hb ei hr ha hal hl1 hl
      · rw [AH.get_push_other (H.put id dead) nb (j := j) e'] at h'
        rw [Inj.upd_other _ _ e'] at hl2
        exact hi1.sep i j k k' l1 l2 h h' hne hr ha ha' hl1 hl2

theorem Step.reuse {φ : Inj} {H : AH} {w w' : World} {id : Nat} {b nb : Blk} {l l' : Loc} (hi : Inv φ H w) (hm : m ≤ id) (hb : H.get id = some b) (hl : φ id = some l) (hl' : l'.blk = l.blk)
    (hsz : w'.heap.size = w.heap.size) (hoth : ∀ c, c ≠ l.blk → w'.heap[c]? = w.heap[c]?) (ho : w'.os = w.os) (ht : w'.tape = w.tape) (hp : w'.output = w.output) :
    Step m φ H w (φ.upd H.next l') ((H.put id dead).push nb) w' := by
  refine ⟨by simp, Inj.le_upd l' hi.fresh, ?_, ?_, Nat.le_of_eq hsz.symm, ?_, ho, ht, hp⟩
  · intro i k h h'
    by_cases e : i = H.next
    · subst e; rw [Inj.upd_same] at h; cases h
      exact ⟨Nat.le_refl _, .inr ⟨id, l, hm, by rw [hb]; rfl, hl, hl'.symm⟩⟩
    · rw [Inj.upd_other _ _ e, h'] at h; cases h
  · intro i h
    by_cases e : i = H.next
    · subst e; exact .inr hi.fresh
    · rw [AH.get_push_other (H.put id dead) nb (j := i) e] at h
      by_cases ei : i = id
      · subst ei; exact .inl (by rw [hb]; rfl)
      · rw [AH.get_put_other _ _ ei] at h; exact .inl h
  · intro c hc hno
    exact hoth c fun e => hno id l hm (by rw [hb]; rfl) hl e.symm

/-- Cells stored one behind the other. -/
theorem setCells_heap (b : Nat) : ∀ (vs : List Value) (o : Nat) (w : World) (c : Array Value) (e : TypeId) (f : Nat × Nat), w.heap[b]? = some (.cells c e f) →
    ∃ c2, (w.setCells b o vs).heap[b]? = some (.cells c2 e f) ∧ c2.size = c.size ∧ (∀ i, (i < o ∨ o + vs.length ≤ i) → c2[i]? = c[i]?) ∧ ∀ j v, vs[j]? = some v → o + j < c.size → c2[o + j]? = some v := by
  intro vs
  induction vs with
  | nil => intro o w c e f h; exact ⟨c, h, rfl, fun _ _ => rfl, fun j v hv => by simp at hv⟩
  | cons v vs ih =>
    intro o w c e f h
    have h1 := heap_setCell_same (w := w) (a := ⟨b, o, none⟩) (v := v) h rfl
    obtain ⟨c2, g1, g2, g3, g4⟩ := ih (o + 1) (w.setCell ⟨b, o, none⟩ v) _ e f h1
    refine ⟨c2, g1, by simpa using g2, ?_, ?_⟩
    · intro i hi
      rw [g3 i (by simp only [List.length_cons] at hi; omega)]
      rw [Array.getElem?_setIfInBounds, if_neg (by simp only [List.length_cons] at hi; show ¬ o = i; omega)]
    · intro j u hu hj
      cases j with
      | zero =>
        simp only [List.getElem?_cons_zero, Option.some.injEq] at hu
        subst hu
        rw [g3 (o + 0) (by omega)]
        simp only [Nat.add_zero] at hj ⊢
        rw [Array.getElem?_setIfInBounds, if_pos rfl, if_pos hj]
      | succ j =>
        have := g4 j u (by simpa using hu) (by simp; omega)
        rw [show o + (j + 1) = o + 1 + j by omega]; exact this

theorem setCells_other (b : Nat) : ∀ (vs : List Value) (o : Nat) (w : World) (k : Nat), k ≠ b → (w.setCells b o vs).heap[k]? = w.heap[k]? := by
  intro vs
  induction vs with
  | nil => intro o w k h; rfl
  | cons v vs ih => intro o w k h; rw [World.setCells, ih _ _ _ h]; exact heap_setCell_other h

theorem setCells_size (b : Nat) : ∀ (vs : List Value) (o : Nat) (w : World), (w.setCells b o vs).heap.size = w.heap.size := by
  intro vs
  induction vs with
  | nil => intro o w; rfl
  | cons v vs ih => intro o w; rw [World.setCells, ih]; simp

theorem setCells_rest (b : Nat) : ∀ (vs : List Value) (o : Nat) (w : World), (w.setCells b o vs).os = w.os ∧ (w.setCells b o vs).tape = w.tape ∧ (w.setCells b o vs).output = w.output := by
  intro vs
  induction vs with
  | nil => intro o w; exact ⟨rfl, rfl, rfl⟩
  | cons v vs ih => intro o w; exact ih (o + 1) (w.setCell ⟨b, o, none⟩ v)

theorem wr_run {φ : Inj} : ∀ (l l' : List Value) (i : Nat) {H H' : AH} {w : World} {a a' : Addr}, Inv φ H w → AddrR φ a a' → LR φ l l' → wrCells m a i l H = some H' →
    ∃ w', (storeCells a' l' i).run P w = .ok () w' ∧ Inv φ H' w' ∧ Step m φ H w φ H' w' := by
  intro l
  induction l with
  | nil =>
    intro l' i H H' w a a' hi ha hl h
    cases hl
    simp only [wrCells, Option.some.injEq] at h
    subst h
    exact ⟨w, rfl, hi, Step.refl _ _ _ _⟩
  | cons v l ih =>
    intro l' i H H' w a a' hi ha hl h
    cases hl with
    | cons hv ht =>
      simp only [wrCells] at h
      cases ho : one v with
      | false => rw [ho] at h; cases h
      | true =>
        rw [ho] at h
        simp only [cond_true] at h
        cases hs : H.setCell m (a.add i) v with
        | none => rw [hs] at h; cases h
        | some H1 =>
          rw [hs] at h
          simp only at h
          obtain ⟨r1, r2, r3⟩ := sim_setCell (P := P) hi (ha.add i) hv ho hs .plain
          obtain ⟨w2, s1, s2, s3⟩ := ih _ (i + 1) r2 ha ht h
          refine ⟨w2, ?_, s2, r3.trans hi s3⟩
          simp only [storeCells, Sem.run_bind]
          rw [r1]; exact s1

theorem aAppend_grown {φ : Inj} {H H0 H' : AH} {w : World} {t tx ty e : TypeId} {i : TypeInfo} {z v : Value} (hi0 : Inv φ H0 w) (hi1 : Inv φ H w) (hst : Step m φ H0 w φ H w) (ht : P.underlying t = some (.slice e)) (hi : P.info? e = some i) (hz : i.zero = some z)
    (hzs : z.cells.size = i.size) (hs0 : i.size ≠ 0) (base' : Option Addr) (n cap' : Nat) (old old' : List Value) (hold : LR φ old old')
    (hl : old.length = n * i.size) (hr : (Builtin.firstCells i.size n (.slice base' n cap')).run P w.drew = .ok old'.toArray w.drew) {x' : Value} {k : Nat} {new new' : List Value} (hs : ASrc P i tx x' k new' w) (hnew : LR φ new new')
    (hk : k ≠ 0) (hg : cap' < n + k) (h : grown H e i.size i.bytes (n + k) (old ++ new) = some (v, H')) :
    OpOK P m φ H0 w v H' (do pure (.value (← Builtin.append_ #[t, tx] ty #[.slice base' n cap', x']))) := by
  unfold grown at h
  cases hb : (Nat.ble ((2 * (n + k) + 1000) * i.bytes) 281474976710656 && Nat.ble (n + k) 281474976710656) with
  | false => rw [hb] at h; cases h
  | true =>
    rw [hb] at h
    simp only [cond_true, Option.some.injEq, Prod.mk.injEq] at h
    obtain ⟨rfl, rfl⟩ := h
    simp only [Bool.and_eq_true] at hb
    have hb1 := Nat.le_of_ble_eq_true hb.1
    have hb2 := Nat.le_of_ble_eq_true hb.2
    have hks : k * i.size ≠ 0 := Nat.mul_ne_zero hk hs0
    have hfit : Builtin.nextslicecap (n + k) cap' * i.bytes ≤ 281474976710656 := by
      have h1 : Builtin.nextslicecap (n + k) cap' * i.bytes ≤ (2 * (n + k) + 1000) * i.bytes := Nat.mul_le_mul_right _ (by have := nextslicecap_le hg; omega)
      omega
    have hrun := run_append_grow (ty := ty) ht hi hz base' n cap' old' hr hs hks hg (by omega) hfit
    generalize hcap : grownCap w (n + k) cap' e = nc at hrun
    have hge : n + k ≤ nc := by rw [← hcap]; exact grownCap_ge w _ _ _
    generalize harr : (old' ++ new').toArray ++ Builtin.zeroCells z.cells (nc - (n + k)) = arr at hrun
    have hlen : old'.length + new'.length = (n + k) * i.size := by
      rw [← LR.length hold, hl, hs.len, Nat.add_mul]
    have hsize : arr.size = nc * i.size := by
      have := zeroCells_length z.cells (nc - (n + k))
      rw [Array.length_toList] at this
      rw [← harr, Array.size_append, this, hzs]
      simp only [List.size_toArray, List.length_append]
      rw [hlen, ← Nat.add_mul]
      congr 1; omega
    let l : Loc := ⟨w.heap.size, 0, arr.size, i.size⟩
    have hi2 := hi1.drew
    have hle := Inj.le_upd l hi2.fresh
    have hlr : LR φ (old ++ new) (old' ++ new') := F2.append hold hnew
    have hinv : Inv (φ.upd H.next l) (H.push { obj := .cells (old ++ new).toArray e (0, 0), opn := true, esz := i.size, ro := false }) (w.drew.alloc (.cells arr e)) := by
      refine hi2.push rfl ⟨arr, e, (0, 0), heap_alloc_new _ _, ?_⟩
      refine ⟨fun j u hu => ?_, Nat.le_refl _, fun _ => rfl, fun h => (by cases h), fun _ => .inl (Nat.le_refl _), rfl⟩
      rw [List.getElem?_toArray] at hu
      rcases hlr.get j with ⟨a1, _⟩ | ⟨p, q, a1, a2, a3⟩
      · rw [a1] at hu; cases hu
      · rw [a1] at hu; cases hu
        refine ⟨q, ?_, a3.mono hle⟩
        show arr[0 + j]? = some q
        rw [Nat.zero_add, ← harr, Array.getElem?_append, if_pos, List.getElem?_toArray, a2]
        rw [List.getElem?_eq_some_iff] at a2
        simpa using a2.1
    refine opOK_value hrun hinv (hst.trans hi0 ((Step.drew H w).trans hi1 (Step.push hi2 rfl))) ?_
    have := VR.sliceOpen (φ := φ.upd H.next l) H.next 0 (n + k) nc l (Inj.upd_same _ _ _) hge (by show 0 + 0 + nc * i.size ≤ arr.size; omega)
    exact this

theorem firstCells_slice {φ : Inj} {H : AH} {w : World} (hi : Inv φ H w) {a : Addr} {n size : Nat} {old : List Value} (h : rdCells H a 0 (n * size) = some old) {cap cap' : Nat} {base' : Option Addr}
    (hx : VR φ (.slice (some a) n cap) (.slice base' n cap')) : ∃ old', LR φ old old' ∧ old.length = n * size ∧ (Builtin.firstCells size n (.slice base' n cap')).run P w = .ok old'.toArray w := by
  have go : ∀ a', AddrR φ a a' → base' = some a' → ∃ old', LR φ old old' ∧ old.length = n * size ∧ (Builtin.firstCells size n (.slice base' n cap')).run P w = .ok old'.toArray w := by
    intro a' ha hb
    obtain ⟨hl, l', hr1, hr2⟩ := rd_run hi ha _ 0 old h
    refine ⟨l', hr1, hl, ?_⟩
    rw [hb]
    exact run_firstCells_some w size n a' n cap' l' (by rw [← LR.length hr1, hl]) (fun j u hu => by have := hr2 j u hu; rwa [Nat.zero_add] at this)
  have nul : ∀ a', n = 0 → base' = some a' → ∃ old', LR φ old old' ∧ old.length = n * size ∧ (Builtin.firstCells size n (.slice base' n cap')).run P w = .ok old'.toArray w := by
    intro a' hn hb
    subst hn
    simp only [Nat.zero_mul, rdCells, Option.some.injEq] at h
    subst h
    refine ⟨[], .nil, by simp, ?_⟩
    rw [hb]
    exact run_firstCells_some w size 0 a' 0 cap' [] (by simp) (fun j u hu => by simp at hu)
  cases hx with
  | slice b o n c l1 hl hc => exact go _ ⟨rfl, l1, hl, rfl⟩ rfl
  | sliceOpen b o n c l1 hl hn hc => exact go _ ⟨rfl, l1, hl, rfl⟩ rfl
  | sliceEnd b o l1 a hl => exact nul a rfl rfl
  | sliceZero b o l1 a hl => exact nul a rfl rfl

theorem slice_inv {φ : Inj} {b : Option Addr} {n c : Nat} {x' : Value} (h : VR φ (.slice b n c) x') : ∃ b' c', x' = .slice b' n c' := by
  cases h <;> exact ⟨_, _, rfl⟩

/-- In place, where there was room that nobody knew of. -/
theorem aAppend_room {φ : Inj} {H H' : AH} {w : World} {t tx ty e : TypeId} {i : TypeInfo} {v : Value} (hi0 : Inv φ H w) (ht : P.underlying t = some (.slice e)) (hi : P.info? e = some i) (hs0 : i.size ≠ 0)
    {b o n cap' : Nat} {l : Loc} (hl : φ b = some l) (hn : n ≤ cap') (hc : l.off + o + cap' * l.esz ≤ l.fin) {c : Array Value} {f : Nat × Nat} (hg : H.get b = some { obj := .cells c e f, opn := true, esz := i.size, ro := false }) (hm : m ≤ b)
    {old : List Value} (hold : rdCells H ⟨b, o, none⟩ 0 (n * i.size) = some old) {x' : Value} {k : Nat} {new new' : List Value} (hs : ASrc P i tx x' k new' w) (hnew : LR φ new new') (hone : new.all one = true)
    (hk : k ≠ 0) (hroom : n + k ≤ cap') (h : grown (H.put b dead) e i.size i.bytes (n + k) (old ++ new) = some (v, H')) :
    OpOK P m φ H w v H' (do pure (.value (← Builtin.append_ #[t, tx] ty #[.slice (some ⟨l.blk, l.off + o, none⟩) n cap', x']))) := by
  unfold grown at h
  cases hb : (Nat.ble ((2 * (n + k) + 1000) * i.bytes) 281474976710656 && Nat.ble (n + k) 281474976710656) with
  | false => rw [hb] at h; cases h
  | true =>
    rw [hb] at h
    simp only [cond_true, Option.some.injEq, Prod.mk.injEq] at h
    obtain ⟨rfl, rfl⟩ := h
    have hks : k * i.size ≠ 0 := Nat.mul_ne_zero hk hs0
    obtain ⟨l1, c', f', g1, g2, g3⟩ := hi0.cells hg rfl
    rw [hl] at g1; cases g1
    have hesz : l.esz = i.size := g3.esz rfl
    have hfin := g3.fin
    have hown := g3.own rfl
    obtain ⟨hlen, old', hr1, hr2⟩ := rd_run hi0 (a := ⟨b, o, none⟩) (a' := ⟨l.blk, l.off + o, none⟩) ⟨rfl, l, hl, rfl⟩ _ 0 old hold
    have hnl := hs.len
    have hmul : (n + k) * i.size ≤ cap' * i.size := Nat.mul_le_mul_right _ hroom
    rw [Nat.add_mul] at hmul
    rw [hesz] at hc
    have hin : ∀ j, j < new'.length → l.off + o + n * i.size + j < c'.size := by intro j hj; omega
    have hcell : ∀ j, j < new'.length → (w.cell? ⟨l.blk, l.off + o + n * i.size + j, none⟩).isSome = true := by
      intro j hj
      simp only [World.cell?, g2, Option.isSome_none, Bool.false_eq_true, if_false]
      rw [Array.getElem?_eq_getElem (hin j hj)]; rfl
    have hfz : ∀ j, j < new'.length → w.frozen? ⟨l.blk, l.off + o + n * i.size + j, none⟩ = false := by
      intro j hj
      have := hin j hj
      obtain ⟨p, q⟩ := f'
      simp only [World.frozen?, g2]
      simp only at hown
      rw [Bool.eq_false_iff]; simp only [ne_eq, Bool.and_eq_true, decide_eq_true_eq]; omega
    have hst := run_storeCells_cells (P := P) l.blk (l.off + o + n * i.size) new' 0 w (by simpa using hcell) (by simpa using hfz) (lr_one hnew hone)
    simp only [Nat.add_zero] at hst
    have hrun := run_append_room_st (ty := ty) ht hi ⟨l.blk, l.off + o, none⟩ n cap' hs hks hroom (w' := w.setCells l.blk (l.off + o + n * i.size) new') (by rw [Addr.add_lit]; exact hst)
    obtain ⟨c2, q1, q2, q3, q4⟩ := setCells_heap l.blk new' (l.off + o + n * i.size) w c' e f' g2
    let l' : Loc := ⟨l.blk, l.off + o, l.fin, l.esz⟩
    have hle := Inj.le_upd l' hi0.fresh
    have hrest := setCells_rest l.blk new' (l.off + o + n * i.size) w
    have hlr : LR φ (old ++ new) (old' ++ new') := F2.append hr1 hnew
    have hol : old'.length = n * i.size := by rw [← LR.length hr1, hlen]
    have hinv : Inv (φ.upd H.next l') ((H.put b dead).push { obj := .cells (old ++ new).toArray e (0, 0), opn := true, esz := i.size, ro := false }) (w.setCells l.blk (l.off + o + n * i.size) new') := by
      refine hi0.reuse hg rfl rfl hl rfl (setCells_size _ _ _ _) (fun cc hcc => setCells_other _ _ _ _ _ hcc) ⟨c2, e, f', q1, ?_⟩
      refine ⟨fun j u hu => ?_, by rw [q2]; exact hfin, fun _ => hesz, fun h => (by cases h), fun _ => by rw [q2]; exact hown, rfl⟩
      rw [List.getElem?_toArray] at hu
      rcases hlr.get j with ⟨a1, _⟩ | ⟨p, q, a1, a2, a3⟩
      · rw [a1] at hu; cases hu
      · rw [a1] at hu; cases hu
        refine ⟨q, ?_, a3.mono hle⟩
        show c2[l.off + o + j]? = some q
        rw [List.getElem?_append] at a2
        split at a2
        · rename_i hj
          rw [q3 _ (by omega)]
          have := hr2 j q a2
          rw [Nat.zero_add, Addr.add_lit] at this
          simpa [World.cell?, g2] using this
        · rename_i hj
          have hj2 : j - old'.length < new'.length := by
            rw [List.getElem?_eq_some_iff] at a2; exact a2.1
          have := q4 (j - old'.length) q a2 (hin _ hj2)
          rw [show l.off + o + j = l.off + o + n * i.size + (j - old'.length) by omega]
          exact this
    refine opOK_value hrun hinv (Step.reuse hi0 hm hg hl rfl (setCells_size _ _ _ _) (fun cc hcc => setCells_other _ _ _ _ _ hcc) hrest.1 hrest.2.1 hrest.2.2) ?_
    have := VR.sliceOpen (φ := φ.upd H.next l') H.next 0 (n + k) cap' l' (Inj.upd_same _ _ _) hroom (by show l.off + o + 0 + cap' * l.esz ≤ l.fin; rw [hesz]; omega)
    exact this

theorem list_two {α : Type} {a : Array α} {x y : α} (h : a.toList = [x, y]) : a = #[x, y] := by
  apply Array.ext'; simpa using h

theorem aAppend_ok {φ : Inj} {H H' : AH} {w : World} {ts : Array TypeId} {ty : TypeId} {args args' : Array Value} {v : Value} (hi0 : Inv φ H w) (h : aAppend P m ts args H = some (v, H')) (ha : AR φ args args') :
    OpOK P m φ H w v H' (do pure (.value (← Builtin.append_ ts ty args'))) := by
  unfold aAppend at h
  split at h
  · rename_i st xt base n cap x hts hargs
    have e1 := list_two hts
    have e2 := list_two hargs
    subst e1 e2
    have hlr := AR_iff.1 ha
    obtain ⟨s', x', rfl, hsv, hxv⟩ : ∃ s' x', args' = #[s', x'] ∧ VR φ (.slice base n cap) s' ∧ VR φ x x' := by
      generalize hq : args'.toList = q at hlr
      cases hlr with
      | cons h1 t1 => cases t1 with
        | cons h2 t2 => cases t2; exact ⟨_, _, list_two hq, h1, h2⟩
    cases hst : P.underlying st with
    | none => rw [hst] at h; cases h
    | some d =>
      rw [hst] at h
      cases d with
      | slice e =>
        simp only at h
        cases hii : P.info? e with
        | none => rw [hii] at h; cases h
        | some i =>
          rw [hii] at h
          simp only at h
          cases hsr : aSrc P xt e i x H with
          | none => rw [hsr] at h; cases h
          | some kn =>
            obtain ⟨k, new⟩ := kn
            rw [hsr] at h
            simp only at h
            obtain ⟨new', hnew, hsrc⟩ := aSrc_ok hi0 hsr hxv hii
            cases hz0 : (Nat.beq i.size 0 || !zsize i) with
            | true => rw [hz0] at h; cases h
            | false =>
              rw [hz0] at h
              simp only [cond_false] at h
              simp only [Bool.or_eq_false_iff, Bool.not_eq_false'] at hz0
              have hs0 : i.size ≠ 0 := Nat.ne_of_beq_eq_false hz0.1
              obtain ⟨z, hz, hzs⟩ : ∃ z, i.zero = some z ∧ z.cells.size = i.size := by
                have := hz0.2
                unfold zsize at this
                cases hzz : i.zero with
                | none => rw [hzz] at this; cases this
                | some z => rw [hzz] at this; exact ⟨z, rfl, Nat.eq_of_beq_eq_true this⟩
              cases hk0 : Nat.beq k 0 with
              | true =>
                rw [hk0] at h
                have hk := Nat.eq_of_beq_eq_true hk0
                subst hk
                simp only [cond_true] at h
                cases hnc : Nat.ble n cap with
                | false => rw [hnc] at h; cases h
                | true =>
                  rw [hnc] at h
                  simp only [cond_true, Option.some.injEq, Prod.mk.injEq] at h
                  obtain ⟨rfl, rfl⟩ := h
                  have hnl : new' = [] := by
                    have := hsrc.len
                    rw [Nat.zero_mul] at this
                    exact List.eq_nil_of_length_eq_zero this
                  subst hnl
                  obtain ⟨b', c', rfl⟩ := slice_inv hsv
                  have hle : n ≤ c' := by
                    cases hsv with
                    | sliceNil n c => exact Nat.le_of_ble_eq_true hnc
                    | slice b o n c l1 hl hc => exact Nat.le_of_ble_eq_true hnc
                    | sliceOpen b o n c l1 hl hn hc => exact hn
                    | sliceEnd b o l1 a hl => exact Nat.le_refl _
                    | sliceZero b o l1 a hl => exact Nat.le_refl _
                  exact opOK_value (run_append0 hst hii b' n c' hle hsrc) hi0 (Step.refl _ _ _ _) hsv
              | false =>
                rw [hk0] at h
                have hk : k ≠ 0 := Nat.ne_of_beq_eq_false hk0
                simp only [cond_false] at h
                cases base with
                | none =>
                  simp only at h
                  cases hnc : (Nat.beq n 0 && Nat.beq cap 0) with
                  | false => rw [hnc] at h; cases h
                  | true =>
                    rw [hnc] at h
                    simp only [Bool.and_eq_true] at hnc
                    have hn0 := Nat.eq_of_beq_eq_true hnc.1
                    have hc0 := Nat.eq_of_beq_eq_true hnc.2
                    subst hn0 hc0
                    simp only [cond_true] at h
                    cases hsv
                    refine aAppend_grown (old := []) (old' := []) hi0 hi0 (Step.refl _ _ _ _) hst hii hz hzs hs0 none 0 0 .nil (by simp) (run_firstCells_none _ _ _ _ _) hsrc hnew hk (by omega) ?_
                    rw [Nat.zero_add]; exact h
                | some a =>
                  simp only at h
                  cases hrd : rdCells H a 0 (n * i.size) with
                  | none => rw [hrd] at h; cases h
                  | some old =>
                    rw [hrd] at h
                    simp only at h
                    obtain ⟨b', c', rfl⟩ := slice_inv hsv
                    cases hop : Nat.beq cap OPEN with
                    | true =>
                      rw [hop] at h
                      have hcap := Nat.eq_of_beq_eq_true hop
                      subst hcap
                      simp only [cond_true] at h
                      split at h
                      · rename_i c e' f esz hg
                        cases hq : (Nat.ble m a.block && Nat.beq esz i.size && Nat.beq e e' && new.all one) with
                        | false => rw [hq] at h; cases h
                        | true =>
                          rw [hq] at h
                          simp only [cond_true] at h
                          simp only [Bool.and_eq_true] at hq
                          obtain ⟨⟨⟨hm, hes⟩, hee⟩, hone⟩ := hq
                          have hm := Nat.le_of_ble_eq_true hm
                          have hes := Nat.eq_of_beq_eq_true hes
                          have hee := Nat.eq_of_beq_eq_true hee
                          subst hes hee
                          obtain ⟨l, hl, _⟩ := hi0.obj _ _ hg
                          have hik := hi0.kill hg rfl rfl hl
                          by_cases hroom : n + k ≤ c'
                          · cases hsv with
                            | slice b o n c l1 hl hc => exact absurd rfl hc
                            | sliceOpen b o n c l1 hl1 hn hc => exact aAppend_room hi0 hst hii hs0 hl1 hn hc hg hm hrd hsrc hnew hone hk hroom h
                            | sliceEnd b o l1 a hl => omega
                          · obtain ⟨old', ho1, ho2, ho3⟩ := firstCells_slice (P := P) hi0.drew hrd hsv
                            exact aAppend_grown hi0 hik (Step.kill hm hg hl) hst hii hz hzs hs0 b' n c' _ _ ho1 ho2 ho3 hsrc hnew hk (by omega) h
                      · cases h
                    | false =>
                      rw [hop] at h
                      have hcap := Nat.ne_of_beq_eq_false hop
                      simp only [cond_false] at h
                      have hcc : c' = cap := by
                        cases hsv with
                        | slice b o n c l1 hl hc => rfl
                        | sliceOpen b o n c l1 hl hn hc => exact absurd rfl hcap
                        | sliceEnd b o l1 a hl => exact absurd rfl hcap
                        | sliceZero b o l1 a hl => rfl
                      subst hcc
                      cases hnk : Nat.ble (n + k) c' with
                      | true =>
                        rw [hnk] at h
                        simp only [cond_true] at h
                        have hroom := Nat.le_of_ble_eq_true hnk
                        cases hw : wrCells m (a.add (n * i.size)) 0 new H with
                        | none => rw [hw] at h; cases h
                        | some H1 =>
                          rw [hw] at h
                          simp only [Option.some.injEq, Prod.mk.injEq] at h
                          obtain ⟨rfl, rfl⟩ := h
                          cases hsv with
                          | slice b o n c l1 hl hc =>
                            obtain ⟨w', r1, r2, r3⟩ := wr_run (P := P) new new' 0 hi0 ((AddrR.add (φ := φ) (a := ⟨b, o, none⟩) (a' := ⟨l1.blk, l1.off + o, none⟩) ⟨rfl, l1, hl, rfl⟩ (n * i.size))) hnew hw
                            have hrun := run_append_room_st (ty := ty) hst hii ⟨l1.blk, l1.off + o, none⟩ n c' hsrc (Nat.mul_ne_zero hk hs0) hroom r1
                            exact opOK_value hrun r2 r3 (.slice b o _ _ l1 (r3.ext _ _ hl) hc)
                          | sliceOpen b o n c l1 hl hn hc => exact absurd rfl hcap
                          | sliceZero b o l1 a hl => omega
                      | false =>
                        rw [hnk] at h
                        simp only [cond_false] at h
                        have hnr : ¬ n + k ≤ c' := fun hh => by rw [Nat.ble_eq_true_of_le hh] at hnk; cases hnk
                        cases hnn : Nat.ble n c' with
                        | false => rw [hnn] at h; cases h
                        | true =>
                          rw [hnn] at h
                          simp only [cond_true] at h
                          obtain ⟨old', ho1, ho2, ho3⟩ := firstCells_slice (P := P) hi0.drew hrd hsv
                          exact aAppend_grown hi0 hi0 (Step.refl _ _ _ _) hst hii hz hzs hs0 b' n c' _ _ ho1 ho2 ho3 hsrc hnew hk (by omega) h
      | _ => cases h
  · cases h

end Go.Abs
