/- The engine, part 16 of 35: pieces of the interpreter and of its soundness. No condition. -/
import Derived.Test.YtiggbefjndkkmaaGreatDoorE15
namespace Go.Abs

variable {P : Program} {m : Nat}

/-- A row whose bytes a string shares from now on. -/
theorem Inv.share {φ : Inj} {H : AH} {w w' : World} {id : Nat} {b : Blk} {c : Array Value} {e : TypeId} {f : Nat × Nat} {l : Loc} {c' : Array Value} {f1 f2 : Nat × Nat} (hi : Inv φ H w) (hb : H.get id = some b) (ho : b.obj = .cells c e f) (hl : φ id = some l)
    (hw : w.heap[l.blk]? = some (.cells c' e f1)) (hw' : w'.heap[l.blk]? = some (.cells c' e f2)) (hsz : w'.heap.size = w.heap.size) (hoth : ∀ k, k ≠ l.blk → w'.heap[k]? = w.heap[k]?) :
    Inv φ (H.put id { obj := .cells c e f, opn := b.opn, esz := b.esz, ro := true }) w' := by
  have hal : alive b = true := by unfold alive; rw [ho]
  obtain ⟨l0, c0, f0, q1, q2, q3⟩ := hi.cells hb ho
  rw [hl] at q1; cases q1
  rw [hw] at q2; cases q2
  refine ⟨fun i k h => ?_, ?_, ?_⟩
  · have := hi.dom i k h; rw [hsz]; exact this
  · intro i k h
    by_cases ei : i = id
    · subst ei
      rw [AH.get_put_same] at h; cases h
      exact ⟨l, hl, c', e, f2, hw', q3.cell, q3.fin, q3.esz, q3.exact_, fun h => (by cases h), rfl⟩
    · rw [AH.get_put_other _ _ ei] at h
      obtain ⟨l1, h1, h2⟩ := hi.obj i k h
      refine ⟨l1, h1, ?_⟩
      by_cases hbl : l1.blk = l.blk
      · by_cases hk : alive k = true
        · have hro : k.ro = true := by
            cases hkr : k.ro with
            | true => rfl
            | false => exact absurd hbl (hi.sep i id k b l1 l h hb ei hkr hk hal h1 hl)
          unfold OR at h2 ⊢
          split at h2
          · rename_i c1 e1 f3 hk1
            obtain ⟨c2, e2, f4, g1, g2⟩ := h2
            rw [hbl, hw] at g1
            simp only [Option.some.injEq, Obj.cells.injEq] at g1
            obtain ⟨rfl, rfl, rfl⟩ := g1
            exact ⟨c', e, f2, by rw [hbl]; exact hw', g2.cell, g2.fin, g2.esz, g2.exact_, fun h => (by rw [hro] at h; cases h), g2.elem⟩
          · trivial
          · obtain ⟨o', g1, g2, g3⟩ := h2
            rw [hbl, hw] at g1
            cases g1
            exact absurd rfl (g2.notCells _ _ _)
        · unfold alive at hk
          unfold OR
          split at hk
          · rename_i hd; rw [hd]; trivial
          · exact absurd rfl hk
      · exact h2.same (hoth _ hbl)
  · intro i j k k' l1 l2 h h' hne hr ha ha' hl1 hl2
    by_cases ei : i = id
    · subst ei
      rw [AH.get_put_same] at h; cases h; cases hr
    · rw [AH.get_put_other _ _ ei] at h
      by_cases ej : j = id
      · subst ej
        exact hi.sep i j k b l1 l2 h hb hne hr ha hal hl1 hl2
      · rw [AH.get_put_other _ _ ej] at h'
        exact hi.sep i j k k' l1 l2 h h' hne hr ha ha' hl1 hl2

theorem run_elemOf {t e : TypeId} (h : P.underlying t = some (.pointer e)) (w : World) : (elemOf t).run P w = .ok e w := by
  simp only [elemOf, Sem.run_bind, run_und h, Result.andThen_ok]; rfl

theorem liesAt_same {e : TypeId} {count off n d : Nat} (h1 : P.cellsOf e = 1) (hn : off + n ≤ count) (d2 : Nat) (hd2 : P.depth = d2 + 1) : liesAt P (d + 1) e count off e n = true := by
  have hr : rowAt P (sameLayout P P.depth · e) P.depth e count off n = true := by
    rw [hd2]
    unfold rowAt
    simp only [h1, Nat.one_ne_zero, if_false, Nat.div_one, Nat.mod_one]
    have : sameLayout P (d2 + 1) e e = true := by unfold sameLayout; simp
    simp [this, hn]
  unfold liesAt
  simp [hr]

theorem depth_succ : ∃ d, P.depth = d + 1 := ⟨2 * (P.types.size + Made.depth) + 1, rfl⟩

theorem getLast_cell {H : AH} {a : Addr} {n : Nat} {l : List UInt8} : ∀ (i : Nat), rdBytes H a i n = some l → ∀ j, j < n → ∃ b, H.cell (a.add (i + j)) = some (.int .u8 b) := by
  induction n generalizing l with
  | zero => intro i h j hj; omega
  | succ n ih =>
    intro i h j hj
    simp only [rdBytes] at h
    split at h
    · rename_i b l1 h1 h2
      cases j with
      | zero => exact ⟨b, h1⟩
      | succ j =>
        obtain ⟨b', hb'⟩ := ih (i + 1) h2 j (by omega)
        exact ⟨b', by rw [show i + (j + 1) = i + 1 + j by omega]; exact hb'⟩
    · cases h

theorem run_variablesAt {w : World} {b o n : Nat} {c : Array Value} {e u : TypeId} {f : Nat × Nat} (h : w.heap[b]? = some (.cells c e f)) : (variablesAt ⟨b, o, none⟩ u n).run P w = .ok (liesAt P P.depth e (c.size / P.cellsOf e) o u n) w := by
  simp only [variablesAt, Sem.run_bind, run_program, Result.andThen_ok, run_shape, World.shape?, h, Sem.run_pure]

theorem unsafeString_eq (ts : Array TypeId) (ty : TypeId) (p : Option Addr) (y : Value) : Builtin.unsafeString_ ts ty #[.pointer p, y] = (do
    let n ← asInt y
    let some pt := ts[0]? | stuck "unsafe.String: no argument types"
    if n < 0 then runtimePanic (.error "unsafe.String: len out of range")
    if n > IntKind.i64.max then unsupported (.unsafePointer "String: a length above the largest int")
    match p with
    | none =>
      if n = 0 then pure (.string .empty)
      else runtimePanic (.error "unsafe.String: ptr is nil and len is not zero")
    | some a =>
      if n = 0 then pure (.string .empty)
      else if ← variablesAt a (← elemOf pt) n.toNat then do
        let s ← loadBytes a .empty n.toNat
        freeze a n.toNat
        pure (.string s)
      else unsupported (.unsafePointer "String: not so many bytes at ptr") : Sem Value) := rfl

theorem aUnsafeString_ok {φ : Inj} {H H' : AH} {w : World} {ts : Array TypeId} {ty : TypeId} {x y x' y' v : Value} (hi : Inv φ H w) (h : aUnsafeString P m ts [x, y] H = some (v, H')) (hx : VR φ x x') (hy : VR φ y y') :
    ∃ w', (Builtin.unsafeString_ ts ty #[x', y']).run P w = .ok v w' ∧ Inv φ H' w' ∧ Step m φ H w φ H' w' ∧ ∃ s, v = .string s := by
  unfold aUnsafeString at h
  split at h
  · rename_i k pt he hpt
    simp only [List.cons.injEq, and_true] at he
    obtain ⟨rfl, rfl⟩ := he
    simp only [Option.some.injEq, Prod.mk.injEq] at h
    obtain ⟨rfl, rfl⟩ := h
    cases hx; cases hy
    refine ⟨w, ?_, hi, Step.refl _ _ _ _, _, rfl⟩
    have : ¬ ((0 : Int) > IntKind.i64.max) := by decide
    simp [unsafeString_eq, run_asInt_int, hpt, this]
  · rename_i a k n pt he hpt
    simp only [List.cons.injEq, and_true] at he
    obtain ⟨rfl, rfl⟩ := he
    cases hn : Nat.beq n 0 with
    | true =>
      rw [hn] at h
      have := Nat.eq_of_beq_eq_true hn
      subst this
      simp only [cond_true, Option.some.injEq, Prod.mk.injEq] at h
      obtain ⟨rfl, rfl⟩ := h
      cases hx; cases hy
      refine ⟨w, ?_, hi, Step.refl _ _ _ _, _, rfl⟩
      have : ¬ ((0 : Int) > IntKind.i64.max) := by decide
      simp [unsafeString_eq, run_asInt_int, hpt, this]
    | false =>
      rw [hn] at h
      have hn0 := Nat.ne_of_beq_eq_false hn
      simp only [cond_false] at h
      split at h
      · rename_i c e f opn esz ro u hg hsp hu
        cases hq : (Nat.ble m a.block && Nat.ble (a.off + n) c.size && Nat.beq e u && Nat.beq (P.cellsOf e) 1 && Nat.ble n 9223372036854775807) with
        | false => rw [hq] at h; cases h
        | true =>
          rw [hq] at h
          simp only [cond_true] at h
          simp only [Bool.and_eq_true] at hq
          obtain ⟨⟨⟨⟨hm, hbd⟩, heu⟩, hc1⟩, hnm⟩ := hq
          have hm := Nat.le_of_ble_eq_true hm
          have hbd := Nat.le_of_ble_eq_true hbd
          have heu := Nat.eq_of_beq_eq_true heu
          have hc1 := Nat.eq_of_beq_eq_true hc1
          have hnm := Nat.le_of_ble_eq_true hnm
          subst heu
          cases hrd : rdBytes H a 0 n with
          | none => rw [hrd] at h; cases h
          | some l =>
            rw [hrd] at h
            simp only [Option.some.injEq, Prod.mk.injEq] at h
            obtain ⟨rfl, rfl⟩ := h
            obtain ⟨a', rfl, ha⟩ := hx.ptr_inv
            cases hy
            obtain ⟨l1, c', f', g1, g2, g3⟩ := hi.cells hg rfl
            obtain ⟨_, l2, g4, g5⟩ := ha
            rw [g1] at g4; cases g4
            subst g5
            have ha : AddrR φ a ⟨l1.blk, l1.off + a.off, none⟩ := ⟨hsp, l1, g1, rfl⟩
            obtain ⟨ns, e1, e2, e3⟩ := rb_inv hi ha n 0 l hrd
            have hlast : l1.off + a.off + n ≤ c'.size := by
              obtain ⟨v', q1, _⟩ := g3.cell (a.off + (n - 1)) c[a.off + (n - 1)] (Array.getElem?_eq_getElem (by omega))
              rw [Array.getElem?_eq_some_iff] at q1
              have := q1.1; omega
            obtain ⟨d, hd⟩ := depth_succ (P := P)
            have hlies : liesAt P P.depth e (c'.size / P.cellsOf e) (l1.off + a.off) e n = true := by
              rw [hd]; exact liesAt_same hc1 (by rw [hc1, Nat.div_one]; exact hlast) d hd
            have hlb := run_loadBytes' (P := P) ns ⟨l1.blk, l1.off + a.off, none⟩ .empty (w := w) (fun j x hj => by have := e3 j x hj; rwa [Nat.zero_add] at this)
            rw [e2, ← e1] at hlb
            have hstr : (⟨ByteArray.empty.data ++ l.toArray⟩ : ByteArray) = ⟨l.toArray⟩ := by apply ByteArray.ext; simp
            rw [hstr] at hlb
            let w' := w.freeze ⟨l1.blk, l1.off + a.off, none⟩ n
            have hw' : ∃ f2, w'.heap[l1.blk]? = some (.cells c' e f2) := by
              simp only [w', World.freeze, hn0, if_false, Array.getElem?_modify, g2]
              exact ⟨_, rfl⟩
            obtain ⟨f2, hw'⟩ := hw'
            have hoth : ∀ k, k ≠ l1.blk → w'.heap[k]? = w.heap[k]? := by
              intro k hk
              simp only [w', World.freeze, hn0, if_false, Array.getElem?_modify]
              rw [if_neg (fun e => hk e.symm)]
            have hsz : w'.heap.size = w.heap.size := by simp [w', World.freeze, hn0]
            have hos : w'.os = w.os ∧ w'.tape = w.tape ∧ w'.output = w.output := by simp [w', World.freeze, hn0]
            refine ⟨w', ?_, hi.share hg rfl g1 g2 hw' hsz hoth, Step.put hm hg g1 hsz hoth hos.1 hos.2.1 hos.2.2, _, rfl⟩
            have h1 : ¬ ((n : Int) < 0) := by omega
            have h2 : ¬ ((n : Int) > IntKind.i64.max) := by
              have : IntKind.i64.max = 9223372036854775807 := by decide
              rw [this]; omega
            simp [unsafeString_eq, run_asInt_int, hpt, h1, h2, hn0, run_elemOf hu, run_variablesAt g2, hlies, hlb, w']
            omega
      · cases h
  · cases h

theorem aConvPtr_ok {φ : Inj} {H : AH} {w : World} {s t : TypeId} {x x' v : Value} (hi : Inv φ H w) (h : aConvPtr P s t x H = some v) (hx : VR φ x x') :
    (convert s t x').run P w = .ok x' w ∧ v = x := by
  unfold aConvPtr at h
  split at h
  · rename_i b off
    split at h
    · rename_i c e f esz hg
      obtain ⟨l1, c', f', g1, g2, g3⟩ := hi.cells hg rfl
      have ⟨h0, hsz⟩ := g3.exact_ rfl
      cases hx with
      | ptr b o l hl =>
        rw [g1] at hl; cases hl
        have hsh : (w.shape? l1.blk) = some (e, c'.size) := by simp [World.shape?, g2]
        have hview : (viewAt l1.blk).run P w = .ok none w := by simp [viewAt, hsh]
        have hseen : (Conv.seenAt ⟨l1.blk, l1.off + off, none⟩).run P w = .ok ⟨l1.blk, l1.off + off, none⟩ w := by
          simp only [Conv.seenAt, Sem.run_bind, hview, Result.andThen_ok]; rfl
        split at h
        · rename_i t1 hs ht
          cases hi1 : P.info? t1 with
          | none => rw [hi1] at h; cases h
          | some i =>
            rw [hi1] at h
            simp only at h
            cases hq : (Nat.blt off c.size && !Nat.beq i.size 0) with
            | false => rw [hq] at h; cases h
            | true =>
              rw [hq] at h
              simp only [cond_true, Option.some.injEq] at h
              refine ⟨?_, h.symm⟩
              simp only [Bool.and_eq_true, Bool.not_eq_true'] at hq
              have hlt : off < c.size := Nat.lt_of_lt_of_le (Nat.lt_succ_self _) (Nat.le_of_ble_eq_true hq.1)
              have hne := Nat.ne_of_beq_eq_false hq.2
              have hcells : (cellsIn l1.blk).run P w = .ok (some c'.size) w := by simp [cellsIn, hsh]
              simp only [convert, Sem.run_bind, run_und hs, run_und ht, Result.andThen_ok, Conv.unsafePointer, hseen, hcells, run_size hi1]
              have hb : (decide (i.size = 0) || (decide (l1.off + off ≥ c'.size) && true)) = false := by
                simp [hne]; omega
              have : ¬ (i.size = 0 ∨ l1.off + off ≥ c'.size) := by omega
              simp [hne]
              omega
        · rename_i u hs ht
          cases hi1 : P.info? u with
          | none => rw [hi1] at h; cases h
          | some i =>
            rw [hi1] at h
            simp only at h
            cases hq : (!Nat.beq i.size 0 && liesAt P P.depth e (c.size / P.cellsOf e) off u 1) with
            | false => rw [hq] at h; cases h
            | true =>
              rw [hq] at h
              simp only [cond_true, Option.some.injEq] at h
              refine ⟨?_, h.symm⟩
              simp only [Bool.and_eq_true, Bool.not_eq_true'] at hq
              have hne := Nat.ne_of_beq_eq_false hq.1
              have hv := run_variablesAt (P := P) (o := l1.off + off) (u := u) (n := 1) g2
              rw [hsz, h0, Nat.zero_add, hq.2] at hv
              rw [h0, Nat.zero_add] at hseen ⊢
              simp only [convert, Sem.run_bind, run_und hs, run_und ht, Result.andThen_ok, Conv.unsafePointer, hseen, run_size hi1, hv]
              simp [hne]
        · cases h
    · cases h
  · cases h

end Go.Abs
