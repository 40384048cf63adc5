/- The engine, part 15 of 35: pieces of the interpreter and of its soundness. No condition. -/
import Derived.Test.YtiggbefjndkkmaaGreatDoorE14
namespace Go.Abs

variable {P : Program} {m : Nat}

theorem rb_inv {φ : Inj} {H : AH} {w : World} (hi : Inv φ H w) {a a' : Addr} (ha : AddrR φ a a') : ∀ (n i : Nat) (l : List UInt8), rdBytes H a i n = some l →
    ∃ ns : List Int, l = ns.map (fun x => x.toNat.toUInt8) ∧ ns.length = n ∧ ∀ j x, ns[j]? = some x → w.cell? (a'.add (i + j)) = some (.int .u8 x) := by
  intro n
  induction n with
  | zero => intro i l h; simp only [rdBytes, Option.some.injEq] at h; subst h; exact ⟨[], rfl, rfl, fun j x hx => by simp at hx⟩
  | succ n ih =>
    intro i l h
    simp only [rdBytes] at h
    split at h
    · rename_i b l1 h1 h2
      simp only [Option.some.injEq] at h
      subst h
      obtain ⟨ns, e1, e2, e3⟩ := ih (i + 1) l1 h2
      obtain ⟨v', hv1, hv2⟩ := hi.cell h1 (ha.add i)
      cases hv2
      refine ⟨b :: ns, by rw [e1]; rfl, by simp [e2], fun j x hx => ?_⟩
      cases j with
      | zero => simp only [List.getElem?_cons_zero, Option.some.injEq] at hx; subst hx; exact hv1
      | succ j =>
        have := e3 j x (by simpa using hx)
        rw [show i + (j + 1) = i + 1 + j by omega]; exact this
    · cases h

theorem run_loadBytes' {w : World} : ∀ (ns : List Int) (a : Addr) (acc : ByteArray), (∀ j x, ns[j]? = some x → w.cell? (a.add j) = some (.int .u8 x)) →
    (loadBytes a acc ns.length).run P w = .ok ⟨acc.data ++ (ns.map fun x => x.toNat.toUInt8).toArray⟩ w := by
  intro ns
  induction ns with
  | nil => intro a acc h; simp [loadBytes]
  | cons x ns ih =>
    intro a acc h
    have h0 : w.cell? a = some (.int .u8 x) := by
      have := h 0 x rfl
      simpa [Addr.add] using this
    have hr := ih (a.add 1) (acc.push x.toNat.toUInt8) (fun j y hy => by
      rw [addr_add_add, Nat.add_comm]
      exact h (j + 1) y (by simpa using hy))
    simp only [List.length_cons, loadBytes, Sem.run_bind, run_load, h0, Result.andThen_ok]
    rw [hr]
    congr 1
    apply ByteArray.ext
    simp [ByteArray.push]

theorem foldl_push (ns : List Int) : ∀ acc : ByteArray, ns.foldl (fun r n => r.push (UInt8.ofNat n.toNat)) acc = ⟨acc.data ++ (ns.map fun x => x.toNat.toUInt8).toArray⟩ := by
  induction ns with
  | nil => intro acc; simp
  | cons x ns ih =>
    intro acc
    rw [List.foldl_cons, ih]
    apply ByteArray.ext
    simp [ByteArray.push]

theorem bytesString_ok {φ : Inj} {H : AH} {w : World} (hi : Inv φ H w) {a : Addr} {n c : Nat} {x' : Value} {l : List UInt8} (h : rdBytes H a 0 n = some l) (hx : VR φ (.slice (some a) n c) x') :
    (Conv.bytesToString x').run P w = .ok (.string ⟨l.toArray⟩) w := by
  have go : ∀ a' c', (n = 0 ∨ AddrR φ a a') → x' = .slice (some a') n c' → (Conv.bytesToString x').run P w = .ok (.string ⟨l.toArray⟩) w := by
    intro a' c' ha hx'
    subst hx'
    have : ∃ ns : List Int, l = ns.map (fun x => x.toNat.toUInt8) ∧ (loadCells a' n).run P w = .ok (ns.map (Value.int .u8)).toArray w := by
      rcases ha with rfl | ha
      · simp only [rdBytes, Option.some.injEq] at h
        subst h
        exact ⟨[], rfl, by simp [loadCells, loadCellsFrom]⟩
      · obtain ⟨ns, e1, e2, e3⟩ := rb_inv hi ha n 0 l h
        refine ⟨ns, e1, ?_⟩
        have := run_loadCells_list (P := P) w a' (ns.map (Value.int .u8)) (fun j v hv => by
          simp only [List.getElem?_map, Option.map_eq_some_iff] at hv
          obtain ⟨x, hx1, rfl⟩ := hv
          have := e3 j x hx1
          rwa [Nat.zero_add] at this)
        rw [List.length_map, e2] at this
        exact this
    obtain ⟨ns, e1, e2⟩ := this
    rw [run_bytesToString w a' n c' ns e2, foldl_push, e1]
    congr 2
    apply ByteArray.ext
    simp
  cases hx with
  | slice b o n c l1 hl hc => exact go _ c (.inr ⟨rfl, l1, hl, rfl⟩) rfl
  | sliceOpen b o n c l1 hl hn hc => exact go _ c (.inr ⟨rfl, l1, hl, rfl⟩) rfl
  | sliceEnd b o l1 a hl => exact go a 0 (.inl rfl) rfl
  | sliceZero b o l1 a hl => exact go a 0 (.inl rfl) rfl

theorem stringBytes_ok {φ : Inj} {H : AH} {w : World} (hi : Inv φ H w) {e : TypeId} (s : ByteArray) :
    ∃ v' w' φ', (Conv.stringToBytes e s).run P w = .ok v' w' ∧ Inv φ' (H.push { obj := .cells (s.data.map fun b => .int .u8 b.toNat) e (0, 0), opn := true, esz := 1, ro := false }) w' ∧
      Step m φ H w φ' (H.push { obj := .cells (s.data.map fun b => .int .u8 b.toNat) e (0, 0), opn := true, esz := 1, ro := false }) w' ∧ VR φ' (.slice (some ⟨H.next, 0, none⟩) s.size OPEN) v' := by
  generalize hcap : (Question.appendCap s.size 0 e).cut (w.tape w.drawn (.appendCap s.size 0 e)) = cap
  have hge : s.size ≤ cap := by rw [← hcap]; simp [Question.cut]
  generalize harr : (s.data.map fun b => (Value.int .u8 b.toNat)) ++ Array.replicate (cap - s.size) (.int .u8 0) = arr
  have hsz : arr.size = cap := by
    rw [← harr, Array.size_append, Array.size_map, Array.size_replicate]
    have : s.data.size = s.size := rfl
    omega
  let l : Loc := ⟨w.heap.size, 0, arr.size, 1⟩
  let w2 := (w.drew.alloc (.cells arr e)).freeze ⟨w.heap.size, arr.size, none⟩ 1
  have hh : w2.heap[w.heap.size]? = some (.cells arr e (arr.size, arr.size + 1)) := by
    have := heap_alloc_new w.drew (.cells arr e)
    simp only [w2, World.freeze, Nat.one_ne_zero, if_false, Array.getElem?_modify]
    show Option.map _ ((w.drew.alloc (.cells arr e)).heap[w.drew.heap.size]?) = _
    rw [this]
    rfl
  have hoth : ∀ c, c ≠ w.heap.size → w2.heap[c]? = (w.drew.alloc (.cells arr e)).heap[c]? := by
    intro c hc
    simp only [w2, World.freeze, Nat.one_ne_zero, if_false, Array.getElem?_modify]
    rw [if_neg (fun e => hc e.symm)]
  have hi2 := hi.drew
  have hle := Inj.le_upd l hi2.fresh
  -- first the new block as it is made
  have hcells : ∀ f' : Nat × Nat, (f'.2 ≤ f'.1 ∨ arr.size ≤ f'.1) → CellsR (φ.upd H.next l) l { obj := .cells (s.data.map fun b => .int .u8 b.toNat) e (0, 0), opn := true, esz := 1, ro := false } (s.data.map fun b => .int .u8 b.toNat) e arr e f' := by
    intro f' hf
    refine ⟨fun j u hu => ?_, Nat.le_refl _, fun _ => rfl, fun h => (by cases h), fun _ => hf, rfl⟩
    refine ⟨u, ?_, ?_⟩
    · show arr[0 + j]? = some u
      rw [Nat.zero_add, ← harr, Array.getElem?_append, if_pos, hu]
      rw [Array.getElem?_eq_some_iff] at hu; exact hu.1
    · simp only [Array.getElem?_map, Option.map_eq_some_iff] at hu
      obtain ⟨b, _, rfl⟩ := hu
      exact .int _ _
  have hpush := hi2.push (b := { obj := .cells (s.data.map fun b => .int .u8 b.toNat) e (0, 0), opn := true, esz := 1, ro := false }) (l := l) (o := .cells arr e) rfl ⟨arr, e, (0, 0), heap_alloc_new _ _, hcells _ (.inl (Nat.le_refl _))⟩
  have hsame : w2.heap.size = (w.drew.alloc (.cells arr e)).heap.size := by simp [w2, World.freeze]
  have hinv : Inv (φ.upd H.next l) (H.push { obj := .cells (s.data.map fun b => .int .u8 b.toNat) e (0, 0), opn := true, esz := 1, ro := false }) w2 := by
    refine ⟨fun i k h => ?_, fun i k h => ?_, hpush.sep⟩
    · have := hpush.dom i k h; rw [hsame]; exact this
    · by_cases ei : i = H.next
      · subst ei
        rw [AH.get_push_same] at h; cases h
        exact ⟨l, Inj.upd_same _ _ _, arr, e, _, hh, hcells _ (.inr (Nat.le_refl _))⟩
      · obtain ⟨l1, g1, g2⟩ := hpush.obj i k h
        refine ⟨l1, g1, g2.same (hoth _ ?_)⟩
        rw [Inj.upd_other _ _ ei] at g1
        have := (hi.dom _ _ g1).2; omega
  refine ⟨.slice (some ⟨w.heap.size, 0, none⟩) s.size cap, w2, φ.upd H.next l, ?_, hinv, ?_, ?_⟩
  · simp only [Conv.stringToBytes, Sem.run_bind, run_choose, Question.forced, Bool.false_eq_true, if_false, Result.andThen_ok, hcap, harr]
    simp only [newRow, Sem.run_bind, run_newObj, Result.andThen_ok, Sem.run_pure, markStringish, run_shape, World.drew_eq, World.alloc_eq, World.size_drew]
    have hs : (w.drew.alloc (.cells arr e)).shape? w.heap.size = some (e, arr.size) := by
      have := heap_alloc_new w.drew (.cells arr e)
      simp only [World.shape?]
      show (match (w.drew.alloc (.cells arr e)).heap[w.drew.heap.size]? with | some (.cells c elem _) => some (elem, c.size) | _ => none) = _
      rw [this]
    rw [hs]
    rfl
  · have st := (Step.drew (m := m) H w).trans hi (Step.push (b := { obj := .cells (s.data.map fun b => .int .u8 b.toNat) e (0, 0), opn := true, esz := 1, ro := false }) (o := .cells arr e) hi2 (l := l) rfl)
    exact ⟨st.le, st.ext, st.new, st.alv, by rw [hsame]; exact st.size, fun c hc hno => by rw [hoth c (by omega)]; exact st.keep c hc hno, st.os, st.tape, st.output⟩
  · exact .sliceOpen H.next 0 s.size cap l (Inj.upd_same _ _ _) hge (by show 0 + 0 + cap * 1 ≤ arr.size; omega)

end Go.Abs
