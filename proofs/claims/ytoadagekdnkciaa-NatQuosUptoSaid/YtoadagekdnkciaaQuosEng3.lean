/- An abstract interpreter of the loaded program, its soundness, and the laws of a symbolic walk, part 3. No condition. -/
import Derived.Test.YtoadagekdnkciaaQuosEng2
import Derived.Deep.Matrix
import Derived.JoinedCond
namespace Go.Abs

variable {P : Program} {m : Nat}

open Go.RowKit in
/-- A call that the symbolic walk has, in the world. -/
theorem calls_true {ne : Nat} (hS : Sane P ne) {f : Nat} {fn : Func} {c : Code} (hf : P.funcs[f]? = some fn) (hb : fn.body = some c) {args args' : Array Value} {H H' : AH}
    (h : CallE P ne m f args H (.bool true) H') {φ : Inj} {W : World} (hg : Glob P φ) (ha : AR φ args args') (hi : Inv φ H W) (hm : ∀ id, m ≤ id → H.get id = none) :
    Calls P f args' W fun e W' => e = .returned (.bool true) ∧ Below W.heap.size W W' := by
  obtain ⟨N, hN⟩ := h
  refine (acall_ok hS hf hb (n := N) (hN N (Nat.le_refl _)) hg ha hi).mono fun e W' hpost => ?_
  obtain ⟨φ', v', rfl, hv, _, hst⟩ := hpost
  cases hv
  exact ⟨rfl, hst.os, hst.tape, hst.output, hst.size, fun k hk => hst.keep k hk fun id l hm' hs _ => by rw [hm id hm'] at hs; cases hs⟩

/-! ### What comes in -/

/-- What came in stands in the world, and is only read. -/
structure Imp (P : Program) (φ : Inj) (H : AH) (W : World) : Prop where
  inv : Inv φ H W
  glob : Glob P φ
  ro : ∀ id b, H.get id = some b → b.ro = true

theorem Imp.start {W : World} (h : P.globals.size ≤ W.heap.size) : Imp P (φg P) ⟨P.globals.size, .nil⟩ W :=
  ⟨inv_start h, glob_φg, fun id b hb => by cases hb⟩

/-- A view of a row of cells. -/
def viewB (c : Array Value) (e : TypeId) : Blk := ⟨.cells c e (0, 0), true, 1, true⟩

theorem Imp.add {φ : Inj} {H : AH} {W : World} (h : Imp P φ H W) {blk off : Nat} {c c' : Array Value} {e : TypeId} {f : Nat × Nat} (hb : W.heap[blk]? = some (.cells c' e f))
    (hc : ∀ (i : Nat) (v : Value), c[i]? = some v → ∃ v', c'[off + i]? = some v' ∧ VR φ v v') : Imp P (φ.upd H.next ⟨blk, off, 0, 1⟩) (H.push (viewB c e)) W ∧ φ.le (φ.upd H.next ⟨blk, off, 0, 1⟩) := by
  have hle := Inj.le_upd ⟨blk, off, 0, 1⟩ h.inv.fresh
  have hro : ∀ id b, (H.push (viewB c e)).get id = some b → b.ro = true := fun id b hg => by
    by_cases e' : id = H.next
    · subst e'
      rw [AH.get_push_same] at hg; cases hg; rfl
    · rw [AH.get_push_other _ _ e'] at hg
      exact h.ro id b hg
  refine ⟨⟨⟨fun i l hl => ?_, fun i b hg => ?_, fun i j b b' l l' h1 _ _ hr => ?_⟩, fun g hg => ?_, hro⟩, hle⟩
  · by_cases e' : i = H.next
    · subst e'
      rw [Inj.upd_same] at hl; cases hl
      exact ⟨by simp, (Array.getElem?_eq_some_iff.1 hb).1⟩
    · rw [Inj.upd_other _ _ e'] at hl
      have := h.inv.dom i l hl
      simp only [AH.next_push]
      omega
  · by_cases e' : i = H.next
    · subst e'
      rw [AH.get_push_same] at hg; cases hg
      refine ⟨_, Inj.upd_same _ _ _, c', e, f, hb, fun i v hv => ?_, Nat.zero_le _, fun _ => rfl, fun ho => (by cases ho), fun hr => (by cases hr), rfl⟩
      obtain ⟨v', h1, h2⟩ := hc i v hv
      exact ⟨v', h1, h2.mono hle⟩
    · rw [AH.get_push_other _ _ e'] at hg
      obtain ⟨l, h1, h2⟩ := h.inv.obj i b hg
      exact ⟨l, by rw [Inj.upd_other _ _ e']; exact h1, h2.mono hle⟩
  · rw [hro i b h1] at hr; cases hr
  · obtain ⟨l, h1, h2, h3⟩ := h.glob g hg
    exact ⟨l, hle _ _ h1, h2, h3⟩

theorem cell?_some {w : World} {a : Addr} {v : Value} (h : w.cell? a = some v) : ∃ c e f, w.heap[a.block]? = some (.cells c e f) ∧ a.spot = none ∧ c[a.off]? = some v := by
  unfold World.cell? at h
  split at h
  · rename_i c e f hc
    split at h
    · cases h
    · rename_i hs
      refine ⟨c, e, f, hc, ?_, h⟩
      cases hh : a.spot with
      | none => rfl
      | some x => rw [hh] at hs; simp at hs
  · cases h

theorem add_off (a : Addr) (hs : a.spot = none) (i : Nat) : a.add i = ⟨a.block, a.off + i, none⟩ := by
  obtain ⟨b, o, s⟩ := a
  simp only at hs
  subst hs
  unfold Addr.add
  split
  · rename_i h; subst h; rfl
  · rfl

theorem addr_eta (a : Addr) (hs : a.spot = none) : (⟨a.block, a.off, none⟩ : Addr) = a := by
  obtain ⟨b, o, s⟩ := a
  simp only at hs
  subst hs
  rfl

/-- A row of cells that all stand in one block. -/
theorem Imp.cells {φ : Inj} {H : AH} {W : World} (h : Imp P φ H W) {a : Addr} {c : Array Value} (h0 : 0 < c.size) (hc : ∀ (i : Nat) (v : Value), c[i]? = some v → ∃ v', W.cell? (a.add i) = some v' ∧ VR φ v v') :
    ∃ φ' e, Imp P φ' (H.push (viewB c e)) W ∧ φ.le φ' ∧ ∀ n k, k ≠ OPEN → VR φ' (.slice (some ⟨H.next, 0, none⟩) n k) (.slice (some a) n k) := by
  obtain ⟨v', h1, _⟩ := hc 0 c[0] (by simp [h0])
  obtain ⟨c', e, f, h2, h3, _⟩ := cell?_some h1
  rw [add_block] at h2
  have hsp : a.spot = none := by
    unfold Addr.add at h3
    simpa using h3
  obtain ⟨h4, h5⟩ := h.add (blk := a.block) (off := a.off) (c := c) (c' := c') (e := e) (f := f) h2 (fun i v hv => by
    obtain ⟨w, g1, g2⟩ := hc i v hv
    obtain ⟨c'', e', f', g3, _, g5⟩ := cell?_some g1
    rw [add_block, h2] at g3
    simp only [Option.some.injEq, Obj.cells.injEq] at g3
    obtain ⟨rfl, _⟩ := g3
    rw [add_off a hsp] at g5
    exact ⟨w, g5, g2⟩)
  refine ⟨_, e, h4, h5, fun n k hk => ?_⟩
  have := VR.slice H.next 0 n k ⟨a.block, a.off, 0, 1⟩ (Inj.upd_same φ H.next ⟨a.block, a.off, 0, 1⟩) hk
  rw [show (⟨(⟨a.block, a.off, 0, 1⟩ : Loc).blk, (⟨a.block, a.off, 0, 1⟩ : Loc).off + 0, none⟩ : Addr) = a from addr_eta a hsp] at this
  exact this

theorem view_cell {H : AH} {c : Array Value} {e : TypeId} (i : Nat) : (H.push (viewB c e)).cell ((⟨H.next, 0, none⟩ : Addr).add i) = c[i]? := by
  rw [add_off _ rfl]
  unfold AH.cell
  simp only [AH.get_push_same, viewB, Nat.zero_add]

/-- A row of numbers comes in: one form for nil, for an empty one and for any other. -/
theorem Imp.row {φ : Inj} {H : AH} {W : World} (h : Imp P φ H W) (hP : 0 < P.globals.size) {k : IntKind} {A : Option Addr} {L C : Nat} {Z : List Int} (hL : L ≤ C) (hC : C ≤ maxLen) (hZ : Z.length = C) (hw : ∀ n ∈ Z, 0 ≤ n)
    (hn : A = none → C = 0) (hc : ∀ a, A = some a → ∀ i, i < C → W.cell? (a.add i) = some (.int k (Z.getD i 0))) :
    ∃ φ' H' s, Imp P φ' H' W ∧ φ.le φ' ∧ Ext H H' ∧ H'.next ≤ H.next + 1 ∧ VR φ' s.v (.slice A L C) ∧ Ro k H' s ((Z.take L).map Int.toNat) := by
  have hO : C ≠ OPEN := by
    have : OPEN = 9223372036854775808 := rfl
    have : maxLen = 9223372036854775807 := rfl
    omega
  by_cases h0 : C = 0
  · subst h0
    obtain rfl : L = 0 := by omega
    cases A with
    | none =>
      refine ⟨φ, H, Sl3.nil, h, Inj.le_refl _, Fr.refl _ _, Nat.le_succ _, VR.sliceNil 0 0, ⟨rfl, Nat.le_refl _, Nat.zero_le _, fun _ => ⟨rfl, rfl⟩, fun a ha => (by cases ha), fun a ha => (by cases ha), fun a ha => (by cases ha)⟩⟩
    | some a =>
      obtain ⟨l, h1, _, _⟩ := h.glob 0 hP
      refine ⟨φ, H, ⟨some ⟨0, 0, none⟩, 0, 0⟩, h, Inj.le_refl _, Fr.refl _ _, Nat.le_succ _, VR.sliceZero 0 0 l a h1, ⟨rfl, Nat.le_refl _, Nat.zero_le _, fun _ => ⟨rfl, rfl⟩, fun a ha => ?_, fun a ha ho => (by cases ho), fun a ha i hi => ?_⟩⟩
      · cases ha; exact (h.inv.dom 0 l h1).1
      · simp at hi
  · cases A with
    | none => exact absurd (hn rfl) h0
    | some a =>
      have hsz : (Z.map (Value.int k)).toArray.size = C := by simp [hZ]
      have hget : ∀ i, i < C → (Z.map (Value.int k)).toArray[i]? = some (.int k (Z.getD i 0)) := fun i hi => by
        simp [List.getD, List.getElem?_eq_getElem (show i < Z.length by omega)]
      obtain ⟨φ', e, h1, h2, h3⟩ := h.cells (a := a) (c := (Z.map (Value.int k)).toArray) (by omega) (fun i v hv => by
        have hi : i < C := by
          have := (Array.getElem?_eq_some_iff.1 hv).1
          omega
        rw [hget i hi] at hv
        cases hv
        exact ⟨_, hc a rfl i hi, .int _ _⟩)
      refine ⟨φ', _, ⟨some ⟨H.next, 0, none⟩, L, C⟩, h1, h2, Fr.push _ _ _, Nat.le_of_eq (by simp), h3 L C hO, ⟨?_, hL, ?_, fun hh => (by cases hh), fun a ha => ?_, fun a ha ho => absurd ho hO, fun a ha i hi => ?_⟩⟩
      · simp only [List.length_map, List.length_take]; omega
      · have : OPEN = 9223372036854775808 := rfl
        have : maxLen = 9223372036854775807 := rfl
        show C ≤ OPEN
        omega
      · cases ha; simp
      · cases ha
        simp only [List.length_map, List.length_take] at hi
        rw [view_cell, hget i (by omega)]
        congr 2
        have hi' : i < Z.length := by omega
        have hpos := hw Z[i] (List.getElem_mem hi')
        simp only [List.getElem_map, List.getElem_take, List.getD, List.getElem?_eq_getElem hi', Option.getD_some]
        omega

/-- At last the count of blocks is put at the bound. -/
theorem Imp.raise {φ : Inj} {H : AH} {W : World} (h : Imp P φ H W) {M : Nat} (hM : H.next ≤ M) : Inv φ { H with next := M } W ∧ (∀ id, M ≤ id → AH.get { H with next := M } id = none) ∧ Ext H { H with next := M } := by
  refine ⟨⟨fun id l hl => ?_, h.inv.obj, h.inv.sep⟩, fun id hid => ?_, hM, fun _ _ _ _ hb => hb⟩
  · have := h.inv.dom id l hl
    exact ⟨Nat.lt_of_lt_of_le this.1 hM, this.2⟩
  · cases hg : AH.get { H with next := M } id with
    | none => rfl
    | some b =>
      have := h.inv.get_lt (id := id) (b := b) hg
      omega

/-! ### The row -/

open Go.ChangeShapes in
theorem trodAll_len {H : Type} {enc : TypeId × Value → H} {W : World} {sp : Nat → Bool} {hd : Bool} : ∀ (ts : List TypeId) (vs : List Value) (ds : List (DataW H)) (ps : List MemPlace), DataW.TrodAll enc P W 0 sp hd ts vs ds ps → ds.length = ts.length := by
  intro ts
  induction ts with
  | nil => intro vs ds ps h; obtain ⟨_, rfl, _⟩ := trodAll_nil h; rfl
  | cons t ts ih => intro vs ds ps h; obtain ⟨v, vs', d, ds', p, q, _, rfl, _, _, h2⟩ := trodAll_cons h; simp [ih _ _ _ h2]

/-- A law with a condition on what comes in. -/
theorem lifted_cond {H : Type} {enc : TypeId × Value → H} {a : Assume} {C : Checked} {os : Os} {f : FuncId} {fn : Func} {s : OpenSpec} {k : (H : Type) → List (DataW H) → Bool} (hk : s.cond = some k) {F : Stop.Interp} {conds : List PathCond} {apart fresh handsOn : Bool}
    (own : ownKnob C.prog.godebug = none) (started : os.Started) (noInit : C.prog.inits.idxOf? f = none) (hfn : C.prog.funcs[f]? = some fn)
    (hgb : globalsB C.prog = true) (hl : laidOutB C.prog = true) (hts : readB C.prog fn = true) (hv : s.vars = []) (hres : boolRes C.prog fn = true)
    (hspec : ∀ ds : List (DataW H), ds.length = fn.params.size → ((s.at F).fn H ds).results = [.lit (.bool true)] ∧ ((s.at F).fn H ds).args = ds ∧ ((s.at F).fn H ds).vars = [])
    (hva : (s.at F).vars = s.vars)
    (witness : ∃ (w : World) (tape : Tape) (i : Input), w.os = os ∧ (w.forCall tape i).Shaped C.prog ∧ i.vars = [] ∧ Input.okWide C.prog (w.forCall tape i) .any w.heap.size f i ∧
      s.pre6 enc C.prog fn conds apart (w.forCall tape i).memory i.args ∧ a.holds C.prog (lone (Frame.enter C.prog f i.args .normal) [] (w.forCall tape i)))
    (contract : ∀ (W : World) (base : Nat) (args : Array Value) (ds : List (DataW H)) (ps : List MemPlace), C.prog.globals.size ≤ W.heap.size →
      (∀ (j : Nat) t v, fn.params[j]? = some t → args[j]? = some v → Value.okWide C.prog W .any base t v) →
      DataW.TrodAll enc C.prog W 0 (fun _ => true) true fn.params.toList args.toList ds ps → k H ds = true →
      Calls C.prog f args W fun e W' => e = .returned (.bool true) ∧ RowKit.Below W.heap.size W W') :
    ReturnsInHanded a C os f .any (s.pre6 enc C.prog fn conds apart) ((s.at F).post enc C.prog fn apart fresh handsOn false) := by
  obtain ⟨tb, hres, hbool⟩ := boolRes_of hres
  have hts := readB_of hts
  refine returnsInHanded_of_calls own started noInit witness ?_
  intro w tape i _ hsh _ hok hpre hholds
  obtain ⟨_, _, _, fn', hfn', _, _, _, hsz, hval⟩ := hok
  have e : fn' = fn := Option.some.inj (hfn'.symm.trans hfn)
  subst e
  obtain ⟨ds, gs, before, hw, hc, hkk⟩ := (OpenSpec.pre_some hk conds apart _ _).1 hpre.1
  have hw' := DataW.Whole.of_heap (w' := w.forCall tape i) (by rfl) hw
  have hW := hw'
  obtain ⟨p, q, hA, hV, _⟩ := hw'
  rw [hv] at hV
  obtain ⟨rfl, rfl⟩ := ChangeShapes.trodVars_none hV
  rw [List.append_nil] at hkk
  have hlen : ds.length = fn'.params.size := by simpa using trodAll_len _ _ _ _ hA
  refine (contract (w.forCall tape i) w.heap.size i.args ds p (globals_there hgb hsh) hval hA hkk).mono fun e W' ⟨he, hb⟩ => ?_
  subst he
  exact ChangeSpec.post_blind (law_post hl hts (hva.trans hv) hres hbool (hva.symm ▸ hW) (hspec ds hlen) hb)

end Go.Abs


namespace Go.Abs
set_option maxRecDepth 10000

/-! ### The quotient digit of a division by halves -/

theorem q_mul (q rhat yn un32 un1 W : Nat) (hq : q * (yn / W) + rhat = un32) (hW : 0 < W) : (q * yn ≤ un32 * W + un1 ↔ q * (yn % W) ≤ W * rhat + un1) := by
  have e : q * yn = q * (yn / W) * W + q * (yn % W) := by
    conv => lhs; rw [← Nat.div_add_mod yn W]
    rw [Nat.mul_add, Nat.mul_comm W, Nat.mul_assoc]
  have e2 : un32 * W = q * (yn / W) * W + W * rhat := by rw [← hq, Nat.add_mul, Nat.mul_comm rhat]
  omega

theorem q_exit (q rhat yn un32 un1 W : Nat) (hyn : 0 < yn) (hq : q * (yn / W) + rhat = un32) (hW : 0 < W) (hge : (un32 * W + un1) / yn ≤ q) (hle : q * (yn % W) ≤ W * rhat + un1) : q = (un32 * W + un1) / yn :=
  Nat.le_antisymm ((Nat.le_div_iff_mul_le hyn).2 ((q_mul q rhat yn un32 un1 W hq hW).2 hle)) hge

theorem q_more (q rhat yn un32 un1 W : Nat) (hyn : 0 < yn) (hq : q * (yn / W) + rhat = un32) (hW : 0 < W) (hlt : un32 < yn) (h1 : un1 < W) (hc : W ≤ q ∨ ¬ q * (yn % W) ≤ W * rhat + un1) : (un32 * W + un1) / yn + 1 ≤ q := by
  have hb : (un32 * W + un1) / yn < W := by
    rw [Nat.div_lt_iff_lt_mul hyn]
    calc un32 * W + un1 < un32 * W + W := by omega
      _ = (un32 + 1) * W := by rw [Nat.add_mul, Nat.one_mul]
      _ ≤ yn * W := Nat.mul_le_mul_right _ (by omega)
      _ = W * yn := Nat.mul_comm _ _
  rcases hc with h | h
  · omega
  · have : ¬ q * yn ≤ un32 * W + un1 := fun hh => h ((q_mul q rhat yn un32 un1 W hq hW).1 hh)
    have : (un32 * W + un1) / yn < q := by
      rw [Nat.div_lt_iff_lt_mul hyn]; omega
    omega

theorem q_step (q rhat y1 un32 : Nat) (hq : q * y1 + rhat = un32) (h : 1 ≤ q) : (q - 1) * y1 + (rhat + y1) = un32 := by
  obtain ⟨p, rfl⟩ : ∃ p, q = p + 1 := ⟨q - 1, by omega⟩
  rw [Nat.add_mul, Nat.one_mul] at hq
  simp only [Nat.add_sub_cancel]
  omega

theorem q_exit' (t q rhat yn un32 un1 W : Nat) (ht : t = (un32 * W + un1) / yn) (hyn : 0 < yn) (hq : q * (yn / W) + rhat = un32) (hW : 0 < W) (hge : t ≤ q) (hle : q * (yn % W) ≤ W * rhat + un1) : q = t := by
  subst ht; exact q_exit q rhat yn un32 un1 W hyn hq hW hge hle

theorem q_more' (t q rhat yn un32 un1 W : Nat) (ht : t = (un32 * W + un1) / yn) (hyn : 0 < yn) (hq : q * (yn / W) + rhat = un32) (hW : 0 < W) (hlt : un32 < yn) (h1 : un1 < W) (hc : W ≤ q ∨ ¬ q * (yn % W) ≤ W * rhat + un1) : t + 1 ≤ q := by
  subst ht; exact q_more q rhat yn un32 un1 W hyn hq hW hlt h1 hc

end Go.Abs


namespace Go.Abs
set_option maxRecDepth 10000

/-! ### How many binary digits; shifts that meet -/

/-- x has n binary digits. -/
def Bits (x n : Nat) : Prop := x < 2 ^ n ∧ (n = 0 ∨ 2 ^ (n - 1) ≤ x)

theorem Bits.up {x n k : Nat} (h : Bits (x / 2 ^ k) n) (h1 : 1 ≤ x / 2 ^ k) : Bits x (n + k) := by
  obtain ⟨a, b⟩ := h
  have hk : 0 < 2 ^ k := Nat.pow_pos (by omega)
  refine ⟨?_, .inr ?_⟩
  · rw [Nat.pow_add]
    rwa [Nat.div_lt_iff_lt_mul hk] at a
  · rcases b with b | b
    · subst b; exact absurd a (by rw [Nat.pow_zero]; omega)
    · have hn : n ≠ 0 := by intro h0; subst h0; exact absurd a (by rw [Nat.pow_zero]; omega)
      rw [show n + k - 1 = (n - 1) + k by omega, Nat.pow_add]
      rwa [Nat.le_div_iff_mul_le hk] at b

theorem pow_le_of {x n : Nat} (h : Bits x n) (m : Nat) (hx : x < 2 ^ m) : n ≤ m := by
  rcases h.2 with h0 | h0
  · omega
  · apply Classical.byContradiction
    intro hc
    have := Nat.pow_le_pow_right (n := 2) (by omega) (show m ≤ n - 1 by omega)
    omega

/-- Made to begin with a 1. -/
theorem Bits.norm {y n : Nat} (h : Bits y n) (hy : 0 < y) (hn : n ≤ 64) : 9223372036854775808 ≤ y * 2 ^ (64 - n) ∧ y * 2 ^ (64 - n) < 18446744073709551616 := by
  obtain ⟨a, b⟩ := h
  have hn0 : n ≠ 0 := by intro h0; subst h0; simp at a; omega
  have b : 2 ^ (n - 1) ≤ y := by rcases b with b | b <;> omega
  constructor
  · have := Nat.mul_le_mul_right (2 ^ (64 - n)) b
    rw [← Nat.pow_add, show n - 1 + (64 - n) = 63 by omega] at this
    exact this
  · have hp : 0 < 2 ^ (64 - n) := Nat.pow_pos (by omega)
    have := Nat.mul_lt_mul_of_pos_right a hp
    rw [← Nat.pow_add, show n + (64 - n) = 64 by omega] at this
    exact this

theorem ior_nat {x y s : Nat} {v w : Int} (hv : v = ((x * 2 ^ s : Nat) : Int)) (hw : w = y) (hx : x * 2 ^ s < 18446744073709551616) (hy : y < 2 ^ s) (hs : s ≤ 64) : ior .u64 v w = ((x * 2 ^ s + y : Nat) : Int) := by
  subst hv
  subst hw
  unfold ior
  have hys : y < 18446744073709551616 := by
    have := Nat.pow_le_pow_right (n := 2) (by omega) hs
    have e : (2 : Nat) ^ 64 = 18446744073709551616 := rfl
    omega
  have h1 : (BitVec.ofInt IntKind.u64.bits ((x * 2 ^ s : Nat) : Int) ||| BitVec.ofInt IntKind.u64.bits (y : Int)).toNat = x * 2 ^ s + y := by
    rw [BitVec.toNat_or, ofInt_nat, ofInt_nat]
    show (x * 2 ^ s) % 18446744073709551616 ||| y % 18446744073709551616 = _
    rw [Nat.mod_eq_of_lt hx, Nat.mod_eq_of_lt hys, Nat.mul_comm x, ← Nat.two_pow_add_eq_or_of_lt hy]
  rw [h1]
  have hlt : x * 2 ^ s + y < 18446744073709551616 := by
    have h2 : x < 2 ^ (64 - s) := by
      apply Classical.byContradiction
      intro hc
      have := Nat.mul_le_mul_right (2 ^ s) (show 2 ^ (64 - s) ≤ x by omega)
      rw [← Nat.pow_add, show 64 - s + s = 64 by omega] at this
      have e : (2 : Nat) ^ 64 = 18446744073709551616 := rfl
      omega
    have h3 := Nat.mul_le_mul_right (2 ^ s) (show x + 1 ≤ 2 ^ (64 - s) by omega)
    rw [← Nat.pow_add, show 64 - s + s = 64 by omega, Nat.add_mul, Nat.one_mul] at h3
    have e : (2 : Nat) ^ 64 = 18446744073709551616 := rfl
    omega
  exact wrap_u64 (by omega) (by omega)

theorem ishl_nat {x s : Nat} {v w : Int} (hv : v = x) (hw : w = s) (hs : s ≤ 64) : ishl .u64 v w = ((x * 2 ^ s % 18446744073709551616 : Nat) : Int) := by
  subst hv
  subst hw
  unfold ishl
  rw [Int.toNat_natCast, show min s IntKind.u64.bits = s from Nat.min_eq_left hs, ← wrap_u64m]
  congr 1

end Go.Abs


namespace Go.Abs
set_option maxRecDepth 10000

/-! ### Digits in chunks; what stands as text -/

/-- The c lowest digits of r. -/
def pad (b : Nat) : Nat → Nat → List Nat
  | 0, _ => []
  | c + 1, r => r % b :: pad b c (r / b)

theorem dig_pad {b : Nat} (hb : 2 ≤ b) (Q : Nat) (hQ : Q ≠ 0) : ∀ (c r : Nat), r < b ^ c → dig b (Q * b ^ c + r) = pad b c r ++ dig b Q := by
  intro c
  induction c with
  | zero =>
    intro r hr
    have : r = 0 := by simpa using hr
    subst this
    simp [pad]
  | succ c ih =>
    intro r hr
    have hbc : 0 < b ^ c := Nat.pow_pos (by omega)
    have e : Q * b ^ (c + 1) + r = b * (Q * b ^ c) + r := by rw [Nat.pow_succ, Nat.mul_comm (b ^ c) b, Nat.mul_left_comm]
    have hne : b * (Q * b ^ c) + r ≠ 0 := by
      have : 0 < b * (Q * b ^ c) := Nat.mul_pos (by omega) (Nat.mul_pos (by omega) hbc)
      omega
    rw [e, dig_eq hb hne, Nat.mul_add_mod, Nat.mul_add_div (by omega), pad, List.cons_append, ih]
    rw [Nat.div_lt_iff_lt_mul (by omega), ← Nat.pow_succ]
    exact hr

/-- A digit's letter. -/
def ch (d : Nat) : Nat := if d < 10 then 48 + d else 87 + d

def hexTab : ByteArray := ⟨#[48, 49, 50, 51, 52, 53, 54, 55, 56, 57, 97, 98, 99, 100, 101, 102]⟩

theorem hexTab_ok : ((List.range 16).all fun x => match hexTab[x]? with | some b => b.toNat == ch x | none => false) = true := by decide +kernel

theorem hex_tab {d : Nat} (hd : d < 16) : bytA hexTab (d : Int) = some ((ch d : Nat) : Int) := by
  have h := List.all_eq_true.1 hexTab_ok d (List.mem_range.2 hd)
  unfold bytA
  rw [if_pos (Int.natCast_nonneg d), Int.toNat_natCast]
  cases hb : hexTab[d]? with
  | none => rw [hb] at h; cases h
  | some b =>
    rw [hb] at h
    simp only [beq_iff_eq] at h
    simp [h]

def bytesOf (cs : List Nat) : ByteArray := ⟨(cs.map Nat.toUInt8).toArray⟩

theorem rdBytes_of {H : AH} {a : Addr} : ∀ (cs : List Nat) (j : Nat), (∀ (i : Nat) (h : i < cs.length), H.cell (a.add (j + i)) = some (.int .u8 (cs[i] : Nat))) → rdBytes H a j cs.length = some (cs.map Nat.toUInt8) := by
  intro cs
  induction cs with
  | nil => intro j _; rfl
  | cons v l ih =>
    intro j h
    have h0 := h 0 (by simp)
    simp only [Nat.add_zero, List.getElem_cons_zero] at h0
    have h1 := ih (j + 1) fun i hi => by
      have := h (i + 1) (by simpa using hi)
      rw [show j + 1 + i = j + (i + 1) by omega, this]
      simp
    simp only [List.length_cons, rdBytes, h0, h1, List.map_cons, Int.toNat_natCast]

theorem bts_ro {H : AH} {s : Sl3} {cs : List Nat} (h : Ro .u8 H s cs) : bts H s = some (bytesOf cs) := by
  unfold bts bytesOf
  cases hp : s.p with
  | none =>
    have := h.nil hp
    have hl := h.len
    have : cs = [] := List.length_eq_zero_iff.1 (by omega)
    subst this
    rfl
  | some a =>
    simp only
    rw [h.len, rdBytes_of cs 0 fun i hi => by rw [Nat.zero_add]; exact h.cell a hp i hi]
    rfl

theorem drop_set_self (l : List Nat) (i v : Nat) (hi : i < l.length) : (l.set i v).drop i = v :: l.drop (i + 1) := by
  rw [List.drop_eq_getElem_cons (by simpa using hi)]
  simp [List.drop_set_of_lt]

theorem dig_len_le {b : Nat} (hb : 2 ≤ b) (n : Nat) : (dig b n).length ≤ 64 * (dig 18446744073709551616 n).length := by
  rw [dig_len hb]
  have h := (dig_len (B := 18446744073709551616) (by omega) n _).1 (Nat.le_refl _)
  have e : (18446744073709551616 : Nat) = 2 ^ 64 := rfl
  rw [e, ← Nat.pow_mul] at h
  exact Nat.lt_of_lt_of_le h (Nat.pow_le_pow_left hb _)

end Go.Abs


namespace Go.Abs
set_option maxRecDepth 10000

/-- What stands ahead of a place, the room behind it kept. -/
theorem slc_head {k : IntKind} {H : AH} {s : Sl3} {xs : List Nat} (h : Ro k H s xs) {n : Nat} (hn : n ≤ xs.length) {v : Int} (hv : v = n) :
    ∃ s', slc 1 H s none (some v) none = some s' ∧ Ro k H s' (xs.take n) ∧ s'.p = s.p := by
  subst hv
  have hl := h.len
  have hb1 : ∀ y : Nat, n ≤ y → ∀ d, boundI y d (some (n : Int)) = some n := by
    intro y hy d
    simp only [boundI]
    rw [if_pos ⟨Int.natCast_nonneg n, Int.ofNat_le.2 hy⟩]
    simp
  have hb2 : ∀ c, n ≤ c → slcB s.n c none (some (n : Int)) none = some (0, n, c) := by
    intro c hc
    unfold slcB
    simp only [boundI, Option.isSome_none, Bool.false_and, cond_false]
    have := hb1 c hc s.n
    simp only [boundI] at this
    rw [this]
  cases hp : s.p with
  | none =>
    obtain ⟨h1, h2⟩ := h.nil hp
    have hn0 : n = 0 := by omega
    subst hn0
    refine ⟨Sl3.nil, ?_, by simpa using Ro.nil' k H, rfl⟩
    unfold slc
    rw [hp]
    simp only
    rw [if_pos ⟨h1, h2⟩]
    have := hb2 0 (Nat.le_refl _)
    rw [h1] at this
    rw [this]
  | some a =>
    by_cases ho : s.c = OPEN
    · obtain ⟨b, o1, o2, o3, o4⟩ := h.opn a hp ho
      refine ⟨⟨some a, n, OPEN⟩, ?_, ⟨?_, ?_, Nat.le_refl _, fun h => (by cases h), fun b hb => ?_, fun b hb _ => ?_, fun b hb i hi => ?_⟩, rfl⟩
      · unfold slc
        rw [hp]
        simp only
        rw [if_pos ho, hb2 s.n (by omega)]
        simp only
        rw [o1]
        simp only
        rw [if_pos ⟨o2, o3, o4⟩]
        simp [add_zero]
      · simp only [List.length_take]; omega
      · show n ≤ OPEN
        have := h.cap
        omega
      · cases hb; exact h.low a hp
      · cases hb; exact ⟨_, o1, o2, o3, o4⟩
      · cases hb
        have hi' : i < xs.length := by simp only [List.length_take] at hi; omega
        rw [List.getElem_take]
        exact h.cell a hp i hi'
    · have hlt : s.c < OPEN := by have := h.top; omega
      refine ⟨⟨some a, n, s.c⟩, ?_, ⟨?_, ?_, h.top, fun h => (by cases h), fun b hb => ?_, fun b hb hh => absurd hh ho, fun b hb i hi => ?_⟩, rfl⟩
      · unfold slc
        rw [hp]
        simp only
        have hcap := h.cap
        rw [if_neg ho, hb2 s.c (by omega)]
        simp only
        have e : (if s.c = 0 then a else a.add (0 * 1)) = a := by split <;> simp [add_zero]
        rw [if_pos ⟨hlt, by omega⟩, e]
        simp
      · simp only [List.length_take]; omega
      · show n ≤ s.c
        have := h.cap
        omega
      · cases hb; exact h.low a hp
      · cases hb
        have hi' : i < xs.length := by simp only [List.length_take] at hi; omega
        rw [List.getElem_take]
        exact h.cell a hp i hi'

/-- A limb's four halves. -/
def hv4 (x : Nat) : List Nat := [x % 65536, x / 65536 % 65536, x / 4294967296 % 65536, x / 281474976710656 % 65536]
def halves (xs : List Nat) : List Nat := xs.flatMap hv4

theorem val_hv4 {x : Nat} (hx : x < 18446744073709551616) : val 65536 (hv4 x) = x := by
  simp only [hv4, val]
  omega

theorem halves_lt (xs : List Nat) : ∀ h ∈ halves xs, h < 65536 := by
  intro h hh
  simp only [halves, List.mem_flatMap, hv4, List.mem_cons, List.not_mem_nil, or_false] at hh
  obtain ⟨x, _, hh⟩ := hh
  omega

theorem halves_len (xs : List Nat) : (halves xs).length = 4 * xs.length := by
  induction xs with
  | nil => rfl
  | cons x xs ih =>
    unfold halves at ih ⊢
    rw [List.flatMap_cons, List.length_append, ih]
    simp [hv4]
    omega

theorem val_halves : ∀ (xs : List Nat), (∀ x ∈ xs, x < 18446744073709551616) → val 65536 (halves xs) = val 18446744073709551616 xs := by
  intro xs
  induction xs with
  | nil => intro _; rfl
  | cons x xs ih =>
    intro h
    have h1 := ih fun y hy => h y (by simp [hy])
    unfold halves at h1 ⊢
    rw [List.flatMap_cons, val_append, val_hv4 (h x (by simp)), h1, val, show (hv4 x).length = 4 from rfl, show (65536 : Nat) ^ 4 = 18446744073709551616 by decide]

theorem halves_app (xs : List Nat) (x : Nat) : halves (xs ++ [x]) = halves xs ++ hv4 x := by
  unfold halves
  rw [List.flatMap_append]
  simp

end Go.Abs


namespace Go.Abs
set_option maxRecDepth 10000

/-- It hangs on its own block alone. -/
theorem Vec.move {k : IntKind} {e : TypeId} {m : Nat} {H H' : AH} {xs : List Nat} {s : Sl3} (h : Vec k e m H xs s) (hm : ∀ id b, blkIs s id → H.get id = some b → id < H'.next ∧ H'.get id = some b) : Vec k e m H' xs s := by
  cases h with
  | nil hx => exact .nil hx
  | opn id hm' hid hg => exact .opn id hm' (hm _ _ ⟨_, rfl, rfl⟩ hg).1 (hm _ _ ⟨_, rfl, rfl⟩ hg).2
  | fix id c cs hm' hid hg hc ho hl hx => exact .fix id c cs hm' (hm _ _ ⟨_, rfl, rfl⟩ hg).1 (hm _ _ ⟨_, rfl, rfl⟩ hg).2 hc ho hl hx

/-! ### Numbers moved down by bits -/

def shrL (w n : Nat) : List Nat → List Nat
  | [] => []
  | x :: r => (x / 2 ^ n + r.headD 0 % 2 ^ n * 2 ^ (w - n)) :: shrL w n r

theorem shrL_len (w n : Nat) : ∀ l, (shrL w n l).length = l.length
  | [] => rfl
  | x :: r => by rw [shrL, List.length_cons, List.length_cons, shrL_len w n r]

theorem val_shrL {B w n : Nat} (hB : B = 2 ^ w) (hn : n ≤ w) : ∀ l, val B (shrL w n l) = val B l / 2 ^ n
  | [] => by simp [shrL, val]
  | x :: r => by
    have ih := val_shrL hB hn r
    have e : B = 2 ^ n * 2 ^ (w - n) := by rw [hB, ← Nat.pow_add]; congr 1; omega
    have hh : r.headD 0 % 2 ^ n = val B r % 2 ^ n := by
      cases r with
      | nil => simp [val]
      | cons y r' => rw [List.headD_cons, val, e, Nat.mul_assoc, Nat.add_mul_mod_self_left]
    rw [shrL, val, val, ih, hh]
    have h2 : x + B * val B r = x + 2 ^ n * (2 ^ (w - n) * val B r) := by rw [← Nat.mul_assoc, ← e]
    have hpos : 0 < 2 ^ n := Nat.pow_pos (by omega)
    rw [h2, Nat.add_mul_div_left _ _ hpos]
    generalize val B r = R
    have h3 := Nat.div_add_mod R (2 ^ n)
    have h4 : 2 ^ (w - n) * R = B * (R / 2 ^ n) + R % 2 ^ n * 2 ^ (w - n) := by
      conv => lhs; rw [← h3]
      rw [Nat.mul_add, e, Nat.mul_comm (2 ^ (w - n)) (R % 2 ^ n), Nat.mul_comm (2 ^ n) (2 ^ (w - n)), Nat.mul_assoc]
    rw [h4]
    omega

theorem shrL_get (w n : Nat) : ∀ (l : List Nat) (i : Nat) (h : i < l.length) (h' : i < (shrL w n l).length), (shrL w n l)[i] = l[i] / 2 ^ n + l.getD (i + 1) 0 % 2 ^ n * 2 ^ (w - n)
  | x :: r, 0, _, _ => by
    simp only [shrL, List.getElem_cons_zero]
    congr 2
    cases r <;> simp
  | x :: r, i + 1, h, h' => by
    simp only [shrL, List.getElem_cons_succ]
    rw [shrL_get w n r i (by simpa using h) (by rw [shrL_len]; simpa using h)]
    simp

theorem shrL_lt {B w n : Nat} (hB : B = 2 ^ w) (hn : n ≤ w) {l : List Nat} (hl : ∀ x ∈ l, x < B) : ∀ x ∈ shrL w n l, x < B := by
  intro x hx
  obtain ⟨i, hi, rfl⟩ := List.getElem_of_mem hx
  have hi' : i < l.length := by rw [shrL_len] at hi; exact hi
  rw [shrL_get w n l i hi']
  have e : B = 2 ^ (w - n) * 2 ^ n := by rw [hB, ← Nat.pow_add]; congr 1; omega
  have h1 : l[i] / 2 ^ n < 2 ^ (w - n) := by
    rw [Nat.div_lt_iff_lt_mul (Nat.pow_pos (by omega)), ← e]
    exact hl _ (List.getElem_mem hi')
  have h2 : l.getD (i + 1) 0 % 2 ^ n + 1 ≤ 2 ^ n := Nat.mod_lt _ (Nat.pow_pos (by omega))
  have h3 := Nat.mul_le_mul_right (2 ^ (w - n)) h2
  rw [Nat.mul_comm (2 ^ n), ← e, Nat.add_mul] at h3
  omega

end Go.Abs


namespace Go.Abs
set_option maxRecDepth 10000

theorem knuth_hi {q U3 V2 B Ul Vl : Nat} (hU : Ul < B) (h : U3 < (q + 1) * V2) : U3 * B + Ul < (q + 1) * (V2 * B + Vl) := by
  have h1 := Nat.mul_le_mul_right B (show U3 + 1 ≤ (q + 1) * V2 by omega)
  rw [Nat.add_mul, Nat.one_mul] at h1
  rw [Nat.mul_add, ← Nat.mul_assoc]
  omega

theorem knuth_lo {q U3 V2 B Ul Vl W : Nat} (hV : Vl < B) (hq : q ≤ W) (hW : W ≤ V2) (h : q * V2 ≤ U3) : (q - 1) * (V2 * B + Vl) ≤ U3 * B + Ul := by
  cases q with
  | zero => simp
  | succ p =>
    rw [Nat.add_sub_cancel, Nat.mul_add, ← Nat.mul_assoc]
    have h1 := Nat.mul_le_mul_right B h
    rw [Nat.add_mul, Nat.add_mul, Nat.one_mul] at h1
    have h2 : p * Vl ≤ V2 * B := Nat.mul_le_mul (by omega) (by omega)
    omega

/-- A window of a slice of one's own. -/
theorem slc_win {k : IntKind} {H : AH} {s : Sl3} {xs : List Nat} (h : Ro k H s xs) {i e : Nat} (hie : i < e) (he : e ≤ xs.length) {v w : Int} (hv : v = i) (hw : w = e) :
    ∃ s', slc 1 H s (some v) (some w) none = some s' ∧ s'.n = e - i ∧ ∀ j : Nat, j < e - i → idxA 1 s' (j : Int) = idxA 1 s ((i + j : Nat) : Int) := by
  subst hv
  subst hw
  have hl := h.len
  obtain ⟨a, hp⟩ := h.some_ (by omega)
  have hs : a.spot = none := by
    obtain ⟨_, _, _, _, _, _, hs, _⟩ := cell_obj (h.cell a hp 0 (by omega))
    rw [add_zero] at hs
    exact hs
  have hb : ∀ c, e ≤ c → slcB s.n c (some (i : Int)) (some (e : Int)) none = some (i, e, c) := by
    intro c hc
    unfold slcB
    simp only [boundI, Option.isSome_none, Bool.false_and, cond_false]
    rw [if_pos ⟨Int.natCast_nonneg e, Int.ofNat_le.2 hc⟩]
    simp only [Int.toNat_natCast]
    rw [if_pos ⟨Int.natCast_nonneg i, Int.ofNat_le.2 (by omega)⟩]
  have hidx : ∀ (c n : Nat) (q : Addr), q = a.add i → n = e - i → ∀ j : Nat, j < e - i → idxA 1 ⟨some q, n, c⟩ (j : Int) = idxA 1 s ((i + j : Nat) : Int) := by
    intro c n q hq hn j hj
    subst hq
    subst hn
    unfold idxA
    rw [hp]
    simp only [Int.toNat_natCast, Nat.mul_one]
    rw [if_pos ⟨Int.natCast_nonneg _, by omega⟩, if_pos ⟨Int.natCast_nonneg _, by omega⟩, add_add hs]
  by_cases ho : s.c = OPEN
  · obtain ⟨b, o1, o2, o3, o4⟩ := h.opn a hp ho
    refine ⟨⟨some (a.add (i * 1)), e - i, OPEN⟩, ?_, rfl, hidx _ _ _ (by rw [Nat.mul_one]) rfl⟩
    unfold slc
    rw [hp]
    simp only
    rw [if_pos ho, hb s.n (by omega)]
    simp only
    rw [o1]
    simp only
    rw [if_pos ⟨o2, o3, o4⟩]
  · have hcap := h.cap
    have htop := h.top
    refine ⟨⟨some (if s.c = i then a else a.add (i * 1)), e - i, s.c - i⟩, ?_, rfl, hidx _ _ _ (by rw [if_neg (by omega), Nat.mul_one]) rfl⟩
    unfold slc
    rw [hp]
    simp only
    rw [if_neg ho, hb s.c (by omega)]
    simp only
    rw [if_pos ⟨by omega, by omega⟩]

end Go.Abs


namespace Go.Abs
set_option maxRecDepth 10000

/-- The guess of a quotient's digit is the digit, or one above. -/
theorem knuth_guess {W B U V u2 u1 u0 v1 v0 q : Nat} (hB : 0 < B) (hW : 0 < W) (hU3 : U / B = (u2 * W + u1) * W + u0) (hV2 : V / B = v1 * W + v0) (hv1 : 1 ≤ v1) (hUV : U < V * W) (hq : q < W)
    (h1 : q * (v1 * W + v0) ≤ (u2 * W + u1) * W + u0) (h2 : q + 1 = W ∨ (u2 * W + u1) * W + u0 < (q + 1) * (v1 * W + v0)) : U / V ≤ q ∧ q ≤ U / V + 1 := by
  have eU := Nat.div_add_mod U B
  have eV := Nat.div_add_mod V B
  have mU := Nat.mod_lt U hB
  have mV := Nat.mod_lt V hB
  rw [hU3, Nat.mul_comm] at eU
  rw [hV2, Nat.mul_comm] at eV
  have hVp : 0 < V := by
    apply Nat.pos_of_ne_zero
    intro e
    rw [e] at hUV
    simp at hUV
  have hW2 : W ≤ v1 * W + v0 := by
    have := Nat.mul_le_mul_right W hv1
    omega
  constructor
  · rcases h2 with h2 | h2
    · have : U / V < W := by rw [Nat.div_lt_iff_lt_mul hVp, Nat.mul_comm]; exact hUV
      omega
    · have := knuth_hi (Vl := V % B) mU h2
      rw [eU, eV] at this
      have : U / V < q + 1 := by rw [Nat.div_lt_iff_lt_mul hVp]; exact this
      omega
  · have := knuth_lo (Ul := U % B) mV (Nat.le_of_lt hq) hW2 h1
    rw [eU, eV] at this
    have : q - 1 ≤ U / V := by rw [Nat.le_div_iff_mul_le hVp]; exact this
    omega

theorem knuth_top {W B U V u2 u1 u0 v1 v0 : Nat} (hB : 0 < B) (hW : 0 < W) (hU3 : U / B = (u2 * W + u1) * W + u0) (hV2 : V / B = v1 * W + v0) (hv0 : v0 < W) (hUV : U < V * W) : u2 ≤ v1 := by
  apply Nat.le_of_not_lt
  intro hlt
  have h1 : (v1 * W + v0 + 1) * B ≤ (v1 + 1) * W * B := Nat.mul_le_mul_right _ (by rw [Nat.add_mul]; omega)
  have h2 : V < (v1 * W + v0 + 1) * B := by rw [← Nat.div_lt_iff_lt_mul hB, hV2]; omega
  have h3 : V * W ≤ (v1 + 1) * W * B * W := Nat.mul_le_mul_right _ (by omega)
  have h4 : (u2 * W * W) * B ≤ U := by
    rw [← Nat.le_div_iff_mul_le hB, hU3, Nat.add_mul]
    omega
  have h5 : (v1 + 1) * W * B * W ≤ u2 * W * W * B := by
    rw [Nat.mul_right_comm ((v1 + 1) * W) B W]
    exact Nat.mul_le_mul_right _ (Nat.mul_le_mul_right _ (Nat.mul_le_mul_right _ hlt))
  omega

/-- What is left once a digit is taken off. -/
theorem knuth_rest {S V T : Nat} (hT : 0 < T) (hV : 0 < V) : S / T / V * V * T ≤ S ∧ S - S / T / V * V * T < V * T := by
  have h1 := Nat.div_add_mod S T
  have h2 := Nat.mod_lt S hT
  have h3 := Nat.div_add_mod (S / T) V
  have h4 := Nat.mod_lt (S / T) hV
  generalize S / T = U at *
  generalize S % T = l at *
  generalize hq : U / V = q at *
  generalize U % V = r at *
  have e : S = q * V * T + (r * T + l) := by
    rw [← h1, ← h3, Nat.mul_comm T, Nat.add_mul, Nat.mul_comm V q]
    omega
  have h5 := Nat.mul_le_mul_right T (show r + 1 ≤ V by omega)
  rw [Nat.add_mul] at h5
  omega

end Go.Abs

