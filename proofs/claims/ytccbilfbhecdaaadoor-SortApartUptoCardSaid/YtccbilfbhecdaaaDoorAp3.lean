/- Parts of the proof: an abstract interpreter of the loaded program and its soundness, printed functions, the law's own texts; part 3. No condition. -/
import Derived.Test.YtccbilfbhecdaaaDoorAp2
import Derived.OrdersHeld
import Derived.LaidSub
import Derived.Deep.DeepHandedRow
import Derived.ChangeArms
namespace Go.Abs

variable {P : Program} {ne : NE} {m : Nat} {n : Fr} {ih : Ex} {ρ : Operand → Value} {o : Oper} {H H' : AH}

def grownS (H : AH) (e : TypeId) (sz bytes need : Nat) (cs : List Value) : Option (Sl3 × AH) :=
  if (2 * need + 1000) * bytes ≤ 281474976710656 ∧ need ≤ 281474976710656 then
    some (⟨some ⟨H.next, 0, none⟩, need, OPEN⟩, H.push { obj := .cells cs.toArray e (0, 0), opn := true, esz := sz, ro := false })
  else none

def ownedB (m : Nat) (H : AH) (a : Addr) (e : TypeId) (sz : Nat) : Bool :=
  match H.get a.block with
  | some { obj := .cells _ e' _, opn := true, esz, ro := false } => Nat.ble m a.block && Nat.beq esz sz && Nat.beq e e'
  | _ => false

def appL (m : Nat) (e : TypeId) (sz bytes : Nat) (H : AH) (s : Sl3) (k : Nat) (new : List Value) : Option (Sl3 × AH) :=
  if k = 0 then (if s.n ≤ s.c then some (s, H) else none) else
  match s.p with
  | none => if s.n = 0 ∧ s.c = 0 then grownS H e sz bytes k new else none
  | some a => match rdCells H a 0 (s.n * sz) with
    | none => none
    | some old =>
      if s.c = OPEN then
        (if ownedB m H a e sz = true ∧ new.all one = true then grownS (H.put a.block dead) e sz bytes (s.n + k) (old ++ new) else none)
      else if s.n + k ≤ s.c then (wrCells m (a.add (s.n * sz)) 0 new H).map fun H' => (⟨some a, s.n + k, s.c⟩, H')
      else if s.n ≤ s.c then grownS H e sz bytes (s.n + k) (old ++ new) else none

def appS (m : Nat) (e : TypeId) (sz bytes : Nat) (H : AH) (s x : Sl3) : Option (Sl3 × AH) :=
  match x.p with
  | some b => match rdCells H b 0 (x.n * sz) with
    | some l => if l.all one = true then appL m e sz bytes H s x.n l else none
    | none => none
  | none => if x.n = 0 then appL m e sz bytes H s 0 [] else none

theorem ble_of {a b : Nat} (h : a ≤ b) : Nat.ble a b = true := Nat.ble_eq_true_of_le h
/-- Room made new. -/
def zerosA (z : Array Value) (k : Nat) : Array Value := (Array.range k).map (z[· % z.size]!)

def mkS (e : TypeId) (sz bytes : Nat) (z : Array Value) (H : AH) (len cap : Int) : Option (Sl3 × AH) :=
  if 0 ≤ len ∧ len ≤ cap ∧ cap ≤ 281474976710656 ∧ bytes * cap ≤ 281474976710656 then
    some (⟨some ⟨H.next, 0, none⟩, len.toNat, cap.toNat⟩, H.push { obj := .cells (if cap.toNat * sz = 0 then #[] else zerosA z (cap.toNat * sz)) e (0, 0), opn := false, esz := 0, ro := false })
  else none

def mkI (P : Program) (t : TypeId) : Option (TypeId × Nat × Nat × Array Value) :=
  match P.underlying t with
  | some (.slice e) => match P.info? e with
    | some i => match i.zero with
      | some z => bif zelem P t then some (e, i.size, i.bytes, z.cells) else none
      | none => none
    | none => none
  | _ => none

theorem wrap_id {x : Int} (h0 : 0 ≤ x) (h1 : x ≤ 281474976710656) : IntKind.i64.wrap x = x := by
  rw [IntKind.wrap_i64]; omega

theorem run_mk {t e : TypeId} {x y : Operand} {sz bytes : Nat} {z : Array Value} {k1 k2 : IntKind} {len cap : Int} {s' : Sl3} (hop : o.op = .makeSlice t x y) (hi : mkI P t = some (e, sz, bytes, z))
    (hx : ρ x = .int k1 len) (hy : ρ y = .int k2 cap) (h : mkS e sz bytes z H len cap = some (s', H')) : runOp P ne ih m o ρ H = some (s'.v, H') := by
  obtain ⟨dst, op, ty, pos, after, guard⟩ := o
  simp only at hop
  subst hop
  unfold mkI at hi
  split at hi
  · rename_i e1 hu
    cases hie : P.info? e1 with
    | none => rw [hie] at hi; cases hi
    | some i =>
      rw [hie] at hi
      simp only at hi
      cases hz : i.zero with
      | none => rw [hz] at hi; cases hi
      | some zv =>
        rw [hz] at hi
        simp only at hi
        cases hze : zelem P t with
        | false => rw [hze] at hi; cases hi
        | true =>
          rw [hze] at hi
          simp only [cond_true, Option.some.injEq, Prod.mk.injEq] at hi
          obtain ⟨rfl, rfl, rfl, rfl⟩ := hi
          unfold mkS at h
          split at h
          · rename_i hh
            obtain ⟨h1, h2, h3, h4⟩ := hh
            simp only [Option.some.injEq, Prod.mk.injEq] at h
            obtain ⟨rfl, rfl⟩ := h
            simp only [runOp, aOp, hze, cond_true, execOp, hx, hy, bind]
            have hS : arun P m (Instr.makeSlice t (.int k1 len) (.int k2 cap)) H = some (.slice (some ⟨H.next, 0, none⟩) len.toNat cap.toNat, H.push { obj := .cells (if cap.toNat * i.size = 0 then #[] else zerosA zv.cells (cap.toNat * i.size)) e1 (0, 0), opn := false, esz := 0, ro := false }) := by
              unfold Instr.makeSlice
              have w1 := wrap_id h1 (by omega)
              have w2 := wrap_id (show 0 ≤ cap by omega) h3
              simp only [asInt, asIntOf, Go.underlying, Go.sizeOf, Go.typeInfo, Go.program, bind, Pure.pure, Sem.bind, arun, hu, hie, w1, w2]
              have c1 : (decide (cap < 0) || decide ((i.bytes : Int) * cap > 2 ^ 48)) = false := by
                simp only [Bool.or_eq_false_iff, decide_eq_false_iff_not]
                exact ⟨by omega, by omega⟩
              have c2 : (decide (len < 0)) = false := by simp; omega
              have c3 : (decide (len > cap)) = false := by simp; omega
              simp only [c1, c2, c3, Bool.or_false, Bool.false_eq_true, if_false]
              by_cases hr : cap.toNat * i.bytes > roomBytes
              · simp only [askRoom, hr, if_true, Go.mark, Sem.bind, arun, hie]
                by_cases h0 : cap.toNat * i.size = 0
                · simp only [h0, if_true, Sem.bind, arun, Go.newRow, Go.newObj, bind, Pure.pure, blkOf]
                  rw [show (Array.map (fun x => (#[] : Array Value)[x % (#[] : Array Value).size]!) (Array.range 0)) = #[] by simp]
                · simp only [h0, if_false, Go.zeroValue, Go.typeInfo, Go.program, bind, Pure.pure, Sem.bind, arun, hie, hz, Go.newRow, Go.newObj, blkOf]
                  rfl
              · simp only [askRoom, hr, if_false, Sem.bind, arun, hie, Pure.pure]
                by_cases h0 : cap.toNat * i.size = 0
                · simp only [h0, if_true, Sem.bind, arun, Go.newRow, Go.newObj, bind, Pure.pure, blkOf]
                  rw [show (Array.map (fun x => (#[] : Array Value)[x % (#[] : Array Value).size]!) (Array.range 0)) = #[] by simp]
                · simp only [h0, if_false, Go.zeroValue, Go.typeInfo, Go.program, bind, Pure.pure, Sem.bind, arun, hie, hz, Go.newRow, Go.newObj, blkOf]
                  rfl
            rw [arun_bind, hS]
            rfl
          · cases h
  · cases hi

def bytA (s : ByteArray) (i : Int) : Option Int := if 0 ≤ i then (s[i.toNat]?).map fun b => (b.toNat : Int) else none

theorem run_byt {t : TypeId} {x y : Operand} {k : IntKind} {s : ByteArray} {i b : Int} (hop : o.op = .index t x y) (hu : P.underlying t = some .string) (hx : ρ x = .string s) (hy : ρ y = .int k i) (h : bytA s i = some b) : runOp P ne ih m o ρ H = some (.int .u8 b, H) := by
  obtain ⟨dst, op, ty, pos, after, guard⟩ := o
  simp only at hop
  subst hop
  unfold bytA at h
  split at h
  · rename_i h0
    cases hb : s[i.toNat]? with
    | none => rw [hb] at h; cases h
    | some c =>
      rw [hb] at h
      simp only [Option.map_some, Option.some.injEq] at h
      subst h
      simp only [runOp, aOp, execOp, hx, hy, bind]
      have hS : arun P m (Instr.index t (.string s) (.int k i)) H = some (.int .u8 c.toNat, H) := by
        unfold Instr.index
        simp only [asIntOf, Go.underlying, Go.program, bind, Pure.pure, Sem.bind, arun, hu, h0, if_true, hb]
      rw [arun_bind, hS]
      rfl
  · cases h

def strC (s : ByteArray) (lo hi : Option Int) : Option ByteArray :=
  match slcB s.size s.size lo hi none with
  | some (l, h, _) => some (s.extract l h)
  | none => none

theorem run_strC {t : TypeId} {x : Operand} {lo hi : Option Operand} {s s' : ByteArray} {li hii : Option Int} {k1 k2 : IntKind} (hop : o.op = .slice t x lo hi none) (hu : P.underlying t = some .string)
    (hx : ρ x = .string s) (hlo : lo.map ρ = li.map (Value.int k1)) (hhi : hi.map ρ = hii.map (Value.int k2)) (h : strC s li hii = some s') : runOp P ne ih m o ρ H = some (.string s', H) := by
  obtain ⟨dst, op, ty, pos, after, guard⟩ := o
  simp only at hop
  subst hop
  unfold strC at h
  cases hb : slcB s.size s.size li hii none with
  | none => rw [hb] at h; cases h
  | some q =>
    obtain ⟨l, hh, k⟩ := q
    rw [hb] at h
    cases h
    simp only [runOp, aOp, hx]
    unfold flatRun
    have hfl : (Op.slice t x lo hi none).operands.all (fun x => flat depth (ρ x)) = true := by
      rw [Array.all_eq_true_iff_forall_mem]
      intro y hy
      simp only [Op.operands, Array.mem_append] at hy
      rcases hy with ((hy | hy) | hy) | hy
      · simp only [List.mem_toArray, List.mem_singleton] at hy; subst hy; rw [hx]; rfl
      · exact flat_optI hlo y hy
      · exact flat_optI hhi y hy
      · simp at hy
    simp only [hfl, cond_true, execOp, hx, hlo, hhi, Option.map_none]
    have hS : peval P (Instr.sliceAt t (.string s) (li.map (Value.int k1)) (hii.map (Value.int k2)) none) = some (.string (s.extract l hh)) := by
      unfold Instr.sliceAt Instr.slice
      simp only [Go.underlying, Go.program, bind, Pure.pure, Sem.bind, peval, hu, Option.isSome_none, Bool.false_eq_true, if_false]
      rw [pbind, show (none : Option Value) = (none : Option Int).map (Value.int .i64) from rfl, run_sliceBounds hb]
      rfl
    simp only [bind]
    rw [pbind, hS]
    rfl

def bts (H : AH) (s : Sl3) : Option ByteArray :=
  match s.p with
  | some a => (rdBytes H a 0 s.n).map fun l => ⟨l.toArray⟩
  | none => some .empty

theorem run_bts {t u e : TypeId} {x : Operand} {s : Sl3} {b : ByteArray} (hop : o.op = .convert t u x) (ht : P.underlying t = some (.slice e)) (hu : P.underlying u = some .string) (he : P.underlying e = some (.int .u8)) (hx : ρ x = s.v) (h : bts H s = some b) :
    runOp P ne ih m o ρ H = some (.string b, H) := by
  obtain ⟨dst, op, ty, pos, after, guard⟩ := o
  simp only at hop
  subst hop
  obtain ⟨p, l, c⟩ := s
  unfold bts at h
  cases p with
  | none =>
    simp only [Option.some.injEq] at h
    subst h
    have hp : peval P (execOp ρ { dst, op := .convert t u x, type := ty, pos, after, guard }) = some (.value (.string .empty)) := by
      simp only [execOp, hx, Sl3.v, convert, Go.underlying, Go.program, bind, Pure.pure, Sem.bind, peval, ht, hu, he, Conv.bytesToString]
    simp only [runOp, aOp, hx, Sl3.v, flatRun, Op.operands, hp]
    simp [hx, Sl3.v, flat, asVal]
  | some a =>
    simp only at h
    cases hr : rdBytes H a 0 l with
    | none => rw [hr] at h; cases h
    | some q =>
      rw [hr] at h
      simp only [Option.map_some, Option.some.injEq] at h
      subst h
      simp only [runOp, aOp, hx, Sl3.v, ht, hu, he, hr]

end Go.Abs


namespace Go.Abs

variable {P : Program} {ne : NE} {m : Nat} {n : Fr}

/-- The same at each reading; points to what is there. -/
def calm (c : Nat) (v : Value) : Bool := unders c depth v && veq depth v v

def dst0 (ss : Sl) (H : AH) (pls : List Pl) : DSt := ⟨ss, H.next, H, [], [H], [], pls⟩

def QX (P : Program) (ne : NE) (m : Nat) (n : Fr) (ops : Array Oper) (k : Nat) (kn : Kn) (H : AH) (K : Sl → AH → Prop) : Prop :=
  ∀ ss, Mat kn ss → ∃ ss' pls, (∃ N, ∀ j, N ≤ j → (∀ pls0, planOps P ne (exec P ne j) m n ops (befores ops.toList) k (ops.toList.drop k) (dst0 ss H pls0) = some (dst0 ss' H (pls.reverse ++ pls0))) ∧
    steadyAll P ne (exec P ne j) m (befores ops.toList) [H] [] k (ops.toList.drop k) pls = true) ∧ K ss' H

def drawnB (ops : Array Oper) : Bool := slotsOk ops (befores ops.toList) && edgesOk ops.toList && closedOk ops.toList (befores ops.toList)

theorem WX.quiet {c : Code} {kn : Kn} {H : AH} {Q : Post} (ops : Array Oper) (hc : regOf c = some (ops, true)) (hB : drawnB ops = true) (h : QX P ne m n ops 0 kn H fun ss H => Q .normal ss H) : WX P ne m n c kn H Q := by
  cases c with
  | region id ops' d =>
    simp only [regOf, Option.some.injEq, Prod.mk.injEq] at hc
    obtain ⟨rfl, rfl⟩ := hc
    intro ss hs
    obtain ⟨s1, pls, ⟨N, h1⟩, hq⟩ := h ss hs
    refine ⟨.normal, s1, H, ⟨N + 1, fun k hk => ?_⟩, hq⟩
    obtain ⟨k, rfl⟩ : ∃ j, k = j + 1 := ⟨k - 1, by omega⟩
    rw [exec_succ]
    simp only [execStep, cond_true]
    obtain ⟨h2, h3⟩ := h1 k (by omega)
    have h2 := h2 []
    rw [List.drop_zero] at h2 h3
    unfold drawnA
    unfold drawnB at hB
    simp only [hB, cond_true]
    rw [show (DSt.mk ss H.next H [] [H] [] []) = dst0 ss H [] from rfl, h2]
    simp only [dst0, List.append_nil, List.reverse_reverse, List.reverse_cons, List.reverse_nil, List.nil_append, h3, cond_true, putAll]
  | _ => cases hc

theorem QX.done {ops : Array Oper} {k : Nat} {kn : Kn} {H : AH} {K : Sl → AH → Prop} (hk : Nat.ble ops.size k = true) (h : ∀ ss, Mat kn ss → K ss H) : QX P ne m n ops k kn H K := by
  intro ss hs
  have : ops.toList.drop k = [] := List.drop_eq_nil_of_le (by simpa using Nat.le_of_ble_eq_true hk)
  exact ⟨ss, [], ⟨0, fun j _ => by rw [this]; exact ⟨fun pls0 => rfl, rfl⟩⟩, h ss hs⟩

theorem fits_nil (bs : List Nat) (i j : Nat) : fits bs [] i j = true := by simp [fits]

/-- One operation that reads or reckons. -/
theorem QX.op {ops : Array Oper} {k : Nat} {kn : Kn} {H : AH} {K : Sl → AH → Prop} (o : Oper) (d : Option Nat) (v : Value) (ho : ops[k]? = some o) (hB : opG P n ops kn o d = true) (hqt : quiet P o = true)
    (hr : ∀ ih, runOp P ne ih m o (evK kn) H = some (v, H)) (hcalm : calm H.next v = true) (h : QX P ne m n ops (k + 1) (putK kn d v) H K) : QX P ne m n ops k kn H K := by
  intro ss hs
  unfold opG at hB
  simp only [Bool.and_eq_true] at hB
  obtain ⟨⟨⟨hg, hx⟩, hkn⟩, hd⟩ := hB
  rw [Array.all_eq_true_iff_forall_mem] at hkn
  obtain ⟨s1, hp, hm⟩ := Mat.putD (v := v) (ss' := ss) hs hd
  obtain ⟨s2, pls, ⟨N2, h2⟩, hK⟩ := h s1 hm
  have hw : wantedA ops o ss = some true := by
    refine hs.want ?_
    split at hg
    · assumption
    · cases hg
  have hc : ∀ j, runOp P ne (exec P ne j) m o (evalA ss) H = some (v, H) := fun j => by
    rw [runOp_congr (ρ' := evK kn) fun x hx => hs.eval (hkn x hx)]; exact hr _
  unfold calm at hcalm
  simp only [Bool.and_eq_true] at hcalm
  refine ⟨s2, ⟨.quiet, ss, H.next, v, H.next⟩ :: pls, ⟨N2, fun j hj => ?_⟩, hK⟩
  obtain ⟨h3, h4⟩ := h2 j hj
  rw [drop_cons ho]
  refine ⟨fun pls0 => ?_, ?_⟩
  · simp only [planOps, planOp, dst0, hw, hx, cond_true, hqt, hc j, hp]
    have := h3 (⟨.quiet, ss, H.next, v, H.next⟩ :: pls0)
    simp only [dst0] at this
    rw [this]
    simp
  · simp only [steadyAll, steady, hcalm.1, Bool.true_and, List.zipIdx_cons, List.zipIdx_nil, List.all_cons, List.all_nil, fits_nil, Bool.not_true, Bool.false_or, Nat.max_self, hc j, hcalm.2, h4, Bool.and_true]

/-- One operation that is passed over. -/
theorem QX.skp {ops : Array Oper} {k : Nat} {kn : Kn} {H : AH} {K : Sl → AH → Prop} (o : Oper) (d : Option Nat) (ho : ops[k]? = some o) (hB : opS n ops kn o d = true)
    (h : QX P ne m n ops (k + 1) (putK kn d undef) H K) : QX P ne m n ops k kn H K := by
  intro ss hs
  unfold opS at hB
  simp only [Bool.and_eq_true] at hB
  obtain ⟨s1, hp, hm⟩ := Mat.putD (v := undef) (ss' := ss) hs hB.2
  obtain ⟨s2, pls, ⟨N2, h2⟩, hK⟩ := h s1 hm
  have hw : wantedA ops o ss = some false := by
    refine hs.want ?_
    have hg := hB.1
    split at hg
    · assumption
    · cases hg
  refine ⟨s2, ⟨.pass, ss, H.next, undef, H.next⟩ :: pls, ⟨N2, fun j hj => ?_⟩, hK⟩
  obtain ⟨h3, h4⟩ := h2 j hj
  rw [drop_cons ho]
  refine ⟨fun pls0 => ?_, ?_⟩
  · simp only [planOps, planOp, dst0, hw, hp]
    have := h3 (⟨.pass, ss, H.next, undef, H.next⟩ :: pls0)
    simp only [dst0] at this
    rw [this]
    simp
  · simp only [steadyAll, steady, Bool.true_and, h4]

theorem QX.fix {ops : Array Oper} {k : Nat} {kn : Kn} {H : AH} {K : Sl → AH → Prop} (t : Nat) {b : Bool} (c : Bool) (hb : b = c) (hl : lk kn t = some (.bool b)) (h : QX P ne m n ops k ((t, .bool c) :: kn) H K) : QX P ne m n ops k kn H K :=
  fun ss hs => h ss (hs.fix t hb hl)

def opAt (ops : Array Oper) (k : Nat) : Oper := ops.getD k default

def noCall (o : Oper) : Bool := match o.op with
  | .call { callee := .value _, .. } => false
  | _ => true

def ih0 : Ex := fun _ _ _ => none

theorem runOp_ih {o : Oper} {ρ : Operand → Value} {H : AH} {ih ih' : Ex} (h : noCall o = true) : runOp P ne ih m o ρ H = runOp P ne ih' m o ρ H := by
  obtain ⟨dst, op, ty, pos, after, guard⟩ := o
  unfold runOp
  cases op with
  | call c =>
    obtain ⟨callee, args, ts⟩ := c
    cases callee with
    | value g => cases h
    | _ => rfl
  | _ => rfl

def runPs (P : Program) (ne : NE) (m : Nat) (n : Fr) (ops : Array Oper) : Nat → Nat → Kn → AH → Option (Kn × AH)
  | 0, _, kn, H => some (kn, H)
  | j + 1, k, kn, H => match ops[k]? with
    | some o => match wantK ops kn o with
      | some true => bif opG P n ops kn o o.dst && noCall o then (match runOp P ne ih0 m o (evK kn) H with
          | some (v, H') => runPs P ne m n ops j (k + 1) (putK kn o.dst v) H'
          | none => none) else none
      | some false => bif opS n ops kn o o.dst then runPs P ne m n ops j (k + 1) (putK kn o.dst undef) H else none
      | none => none
    | none => none

theorem RX.ps {ops : Array Oper} {K : Sl → AH → Prop} : ∀ (j : Nat) {k : Nat} {kn kn' : Kn} {H H' : AH}, runPs P ne m n ops j k kn H = some (kn', H') → RX P ne m n ops (k + j) kn' H' K → RX P ne m n ops k kn H K := by
  intro j
  induction j with
  | zero =>
    intro k kn kn' H H' hr h
    simp only [runPs, Option.some.injEq, Prod.mk.injEq] at hr
    obtain ⟨rfl, rfl⟩ := hr
    exact h
  | succ j ihj =>
    intro k kn kn' H H' hr h
    simp only [runPs] at hr
    cases ho : ops[k]? with
    | none => rw [ho] at hr; cases hr
    | some o =>
      simp only [ho] at hr
      cases hw : wantK ops kn o with
      | none => rw [hw] at hr; cases hr
      | some b =>
        simp only [hw] at hr
        cases b with
        | true =>
          simp only at hr
          cases hB : opG P n ops kn o o.dst with
          | false => rw [hB] at hr; cases hr
          | true =>
            cases hN : noCall o with
            | false => rw [hB, hN] at hr; cases hr
            | true =>
              simp only [hB, hN, Bool.and_self, cond_true] at hr
              cases hv : runOp P ne ih0 m o (evK kn) H with
              | none => rw [hv] at hr; cases hr
              | some p =>
                obtain ⟨v, H1⟩ := p
                rw [hv] at hr
                exact RX.p o o.dst v ho hB (fun ih => by rw [runOp_ih (ih' := ih0) hN]; exact hv) (ihj hr (by rw [show k + 1 + j = k + (j + 1) by omega]; exact h))
        | false =>
          simp only at hr
          cases hB : opS n ops kn o o.dst with
          | false => rw [hB] at hr; cases hr
          | true =>
            simp only [hB, cond_true] at hr
            exact RX.skp o o.dst ho hB (ihj hr (by rw [show k + 1 + j = k + (j + 1) by omega]; exact h))

end Go.Abs


namespace Go.Abs

variable {P : Program} {ne : NE} {m : Nat} {n : Fr}

variable {S R : Type} {knOf : S → Kn} {hOf : S → AH} {i : Nat} {QR : R → Sl → AH → Prop}

theorem SubK.cons {t : Nat} {v : Value} {l kn : Kn} (h : lk kn t = some v) (hs : SubK l kn) : SubK ((t, v) :: l) kn := ⟨h, hs⟩
theorem SubK.nil {kn : Kn} : SubK [] kn := trivial

theorem WX.loopI {c : Code} {kn : Kn} {H : AH} {Q : Post} (hc : isLoop c = true) (body : S → Option (Lp S R)) (knOf : S → Kn) (hOf : S → AH) (i : Nat) (QR : R → Sl → AH → Prop)
    (hbody : ∀ s o, body s = some o → WX P ne m n (cfst c) (knOf s) (hOf s) (lpQ knOf hOf i QR o)) {s s' : S} (h : loopO body s = some (.inl s')) (hsub : SubK (knOf s) kn) (hH : H = hOf s)
    (hQ : ∀ ss, Mat (knOf s') ss → Q (.exit i) ss (hOf s')) : WX P ne m n c kn H Q := WX.loop hc body knOf hOf i QR hbody h hsub hH hQ

theorem WX.loopR {c : Code} {kn : Kn} {H : AH} {Q : Post} (hc : isLoop c = true) (body : S → Option (Lp S R)) (knOf : S → Kn) (hOf : S → AH) (i : Nat) (QR : R → Sl → AH → Prop)
    (hbody : ∀ s o, body s = some o → WX P ne m n (cfst c) (knOf s) (hOf s) (lpQ knOf hOf i QR o)) {s : S} {r : R} (h : loopO body s = some (.inr r)) (hsub : SubK (knOf s) kn) (hH : H = hOf s)
    (hQ : ∀ ss H, QR r ss H → Q .ret ss H) : WX P ne m n c kn H Q := WX.loop hc body knOf hOf i QR hbody h hsub hH hQ

/-- One operation, at its place. -/
theorem RX.at {ops : Array Oper} {k : Nat} {kn : Kn} {H H' : AH} {K : Sl → AH → Prop} (d : Option Nat) (v : Value) (ho : ops[k]? = some (opAt ops k)) (hB : opG P n ops kn (opAt ops k) d = true)
    (hr : ∀ ih, runOp P ne ih m (opAt ops k) (evK kn) H = some (v, H')) (h : RX P ne m n ops (k + 1) (putK kn d v) H' K) : RX P ne m n ops k kn H K := RX.p _ d v ho hB hr h

theorem QX.at {ops : Array Oper} {k : Nat} {kn : Kn} {H : AH} {K : Sl → AH → Prop} (d : Option Nat) (v : Value) (ho : ops[k]? = some (opAt ops k)) (hB : opG P n ops kn (opAt ops k) d = true) (hqt : quiet P (opAt ops k) = true)
    (hr : ∀ ih, runOp P ne ih m (opAt ops k) (evK kn) H = some (v, H)) (hcalm : calm H.next v = true) (h : QX P ne m n ops (k + 1) (putK kn d v) H K) : QX P ne m n ops k kn H K := QX.op _ d v ho hB hqt hr hcalm h

theorem dec_not {p : Prop} [Decidable p] (h : p) : (!decide p) = false := by simp [h]
theorem dec_not' {p : Prop} [Decidable p] (h : ¬ p) : (!decide p) = true := by simp [h]
theorem b_not {b : Bool} (h : ¬ b = true) : b = false := by simpa using h
theorem nb_not {b : Bool} (h : b = true) : (!b) = false := by simp [h]
theorem nb_not' {b : Bool} (h : ¬ b = true) : (!b) = true := by simpa using h

/-- A new row of cells. -/
def newR (e : TypeId) (k : Nat) (cells : Array Value) (H : AH) : Option (Sl3 × AH) := some (⟨some ⟨H.next, 0, none⟩, k, k⟩, H.push { obj := .cells cells e (0, 0), opn := false, esz := 0, ro := false })

def iand (k : IntKind) (x y : Int) : Int := k.wrap ((BitVec.ofInt k.bits x &&& BitVec.ofInt k.bits y).toNat)
def ior (k : IntKind) (x y : Int) : Int := k.wrap ((BitVec.ofInt k.bits x ||| BitVec.ofInt k.bits y).toNat)
def ixor (k : IntKind) (x y : Int) : Int := k.wrap ((BitVec.ofInt k.bits x ^^^ BitVec.ofInt k.bits y).toNat)
def ishr (k : IntKind) (x y : Int) : Int := x.fdiv (2 ^ (min y.toNat k.bits))

def strcat (a b : ByteArray) : Option ByteArray := if ((a.size + b.size : Nat) : Int) > IntKind.i64.max then none else some (a ++ b)

theorem run_strcat {ih : Ex} {o : Oper} {ρ : Operand → Value} {H : AH} {t u : TypeId} {x y : Operand} {a b c : ByteArray} (hop : o.op = .binOp .add t x y u) (hx : ρ x = .string a) (hy : ρ y = .string b) (h : strcat a b = some c) : runOp P ne ih m o ρ H = some (.string c, H) := by
  obtain ⟨dst, op, ty, pos, after, guard⟩ := o
  simp only at hop
  subst hop
  unfold strcat at h
  rcases ite_some h with ⟨_, h⟩ | ⟨hp, h⟩
  · cases h
  · cases h
    have hp' : peval P (execOp ρ { dst, op := .binOp .add t x y u, type := ty, pos, after, guard }) = some (.value (.string (a ++ b))) := by
      simp only [execOp, hx, hy, eqGuard, binOp, Op.stringOp, hp, if_false, bind, Pure.pure]
      rfl
    simp only [runOp, aOp, aEq, flatRun, Op.operands, hp', hx, hy]
    simp [hx, hy, flat, asVal]

end Go.Abs


namespace Go.Abs

variable {P : Program} {ne : NE} {m : Nat} {n : Fr}

def actAt (P : Program) (ops : Array Oper) (a : Nat) : Bool := match ops[a]? with
  | some o => !quiet P o && !makes o
  | none => false

structure DD where
  G : AH
  cnt : Nat
  pend : List (Nat × Nat × Blk)
  acts : List Nat

def DX (P : Program) (ne : NE) (m : Nat) (n : Fr) (ops : Array Oper) (still : Bool) (k : Nat) (kn : Kn) (D : DD) (K : Sl → AH → Prop) : Prop :=
  ∀ ss, Mat kn ss → ∃ ss' G' cnt' pend' gsn actsn pls,
    K ss' (putAll pend' { G' with next := cnt' }) ∧ (∀ a ∈ actsn, k ≤ a ∧ actAt P ops a = true) ∧ gsn.length = actsn.length ∧ (still = true → ∀ x ∈ gsn, x.mem = D.G.mem) ∧
    (∃ N, ∀ j, N ≤ j → ∀ gs, gs.length = D.acts.length + 1 → gs.head? = some D.G → (still = true → ∀ x ∈ gs, x.mem = D.G.mem) →
      (∀ pls0, planOps P ne (exec P ne j) m n ops (befores ops.toList) k (ops.toList.drop k) ⟨ss, D.cnt, D.G, D.pend, gs, D.acts, pls0⟩ = some ⟨ss', cnt', G', pend', gsn ++ gs, actsn ++ D.acts, pls.reverse ++ pls0⟩) ∧
      steadyAll P ne (exec P ne j) m (befores ops.toList) (gsn ++ gs).reverse (actsn ++ D.acts).reverse k (ops.toList.drop k) pls = true)

theorem WX.drawn {c : Code} {kn : Kn} {H : AH} {Q : Post} (ops : Array Oper) (still : Bool) (hc : regOf c = some (ops, true)) (hB : drawnB ops = true) (h : DX P ne m n ops still 0 kn ⟨H, H.next, [], []⟩ fun ss H => Q .normal ss H) : WX P ne m n c kn H Q := by
  cases c with
  | region id ops' d =>
    simp only [regOf, Option.some.injEq, Prod.mk.injEq] at hc
    obtain ⟨rfl, rfl⟩ := hc
    intro ss hs
    obtain ⟨s1, G', cnt', pend', gsn, actsn, pls, hq, _, _, _, ⟨N, h1⟩⟩ := h ss hs
    refine ⟨.normal, s1, _, ⟨N + 1, fun k hk => ?_⟩, hq⟩
    obtain ⟨k, rfl⟩ : ∃ j, k = j + 1 := ⟨k - 1, by omega⟩
    rw [exec_succ]
    simp only [execStep, cond_true]
    obtain ⟨h2, h3⟩ := h1 k (by omega) [H] rfl rfl (fun _ x hx => by simp only [List.mem_singleton] at hx; rw [hx])
    have h2 := h2 []
    rw [List.drop_zero] at h2 h3
    unfold drawnA
    unfold drawnB at hB
    simp only [hB, cond_true, h2, List.append_nil, List.reverse_reverse]
    simp only [List.append_nil] at h3
    rw [h3]
    rfl
  | _ => cases hc

variable {ops : Array Oper} {still : Bool} {k : Nat} {kn : Kn} {D : DD} {K : Sl → AH → Prop}

theorem DX.done (hk : Nat.ble ops.size k = true) (h : ∀ ss, Mat kn ss → K ss (putAll D.pend { D.G with next := D.cnt })) : DX P ne m n ops still k kn D K := by
  intro ss hs
  have : ops.toList.drop k = [] := List.drop_eq_nil_of_le (by simpa using Nat.le_of_ble_eq_true hk)
  exact ⟨ss, D.G, D.cnt, D.pend, [], [], [], h ss hs, fun a ha => by simp at ha, rfl, fun _ x hx => by simp at hx, ⟨0, fun j _ gs _ _ _ => by rw [this]; exact ⟨fun pls0 => rfl, rfl⟩⟩⟩

theorem DX.fix (t : Nat) {b : Bool} (c : Bool) (hb : b = c) (hl : lk kn t = some (.bool b)) (h : DX P ne m n ops still k ((t, .bool c) :: kn) D K) : DX P ne m n ops still k kn D K :=
  fun ss hs => h ss (hs.fix t hb hl)

theorem opG_of {o : Oper} {d : Option Nat} (hB : opG P n ops kn o d = true) : wantK ops kn o = some true ∧ o.op.operands.all (okx P) = true ∧ (∀ x ∈ o.op.operands, knownX kn x = true) ∧ dstB n o d = true := by
  unfold opG at hB
  simp only [Bool.and_eq_true] at hB
  obtain ⟨⟨⟨hg, hx⟩, hkn⟩, hd⟩ := hB
  rw [Array.all_eq_true_iff_forall_mem] at hkn
  refine ⟨?_, hx, hkn, hd⟩
  split at hg
  · assumption
  · cases hg

/-- A quiet operation: read where it may run. -/
theorem DX.quiet_ {o : Oper} {d : Option Nat} {v : Value} (ho : ops[k]? = some o) (hB : opG P n ops kn o d = true) (hqt : quiet P o = true)
    (hr : ∀ ih, runOp P ne ih m o (evK kn) { D.G with next := D.cnt } = some (v, { D.G with next := D.cnt })) (hcalm : calm D.cnt v = true)
    (hst : ∀ (ih : Ex) (gs : List AH) (gsn : List AH) (actsn : List Nat), gs.length = D.acts.length + 1 → gs.head? = some D.G → (still = true → ∀ x ∈ gs, x.mem = D.G.mem) → (∀ a ∈ actsn, k < a ∧ actAt P ops a = true) → gsn.length = actsn.length → (still = true → ∀ x ∈ gsn, x.mem = D.G.mem) →
      ∀ p ∈ (gsn ++ gs).reverse.zipIdx, fits (befores ops.toList) (actsn ++ D.acts).reverse k p.2 = true → ∃ H', runOp P ne ih m o (evK kn) { p.1 with next := max D.cnt p.1.next } = some (v, H'))
    (h : DX P ne m n ops still (k + 1) (putK kn d v) D K) : DX P ne m n ops still k kn D K := by
  intro ss hs
  obtain ⟨hg, hx, hkn, hd⟩ := opG_of hB
  obtain ⟨s1, hp, hm⟩ := Mat.putD (v := v) (ss' := ss) hs hd
  obtain ⟨s2, G', cnt', pend', gsn, actsn, pls, hK, ha, hl, hsm, ⟨N2, h2⟩⟩ := h s1 hm
  have hw := hs.want hg
  have hc : ∀ j H, runOp P ne (exec P ne j) m o (evalA ss) H = runOp P ne (exec P ne j) m o (evK kn) H := fun j H => runOp_congr fun x hx => hs.eval (hkn x hx)
  unfold calm at hcalm
  simp only [Bool.and_eq_true] at hcalm
  refine ⟨s2, G', cnt', pend', gsn, actsn, ⟨.quiet, ss, D.cnt, v, D.cnt⟩ :: pls, hK, fun a h => ⟨by have := (ha a h).1; omega, (ha a h).2⟩, hl, hsm, ⟨N2, fun j hj gs g1 g2 g3 => ?_⟩⟩
  obtain ⟨h3, h4⟩ := h2 j hj gs g1 g2 g3
  rw [drop_cons ho]
  refine ⟨fun pls0 => ?_, ?_⟩
  · simp only [planOps, planOp, hw, hx, cond_true, hqt, hc, hr, hp]
    rw [h3]
    simp
  · simp only [steadyAll, steady, hcalm.1, Bool.true_and, h4, Bool.and_true]
    rw [List.all_eq_true]
    intro p hp'
    cases hf : fits (befores ops.toList) (actsn ++ D.acts).reverse k p.2 with
    | false => simp
    | true =>
      obtain ⟨H', hH⟩ := hst (exec P ne j) gs gsn actsn g1 g2 g3 (fun a h => ⟨by have := (ha a h).1; omega, (ha a h).2⟩) hl hsm p hp' hf
      simp only [hc, hH, hcalm.2, Bool.or_true]

/-- It touches no memory. -/
theorem DX.q (d : Option Nat) (v : Value) (ho : ops[k]? = some (opAt ops k)) (hB : opG P n ops kn (opAt ops k) d = true) (hqt : quiet P (opAt ops k) = true)
    (hr : ∀ ih H, runOp P ne ih m (opAt ops k) (evK kn) H = some (v, H)) (hcalm : calm D.cnt v = true) (h : DX P ne m n ops still (k + 1) (putK kn d v) D K) : DX P ne m n ops still k kn D K :=
  DX.quiet_ ho hB hqt (fun ih => hr ih _) hcalm (fun ih gs gsn actsn _ _ _ _ _ _ p _ _ => ⟨_, hr ih _⟩) h

def ordK (P : Program) (ops : Array Oper) (acts : List Nat) (k : Nat) : Bool :=
  acts.all (fun a => Nat.blt a k && pre (befores ops.toList) k a) && (List.range ops.size).all fun a => !(Nat.blt k a && actAt P ops a) || pre (befores ops.toList) a k

/-- It reads, in the text's order with all that writes; or nothing writes. -/
theorem DX.l (d : Option Nat) (v : Value) (ho : ops[k]? = some (opAt ops k)) (hB : opG P n ops kn (opAt ops k) d = true) (hqt : quiet P (opAt ops k) = true) (hord : (still || ordK P ops D.acts k) = true)
    (hr : ∀ (ih : Ex) (H : AH), H.mem = D.G.mem → runOp P ne ih m (opAt ops k) (evK kn) H = some (v, H)) (hcalm : calm D.cnt v = true) (h : DX P ne m n ops still (k + 1) (putK kn d v) D K) : DX P ne m n ops still k kn D K := by
  refine DX.quiet_ ho hB hqt (fun ih => hr ih _ rfl) hcalm (fun ih gs gsn actsn g1 g2 g3 ha hl hsm p hp hf => ?_) h
  have hmem : p.1.mem = D.G.mem := by
    cases hst : still with
    | true =>
      have : p.1 ∈ (gsn ++ gs).reverse := (List.mem_zipIdx_iff_getElem?.1 hp |> List.mem_of_getElem?)
      rw [List.mem_reverse, List.mem_append] at this
      rcases this with h | h
      · exact hsm hst _ h
      · exact g3 hst _ h
    | false =>
      rw [hst, Bool.false_or] at hord
      unfold ordK at hord
      simp only [Bool.and_eq_true, List.all_eq_true] at hord
      obtain ⟨o1, o2⟩ := hord
      unfold fits at hf
      simp only [Bool.and_eq_true, List.all_eq_true] at hf
      obtain ⟨f1, f2⟩ := hf
      have hget := List.mem_zipIdx_iff_getElem?.1 hp
      have e : p.2 = D.acts.length := by
        apply Nat.le_antisymm
        · apply Nat.le_of_not_lt
          intro hlt
          -- one that acts later would have run
          cases hr' : actsn.reverse with
          | nil =>
            have hn : actsn = [] := by simpa using hr'
            have hlen : p.2 < (gsn ++ gs).reverse.length := by
              rw [List.getElem?_eq_some_iff] at hget; exact hget.1
            rw [hn] at hl
            simp only [List.length_reverse, List.length_append, g1, hl, List.length_nil] at hlen
            omega
          | cons a l =>
            have hmem : a ∈ (actsn ++ D.acts).reverse.take p.2 := by
              rw [List.reverse_append, hr']
              rw [List.take_append]
              refine List.mem_append_right _ ?_
              rw [List.length_reverse]
              rw [show p.2 - D.acts.length = (p.2 - D.acts.length - 1) + 1 by omega]
              simp
            have haa : a ∈ actsn := by rw [← List.mem_reverse, hr']; simp
            have := f1 a hmem
            obtain ⟨a1, a2⟩ := ha a haa
            have hlt2 : a < ops.size := by
              unfold actAt at a2
              cases hoa : ops[a]? with
              | none => rw [hoa] at a2; cases a2
              | some _ => rw [Array.getElem?_eq_some_iff] at hoa; exact hoa.1
            have h2 := o2 a (List.mem_range.2 hlt2)
            rw [blt_iff.2 a1, a2] at h2
            simp only [Bool.and_self, Bool.not_true, Bool.false_or] at h2
            rw [blt_iff.2 a1, h2] at this
            cases this
        · apply Nat.le_of_not_lt
          intro hlt
          cases hd : D.acts with
          | nil => rw [hd] at hlt; simp at hlt
          | cons a l =>
            have hmem : a ∈ (actsn ++ D.acts).reverse.drop p.2 := by
              rw [List.reverse_append, List.drop_append]
              refine List.mem_append_left _ ?_
              rw [hd] at hlt
              rw [List.length_cons] at hlt
              rw [hd, List.reverse_cons]
              rw [List.drop_append]
              refine List.mem_append_right _ ?_
              rw [List.length_reverse, show p.2 - l.length = 0 by omega]
              simp
            have := f2 a hmem
            have h1 := o1 a (by rw [hd]; simp)
            rw [h1.1, h1.2] at this
            cases this
      rw [e] at hget
      have : (gsn ++ gs).reverse[D.acts.length]? = some D.G := by
        rw [List.reverse_append, List.getElem?_append_left (by simp [g1])]
        rw [List.getElem?_reverse (by omega), g1]
        simp only [Nat.add_sub_cancel, Nat.sub_self]
        rw [← List.head?_eq_getElem?]; exact g2
      rw [this] at hget
      have e3 : D.G = p.1 := Option.some.inj hget
      rw [e3]
  exact ⟨_, hr ih _ hmem⟩

/-- A guard that is shut. -/
theorem DX.sk (d : Option Nat) (ho : ops[k]? = some (opAt ops k)) (hB : opS n ops kn (opAt ops k) d = true)
    (h : DX P ne m n ops still (k + 1) (putK kn d undef) D K) : DX P ne m n ops still k kn D K := by
  intro ss hs
  unfold opS at hB
  simp only [Bool.and_eq_true] at hB
  obtain ⟨s1, hp, hm⟩ := Mat.putD (v := undef) (ss' := ss) hs hB.2
  obtain ⟨s2, G', cnt', pend', gsn, actsn, pls, hK, ha, hl, hsm, ⟨N2, h2⟩⟩ := h s1 hm
  have hw : wantedA ops (opAt ops k) ss = some false := by
    refine hs.want ?_
    have hg := hB.1
    split at hg
    · assumption
    · cases hg
  refine ⟨s2, G', cnt', pend', gsn, actsn, ⟨.pass, ss, D.cnt, undef, D.cnt⟩ :: pls, hK, fun a h => ⟨by have := (ha a h).1; omega, (ha a h).2⟩, hl, hsm, ⟨N2, fun j hj gs g1 g2 g3 => ?_⟩⟩
  obtain ⟨h3, h4⟩ := h2 j hj gs g1 g2 g3
  rw [drop_cons ho]
  refine ⟨fun pls0 => ?_, ?_⟩
  · simp only [planOps, planOp, hw, hp]
    rw [h3]
    simp
  · simp only [steadyAll, steady, Bool.true_and, h4]

/-- It makes a block. -/
theorem DX.mk (d : Option Nat) (v : Value) {H1 : AH} {b : Blk} (ho : ops[k]? = some (opAt ops k)) (hB : opG P n ops kn (opAt ops k) d = true) (hqt : (quiet P (opAt ops k), makes (opAt ops k)) = (false, true))
    (hr : ∀ ih, runOp P ne ih m (opAt ops k) (evK kn) ⟨D.cnt, .nil⟩ = some (v, H1)) (hb : H1.get D.cnt = some b) (hn : H1.next = D.cnt + 1) (hnc : noCall (opAt ops k) = true)
    (h : DX P ne m n ops still (k + 1) (putK kn d v) ⟨D.G, D.cnt + 1, (k, D.cnt, b) :: D.pend, D.acts⟩ K) : DX P ne m n ops still k kn D K := by
  intro ss hs
  obtain ⟨hg, hx, hkn, hd⟩ := opG_of hB
  obtain ⟨s1, hp, hm⟩ := Mat.putD (v := v) (ss' := ss) hs hd
  obtain ⟨s2, G', cnt', pend', gsn, actsn, pls, hK, ha, hl, hsm, ⟨N2, h2⟩⟩ := h s1 hm
  have hw := hs.want hg
  simp only [Prod.mk.injEq] at hqt
  have hao : aOp P m (opAt ops k) (evalA ss) ⟨D.cnt, .nil⟩ = some (v, H1) := by
    rw [aOp_congr (ρ' := evK kn) fun x hx => hs.eval (hkn x hx)]
    have := hr ih0
    unfold runOp at this
    split at this
    · rename_i h1; unfold makes at hqt; rw [h1] at hqt; cases hqt.2
    · rename_i h1; unfold makes at hqt; rw [h1] at hqt; cases hqt.2
    · rename_i h1; cases this
    · exact this
  refine ⟨s2, G', cnt', pend', gsn, actsn, ⟨.new b, ss, D.cnt, v, D.cnt + 1⟩ :: pls, hK, fun a h => ⟨by have := (ha a h).1; omega, (ha a h).2⟩, hl, hsm, ⟨N2, fun j hj gs g1 g2 g3 => ?_⟩⟩
  obtain ⟨h3, h4⟩ := h2 j hj gs g1 g2 g3
  rw [drop_cons ho]
  refine ⟨fun pls0 => ?_, ?_⟩
  · simp only [planOps, planOp, hw, hx, cond_true, hqt.1, cond_false, hqt.2, hao, hb, hn, Nat.beq_refl, hp]
    rw [h3]
    simp
  · simp only [steadyAll, steady, Bool.true_and, h4]

/-- It acts. -/
theorem DX.a (d : Option Nat) (v : Value) {G1 : AH} (ho : ops[k]? = some (opAt ops k)) (hB : opG P n ops kn (opAt ops k) d = true) (hqt : (quiet P (opAt ops k), makes (opAt ops k)) = (false, false))
    (hord : D.acts.all (pre (befores ops.toList) k) = true) {pin pout : List (Nat × Nat × Blk)} (hpin : D.pend.filter (fun p => pre (befores ops.toList) k p.1) = pin) (hpout : D.pend.filter (fun p => !pre (befores ops.toList) k p.1) = pout)
    (hr : ∃ N, ∀ j, N ≤ j → runOp P ne (exec P ne j) m (opAt ops k) (evK kn) (putAll pin { D.G with next := D.cnt }) = some (v, G1)) (hle : D.cnt ≤ G1.next) (hst : still = true → G1.mem = D.G.mem)
    (h : DX P ne m n ops still (k + 1) (putK kn d v) ⟨G1, G1.next, pout, k :: D.acts⟩ K) : DX P ne m n ops still k kn D K := by
  subst hpin
  subst hpout
  intro ss hs
  obtain ⟨hg, hx, hkn, hd⟩ := opG_of hB
  obtain ⟨s1, hp, hm⟩ := Mat.putD (v := v) (ss' := ss) hs hd
  obtain ⟨s2, G', cnt', pend', gsn, actsn, pls, hK, ha, hl, hsm, ⟨N2, h2⟩⟩ := h s1 hm
  obtain ⟨N, hr⟩ := hr
  have hw := hs.want hg
  simp only [Prod.mk.injEq] at hqt
  have hact : actAt P ops k = true := by unfold actAt; rw [ho]; simp only [hqt.1, hqt.2]; rfl
  refine ⟨s2, G', cnt', pend', gsn ++ [G1], actsn ++ [k], ⟨.act, ss, D.cnt, v, G1.next⟩ :: pls, hK, fun a h => ?_, by simp [hl], fun hs x hx => ?_, ⟨max N N2, fun j hj gs g1 g2 g3 => ?_⟩⟩
  · rw [List.mem_append, List.mem_singleton] at h
    rcases h with h | rfl
    · exact ⟨by have := (ha a h).1; omega, (ha a h).2⟩
    · exact ⟨Nat.le_refl _, hact⟩
  · rw [List.mem_append, List.mem_singleton] at hx
    rcases hx with hx | rfl
    · rw [hsm hs x hx]; exact hst hs
    · exact hst hs
  · obtain ⟨h3, h4⟩ := h2 j (by omega) (G1 :: gs) (by simp [g1]) rfl (fun hs x hx => by
      rw [List.mem_cons] at hx
      rcases hx with rfl | hx
      · rfl
      · rw [g3 hs x hx]; exact (hst hs).symm)
    have hc := hr j (by omega)
    rw [← runOp_congr (ρ := evalA ss) fun x hx => hs.eval (hkn x hx)] at hc
    rw [drop_cons ho]
    refine ⟨fun pls0 => ?_, ?_⟩
    · simp only [planOps, planOp, hw, hx, cond_true, hqt.1, cond_false, hqt.2, hord, hc, Nat.ble_eq_true_of_le hle, hp]
      rw [h3]
      simp
    · simp only [steadyAll, steady, Bool.true_and]
      simpa using h4

/-- It acts, entering no function. -/
theorem DX.w (d : Option Nat) (v : Value) {G1 : AH} (H0 : AH) (ho : ops[k]? = some (opAt ops k)) (hB : opG P n ops kn (opAt ops k) d = true) (hqt : (quiet P (opAt ops k), makes (opAt ops k)) = (false, false))
    (hord : D.acts.all (pre (befores ops.toList) k) = true) (pin pout : List (Nat × Nat × Blk)) (hpin : D.pend.filter (fun p => pre (befores ops.toList) k p.1) = pin) (hpout : D.pend.filter (fun p => !pre (befores ops.toList) k p.1) = pout)
    (hH0 : putAll pin { D.G with next := D.cnt } = H0) (hr : ∀ ih, runOp P ne ih m (opAt ops k) (evK kn) H0 = some (v, G1)) (hle : D.cnt ≤ G1.next) (hst : still = true → G1.mem = D.G.mem)
    (h : DX P ne m n ops still (k + 1) (putK kn d v) ⟨G1, G1.next, pout, k :: D.acts⟩ K) : DX P ne m n ops still k kn D K :=
  DX.a d v ho hB hqt hord hpin hpout ⟨0, fun j _ => by rw [hH0]; exact hr _⟩ hle hst h

/-- It calls. -/
theorem DX.c (d : Option Nat) {v : Value} {G1 : AH} (H0 : AH) (f : Nat) (args : Array Value) (ho : ops[k]? = some (opAt ops k)) (hB : opG P n ops kn (opAt ops k) d = true) (hqt : (quiet P (opAt ops k), makes (opAt ops k)) = (false, false))
    (hord : D.acts.all (pre (befores ops.toList) k) = true) (pin pout : List (Nat × Nat × Blk)) (hpin : D.pend.filter (fun p => pre (befores ops.toList) k p.1) = pin) (hpout : D.pend.filter (fun p => !pre (befores ops.toList) k p.1) = pout)
    (hH0 : putAll pin { D.G with next := D.cnt } = H0) (hc : callK kn (opAt ops k) = some (f, args)) (hr : CallE P ne m f args H0 v G1) (hle : D.cnt ≤ G1.next) (hst : still = true → G1.mem = D.G.mem)
    (h : DX P ne m n ops still (k + 1) (putK kn d v) ⟨G1, G1.next, pout, k :: D.acts⟩ K) : DX P ne m n ops still k kn D K := by
  obtain ⟨N, hr⟩ := hr
  refine DX.a d v ho hB hqt hord hpin hpout ⟨N, fun j hj => ?_⟩ hle hst h
  rw [hH0]
  unfold callK at hc
  split at hc
  · rename_i g args0 ts ho'
    split at hc
    · rename_i f0 first cap hg
      simp only [Option.some.injEq, Prod.mk.injEq] at hc
      obtain ⟨rfl, rfl⟩ := hc
      simp only [runOp, ho', hg]
      exact hr j hj
    · cases hc
  · cases hc

def belowN (c : Nat) (a : Addr) : Bool := Nat.blt a.block c
end Go.Abs


namespace Go.Abs

variable {P : Program} {ne : NE} {m n : Nat}

/-- What a slot is known to hold: a value; or the address of a cell of one's own variable. -/
inductive KV where
  | val (v : Value)
  | loc (i off : Nat)
  | sli (i n : Nat)

abbrev KN := List (Nat × KV)
abbrev Lcs := List (Option (TypeId × List Value))

def lkV : KN → Nat → Option KV
  | [], _ => none
  | (k, v) :: l, t => bif Nat.beq k t then some v else lkV l t

def evV (kn : KN) : Operand → Value
  | .tmp t => match lkV kn t with
    | some (.val v) => v
    | _ => undef
  | .const v => v
  | .global g => .pointer (some ⟨g, 0, none⟩)
  | .func f => .func (.func f) #[] #[]

def knownV (kn : KN) : Operand → Bool
  | .tmp t => match lkV kn t with
    | some (.val _) => true
    | _ => false
  | _ => true

structure LocOK (φ : Inj) (s0 : Nat) (w : World) (c : Nat) (x : TypeId × List Value) : Prop where
  new : s0 ≤ c
  obj : ∃ cs, w.heap[c]? = some (.cells cs x.1 (0, 0)) ∧ LR φ x.2 cs.toList
  free : ∀ id l, φ id = some l → l.blk ≠ c

def KR (φ : Inj) (cs : List Nat) : KV → Value → Prop
  | .val v, x => VR φ v x
  | .loc i off, x => ∃ c, cs[i]? = some c ∧ x = .pointer (some ⟨c, off, none⟩)
  | .sli i n, x => (∃ c, cs[i]? = some c ∧ x = .slice (some ⟨c, 0, none⟩) n n) ∧ n ≠ OPEN

/-- How the call began. -/
structure Ent where
  φ : Inj
  H : AH
  w : World

structure SSφ (P : Program) (ne : NE) (m : Nat) (E : Ent) (n : Nat) (kn : KN) (ls : Lcs) (H : AH) (a : Act) (w : World) (φ : Inj) (cs : List Nat) : Prop where
  glob : Glob P φ
  inv : Inv φ H w
  step : Step m E.φ E.H E.w φ H w
  len : cs.length = ls.length
  loc : ∀ (i : Nat) c x, cs[i]? = some c → ls[i]? = some (some x) → LocOK φ E.w.heap.size w c x
  inj : ∀ (i j : Nat) c, cs[i]? = some c → cs[j]? = some c → i = j
  low : ∀ (i : Nat) c, cs[i]? = some c → c < w.heap.size
  slot : ∀ t kv, lkV kn t = some kv → KR φ cs kv (a.tmps.getD t undef)
  size : n ≤ a.tmps.size
  defers : a.defers = []
  sane : Sane P ne
  inv0 : Inv E.φ E.H E.w

def SS (P : Program) (ne : NE) (m : Nat) (E : Ent) (n : Nat) (kn : KN) (ls : Lcs) (H : AH) (a : Act) (w : World) : Prop :=
  ∃ φ cs, SSφ P ne m E n kn ls H a w φ cs

section
variable {E : Ent} {kn : KN} {ls : Lcs} {H : AH} {a : Act} {w : World} {φ : Inj} {cs : List Nat}

theorem LR.mono' {φ ψ : Inj} (hle : φ.le ψ) {l l' : List Value} (h : LR φ l l') : LR ψ l l' := by
  induction h with
  | nil => exact .nil
  | cons h _ ih => exact .cons (h.mono hle) ih

theorem KR.mono {φ ψ : Inj} (hle : φ.le ψ) {kv : KV} {x : Value} (h : KR φ cs kv x) : KR ψ cs kv x := by
  cases kv with
  | val v => exact VR.mono hle h
  | loc i off => exact h
  | sli i n => exact h

theorem SSφ.eval (h : SSφ P ne m E n kn ls H a w φ cs) {x : Operand} (hk : knownV kn x = true) (hx : okx P x = true) : VR φ (evV kn x) (a.eval x) := by
  cases x with
  | tmp t =>
    simp only [knownV] at hk
    simp only [evV]
    cases hl : lkV kn t with
    | none => rw [hl] at hk; cases hk
    | some kv =>
      cases kv with
      | val v => exact h.slot t _ hl
      | loc i off => rw [hl] at hk; cases hk
      | sli i n => rw [hl] at hk; cases hk
  | const v => exact flat_refl depth hx
  | global g =>
    have hlt : g < P.globals.size := blt_lt hx
    obtain ⟨l, h1, h2, h3⟩ := h.glob g hlt
    have := VR.ptr (φ := φ) g 0 l h1
    rw [h2, h3] at this
    exact this
  | func f => exact .func (.func f) #[] #[] #[] #[] rfl rfl (fun i x y hx => by simp at hx) (fun i x y hx => by simp at hx)

def putV (kn : KN) (d : Option Nat) (v : KV) : KN := match d with
  | some d => (d, v) :: kn
  | none => kn

def dstV (n : Nat) (o : Oper) : Bool := match o.dst with
  | some a => Nat.blt a n
  | none => true

/-- The heap goes on; one's own variables stand. -/
theorem SSφ.heap (h : SSφ P ne m E n kn ls H a w φ cs) {φ' : Inj} {H' : AH} {w' : World} (hi : Inv φ' H' w') (hst : Step m φ H w φ' H' w') : SSφ P ne m E n kn ls H' a w' φ' cs := by
  refine ⟨h.glob.mono hst.ext, hi, h.step.trans h.inv0 hst, h.len, fun i c x hc hx => ?_, h.inj, fun i c hc => Nat.lt_of_lt_of_le (h.low i c hc) hst.size, fun t kv hl => (h.slot t kv hl).mono hst.ext, h.size, h.defers, h.sane, h.inv0⟩
  obtain ⟨h1, ⟨cs', h2, h3⟩, h4⟩ := h.loc i c x hc hx
  have hlt : c < w.heap.size := by
    rw [Array.getElem?_eq_some_iff] at h2; exact h2.1
  refine ⟨h1, ⟨cs', ?_, h3.mono' hst.ext⟩, fun id l hl => ?_⟩
  · rw [hst.keep c hlt fun id l _ _ hl => h4 id l hl]; exact h2
  · cases hq : φ id with
    | some l2 =>
      have := hst.ext _ _ hq
      rw [hl] at this; cases this
      exact h4 id l hq
    | none =>
      obtain ⟨_, h6⟩ := hst.new id l hl hq
      rcases h6 with h6 | ⟨id0, l0, _, _, h7, h8⟩
      · omega
      · rw [← h8]; exact h4 id0 l0 h7

theorem SSφ.put (h : SSφ P ne m E n kn ls H a w φ cs) {d : Option Nat} (hd : (match d with | some a => Nat.blt a n | none => true) = true) {kv : KV} {v' : Value} (hv : KR φ cs kv v') : SSφ P ne m E n (putV kn d kv) ls H (a.put d v') w φ cs := by
  cases d with
  | none => exact h
  | some d =>
    have hlt : d < a.tmps.size := Nat.lt_of_lt_of_le (blt_lt hd) h.size
    refine ⟨h.glob, h.inv, h.step, h.len, h.loc, h.inj, h.low, fun t kv' hl => ?_, by simpa [Act.put] using h.size, h.defers, h.sane, h.inv0⟩
    simp only [putV, lkV] at hl
    simp only [Act.put]
    rw [Array.getD_eq_getD_getElem?, Array.getElem?_setIfInBounds]
    cases hb : Nat.beq d t with
    | true =>
      rw [hb] at hl
      have := Nat.eq_of_beq_eq_true hb
      subst this
      cases hl
      rw [if_pos rfl, if_pos hlt]
      exact hv
    | false =>
      rw [hb] at hl
      rw [if_neg (Nat.ne_of_beq_eq_false hb), ← Array.getD_eq_getD_getElem?]
      exact h.slot t kv' hl

/-- All of the first stands in the second. -/
def SubV : KN → KN → Prop
  | [], _ => True
  | (t, v) :: l, kn => lkV kn t = some v ∧ SubV l kn

/-- The variables from number k on are let go. -/
def belowL (k : Nat) : KN → Bool
  | [] => true
  | (_, .loc i _) :: l => Nat.blt i k && belowL k l
  | (_, .sli i _) :: l => Nat.blt i k && belowL k l
  | _ :: l => belowL k l

theorem lk_belowL {k : Nat} : ∀ {kn : KN} {t i off : Nat}, belowL k kn = true → lkV kn t = some (.loc i off) → i < k := by
  intro kn
  induction kn with
  | nil => intro t i off _ h; cases h
  | cons p l ih =>
    obtain ⟨s, v⟩ := p
    intro t i off hb h
    simp only [lkV] at h
    cases hq : Nat.beq s t with
    | true =>
      rw [hq] at h
      cases h
      simp only [belowL, Bool.and_eq_true] at hb
      exact blt_lt hb.1
    | false =>
      rw [hq] at h
      refine ih ?_ h
      cases v with
      | val v => exact hb
      | loc j o => simp only [belowL, Bool.and_eq_true] at hb; exact hb.2
      | sli j o => simp only [belowL, Bool.and_eq_true] at hb; exact hb.2

theorem lk_belowS {k : Nat} : ∀ {kn : KN} {t i off : Nat}, belowL k kn = true → lkV kn t = some (.sli i off) → i < k := by
  intro kn
  induction kn with
  | nil => intro t i off _ h; cases h
  | cons p l ih =>
    obtain ⟨s, v⟩ := p
    intro t i off hb h
    simp only [lkV] at h
    cases hq : Nat.beq s t with
    | true =>
      rw [hq] at h
      cases h
      simp only [belowL, Bool.and_eq_true] at hb
      exact blt_lt hb.1
    | false =>
      rw [hq] at h
      refine ih ?_ h
      cases v with
      | val v => exact hb
      | loc j o => simp only [belowL, Bool.and_eq_true] at hb; exact hb.2
      | sli j o => simp only [belowL, Bool.and_eq_true] at hb; exact hb.2

theorem lk_sub : ∀ {kn' kn : KN}, SubV kn' kn → ∀ {t kv}, lkV kn' t = some kv → lkV kn t = some kv := by
  intro kn'
  induction kn' with
  | nil => intro kn _ t kv h; cases h
  | cons p l ih =>
    obtain ⟨s, v⟩ := p
    intro kn hs t kv h
    simp only [lkV] at h
    cases hq : Nat.beq s t with
    | true =>
      rw [hq] at h
      have := Nat.eq_of_beq_eq_true hq
      subst this
      cases h
      exact hs.1
    | false => rw [hq] at h; exact ih hs.2 h

theorem SS.sub (h : SS P ne m E n kn ls H a w) {kn' : KN} (hs : SubV kn' kn) (k : Nat) {ls' : Lcs} (hl : ls.take k = ls') (hb : belowL k kn' = true) : SS P ne m E n kn' ls' H a w := by
  obtain ⟨φ, cs, h⟩ := h
  subst hl
  refine ⟨φ, cs.take k, h.glob, h.inv, h.step, by simp [h.len], fun i c x hc hx => ?_, fun i j c hi hj => ?_, fun i c hc => ?_, fun t kv hl => ?_, h.size, h.defers, h.sane, h.inv0⟩
  · rw [List.getElem?_take] at hc hx
    split at hc
    · rename_i hlt
      rw [if_pos hlt] at hx
      exact h.loc i c x hc hx
    · cases hc
  · rw [List.getElem?_take] at hi hj
    split at hi
    · split at hj
      · exact h.inj i j c hi hj
      · cases hj
    · cases hi
  · rw [List.getElem?_take] at hc
    split at hc
    · exact h.low i c hc
    · cases hc
  · have := h.slot t kv (lk_sub hs hl)
    cases kv with
    | val v => exact this
    | loc i off =>
      obtain ⟨c, h1, h2⟩ := this
      exact ⟨c, by rw [List.getElem?_take, if_pos (lk_belowL hb hl)]; exact h1, h2⟩
    | sli i off =>
      obtain ⟨⟨c, h1, h2⟩, h3⟩ := this
      exact ⟨⟨c, by rw [List.getElem?_take, if_pos (lk_belowS hb hl)]; exact h1, h2⟩, h3⟩

def WS (P : Program) (ne : NE) (m : Nat) (E : Ent) (n : Nat) (c : Code) (kn : KN) (ls : Lcs) (H : AH) (Q : Exit → Act → World → Prop) : Prop :=
  ∀ a w, SS P ne m E n kn ls H a w → c.wp P Q a w

def RS (P : Program) (ne : NE) (m : Nat) (E : Ent) (n : Nat) (ops : Array Oper) (k : Nat) (kn : KN) (ls : Lcs) (H : AH) (Q : Exit → Act → World → Prop) : Prop :=
  ∀ a w, SS P ne m E n kn ls H a w → wpOps P ops Q (List.range' k (ops.size - k)) a w

variable {Q : Exit → Act → World → Prop}

theorem WS.seq {c : Code} (hc : isSeq c = true) (h : WS P ne m E n (cfst c) kn ls H (Exit.then ((csnd c).wp P Q) Q)) : WS P ne m E n c kn ls H Q := by
  cases c with
  | seq x y => exact fun a w hs => wp_seq (h a w hs)
  | _ => cases hc

/-- On with what stands behind. -/
theorem WS.nxt {c : Code} (h : WS P ne m E n c kn ls H Q) : ∀ a w, SS P ne m E n kn ls H a w → Exit.then (c.wp P Q) Q .normal a w := h

theorem WS.skip {c : Code} (hc : isSkip c = true) (h : ∀ a w, SS P ne m E n kn ls H a w → Q .normal a w) : WS P ne m E n c kn ls H Q := by
  intro a w hs
  cases c with
  | skip => exact wp_skip (h a w hs)
  | label l => exact wp_label (h a w hs)
  | _ => cases hc

theorem WS.ret {c : Code} (hc : isRet c = true) (h : ∀ a w, SS P ne m E n kn ls H a w → Q .ret a w) : WS P ne m E n c kn ls H Q := by
  intro a w hs
  cases c with
  | ret => exact wp_ret (h a w hs)
  | _ => cases hc

theorem WS.exit {c : Code} (i : Nat) (hc : isExit i c = true) (h : ∀ a w, SS P ne m E n kn ls H a w → Q (.exit i) a w) : WS P ne m E n c kn ls H Q := by
  intro a w hs
  cases c with
  | exit j => have := Nat.eq_of_beq_eq_true hc; subst this; exact wp_exit (h a w hs)
  | _ => cases hc

theorem WS.block {c : Code} (i : Nat) (hc : isBlock i c = true) (h : WS P ne m E n (cfst c) kn ls H (Exit.inBlock i Q)) : WS P ne m E n c kn ls H Q := by
  cases c with
  | block j body =>
    have := Nat.eq_of_beq_eq_true hc
    subst this
    exact fun a w hs => wp_block (h a w hs)
  | _ => cases hc

theorem eval_bool (hs : SS P ne m E n kn ls H a w) {x : Operand} {b : Bool} (hx : (knownV kn x, evV kn x) = (true, .bool b)) : a.eval x = .bool b := by
  obtain ⟨φ, cs, h⟩ := hs
  simp only [Prod.mk.injEq] at hx
  have hv : VR φ (.bool b) (a.eval x) := by
    rw [← hx.2]
    cases x with
    | tmp t => exact h.eval hx.1 rfl
    | const v =>
      have : v = .bool b := hx.2
      subst this; exact .bool b
    | global g => exact absurd hx.2 (by intro e; cases e)
    | func f => exact absurd hx.2 (by intro e; cases e)
  generalize a.eval x = u at hv
  cases hv; rfl

theorem WS.condT {c : Code} (b : Bool) (hb : b = true) (hc : (condOf c).map (fun x => (knownV kn x, evV kn x)) = some (true, .bool b)) (h : WS P ne m E n (cfst c) kn ls H Q) : WS P ne m E n c kn ls H Q := by
  subst hb
  cases c with
  | cond x y z =>
    simp only [condOf, Option.map_some, Option.some.injEq] at hc
    exact fun a w hs => wp_cond_true (eval_bool hs hc) (h a w hs)
  | _ => cases hc

theorem WS.condF {c : Code} (b : Bool) (hb : b = false) (hc : (condOf c).map (fun x => (knownV kn x, evV kn x)) = some (true, .bool b)) (h : WS P ne m E n (csnd c) kn ls H Q) : WS P ne m E n c kn ls H Q := by
  subst hb
  cases c with
  | cond x y z =>
    simp only [condOf, Option.map_some, Option.some.injEq] at hc
    exact fun a w hs => wp_cond_false (eval_bool hs hc) (h a w hs)
  | _ => cases hc

theorem WS.region {c : Code} (ops : Array Oper) (hc : regOf c = some (ops, false)) (h : RS P ne m E n ops 0 kn ls H Q) : WS P ne m E n c kn ls H Q := by
  cases c with
  | region id ops' d =>
    simp only [regOf, Option.some.injEq, Prod.mk.injEq] at hc
    obtain ⟨rfl, rfl⟩ := hc
    intro a w hs
    refine wp_region ?_
    have := h a w hs
    rw [List.range_eq_range']
    simpa using this
  | _ => cases hc

theorem WS.sub {c : Code} (kn' : KN) (k : Nat) (ls' : Lcs) (hs : SubV kn' kn) (hl : ls.take k = ls') (hb : belowL k kn' = true) (h : WS P ne m E n c kn' ls' H Q) : WS P ne m E n c kn ls H Q :=
  fun a w h0 => h a w (h0.sub hs k hl hb)

theorem RS.done {ops : Array Oper} {k : Nat} (hk : Nat.ble ops.size k = true) (h : ∀ a w, SS P ne m E n kn ls H a w → Q .normal a w) : RS P ne m E n ops k kn ls H Q := by
  intro a w hs
  have : ops.size - k = 0 := by have := Nat.le_of_ble_eq_true hk; omega
  rw [this]
  exact h a w hs

def wantV (ops : Array Oper) (kn : KN) (o : Oper) : Option Bool :=
  match o.guard with
  | none => some true
  | some (j, want) => match (ops[j]?).bind (·.dst) with
    | some d => match lkV kn d with
      | some (.val (.bool b)) => some (b == want)
      | some (.val (.tuple _)) => some false
      | _ => none
    | none => none

theorem wantV_ok {ops : Array Oper} {o : Oper} {b : Bool} (h : SSφ P ne m E n kn ls H a w φ cs) (hw : wantV ops kn o = some b) : Region.wanted o (yielded ops a.tmps) = b := by
  unfold wantV at hw
  unfold Region.wanted
  cases hg : o.guard with
  | none => rw [hg] at hw; simp only [Option.some.injEq] at hw ⊢; exact hw
  | some jw =>
    obtain ⟨j, want⟩ := jw
    rw [hg] at hw
    simp only at hw ⊢
    unfold yielded
    cases hd : (ops[j]?).bind (·.dst) with
    | none => rw [hd] at hw; cases hw
    | some d =>
      rw [hd] at hw
      simp only [Option.bind_some] at hw ⊢
      cases hl : lkV kn d with
      | none => rw [hl] at hw; cases hw
      | some kv =>
        rw [hl] at hw
        have hv := h.slot d kv hl
        split at hw
        · rename_i c hc
          simp only [Option.some.injEq] at hw hc
          subst hc
          have hv : VR φ (.bool c) (a.tmps.getD d undef) := hv
          rw [getD_bool hv, ← hw]
          cases c <;> cases want <;> rfl
        · rename_i vs hc
          simp only [Option.some.injEq] at hw hc
          subst hc
          have hv : VR φ (.tuple vs) (a.tmps.getD d undef) := hv
          rw [← hw]
          have : ∀ c, a.tmps[d]? ≠ some (.bool c) := by
            intro c hcc
            rw [Array.getD_eq_getD_getElem?, hcc] at hv
            cases hv
          split
          · rename_i c hcc; exact absurd hcc (this c)
          · cases want <;> rfl
        · cases hw

theorem range_step {ops : Array Oper} {k : Nat} {o : Oper} (ho : ops[k]? = some o) : List.range' k (ops.size - k) = k :: List.range' (k + 1) (ops.size - (k + 1)) := by
  have : k < ops.size := by rw [Array.getElem?_eq_some_iff] at ho; exact ho.1
  rw [show ops.size - k = (ops.size - (k + 1)) + 1 by omega, List.range'_succ]

theorem good_ih0 : Good P ih0 := by intro m c st e st' h; cases h

def opV (P : Program) (n : Nat) (ops : Array Oper) (kn : KN) (o : Oper) : Bool :=
  (match wantV ops kn o with | some true => true | _ => false) && o.op.operands.all (okx P) && o.op.operands.all (knownV kn) && dstV n o

/-- One operation that enters no function, on values. -/
theorem RS.op {ops : Array Oper} {k : Nat} {v : Value} {H' : AH} (ho : ops[k]? = some (opAt ops k)) (hB : opV P n ops kn (opAt ops k) = true) (hr : runOp P (NE.plain 0) ih0 m (opAt ops k) (evV kn) H = some (v, H')) (hn : noCall (opAt ops k) = true)
    (h : RS P ne m E n ops (k + 1) (putV kn (opAt ops k).dst (.val v)) ls H' Q) : RS P ne m E n ops k kn ls H Q := by
  intro a w hs
  obtain ⟨φ, cs, hs⟩ := hs
  unfold opV at hB
  simp only [Bool.and_eq_true] at hB
  obtain ⟨⟨⟨hg, hx⟩, hkn⟩, hd⟩ := hB
  rw [Array.all_eq_true_iff_forall_mem] at hkn hx
  have hw : wantV ops kn (opAt ops k) = some true := by
    split at hg
    · assumption
    · cases hg
  rw [range_step ho, wpOps_cons]
  unfold wpOp
  rw [ho]
  simp only [wantV_ok hs hw, if_true]
  left
  have hr' : runOp P ne ih0 m (opAt ops k) (evV kn) H = some (v, H') := by
    rw [← hr]
    generalize opAt ops k = o at hn
    obtain ⟨dst, op, ty, pos, after, guard⟩ := o
    unfold runOp
    cases op with
    | call c =>
      obtain ⟨callee, args, ts⟩ := c
      cases callee with
      | value g => cases hn
      | _ => rfl
    | _ => rfl
  refine runOp_ok hs.sane good_ih0 hr' hs.glob (fun x hxm => hs.eval (hkn x hxm) (hx x hxm)) hs.inv fun φ' v' w' h1 h2 h3 => ?_
  exact h _ _ ⟨φ', cs, (hs.heap h2 h3).put hd h1⟩

def skV (n : Nat) (ops : Array Oper) (kn : KN) (o : Oper) : Bool :=
  (match wantV ops kn o with | some false => true | _ => false) && dstV n o

theorem RS.skp {ops : Array Oper} {k : Nat} (ho : ops[k]? = some (opAt ops k)) (hB : skV n ops kn (opAt ops k) = true) (h : RS P ne m E n ops (k + 1) (putV kn (opAt ops k).dst (.val undef)) ls H Q) : RS P ne m E n ops k kn ls H Q := by
  intro a w hs
  obtain ⟨φ, cs, hs⟩ := hs
  unfold skV at hB
  simp only [Bool.and_eq_true] at hB
  have hw : wantV ops kn (opAt ops k) = some false := by
    have hg := hB.1
    split at hg
    · assumption
    · cases hg
  rw [range_step ho, wpOps_cons]
  unfold wpOp
  rw [ho]
  simp only [wantV_ok hs hw, Bool.false_eq_true, if_false]
  exact h _ _ ⟨φ, cs, hs.put hB.2 (vr_undef φ)⟩

/-- What a call comes to, in any world that the heap stands for. -/
def CallS (P : Program) (ne : NE) (m : Nat) (f : Nat) (args : Array Value) (H : AH) (v : Value) (H' : AH) : Prop :=
  Sane P ne → (∃ fn c, P.funcs[f]? = some fn ∧ fn.body = some c) ∧ ∀ φ w args', Glob P φ → AR φ args args' → Inv φ H w → CallOK P m φ H w v H' f args'

def callV (kn : KN) (o : Oper) : Option (Nat × Array Value) :=
  match o.op with
  | .call { callee := .value g, args, .. } => match evV kn g with
    | .func (.func f) first cap => some (f, first ++ args.map (evV kn) ++ cap)
    | _ => none
  | _ => none

/-- A call as an operation. -/
theorem call_wp {f : Nat} {args : Array Value} {v : Value} {H' : AH} {o : Oper} (hs : SSφ P ne m E n kn ls H a w φ cs) (hx : o.op.operands.all (okx P) = true) (hkn : o.op.operands.all (knownV kn) = true) (hc : callV kn o = some (f, args)) (hr : CallS P ne m f args H v H')
    {K : Act → World → Prop} (hn : ∀ φ' v' w', VR φ' v v' → Inv φ' H' w' → Step m φ H w φ' H' w' → K (a.put o.dst v') w') : o.wp P a w K Q := by
  rw [Array.all_eq_true_iff_forall_mem] at hkn hx
  have hev : ∀ x ∈ o.op.operands, VR φ (evV kn x) (a.eval x) := fun x hxm => hs.eval (hkn x hxm) (hx x hxm)
  obtain ⟨⟨fn, c, hf, hb⟩, hr⟩ := hr hs.sane
  obtain ⟨dst, op, ty, pos, after, guard⟩ := o
  unfold callV at hc
  simp only at hc hev hn
  split at hc
  · rename_i g args0 ts
    have hgv := hev g (by simp [Op.operands, Call.operands])
    have hargs : AR φ (args0.map (evV kn)) (args0.map a.eval) := ar_map args0 fun x hx => hev x (by simp [Op.operands, Call.operands, hx])
    split at hc
    · rename_i f0 first cap hge
      simp only [Option.some.injEq, Prod.mk.injEq] at hc
      obtain ⟨rfl, rfl⟩ := hc
      rw [hge] at hgv
      generalize hq : a.eval g = q at hgv
      cases hgv with
      | func fn' f1 g1 f1' g1' hf1 hg1 i1 i2 =>
        have hall : AR φ (first ++ args0.map (evV kn) ++ cap) (f1' ++ args0.map a.eval ++ g1') := ((AR.append ⟨hf1, i1⟩ hargs).append ⟨hg1, i2⟩)
        show Oper.upon P _ a K Q _
        have hex : execOp a.eval { dst := dst, op := .call { callee := .value g, args := args0, argTypes := ts }, type := ty, pos := pos, after := after, guard := guard } = callFunc f0 (f1' ++ args0.map a.eval ++ g1') := by
          simp only [execOp, resolve, hq]; rfl
        rw [hex, run_callFunc_body hs.sane hf hb]
        exact calls_returned (hr φ w _ hs.glob hall hs.inv) hn
    · cases hc
  · cases hc

theorem RS.call {ops : Array Oper} {k : Nat} {v : Value} {H' : AH} (f : Nat) (args : Array Value) (ho : ops[k]? = some (opAt ops k)) (hB : opV P n ops kn (opAt ops k) = true) (hc : callV kn (opAt ops k) = some (f, args)) (hr : CallS P ne m f args H v H')
    (h : RS P ne m E n ops (k + 1) (putV kn (opAt ops k).dst (.val v)) ls H' Q) : RS P ne m E n ops k kn ls H Q := by
  intro a w hs
  obtain ⟨φ, cs, hs⟩ := hs
  unfold opV at hB
  simp only [Bool.and_eq_true] at hB
  obtain ⟨⟨⟨hg, hx⟩, hkn⟩, hd⟩ := hB
  have hw : wantV ops kn (opAt ops k) = some true := by
    split at hg
    · assumption
    · cases hg
  rw [range_step ho, wpOps_cons]
  unfold wpOp
  rw [ho]
  simp only [wantV_ok hs hw, if_true]
  left
  exact call_wp hs hx hkn hc hr fun φ' v' w' h1 h2 h3 => h _ _ ⟨φ', cs, (hs.heap h2 h3).put hd h1⟩

end
end Go.Abs


namespace Go.Abs

variable {P : Program} {ne : NE} {m n : Nat}

section
variable {E : Ent} {kn : KN} {ls : Lcs} {H : AH} {a : Act} {w w' : World} {φ : Inj} {cs : List Nat} {Q : Exit → Act → World → Prop}

/-- What was there stands. -/
def agree (w1 w : World) : Prop := ∀ c, c < w1.heap.size → w.heap[c]? = w1.heap[c]?

theorem agree.refl (w : World) : agree w w := fun _ _ => rfl

/-- The world turns in what the heap does not stand for. -/
theorem SSφ.world (h : SSφ P ne m E n kn ls H a w φ cs) (hsz : w.heap.size ≤ w'.heap.size) (hlow : ∀ c, c < E.w.heap.size → w'.heap[c]? = w.heap[c]?) (hφ : ∀ id l, φ id = some l → w'.heap[l.blk]? = w.heap[l.blk]?) (ho : w'.os = w.os) (ht : w'.tape = w.tape) (hp : w'.output = w.output)
    {ls' : Lcs} (hlen : cs.length = ls'.length) (hloc : ∀ (i : Nat) c x, cs[i]? = some c → ls'[i]? = some (some x) → LocOK φ E.w.heap.size w' c x) : SSφ P ne m E n kn ls' H a w' φ cs := by
  refine ⟨h.glob, ⟨fun id l hl => ⟨(h.inv.dom id l hl).1, Nat.lt_of_lt_of_le (h.inv.dom id l hl).2 hsz⟩, fun id b hb => ?_, h.inv.sep⟩, ?_, hlen, hloc, h.inj, fun i c hc => Nat.lt_of_lt_of_le (h.low i c hc) hsz, h.slot, h.size, h.defers, h.sane, h.inv0⟩
  · obtain ⟨l, h1, h2⟩ := h.inv.obj id b hb
    exact ⟨l, h1, h2.same (hφ id l h1)⟩
  · have s := h.step
    exact ⟨s.le, s.ext, s.new, s.alv, Nat.le_trans s.size hsz, fun c hc hno => (hlow c hc).trans (s.keep c hc hno), ho.trans s.os, ht.trans s.tape, hp.trans s.output⟩

/-- A new variable of one's own. -/
theorem SSφ.new (h : SSφ P ne m E n kn ls H a w φ cs) {e : TypeId} {v v' : Value} (hv : VR φ v v') {d : Option Nat} (hd : (match d with | some a => Nat.blt a n | none => true) = true) :
    ∃ cs', SSφ P ne m E n (putV kn d (.loc ls.length 0)) (ls ++ [some (e, v.cells.toList)]) H (a.put d (.pointer (some ⟨w.heap.size, 0, none⟩))) { w with heap := w.heap.push (.cells v'.cells e (0, 0)) } φ cs' ∧ (∀ (i c : Nat), cs[i]? = some c → cs'[i]? = some c) ∧ cs'[ls.length]? = some w.heap.size := by
  refine ⟨cs ++ [w.heap.size], ?_, fun i c hc => by rw [List.getElem?_append_left (by rw [List.getElem?_eq_some_iff] at hc; exact hc.1)]; exact hc, by rw [← h.len]; simp⟩
  have hold : ∀ c, c < w.heap.size → (w.heap.push (Obj.cells v'.cells e (0, 0)))[c]? = w.heap[c]? := fun c hc => by
    rw [Array.getElem?_push, if_neg (by omega)]
  have base : SSφ P ne m E n kn (ls ++ [some (e, v.cells.toList)]) H a { w with heap := w.heap.push (.cells v'.cells e (0, 0)) } φ (cs ++ [w.heap.size]) := by
    have s := h.step
    refine ⟨h.glob, ⟨fun id l hl => ⟨(h.inv.dom id l hl).1, ?_⟩, fun id b hb => ?_, h.inv.sep⟩, ?_, by simp [h.len], fun i c x hc hx => ?_, fun i j c hi hj => ?_, fun i c hc => ?_, fun t kv hl => ?_, h.size, h.defers, h.sane, h.inv0⟩
    · have := (h.inv.dom id l hl).2
      simp only [Array.size_push]; omega
    · obtain ⟨l, h1, h2⟩ := h.inv.obj id b hb
      exact ⟨l, h1, h2.same (hold _ (h.inv.dom id l h1).2)⟩
    · exact ⟨s.le, s.ext, s.new, s.alv, by have := s.size; simp only [Array.size_push]; omega, fun c hc hno => by rw [hold c (Nat.lt_of_lt_of_le hc s.size)]; exact s.keep c hc hno, s.os, s.tape, s.output⟩
    · rw [List.getElem?_append] at hc hx
      rw [h.len] at hc
      split at hc
      · rename_i hlt
        rw [if_pos hlt] at hx
        obtain ⟨h1, ⟨cs', h2, h3⟩, h4⟩ := h.loc i c x hc hx
        have hlt2 : c < w.heap.size := by rw [Array.getElem?_eq_some_iff] at h2; exact h2.1
        exact ⟨h1, ⟨cs', by rw [hold c hlt2]; exact h2, h3⟩, h4⟩
      · rename_i hlt
        rw [if_neg hlt] at hx
        have e0 : i - ls.length = 0 := by
          apply Classical.byContradiction
          intro hne
          rw [List.getElem?_eq_none (by simp; omega)] at hc; cases hc
        rw [e0] at hc hx
        simp only [List.getElem?_cons_zero, Option.some.injEq] at hc hx
        subst hc hx
        exact ⟨s.size, ⟨v'.cells, by simp, AR_iff.1 hv.cells⟩, fun id l hl => Nat.ne_of_lt (h.inv.dom id l hl).2⟩
    · rw [List.getElem?_append] at hi hj
      split at hi
      · split at hj
        · exact h.inj i j c hi hj
        · have := h.low i c hi
          rename_i h1 h2
          have e0 : j - cs.length = 0 := by
            apply Classical.byContradiction
            intro hne
            rw [List.getElem?_eq_none (by simp; omega)] at hj; cases hj
          rw [e0] at hj
          simp only [List.getElem?_cons_zero, Option.some.injEq] at hj
          omega
      · rename_i h1
        have e0 : i - cs.length = 0 := by
          apply Classical.byContradiction
          intro hne
          rw [List.getElem?_eq_none (by simp; omega)] at hi; cases hi
        rw [e0] at hi
        simp only [List.getElem?_cons_zero, Option.some.injEq] at hi
        split at hj
        · have := h.low j c hj
          omega
        · rename_i h2
          have e1 : j - cs.length = 0 := by
            apply Classical.byContradiction
            intro hne
            rw [List.getElem?_eq_none (by simp; omega)] at hj; cases hj
          omega
    · rw [List.getElem?_append] at hc
      simp only [Array.size_push]
      split at hc
      · have := h.low i c hc; omega
      · rename_i hge
        have e0 : i - cs.length = 0 := by
          apply Classical.byContradiction
          intro hne
          rw [List.getElem?_eq_none (by simp; omega)] at hc; cases hc
        rw [e0] at hc
        simp only [List.getElem?_cons_zero, Option.some.injEq] at hc
        omega
    · have := h.slot t kv hl
      cases kv with
      | val v => exact this
      | loc i off =>
        obtain ⟨c, h1, h2⟩ := this
        refine ⟨c, ?_, h2⟩
        rw [List.getElem?_append_left (by rw [List.getElem?_eq_some_iff] at h1; exact h1.1)]
        exact h1
      | sli i off =>
        obtain ⟨⟨c, h1, h2⟩, h3⟩ := this
        refine ⟨⟨c, ?_, h2⟩, h3⟩
        rw [List.getElem?_append_left (by rw [List.getElem?_eq_some_iff] at h1; exact h1.1)]
        exact h1
  refine base.put hd (kv := .loc ls.length 0) ?_
  refine ⟨w.heap.size, ?_, rfl⟩
  rw [← h.len]
  simp

def splice (l : List Value) (off : Nat) (vs : List Value) : List Value := l.take off ++ vs ++ l.drop (off + vs.length)

theorem splice_get {l vs : List Value} {off : Nat} (h : off + vs.length ≤ l.length) (i : Nat) : (splice l off vs)[i]? = if i < off then l[i]? else if i < off + vs.length then vs[i - off]? else l[i]? := by
  unfold splice
  rw [List.append_assoc, List.getElem?_append]
  have h1 : (l.take off).length = off := by simp; omega
  rw [h1]
  split
  · rename_i hi; rw [List.getElem?_take, if_pos hi]
  · rename_i hi
    rw [List.getElem?_append]
    by_cases h2 : i - off < vs.length
    · rw [if_pos h2, if_pos (by omega)]
    · rw [if_neg h2, if_neg (by omega), List.getElem?_drop]
      congr 1
      omega

theorem splice_len {l vs : List Value} {off : Nat} (h : off + vs.length ≤ l.length) : (splice l off vs).length = l.length := by
  unfold splice; simp; omega

theorem run_storeCells_real (c : Nat) (off : Nat) : ∀ (l : List Value) (i : Nat) (w : World) (cs : Array Value) (e : TypeId), w.heap[c]? = some (.cells cs e (0, 0)) → off + i + l.length ≤ cs.size → l.all one = true →
    (storeCells ⟨c, off, none⟩ l i).run P w = .ok () (w.setCells c (off + i) l) := by
  intro l
  induction l with
  | nil => intro i w cs e _ _ _; rfl
  | cons v l ih =>
    intro i w cs e hc hb hone
    simp only [List.all_cons, Bool.and_eq_true] at hone
    simp only [List.length_cons] at hb
    have hcell : w.cell? ⟨c, off + i, none⟩ = some cs[off + i] := by simp [World.cell?, hc, show off + i < cs.size by omega]
    have hfz : w.frozen? ⟨c, off + i, none⟩ = false := by
      simp only [World.frozen?, hc]
      simp
    have h1 := run_store_one (P := P) w ⟨c, off + i, none⟩ v _ .plain hone.1 hcell hfz
    simp only [storeCells, Sem.run_bind]
    rw [Addr.add_lit, h1]
    simp only [Result.andThen_ok, World.setCells]
    have h2 := heap_setCell_same (w := w) (a := ⟨c, off + i, none⟩) (v := v) hc rfl
    exact ih (i + 1) (w.setCell ⟨c, off + i, none⟩ v) _ e h2 (by simp; omega) hone.2

/-- What an operation does that is concerned with one's own variables alone. -/
def locOp (P : Program) (kn : KN) (ls : Lcs) (o : Oper) : Option (KV × Lcs) :=
  match o.op with
  | .move (.tmp t) | .assign (.tmp t) | .nilCheck (.tmp t) => match lkV kn t with
    | some (.loc i off) => some (.loc i off, ls)
    | _ => none
  | .fieldAddr s (.tmp t) f => match lkV kn t, P.underlying s with
    | some (.loc i off), some (.struct fs) => match fs[f]? with
      | some fd => match P.info? fd.type with
        | some inf => bif Nat.beq inf.size 0 then none else some (.loc i (off + fd.offset), ls)
        | none => none
      | none => none
    | _, _ => none
  | .load t (.tmp x) => match lkV kn x, P.underlying t, P.info? t with
    | some (.loc i off), some d, some inf => match ls[i]? with
      | some (some (_, cells)) => bif isAggD d then
          (bif Nat.ble (off + inf.size) cells.length then some (.val (.agg ((cells.drop off).take inf.size).toArray), ls) else none)
        else match cells[off]? with
          | some v => some (.val v, ls)
          | none => none
      | _ => none
    | _, _, _ => none
  | .store t (.tmp x) y => match lkV kn x, P.info? t with
    | some (.loc i off), some inf => match ls[i]? with
      | some (some (e, cells)) => bif knownV kn y && okx P y && Nat.beq inf.size (evV kn y).cells.size && Nat.ble (off + (evV kn y).cells.size) cells.length && (evV kn y).cells.toList.all one then
          some (.val undef, ls.set i (some (e, splice cells off (evV kn y).cells.toList))) else none
      | _ => none
    | _, _ => none
  | .box e x => bif knownV kn x && okx P x then some (.loc ls.length 0, ls ++ [some (e, (evV kn x).cells.toList)]) else none
  | .alloc e => match (P.info? e).bind (·.zero) with
    | some z => bif flat depth z then some (.loc ls.length 0, ls ++ [some (e, z.cells.toList)]) else none
    | none => none
  | _ => none

theorem loc_inv (h : SSφ P ne m E n kn ls H a w φ cs) {t i off : Nat} (hl : lkV kn t = some (.loc i off)) : ∃ c, cs[i]? = some c ∧ a.tmps.getD t undef = .pointer (some ⟨c, off, none⟩) := h.slot t _ hl

def notStore (o : Oper) : Bool := match o.op with
  | .store .. => false
  | _ => true

theorem agree_push (w : World) (o : Obj) : agree w { w with heap := w.heap.push o } := fun c hc => by
  show (w.heap.push o)[c]? = _
  rw [Array.getElem?_push, if_neg (by omega)]

theorem locOp_ok {o : Oper} (h : SSφ P ne m E n kn ls H a w φ cs) {kv : KV} {ls' : Lcs} (ho : locOp P kn ls o = some (kv, ls')) (hd : dstV n o = true) {K : Act → World → Prop}
    (hn : ∀ v' w' cs', SSφ P ne m E n (putV kn o.dst kv) ls' H (a.put o.dst v') w' φ cs' → (∀ (i : Nat) (c : Nat), cs[i]? = some c → cs'[i]? = some c) → (notStore o = true → agree w w') → K (a.put o.dst v') w') : o.wp P a w K Q := by
  obtain ⟨dst, op, ty, pos, after, guard⟩ := o
  unfold locOp at ho
  simp only at ho hn hd
  have same : ∀ (v : Value), (execOp a.eval ⟨dst, op, ty, pos, after, guard⟩).run P w = .ok (.value v) w → KR φ cs kv v → ls' = ls → Oper.wp P ⟨dst, op, ty, pos, after, guard⟩ a w K Q := by
    intro v hr hv e
    subst e
    unfold Oper.wp
    rw [hr]
    exact hn _ _ cs (h.put hd hv) (fun _ _ hc => hc) (fun _ => agree.refl _)
  split at ho
  · rename_i t
    split at ho
    · rename_i i off hl
      simp only [Option.some.injEq, Prod.mk.injEq] at ho
      obtain ⟨rfl, rfl⟩ := ho
      exact same (a.tmps.getD t undef) rfl (h.slot t _ hl) rfl
    · cases ho
  · rename_i t
    split at ho
    · rename_i i off hl
      simp only [Option.some.injEq, Prod.mk.injEq] at ho
      obtain ⟨rfl, rfl⟩ := ho
      exact same (a.tmps.getD t undef) rfl (h.slot t _ hl) rfl
    · cases ho
  · rename_i t
    split at ho
    · rename_i i off hl
      simp only [Option.some.injEq, Prod.mk.injEq] at ho
      obtain ⟨rfl, rfl⟩ := ho
      refine same (a.tmps.getD t undef) ?_ (h.slot t _ hl) rfl
      obtain ⟨c, h1, h2⟩ := loc_inv h hl
      have : a.eval (.tmp t) = .pointer (some ⟨c, off, none⟩) := h2
      simp only [execOp, this]
      rw [h2]; rfl
    · cases ho
  · rename_i s t f
    split at ho
    · rename_i i off fs hl hu
      cases hf : fs[f]? with
      | none => rw [hf] at ho; cases ho
      | some fd =>
        rw [hf] at ho
        simp only at ho
        cases hi : P.info? fd.type with
        | none => rw [hi] at ho; cases ho
        | some inf =>
          rw [hi] at ho
          simp only at ho
          cases hz : Nat.beq inf.size 0 with
          | true => rw [hz] at ho; cases ho
          | false =>
            rw [hz] at ho
            simp only [cond_false, Option.some.injEq, Prod.mk.injEq] at ho
            obtain ⟨rfl, rfl⟩ := ho
            obtain ⟨c, h1, h2⟩ := loc_inv h hl
            have he : a.eval (.tmp t) = .pointer (some ⟨c, off, none⟩) := h2
            refine same (.pointer (some ⟨c, off + fd.offset, none⟩)) ?_ ⟨c, h1, rfl⟩ rfl
            have hne := Nat.ne_of_beq_eq_false hz
            have hrun : (Instr.fieldAt s (.pointer (some ⟨c, off, none⟩)) f).run P w = .ok (.pointer (some ⟨c, off + fd.offset, none⟩)) w := by
              simp only [Instr.fieldAt, Sem.run_bind, run_und hu, Result.andThen_ok, hf, Instr.sureAddr, Sem.run_pure, fieldPlace, run_size hi]
              rw [if_neg hne]
              simp only [Sem.run_pure, Result.andThen_ok, Addr.add_lit]
            simp only [execOp, he, Sem.run_bind, hrun, Result.andThen_ok]
            rfl
    · cases ho
  · rename_i t x
    split at ho
    · rename_i i off d inf hl hu hi
      split at ho
      · rename_i e cells hc
        obtain ⟨c, h1, h2⟩ := loc_inv h hl
        obtain ⟨g1, ⟨rs, g2, g3⟩, g4⟩ := h.loc i c _ h1 hc
        have he : a.eval (.tmp x) = .pointer (some ⟨c, off, none⟩) := h2
        have hlen := LR.length g3
        simp only at hlen g3
        have hagg : (isAgg t).run P w = .ok (isAggD d) w := by
          simp only [isAgg, Sem.run_bind, run_und hu, Result.andThen_ok]
          cases d <;> rfl
        have hex : ∀ v, (loadVar t ⟨c, off, none⟩).run P w = .ok v w → (execOp a.eval ⟨dst, .load t (.tmp x), ty, pos, after, guard⟩).run P w = .ok (.value v) w := by
          intro v hr
          simp only [execOp, he, Instr.loadAt, Instr.sureAddr, Sem.run_bind, Sem.run_pure, Result.andThen_ok, hr]
        have hcell : ∀ (j : Nat) u, rs[off + j]? = some u → w.cell? ((⟨c, off, none⟩ : Addr).add j) = some u := by
          intro j u hu
          rw [Addr.add_lit]
          simp [World.cell?, g2, hu]
        cases hda : isAggD d with
        | true =>
          rw [hda] at ho
          simp only [cond_true] at ho
          cases hb : Nat.ble (off + inf.size) cells.length with
          | false => rw [hb] at ho; cases ho
          | true =>
            rw [hb] at ho
            simp only [cond_true, Option.some.injEq, Prod.mk.injEq] at ho
            obtain ⟨rfl, rfl⟩ := ho
            have hble := Nat.le_of_ble_eq_true hb
            have hls : ((rs.toList.drop off).take inf.size).length = inf.size := by simp at hlen ⊢; omega
            have hrun := run_loadCells_list (P := P) w ⟨c, off, none⟩ ((rs.toList.drop off).take inf.size) (fun j u hu => by
              rw [List.getElem?_take] at hu
              split at hu
              · rw [List.getElem?_drop] at hu
                exact hcell j u (by simpa using hu)
              · cases hu)
            rw [hls] at hrun
            refine same (.agg ((rs.toList.drop off).take inf.size).toArray) (hex _ ?_) ?_ rfl
            · simp only [loadVar, Sem.run_bind, hagg, Result.andThen_ok, hda, if_true, run_size hi, hrun, Sem.run_pure]
            · have hpw : AR φ ((cells.drop off).take inf.size).toArray ((rs.toList.drop off).take inf.size).toArray := by
                refine ⟨by simp at hlen ⊢; omega, fun j u v hu hv => ?_⟩
                have hA := AR_iff.2 (show LR φ cells.toArray.toList rs.toList by simpa using g3)
                rw [List.getElem?_toArray, List.getElem?_take] at hu hv
                split at hu
                · rename_i hj
                  rw [if_pos hj, List.getElem?_drop] at hv
                  rw [List.getElem?_drop] at hu
                  exact hA.2 (off + j) u v (by simpa using hu) (by simpa using hv)
                · cases hu
              exact .agg _ _ hpw.1 hpw.2
        | false =>
          rw [hda] at ho
          simp only [cond_false] at ho
          cases hv : cells[off]? with
          | none => rw [hv] at ho; cases ho
          | some v =>
            rw [hv] at ho
            simp only [Option.some.injEq, Prod.mk.injEq] at ho
            obtain ⟨rfl, rfl⟩ := ho
            have hA := AR_iff.2 (show LR φ cells.toArray.toList rs.toList by simpa using g3)
            obtain ⟨v', hv', hvr⟩ := hA.get (show cells.toArray[off]? = some v by simpa using hv)
            have h0 := hcell 0 v' (by simpa using hv')
            have e0 : (⟨c, off, none⟩ : Addr).add 0 = ⟨c, off, none⟩ := rfl
            rw [e0] at h0
            refine same v' (hex _ ?_) hvr rfl
            simp only [loadVar, Sem.run_bind, hagg, hda, Result.andThen_ok, Bool.false_eq_true, if_false]
            simp [h0]
      · cases ho
    · cases ho
  · rename_i t x y
    split at ho
    · rename_i i off inf hl hi
      split at ho
      · rename_i e cells hc
        cases hb : (knownV kn y && okx P y && Nat.beq inf.size (evV kn y).cells.size && Nat.ble (off + (evV kn y).cells.size) cells.length && (evV kn y).cells.toList.all one) with
        | false => rw [hb] at ho; cases ho
        | true =>
          rw [hb] at ho
          simp only [cond_true, Option.some.injEq, Prod.mk.injEq] at ho
          obtain ⟨rfl, rfl⟩ := ho
          simp only [Bool.and_eq_true] at hb
          obtain ⟨⟨⟨⟨b1, b2⟩, b3⟩, b4⟩, b5⟩ := hb
          have b3 := Nat.eq_of_beq_eq_true b3
          have b4 := Nat.le_of_ble_eq_true b4
          have hv := h.eval b1 b2
          generalize hyv : a.eval y = y' at hv
          generalize evV kn y = v at hv b3 b4 b5 hn
          obtain ⟨c, h1, h2⟩ := loc_inv h hl
          obtain ⟨g1, ⟨rs, g2, g3⟩, g4⟩ := h.loc i c _ h1 hc
          have he : a.eval (.tmp x) = .pointer (some ⟨c, off, none⟩) := h2
          have hlen := LR.length g3
          simp only at hlen g3
          have hca := hv.cells
          have hcl : LR φ v.cells.toList y'.cells.toList := AR_iff.1 hca
          have hone : y'.cells.toList.all one = true := by
            rw [List.all_eq_true] at b5 ⊢
            intro u hu
            obtain ⟨j, hj⟩ := List.getElem?_of_mem hu
            have hj2 : j < v.cells.size := by
              have := hca.1
              rw [List.getElem?_eq_some_iff] at hj
              obtain ⟨q, _⟩ := hj
              simp at q; omega
            have := hca.2 j v.cells[j] u (by simp [hj2]) (by simpa using hj)
            rw [one_eq this]
            exact b5 _ (by simp)
          have hsz : y'.cells.toList.length = v.cells.size := by simpa using hca.1.symm
          have hrs : cells.length = rs.size := by simpa using hlen
          have hrun := run_storeCells_real (P := P) c off y'.cells.toList 0 w rs e g2 (by omega) hone
          obtain ⟨c2, k1, k2, k3, k4⟩ := setCells_heap c y'.cells.toList (off + 0) w rs e (0, 0) g2
          have hoth := setCells_other c y'.cells.toList (off + 0) w
          have hrest := setCells_rest c y'.cells.toList (off + 0) w
          have hsize := setCells_size c y'.cells.toList (off + 0) w
          simp only [Nat.add_zero] at hrun k1 k3 k4 hoth hrest hsize
          have hex : (execOp a.eval ⟨dst, .store t (.tmp x) y, ty, pos, after, guard⟩).run P w = .ok .skip (w.setCells c off y'.cells.toList) := by
            simp only [execOp, he, hyv, Instr.storeAt, Instr.sureAddr, Sem.run_bind, Sem.run_pure, Result.andThen_ok, storeVar, run_size hi]
            rw [if_neg (by have := hca.1; simp; omega)]
            rw [hrun]
            rfl
          unfold Oper.wp
          rw [hex]
          refine hn undef _ cs ?_ (fun _ _ hc => hc) (fun hh => by cases hh)
          refine SSφ.put ?_ hd (kv := .val undef) (vr_undef φ)
          refine h.world (Nat.le_of_eq hsize.symm) (fun k hk => hoth k (by omega)) (fun id l hl => hoth l.blk (g4 id l hl)) hrest.1 hrest.2.1 hrest.2.2 (by simp [h.len]) fun j c' z hj hz => ?_
          rw [List.getElem?_set] at hz
          by_cases hij : i = j
          · subst hij
            rw [h1] at hj; cases hj
            rw [if_pos rfl] at hz
            split at hz
            · cases hz
              refine ⟨g1, ⟨c2, k1, ?_⟩, g4⟩
              show LR φ (splice cells off v.cells.toList) c2.toList
              have hA : AR φ (splice cells off v.cells.toList).toArray c2 := by
                have hsp : off + v.cells.toList.length ≤ cells.length := by simpa using b4
                refine ⟨by rw [List.size_toArray, splice_len hsp, k2, hrs], fun q u u' hu hu' => ?_⟩
                have hA0 := AR_iff.2 (show LR φ cells.toArray.toList rs.toList by simpa using g3)
                rw [List.getElem?_toArray, splice_get hsp] at hu
                split at hu
                · rename_i hq
                  rw [k3 q (.inl hq)] at hu'
                  exact hA0.2 q u u' (by simpa using hu) hu'
                · rename_i hq
                  split at hu
                  · rename_i hq2
                    have hqv : q - off < v.cells.size := by simp at hq2; omega
                    obtain ⟨u2, hu2, hvr⟩ := hca.get (show v.cells[q - off]? = some u by simpa using hu)
                    have := k4 (q - off) u2 (by simpa using hu2) (by omega)
                    rw [show off + (q - off) = q by omega, hu'] at this
                    cases this
                    exact hvr
                  · rename_i hq2
                    rw [k3 q (.inr (by rw [hsz]; simp at hq2; omega))] at hu'
                    exact hA0.2 q u u' (by simpa using hu) hu'
              have := AR_iff.1 hA
              simpa using this
            · cases hz
          · rw [if_neg hij] at hz
            obtain ⟨q1, ⟨cs', q2, q3⟩, q4⟩ := h.loc j c' z hj hz
            refine ⟨q1, ⟨cs', ?_, q3⟩, q4⟩
            rw [hoth c' (fun e => hij (h.inj i j c h1 (e ▸ hj)))]
            exact q2
      · cases ho
    · cases ho
  · rename_i e x
    cases hb : (knownV kn x && okx P x) with
    | false => rw [hb] at ho; cases ho
    | true =>
      rw [hb] at ho
      simp only [cond_true, Option.some.injEq, Prod.mk.injEq] at ho
      obtain ⟨rfl, rfl⟩ := ho
      simp only [Bool.and_eq_true] at hb
      have hv := h.eval hb.1 hb.2
      obtain ⟨cs', hs', hpf⟩ := h.new (e := e) hv hd
      have hex : (execOp a.eval ⟨dst, .box e x, ty, pos, after, guard⟩).run P w = .ok (.value (.pointer (some ⟨w.heap.size, 0, none⟩))) { w with heap := w.heap.push (.cells (a.eval x).cells e (0, 0)) } := by
        simp only [execOp]; rfl
      unfold Oper.wp
      rw [hex]
      exact hn _ _ cs' hs' hpf.1 (fun _ => agree_push _ _)
  · rename_i e
    cases hz : (P.info? e).bind (·.zero) with
    | none => rw [hz] at ho; cases ho
    | some z =>
      rw [hz] at ho
      simp only at ho
      cases hf : flat depth z with
      | false => rw [hf] at ho; cases ho
      | true =>
        rw [hf] at ho
        simp only [cond_true, Option.some.injEq, Prod.mk.injEq] at ho
        obtain ⟨rfl, rfl⟩ := ho
        obtain ⟨cs', hs', hpf⟩ := h.new (e := e) (flat_refl (φ := φ) depth hf) hd
        have hex : (execOp a.eval ⟨dst, .alloc e, ty, pos, after, guard⟩).run P w = .ok (.value (.pointer (some ⟨w.heap.size, 0, none⟩))) { w with heap := w.heap.push (.cells z.cells e (0, 0)) } := by
          simp only [execOp, Instr.alloc, Sem.run_bind, run_zero hz, Result.andThen_ok]; rfl
        unfold Oper.wp
        rw [hex]
        exact hn _ _ cs' hs' hpf.1 (fun _ => agree_push _ _)
  · cases ho

end
end Go.Abs


namespace Go.Abs

variable {P : Program} {ne : NE} {m n : Nat}

section
variable {E : Ent} {kn : KN} {ls : Lcs} {H : AH} {a : Act} {w w' : World} {φ : Inj} {cs : List Nat} {Q : Exit → Act → World → Prop}

def runLs (P : Program) (m n : Nat) (ops : Array Oper) : Nat → Nat → KN → Lcs → AH → Option (KN × Lcs × AH)
  | 0, _, kn, ls, H => some (kn, ls, H)
  | j + 1, k, kn, ls, H => match ops[k]? with
    | some o => match wantV ops kn o with
      | some true => bif dstV n o then (match locOp P kn ls o with
        | some (kv, ls') => runLs P m n ops j (k + 1) (putV kn o.dst kv) ls' H
        | none => bif opV P n ops kn o && noCall o then (match runOp P (NE.plain 0) ih0 m o (evV kn) H with
          | some (v, H') => runLs P m n ops j (k + 1) (putV kn o.dst (.val v)) ls H'
          | none => none) else none) else none
      | some false => bif skV n ops kn o then runLs P m n ops j (k + 1) (putV kn o.dst (.val undef)) ls H else none
      | none => none
    | none => none

theorem opAt_of {ops : Array Oper} {k : Nat} {o : Oper} (h : ops[k]? = some o) : opAt ops k = o := by
  unfold opAt
  rw [Array.getD_eq_getD_getElem?, h]; rfl

theorem RS.loc {ops : Array Oper} {k : Nat} {kv : KV} {ls' : Lcs} (ho : ops[k]? = some (opAt ops k)) (hw : wantV ops kn (opAt ops k) = some true) (hd : dstV n (opAt ops k) = true) (hl : locOp P kn ls (opAt ops k) = some (kv, ls'))
    (h : RS P ne m E n ops (k + 1) (putV kn (opAt ops k).dst kv) ls' H Q) : RS P ne m E n ops k kn ls H Q := by
  intro a w hs
  obtain ⟨φ, cs, hs⟩ := hs
  rw [range_step ho, wpOps_cons]
  unfold wpOp
  rw [ho]
  simp only [wantV_ok hs hw, if_true]
  left
  exact locOp_ok hs hl hd fun v' w' cs' h' _ _ => h _ w' ⟨φ, cs', h'⟩

theorem RS.ls_ {ops : Array Oper} : ∀ (j : Nat) {k : Nat} {kn kn' : KN} {ls ls' : Lcs} {H H' : AH}, runLs P m n ops j k kn ls H = some (kn', ls', H') → RS P ne m E n ops (k + j) kn' ls' H' Q → RS P ne m E n ops k kn ls H Q := by
  intro j
  induction j with
  | zero =>
    intro k kn kn' ls ls' H H' hr h
    simp only [runLs, Option.some.injEq, Prod.mk.injEq] at hr
    obtain ⟨rfl, rfl, rfl⟩ := hr
    exact h
  | succ j ihj =>
    intro k kn kn' ls ls' H H' hr h
    rw [show k + (j + 1) = (k + 1) + j by omega] at h
    simp only [runLs] at hr
    cases ho : ops[k]? with
    | none => rw [ho] at hr; cases hr
    | some o =>
      have e := opAt_of ho
      subst e
      simp only [ho] at hr
      cases hw : wantV ops kn (opAt ops k) with
      | none => rw [hw] at hr; cases hr
      | some b =>
        simp only [hw] at hr
        cases b with
        | true =>
          simp only at hr
          cases hd : dstV n (opAt ops k) with
          | false => rw [hd] at hr; cases hr
          | true =>
            simp only [hd, cond_true] at hr
            cases hl : locOp P kn ls (opAt ops k) with
            | some p =>
              obtain ⟨kv, ls1⟩ := p
              simp only [hl] at hr
              exact RS.loc ho hw hd hl (ihj hr h)
            | none =>
              simp only [hl] at hr
              cases hB : opV P n ops kn (opAt ops k) with
              | false => rw [hB] at hr; cases hr
              | true =>
                cases hN : noCall (opAt ops k) with
                | false => rw [hB, hN] at hr; cases hr
                | true =>
                  simp only [hB, hN, Bool.and_self, cond_true] at hr
                  cases hv : runOp P (NE.plain 0) ih0 m (opAt ops k) (evV kn) H with
                  | none => rw [hv] at hr; cases hr
                  | some p =>
                    obtain ⟨v, H1⟩ := p
                    rw [hv] at hr
                    exact RS.op ho hB hv hN (ihj hr h)
        | false =>
          simp only at hr
          cases hB : skV n ops kn (opAt ops k) with
          | false => rw [hB] at hr; cases hr
          | true =>
            simp only [hB, cond_true] at hr
            exact RS.skp ho hB (ihj hr h)

theorem RS.many {ops : Array Oper} {k : Nat} (j : Nat) (new : KN) (ls' : Lcs) {H' : AH} (hr : runLs P m n ops j k kn ls H = some (new ++ kn, ls', H')) (h : RS P ne m E n ops (k + j) (new ++ kn) ls' H' Q) : RS P ne m E n ops k kn ls H Q :=
  RS.ls_ j hr h

/-- A truth value is met both ways. -/
theorem SS.fix (hs : SS P ne m E n kn ls H a w) (t : Nat) {b c : Bool} (hb : b = c) (hl : lkV kn t = some (.val (.bool b))) : SS P ne m E n ((t, .val (.bool c)) :: kn) ls H a w := by
  subst hb
  obtain ⟨φ, cs, h⟩ := hs
  refine ⟨φ, cs, h.glob, h.inv, h.step, h.len, h.loc, h.inj, h.low, fun s kv hh => ?_, h.size, h.defers, h.sane, h.inv0⟩
  simp only [lkV] at hh
  cases hq : Nat.beq t s with
  | true =>
    rw [hq] at hh
    have := Nat.eq_of_beq_eq_true hq
    subst this
    cases hh
    exact h.slot t _ hl
  | false => rw [hq] at hh; exact h.slot s kv hh

theorem RS.fix {ops : Array Oper} {k : Nat} (t : Nat) {b : Bool} (c : Bool) (hb : b = c) (hl : lkV kn t = some (.val (.bool b))) (h : RS P ne m E n ops k ((t, .val (.bool c)) :: kn) ls H Q) : RS P ne m E n ops k kn ls H Q :=
  fun a w hs => h a w (hs.fix t hb hl)

theorem WS.fix {c : Code} (t : Nat) {b : Bool} (d : Bool) (hb : b = d) (hl : lkV kn t = some (.val (.bool b))) (h : WS P ne m E n c ((t, .val (.bool d)) :: kn) ls H Q) : WS P ne m E n c kn ls H Q :=
  fun a w hs => h a w (hs.fix t hb hl)

/-- One operation on values, by a word of its own. -/
theorem RS.at {ops : Array Oper} {k : Nat} (v : Value) {H' : AH} (ho : ops[k]? = some (opAt ops k)) (hB : (opV P n ops kn (opAt ops k) && noCall (opAt ops k)) = true) (hr : runOp P (NE.plain 0) ih0 m (opAt ops k) (evV kn) H = some (v, H'))
    (h : RS P ne m E n ops (k + 1) (putV kn (opAt ops k).dst (.val v)) ls H' Q) : RS P ne m E n ops k kn ls H Q := by
  rw [Bool.and_eq_true] at hB
  exact RS.op ho hB.1 hr hB.2 h

def blkS (i : Nat) (Q : Exit → Act → World → Prop) : Exit → Act → World → Prop
  | .exit j, a, w => bif Nat.beq j i then Q .normal a w else Q (.exit j) a w
  | e, a, w => Q e a w

theorem WS.blk {c : Code} (i : Nat) (hc : isBlock i c = true) (h : WS P ne m E n (cfst c) kn ls H (blkS i Q)) : WS P ne m E n c kn ls H Q := by
  refine WS.block i hc fun a w hs => wp_mono (h a w hs) fun e a w hq => ?_
  cases e with
  | exit j =>
    show (if j = i then _ else _)
    have hq : (bif Nat.beq j i then Q .normal a w else Q (.exit j) a w) := hq
    cases hb : Nat.beq j i with
    | true => rw [hb] at hq; rw [if_pos (Nat.eq_of_beq_eq_true hb)]; exact hq
    | false => rw [hb] at hq; rw [if_neg (Nat.ne_of_beq_eq_false hb)]; exact hq
  | _ => exact hq

theorem sqR {N : Act → World → Prop} (h : Q .ret a w) : Exit.then N Q .ret a w := h
theorem sqE {N : Act → World → Prop} {i : Nat} (h : Q (.exit i) a w) : Exit.then N Q (.exit i) a w := h
theorem bkN {i : Nat} (h : Q .normal a w) : blkS i Q .normal a w := h
theorem bkR {i : Nat} (h : Q .ret a w) : blkS i Q .ret a w := h
theorem bkE {i : Nat} (h : Q .normal a w) : blkS i Q (.exit i) a w := by
  show (bif Nat.beq i i then Q .normal a w else Q (.exit i) a w)
  rw [Nat.beq_refl]; exact h
def lpS {S R : Type} (P : Program) (ne : NE) (m : Nat) (E : Ent) (n : Nat) (knOf : S → KN) (lsOf : S → Lcs) (hOf : S → AH) (i : Nat) (QR : R → Act → World → Prop) (o : Lp S R) : Exit → Act → World → Prop
  | .normal, a, w => ∃ s, o = .next s ∧ SS P ne m E n (knOf s) (lsOf s) (hOf s) a w
  | .exit j, a, w => ∃ s, o = .brk s ∧ j = i ∧ SS P ne m E n (knOf s) (lsOf s) (hOf s) a w
  | .ret, a, w => ∃ r, o = .ret r ∧ QR r a w
  | _, _, _ => False

theorem rounds_of {S R : Type} {c : Code} {body : S → Option (Lp S R)} {knOf : S → KN} {lsOf : S → Lcs} {hOf : S → AH} {i : Nat} {QR : R → Act → World → Prop}
    (hbody : ∀ s o, body s = some o → WS P ne m E n c (knOf s) (lsOf s) (hOf s) (lpS P ne m E n knOf lsOf hOf i QR o)) (hQ1 : ∀ s a w, SS P ne m E n (knOf s) (lsOf s) (hOf s) a w → (∀ r : R, True) → True) :
    ∀ (k : Nat) (s : S) (o : S ⊕ R), iterO body k s = some o → ∀ {Q : Exit → Act → World → Prop}, (∀ s', o = .inl s' → ∀ a w, SS P ne m E n (knOf s') (lsOf s') (hOf s') a w → Q (.exit i) a w) → (∀ r, o = .inr r → ∀ a w, QR r a w → Q .ret a w) →
      ∀ a w, SS P ne m E n (knOf s) (lsOf s) (hOf s) a w → Code.rounds P c Q k a w := by
  intro k
  induction k with
  | zero => intro s o h; cases h
  | succ k ih =>
    intro s o h Q h1 h2 a w hs
    rw [rounds_succ]
    simp only [iterO] at h
    cases hb : body s with
    | none => rw [hb] at h; cases h
    | some l =>
      rw [hb] at h
      refine wp_mono (hbody s l hb a w hs) fun e a' w' hq => ?_
      cases e with
      | normal =>
        obtain ⟨s', rfl, hs'⟩ := hq
        exact ih s' o h h1 h2 a' w' hs'
      | exit j =>
        obtain ⟨s', rfl, rfl, hs'⟩ := hq
        simp only [Option.some.injEq] at h
        exact h1 s' h.symm a' w' hs'
      | ret =>
        obtain ⟨r, rfl, hr⟩ := hq
        simp only [Option.some.injEq] at h
        exact h2 r h.symm a' w' hr
      | _ => exact hq.elim

theorem WS.loop_ {S R : Type} {c : Code} (hc : isLoop c = true) (body : S → Option (Lp S R)) (knOf : S → KN) (lsOf : S → Lcs) (hOf : S → AH) (i : Nat) (QR : R → Act → World → Prop)
    (hbody : ∀ s o, body s = some o → WS P ne m E n (cfst c) (knOf s) (lsOf s) (hOf s) (lpS P ne m E n knOf lsOf hOf i QR o)) {s : S} {o : S ⊕ R} (hl : loopO body s = some o) (k : Nat) (hsub : SubV (knOf s) kn) (hls : ls.take k = lsOf s) (hbl : belowL k (knOf s) = true) (hH : H = hOf s)
    (h1 : ∀ s', o = .inl s' → ∀ a w, SS P ne m E n (knOf s') (lsOf s') (hOf s') a w → Q (.exit i) a w) (h2 : ∀ r, o = .inr r → ∀ a w, QR r a w → Q .ret a w) : WS P ne m E n c kn ls H Q := by
  cases c with
  | loop body' =>
    intro a w hs
    obtain ⟨k', hk⟩ := loopO_iff.1 hl
    subst hH
    exact wp_loop_rounds k' (rounds_of hbody (fun _ _ _ _ _ => trivial) k' s o hk h1 h2 a w (hs.sub hsub k hls hbl))
  | _ => cases hc

theorem WS.loopI {S R : Type} {c : Code} (hc : isLoop c = true) (body : S → Option (Lp S R)) (knOf : S → KN) (lsOf : S → Lcs) (hOf : S → AH) (i : Nat) (QR : R → Act → World → Prop)
    (hbody : ∀ s o, body s = some o → WS P ne m E n (cfst c) (knOf s) (lsOf s) (hOf s) (lpS P ne m E n knOf lsOf hOf i QR o)) {s s' : S} (hl : loopO body s = some (.inl s')) (k : Nat) (hsub : SubV (knOf s) kn) (hls : ls.take k = lsOf s) (hbl : belowL k (knOf s) = true) (hH : H = hOf s)
    (h1 : ∀ a w, SS P ne m E n (knOf s') (lsOf s') (hOf s') a w → Q (.exit i) a w) : WS P ne m E n c kn ls H Q :=
  WS.loop_ hc body knOf lsOf hOf i QR hbody hl k hsub hls hbl hH (fun s2 e => by cases e; exact h1) (fun r e => by cases e)

theorem WS.loopR {S R : Type} {c : Code} (hc : isLoop c = true) (body : S → Option (Lp S R)) (knOf : S → KN) (lsOf : S → Lcs) (hOf : S → AH) (i : Nat) (QR : R → Act → World → Prop)
    (hbody : ∀ s o, body s = some o → WS P ne m E n (cfst c) (knOf s) (lsOf s) (hOf s) (lpS P ne m E n knOf lsOf hOf i QR o)) {s : S} {r : R} (hl : loopO body s = some (.inr r)) (k : Nat) (hsub : SubV (knOf s) kn) (hls : ls.take k = lsOf s) (hbl : belowL k (knOf s) = true) (hH : H = hOf s)
    (h2 : ∀ a w, QR r a w → Q .ret a w) : WS P ne m E n c kn ls H Q :=
  WS.loop_ hc body knOf lsOf hOf i QR hbody hl k hsub hls hbl hH (fun s2 e => by cases e) (fun r2 e => by cases e; exact h2)

section
variable {S R : Type} {knOf : S → KN} {lsOf : S → Lcs} {hOf : S → AH} {i : Nat} {QR : R → Act → World → Prop}
theorem lsN {o : Lp S R} {s : S} (ho : o = .next s) (h : SS P ne m E n (knOf s) (lsOf s) (hOf s) a w) : lpS P ne m E n knOf lsOf hOf i QR o .normal a w := ⟨s, ho, h⟩
theorem lsB {o : Lp S R} {s : S} (ho : o = .brk s) (h : SS P ne m E n (knOf s) (lsOf s) (hOf s) a w) : lpS P ne m E n knOf lsOf hOf i QR o (.exit i) a w := ⟨s, ho, rfl, h⟩
theorem lsR {o : Lp S R} {r : R} (ho : o = .ret r) (h : QR r a w) : lpS P ne m E n knOf lsOf hOf i QR o .ret a w := ⟨r, ho, h⟩
end

def jnS (P : Program) (ne : NE) (m : Nat) (E : Ent) (n : Nat) (kn : KN) (ls : Lcs) (H : AH) (Q : Exit → Act → World → Prop) : Exit → Act → World → Prop
  | .normal, a, w => SS P ne m E n kn ls H a w
  | e, a, w => Q e a w

theorem WS.join {c : Code} {N : Act → World → Prop} (kn2 : KN) (ls2 : Lcs) (H2 : AH) (h : WS P ne m E n c kn ls H (jnS P ne m E n kn2 ls2 H2 Q)) (hN : ∀ a w, SS P ne m E n kn2 ls2 H2 a w → N a w) : WS P ne m E n c kn ls H (Exit.then N Q) := by
  refine fun a w hs => wp_mono (h a w hs) fun e a w hq => ?_
  cases e with
  | normal => exact hN a w hq
  | _ => exact hq

theorem jsN {kn2 : KN} {ls2 : Lcs} {H2 : AH} (h : SS P ne m E n kn2 ls2 H2 a w) : jnS P ne m E n kn2 ls2 H2 Q .normal a w := h
def pubB (e : TypeId) (cells : List Value) : Blk := { obj := .cells cells.toArray e (0, 0), opn := false, esz := 0, ro := false }

end
end Go.Abs


namespace Go.Abs

variable {P : Program} {ne : NE} {m n : Nat}

theorem agree.cell {w1 w : World} (h : agree w1 w) {a : Addr} {v : Value} (hc : w1.cell? a = some v) : w.cell? a = some v := by
  unfold World.cell? at hc ⊢
  cases hb : w1.heap[a.block]? with
  | none => rw [hb] at hc; cases hc
  | some o =>
    have hlt : a.block < w1.heap.size := by rw [Array.getElem?_eq_some_iff] at hb; exact hb.1
    rw [h _ hlt, hb]
    rw [hb] at hc
    exact hc

theorem peval_bind_some {α β : Type} {s : Sem α} {f : α → Sem β} {a : α} (h : peval P s = some a) : peval P (s >>= f) = peval P (f a) := by
  show peval P (s.bind f) = _
  rw [pbind, h]; rfl

theorem aAsk_peval {φ : Inj} (kt : TypeId) (k : Value) {es es' : List MapEntry} (h : F2 (ER φ) es es') : ∀ (n : Nat) (r : Option (Nat × Value)), aAsk P kt k es n = some r →
    ∃ r', peval P (Instr.findAsking kt k es' n) = some r' ∧ FindR φ r r' := by
  induction h with
  | nil => intro n r hr; simp only [aAsk, Option.some.injEq] at hr; subst hr; exact ⟨none, rfl, trivial⟩
  | @cons a b _ _ hab _ ih =>
    intro n r hr
    simp only [aAsk] at hr
    cases hp : peval P (Op.equal kt k a.key) with
    | none => rw [hp] at hr; cases hr
    | some q =>
      rw [hp] at hr
      rw [hab.1] at hp
      cases q
      · obtain ⟨r', h1, h2⟩ := ih (n + 1) r hr
        refine ⟨r', ?_, h2⟩
        simp only [Instr.findAsking]
        rw [peval_bind_some hp]
        exact h1
      · simp only [Option.some.injEq] at hr
        subst hr
        refine ⟨some (n, b.val), ?_, rfl, hab.2.1⟩
        simp only [Instr.findAsking]
        rw [peval_bind_some hp]
        rfl

theorem peval_und {t : TypeId} {d : TypeDesc} (h : P.underlying t = some d) : peval P (underlying t) = some d := by
  simp only [Go.underlying, Go.program, bind, Pure.pure, Sem.bind, peval, h]

theorem aFind_peval {φ : Inj} {kt : TypeId} {k : Value} {es es' : List MapEntry} (h : F2 (ER φ) es es') {r : Option (Nat × Value)} (hr : aFind P kt k es = some r) :
    ∃ r', peval P (Instr.findKey kt k es') = some r' ∧ FindR φ r r' := by
  unfold aFind at hr
  cases hu : P.underlying kt with
  | none => rw [hu] at hr; cases hr
  | some d =>
    rw [hu] at hr
    simp only at hr
    rcases findNow_rel d k h 0 with ⟨h1, h2⟩ | ⟨q, q', h1, h2, h3⟩
    · rw [h1] at hr
      obtain ⟨r', a1, a2⟩ := aAsk_peval kt k h 0 r hr
      refine ⟨r', ?_, a2⟩
      simp only [Instr.findKey]
      rw [peval_bind_some (peval_und hu)]
      simp only [h2]
      exact a1
    · rw [h1] at hr
      simp only [Option.some.injEq] at hr
      subst hr
      refine ⟨q', ?_, h3⟩
      simp only [Instr.findKey]
      rw [peval_bind_some (peval_und hu)]
      simp only [h2]
      rfl

theorem aLookup_det {φ : Inj} {H : AH} {w1 : World} {t : TypeId} {x x' k v : Value} {ok : Bool} (hi : Inv φ H w1) (h : aLookup P t x k ok H = some v) (hx : VR φ x x') :
    ∃ v', VR φ v v' ∧ ∀ w, agree w1 w → (Instr.lookup t x' k ok).run P w = .ok v' w := by
  unfold aLookup at h
  cases ht : P.underlying t with
  | none => rw [ht] at h; cases h
  | some d =>
    rw [ht] at h
    cases d with
    | map kt e =>
      simp only at h
      cases he : aEntries H x with
      | none => rw [he] at h; cases h
      | some es =>
        rw [he] at h
        simp only at h
        have hent : ∃ es', MR φ es es' ∧ ((x' = .map none ∧ es' = #[]) ∨ ∃ r n, x' = .map (some r) ∧ w1.heap[r]? = some (.map es' n)) := by
          cases hx with
          | mapNil => simp only [aEntries, Option.some.injEq] at he; subst he; exact ⟨#[], MR.empty _, .inl ⟨rfl, rfl⟩⟩
          | map r l hl =>
            simp only [aEntries] at he
            split at he
            · rename_i es1 n _ _ _ hg
              simp only [Option.some.injEq] at he
              subst he
              obtain ⟨es', h1, h2⟩ := hi.map hg rfl hl
              exact ⟨es', h2, .inr ⟨_, n, rfl, h1⟩⟩
            · cases he
          | _ => cases he
        obtain ⟨es', hm, hx2⟩ := hent
        have hf := MR_iff.1 hm
        have hemp : es.isEmpty = es'.isEmpty := by have := hf.isEmpty; simpa using this
        cases hc : peval P (Instr.checkKey es.isEmpty 10000 kt k) with
        | none => rw [hc] at h; cases h
        | some u =>
          rw [hc] at h
          rw [hemp] at hc
          cases hfi : aFind P kt k es.toList with
          | none => rw [hfi] at h; cases h
          | some r =>
            rw [hfi] at h
            obtain ⟨r', hr1, hr2⟩ := aFind_peval hf hfi
            have tail : ∃ v', VR φ v v' ∧ ∀ w, (do
                Instr.checkKey es'.isEmpty 10000 kt k
                let (v, okb) ← match ← Instr.findKey kt k es'.toList with
                  | some (_, v) => pure (v, true)
                  | none => pure (← zeroValue e, false)
                pure (if ok then Value.tuple #[v, .bool okb] else v) : Sem Value).run P w = .ok v' w := by
              cases r with
              | none =>
                cases r' with
                | some p => exact hr2.elim
                | none =>
                  simp only at h
                  cases hz : (P.info? e).bind (·.zero) with
                  | none => rw [hz] at h; cases h
                  | some z =>
                    rw [hz] at h
                    simp only at h
                    cases hfl : flat depth z with
                    | false => rw [hfl] at h; cases h
                    | true =>
                      rw [hfl] at h
                      simp only [cond_true, Option.some.injEq] at h
                      subst h
                      refine ⟨if ok then Value.tuple #[z, .bool false] else z, ?_, fun w => ?_⟩
                      · cases ok
                        · exact flat_refl _ hfl
                        · exact vr_tuple2 (flat_refl _ hfl) (.bool false)
                      · simp only [Sem.run_bind, peval_run P _ _ hc w, Result.andThen_ok, peval_run P _ _ hr1 w, run_zero hz, Sem.run_pure]
              | some p =>
                obtain ⟨i, u⟩ := p
                cases r' with
                | none => exact hr2.elim
                | some p' =>
                  obtain ⟨i', u'⟩ := p'
                  simp only at h
                  simp only [Option.some.injEq] at h
                  subst h
                  refine ⟨if ok then Value.tuple #[u', .bool true] else u', ?_, fun w => ?_⟩
                  · cases ok
                    · exact hr2.2
                    · exact vr_tuple2 hr2.2 (.bool true)
                  · simp only [Sem.run_bind, peval_run P _ _ hc w, Result.andThen_ok, peval_run P _ _ hr1 w, Sem.run_pure]
            obtain ⟨v', hv1, hv2⟩ := tail
            refine ⟨v', hv1, fun w hag => ?_⟩
            rw [← hv2 w]
            rcases hx2 with ⟨rfl, rfl⟩ | ⟨rr, n, rfl, hg⟩
            · simp only [Instr.lookup, Sem.run_bind, run_und ht, Result.andThen_ok, Sem.run_pure]
              rfl
            · have hg2 : w.heap[rr]? = some (.map es' n) := by
                have hlt : rr < w1.heap.size := by rw [Array.getElem?_eq_some_iff] at hg; exact hg.1
                rw [hag _ hlt]; exact hg
              simp only [Instr.lookup, Sem.run_bind, run_und ht, Result.andThen_ok, Sem.run_pure, run_getObj_map hg2]
              rfl
    | _ => cases h

theorem aLoad_det {φ : Inj} {H : AH} {w1 : World} {t : TypeId} {q q' : Addr} {v : Value} (hi : Inv φ H w1) (h : aLoad P t q H = some v) (hq : AddrR φ q q') : ∃ v', VR φ v v' ∧ ∀ w, agree w1 w → (loadVar t q').run P w = .ok v' w := by
  unfold aLoad at h
  split at h
  · rename_i d i hu hii
    have hagg : ∀ w, (isAgg t).run P w = .ok (isAggD d) w := by
      intro w
      simp only [isAgg, Sem.run_bind, run_und hu, Result.andThen_ok]
      cases d <;> rfl
    cases hd : isAggD d with
    | true =>
      rw [hd] at h
      simp only [cond_true] at h
      cases hr : rdCells H q 0 i.size with
      | none => rw [hr] at h; cases h
      | some l =>
        rw [hr] at h
        simp only [Option.some.injEq] at h
        subst h
        obtain ⟨hl, l', h1, h2⟩ := rd_run hi hq _ 0 l hr
        refine ⟨.agg l'.toArray, ?_, fun w hag => ?_⟩
        · have := AR_iff.2 (show LR φ l.toArray.toList l'.toArray.toList by simpa using h1)
          exact .agg _ _ this.1 this.2
        · have hrun := run_loadCells_list (P := P) w q' l' (fun j u hu => hag.cell (by have := h2 j u hu; rwa [Nat.zero_add] at this))
          rw [← LR.length h1, hl] at hrun
          simp only [loadVar, Sem.run_bind, hagg, hd, Result.andThen_ok, if_true, run_size hii, hrun, Sem.run_pure]
    | false =>
      rw [hd] at h
      simp only [cond_false] at h
      obtain ⟨v', h1, h2⟩ := hi.cell h hq
      refine ⟨v', h2, fun w hag => ?_⟩
      have := hag.cell h1
      simp only [loadVar, Sem.run_bind, hagg, hd, Result.andThen_ok, Bool.false_eq_true, if_false]
      simp [this]
  · cases h

/-- What an operation reads. -/
def detOp (P : Program) (H : AH) (o : Oper) (ρ : Operand → Value) : Option Value :=
  match tPure P o ρ with
  | some v => some v
  | none => match o.op with
    | .load t x => match ρ x with
      | .pointer (some a) => aLoad P t a H
      | _ => none
    | .lookup t x k ok => bif flat depth (ρ k) then aLookup P t (ρ x) (ρ k) ok H else none
    | .extract x i => match ρ x with
      | .tuple cs => cs[i]?
      | _ => none
    | .call { callee := .builtin .len, args, argTypes } => match (argTypes[0]?).bind P.underlying, (args.map ρ).toList with
      | some (.slice _), [.slice _ k _] => some (goInt k)
      | _, _ => match flatRun P o ρ H with
        | some (v, _) => some v
        | none => none
    | .binOp .. | .unOp .. | .build .. | .pick .. | .field .. | .index .. => match flatRun P o ρ H with
      | some (v, _) => some v
      | none => none
    | .convert s d _ => match P.underlying s, P.underlying d with
      | some (.int _), some (.int _) => match flatRun P o ρ H with
        | some (v, _) => some v
        | none => none
      | some .string, some .string => match flatRun P o ρ H with
        | some (v, _) => some v
        | none => none
      | _, _ => none
    | _ => none

theorem flat_det {φ : Inj} {H H' : AH} {o : Oper} {ρ ρ' : Operand → Value} {v : Value} (hρ : ∀ x ∈ o.op.operands, VR φ (ρ x) (ρ' x)) (h : flatRun P o ρ H = some (v, H')) (hns : ∀ w, ∀ nx, (execOp ρ' o).run P w = .ok nx w → nx ≠ .skip) : ∃ v', VR φ v v' ∧ ∀ w, (execOp ρ' o).run P w = .ok (.value v') w := by
  unfold flatRun at h
  split at h
  · cases h
  · rename_i hs
    cases ha : o.op.operands.all (fun x => flat depth (ρ x)) with
    | false => rw [ha] at h; cases h
    | true =>
      rw [ha] at h
      simp only [cond_true] at h
      rw [Array.all_eq_true_iff_forall_mem] at ha
      have hc : execOp ρ o = execOp ρ' o := execOp_congr hs fun x hx => flat_eq depth (ha x hx) (hρ x hx)
      cases hp : peval P (execOp ρ o) with
      | none => rw [hp] at h; cases h
      | some nx =>
        rw [hp] at h
        rw [hc] at hp
        cases nx with
        | value u =>
          simp only [asVal] at h
          cases hf : flat depth u with
          | false => rw [hf] at h; cases h
          | true =>
            rw [hf] at h
            simp only [cond_true, Option.some.injEq, Prod.mk.injEq] at h
            obtain ⟨rfl, rfl⟩ := h
            exact ⟨u, flat_refl _ hf, fun w => peval_run P _ _ hp w⟩
        | skip => exact absurd rfl (hns default _ (peval_run P _ _ hp default))
        | _ => cases h

theorem v_noskip {s : Sem Value} {w : World} {nx : Next} (h : (do pure (Next.value (← s)) : Sem Next).run P w = .ok nx w) : nx ≠ .skip := by
  rw [Sem.run_bind] at h
  cases hs : s.run P w with
  | ok v w' =>
    rw [hs] at h
    have : Result.ok (Next.value v) w' = Result.ok nx w := h
    simp only [Result.ok.injEq] at this
    rw [← this.1]; intro e; cases e
  | halt x w' => rw [hs] at h; cases h

theorem detOp_ok {φ : Inj} {H : AH} {w1 : World} {o : Oper} {ρ ρ' : Operand → Value} {v : Value} (hi : Inv φ H w1) (hρ : ∀ x ∈ o.op.operands, VR φ (ρ x) (ρ' x)) (h : detOp P H o ρ = some v) :
    ∃ v', VR φ v v' ∧ ∀ w, agree w1 w → (execOp ρ' o).run P w = .ok (.value v') w := by
  unfold detOp at h
  cases ht : tPure P o ρ with
  | some u =>
    rw [ht] at h
    simp only [Option.some.injEq] at h
    subst h
    obtain ⟨v', h1, h2⟩ := tPure_run hρ ht
    exact ⟨v', h1, fun w _ => h2 w⟩
  | none =>
    rw [ht] at h
    simp only at h
    have fl : (match flatRun P o ρ H with | some (v, _) => some v | none => none) = some v → (∀ w, ∀ nx, (execOp ρ' o).run P w = .ok nx w → nx ≠ .skip) → ∃ v', VR φ v v' ∧ ∀ w, agree w1 w → (execOp ρ' o).run P w = .ok (.value v') w := by
      intro h hns
      cases hf : flatRun P o ρ H with
      | none => rw [hf] at h; cases h
      | some p =>
        obtain ⟨u, H'⟩ := p
        rw [hf] at h
        simp only [Option.some.injEq] at h
        subst h
        obtain ⟨v', h1, h2⟩ := flat_det hρ hf hns
        exact ⟨v', h1, fun w _ => h2 w⟩
    obtain ⟨dst, op, ty, pos, after, guard⟩ := o
    simp only at h hρ
    split at h
    · rename_i t x
      have hx := hρ x (by simp [Op.operands])
      split at h
      · rename_i a ha
        rw [ha] at hx
        obtain ⟨q', hq, hqa⟩ := hx.ptr_inv
        obtain ⟨v', h1, h2⟩ := aLoad_det hi h hqa
        refine ⟨v', h1, fun w hag => ?_⟩
        simp only [execOp, hq, Instr.loadAt, Instr.sureAddr, Sem.run_bind, Sem.run_pure, Result.andThen_ok, h2 w hag]
      · cases h
    · rename_i t x k ok
      cases hf : flat depth (ρ k) with
      | false => rw [hf] at h; cases h
      | true =>
        rw [hf] at h
        simp only [cond_true] at h
        have hk := flat_eq depth hf (hρ k (by simp [Op.operands]))
        obtain ⟨v', h1, h2⟩ := aLookup_det (w1 := w1) hi h (hρ x (by simp [Op.operands]))
        refine ⟨v', h1, fun w hag => ?_⟩
        rw [hk] at h2
        simp only [execOp, Sem.run_bind, h2 w hag, Result.andThen_ok]
        rfl
    · rename_i x i
      have hx := hρ x (by simp [Op.operands])
      split at h
      · rename_i cs hc
        rw [hc] at hx
        generalize hq : ρ' x = q at hx
        cases hx with
        | tuple f f' hf h1 =>
          have hlt : i < f'.size := by
            rw [Array.getElem?_eq_some_iff] at h
            obtain ⟨h, _⟩ := h
            omega
          refine ⟨f'[i], h1 i _ _ h (by simp [hlt]), fun w _ => ?_⟩
          have hrun : (Instr.extract (.tuple f') i).run P w = .ok f'[i] w := by
            simp only [Instr.extract]
            simp [hlt]
          simp only [execOp, hq, Sem.run_bind, hrun, Result.andThen_ok]
          rfl
      · cases h
    · rename_i args ts
      split at h
      · rename_i e b k c hu hl
        simp only [Option.some.injEq] at h
        subst h
        have hargs : AR φ (args.map ρ) (args.map ρ') := ar_map args fun x hx => hρ x (by simp [Op.operands, Call.operands, hx])
        obtain ⟨_, x', hx', hv⟩ := ar_one hargs hl
        obtain ⟨b', c', rfl⟩ := slice_inv hv
        refine ⟨goInt k, .int _ _, fun w _ => ?_⟩
        cases hts : ts[0]? with
        | none => rw [hts] at hu; cases hu
        | some t =>
          rw [hts] at hu
          have hu : P.underlying t = some (.slice e) := hu
          have hrun : (Builtin.len_ ts ty (args.map ρ')).run P w = .ok (goInt k) w := by
            rw [hx']
            simp [Builtin.len_, hts, run_und hu]
          show (do pure (Next.value (← Builtin.len_ ts ty (args.map ρ'))) : Sem Next).run P w = _
          rw [Sem.run_bind, hrun]; rfl
      · exact fl h fun w nx hr => v_noskip (s := Builtin.len_ ts ty (args.map ρ')) hr
    · rename_i bo t x y u
      exact fl h fun w nx hr => v_noskip (s := (do eqGuard bo t x y (ρ' x) (ρ' y); binOp bo t (ρ' x) (ρ' y))) hr
    · rename_i uo t x
      exact fl h fun w nx hr => v_noskip (s := Op.unary uo (ρ' x)) hr
    · rename_i t ps
      exact fl h fun w nx hr => v_noskip (s := Instr.build t (ps.map fun (i, x) => (i, ρ' x))) hr
    · rename_i c x y
      exact fl h fun w nx hr => by
        simp only [execOp, Sem.run_bind] at hr
        cases hb : (asBool (ρ' c)).run P w with
        | ok b w' =>
          rw [hb] at hr
          have : Result.ok (Next.value (if b then ρ' x else ρ' y)) w' = Result.ok nx w := hr
          simp only [Result.ok.injEq] at this
          rw [← this.1]; intro e; cases e
        | halt z w' => rw [hb] at hr; cases hr
    · rename_i t x f
      exact fl h fun w nx hr => v_noskip (s := Instr.field t (ρ' x) f) hr
    · rename_i t x y
      exact fl h fun w nx hr => v_noskip (s := Instr.index t (ρ' x) (ρ' y)) hr
    · rename_i s d x
      split at h
      · exact fl h fun w nx hr => v_noskip (s := convert s d (ρ' x)) hr
      · exact fl h fun w nx hr => v_noskip (s := convert s d (ρ' x)) hr
      · cases h
    · cases h

end Go.Abs


namespace Go.Abs

variable {P : Program} {ne : NE} {m n : Nat}

/-- Must what was there stand behind operation j? Not where it waits for all that reads. -/
def dem (A : List Nat) (bs : List Nat) (j : Nat) : Bool := !(A.all fun i => Nat.blt i j && pre bs j i)

/-- Operations that only hand a value on. -/
def mvAt (ops : Array Oper) (j : Nat) : Bool :=
  match ops[j]? with
  | some o => (match o.op with
    | .move _ => true
    | .assign _ => true
    | .pick .. => true
    | _ => false)
  | none => false

def demO (ops : Array Oper) (A : List Nat) (bs : List Nat) (j : Nat) : Bool := dem A bs j && !mvAt ops j

theorem mv_same {P : Program} {ops : Array Oper} {Q : Exit → Act → World → Prop} {j : Nat} {K : Act → World → Prop} {a : Act} {w : World} (hm : mvAt ops j = true) (h : wpOp P ops Q j K a w) : wpOp P ops Q j (fun a' w' => w' = w ∧ K a' w') a w := by
  unfold wpOp at *
  unfold mvAt at hm
  cases ho : ops[j]? with
  | none => rw [ho] at hm; cases hm
  | some o =>
    rw [ho] at h hm
    simp only at h hm ⊢
    split
    · rename_i hw
      rw [if_pos hw] at h
      rcases h with h | h
      · left
        unfold Oper.wp at *
        have hr : (∃ v, (execOp a.eval o).run P w = .ok (.value v) w) ∨ ∃ x, (execOp a.eval o).run P w = .halt x w := by
          obtain ⟨dst, op, ty, pos, after, guard⟩ := o
          cases op with
          | move x => exact .inl ⟨_, rfl⟩
          | assign x => exact .inl ⟨_, rfl⟩
          | pick c x y =>
            simp only [execOp]
            cases hc : a.eval c with
            | bool b => exact .inl ⟨_, rfl⟩
            | _ => exact .inr ⟨_, rfl⟩
          | _ => cases hm
        rcases hr with ⟨v, hr⟩ | ⟨x, hr⟩
        · rw [hr] at h ⊢
          exact ⟨by first | rfl | trivial, h⟩
        · rw [hr] at h ⊢
          cases x <;> exact h
      · exact .inr h
    · rename_i hw
      rw [if_neg hw] at h
      exact ⟨by first | rfl | trivial, h⟩

def wpAnyD (P : Program) (ops : Array Oper) (Q : Exit → Act → World → Prop) (bs A : List Nat) (w1 : World) : Nat → Array Bool → Act → World → Prop
  | 0, la, a, w => Region.ready .any ops la = [] ∧ Q .normal a w
  | f + 1, la, a, w => (Region.ready .any ops la = [] → Q .normal a w) ∧
    ∀ i ∈ Region.ready .any ops la, wpOp P ops Q i (fun a' w' => (demO ops A bs i = true → agree w1 w') ∧ wpAnyD P ops Q bs A w1 f (la.setIfInBounds i true) a' w') a w

variable {ops : Array Oper} {Q : Exit → Act → World → Prop} {bs A : List Nat} {w1 : World}

theorem wpAny_of_D : ∀ (f : Nat) (la : Array Bool) (a : Act) (w : World), wpAnyD P ops Q bs A w1 f la a w → wpAny P .any ops Q f la a w
  | 0, _, _, _, h => h
  | f + 1, _, _, _, h => ⟨h.1, fun i hi => wpOp_mono (fun a' w' h' => wpAny_of_D f _ a' w' h'.2) (h.2 i hi)⟩

theorem wpAnyD_first {i : Nat} {oi : Oper} {v : Value} (hi : ops[i]? = some oi) (hA : A.contains i = true) (hc : closedOk ops.toList bs = true) (hsel : ∀ (j : Nat) (o : Oper) cs b, ops[j]? = some o → o.op ≠ .select cs b)
    (hQ : ∀ c a w, ¬ Q (.panic c) a w) :
    ∀ (fuel : Nat) (la : Array Bool) (a : Act) (w : World), JC ops bs la →
      (∀ j oj, ops[j]? = some oj → j ≠ i → la.getD j true = false → (∀ e ∈ oj.after, Region.binds .any e = true → e.on ≠ i) → oi.apart ops oj = true) →
      i ∈ Region.ready .any ops la → YieldsIf P ops (agree w1) oi v a → agree w1 w →
      wpAnyD P ops Q bs A w1 fuel (la.setIfInBounds i true) (a.put oi.dst v) w → wpAnyD P ops Q bs A w1 (fuel + 1) la a w := by
  intro fuel
  induction fuel with
  | zero =>
    intro la a w hJ _ hr hy hS H
    refine ⟨fun h => (by rw [h] at hr; cases hr), fun j hj => ?_⟩
    by_cases hji : j = i
    · subst hji; exact hy.wpOp hi hS ⟨fun _ => hS, H⟩
    · have := ready_mono hj hji
      rw [H.1] at this
      cases this
  | succ fuel ih =>
    intro la a w hJ hfree hr hy hS H
    refine ⟨fun h => (by rw [h] at hr; cases hr), fun j hj => ?_⟩
    by_cases hji : j = i
    · subst hji; exact hy.wpOp hi hS ⟨fun _ => hS, H⟩
    · have h1 := H.2 j (ready_mono hj hji)
      have r := rdy_of hc hJ hj
      have ri := rdy_of hc hJ hr
      have hd : dem A bs j = true := by
        cases hq : dem A bs j with
        | true => rfl
        | false =>
          exfalso
          unfold dem at hq
          have hq : (A.all fun i => Nat.blt i j && pre bs j i) = true := by simpa using hq
          rw [List.all_eq_true] at hq
          have := hq i (by simpa using hA)
          simp only [Bool.and_eq_true] at this
          exact ri.no (r.all i (blt_lt this.1) this.2)
      have h1 : wpOp P ops Q j (fun a' w' => agree w1 w' ∧ (demO ops A bs j = true → agree w1 w') ∧ wpAnyD P ops Q bs A w1 fuel ((la.setIfInBounds i true).setIfInBounds j true) a' w') (a.put oi.dst v) w := by
        cases hm : mvAt ops j with
        | true => exact wpOp_mono (fun a' w' hh => ⟨by rw [hh.1]; exact hS, hh.2⟩) (mv_same hm h1)
        | false => exact wpOp_mono (fun a' w' hh => ⟨hh.1 (by unfold demO; rw [hd, hm]; rfl), hh⟩) h1
      obtain ⟨hjun, oj, hoj, hall⟩ := mem_ready.1 hj
      have hnot : ∀ e ∈ oj.after, Region.binds .any e = true → e.on ≠ i := fun e he hb heq => by
        have h1 := hall e he hb
        have h0 := (mem_ready.1 hr).1
        rw [heq] at h1
        rcases Nat.lt_or_ge i la.size with h' | h'
        · simp [h'] at h0 h1; rw [h0] at h1; cases h1
        · simp [Array.getElem?_eq_none h'] at h1
      have h2 := wpOp_putIf hoj (hfree j oj hoj hji hjun hnot) (fun cs b => hsel i oi cs b hi) (fun cs b => hsel j oj cs b hoj) (fun c a w h => absurd h (hQ c _ w)) hy h1
      have hfree' : ∀ k ok, ops[k]? = some ok → k ≠ i → (la.setIfInBounds j true).getD k true = false →
          (∀ e ∈ ok.after, Region.binds .any e = true → e.on ≠ i) → oi.apart ops ok = true := fun k ok hk hki hun hno => by
        refine hfree k ok hk hki ?_ hno
        by_cases hjk : j = k
        · subst hjk; exact hjun
        · rw [getD_set_ne true hjk] at hun; exact hun
      refine wpOp_mono (fun a' w' h3 => ⟨fun _ => h3.2.1, ih (la.setIfInBounds j true) a' w' (hJ.next r) hfree' (ready_mono hr (Ne.symm hji)) h3.1 h3.2.1 ?_⟩) h2
      rw [Array.setIfInBounds_comm _ _ hji]
      exact h3.2.2.2

/-- How the region began. -/
structure DC (P : Program) (H1 : AH) (ls1 : Lcs) (w1 : World) (φ1 : Inj) (cs1 : List Nat) : Prop where
  glob : Glob P φ1
  inv : Inv φ1 H1 w1
  loc : ∀ (i : Nat) c x, cs1[i]? = some c → ls1[i]? = some (some x) → ∃ rs, w1.heap[c]? = some (.cells rs x.1 (0, 0)) ∧ LR φ1 x.2 rs.toList

def KA (φ1 : Inj) (cs1 : List Nat) (knA : KN) (a : Act) : Prop := ∀ t kv, lkV knA t = some kv → KR φ1 cs1 kv (a.tmps.getD t undef)

def DA (P : Program) (ne : NE) (m : Nat) (E : Ent) (n : Nat) (ops : Array Oper) (bs A : List Nat) (H1 : AH) (ls1 : Lcs) (f : Nat) (la : Array Bool) (ag : Bool) (knA kn : KN) (ls : Lcs) (H : AH) (Q : Exit → Act → World → Prop) : Prop :=
  ∀ w1 φ1 cs1 a w φ cs, DC P H1 ls1 w1 φ1 cs1 → φ1.le φ → SSφ P ne m E n kn ls H a w φ cs → KA φ1 cs1 knA a → (∀ (i : Nat) (c : Nat), cs1[i]? = some c → cs[i]? = some c) → JC ops bs la → (ag = true → agree w1 w) → wpAnyD P ops Q bs A w1 f la a w

/-- The same, where it is one operation's turn. -/
def DAk (P : Program) (ne : NE) (m : Nat) (E : Ent) (n : Nat) (ops : Array Oper) (bs A : List Nat) (H1 : AH) (ls1 : Lcs) (k f : Nat) (la : Array Bool) (ag : Bool) (knA kn : KN) (ls : Lcs) (H : AH) (Q : Exit → Act → World → Prop) : Prop :=
  ∀ w1 φ1 cs1 a w φ cs, DC P H1 ls1 w1 φ1 cs1 → φ1.le φ → SSφ P ne m E n kn ls H a w φ cs → KA φ1 cs1 knA a → (∀ (i : Nat) (c : Nat), cs1[i]? = some c → cs[i]? = some c) → JC ops bs la → (ag = true → agree w1 w) →
    wpOp P ops Q k (fun a' w' => (demO ops A bs k = true → agree w1 w') ∧ wpAnyD P ops Q bs A w1 f (la.setIfInBounds k true) a' w') a w

section
variable {E : Ent} {knA kn : KN} {ls ls1 : Lcs} {H H1 : AH} {a : Act} {w : World} {φ φ1 : Inj} {cs cs1 : List Nat} {f k : Nat} {la : Array Bool} {ag : Bool}

theorem WS.drawn {c : Code} (ops : Array Oper) (A : List Nat) (hc : regOf c = some (ops, true)) (hB : closedOk ops.toList (befores ops.toList) = true) (h : DA P ne m E n ops (befores ops.toList) A H ls ops.size (Array.replicate ops.size false) true kn kn ls H Q) : WS P ne m E n c kn ls H Q := by
  cases c with
  | region id ops' d =>
    simp only [regOf, Option.some.injEq, Prod.mk.injEq] at hc
    obtain ⟨rfl, rfl⟩ := hc
    intro a w hs
    obtain ⟨φ, cs, hs⟩ := hs
    refine wp_region_any hs.sane.mixed ?_
    have hs' : SSφ P ne m E n kn ls H a { w with drawn := w.drawn + 1 } φ cs :=
      ⟨hs.glob, ⟨hs.inv.dom, hs.inv.obj, hs.inv.sep⟩, ⟨hs.step.le, hs.step.ext, hs.step.new, hs.step.alv, hs.step.size, hs.step.keep, hs.step.os, hs.step.tape, hs.step.output⟩, hs.len, fun i c x h1 h2 => ⟨(hs.loc i c x h1 h2).1, (hs.loc i c x h1 h2).2, (hs.loc i c x h1 h2).3⟩, hs.inj, hs.low, hs.slot, hs.size, hs.defers, hs.sane, hs.inv0⟩
    exact wpAny_of_D _ _ _ _ (h _ φ cs a _ φ cs ⟨hs'.glob, hs'.inv, fun i c x h1 h2 => (hs'.loc i c x h1 h2).2⟩ (Inj.le_refl φ) hs' (fun t kv hl => hs'.slot t kv hl) (fun _ _ hc => hc) ⟨by simp, fun i j hh => by
      unfold LL at hh
      rw [Array.getD_eq_getD_getElem?, Array.getElem?_replicate] at hh
      split at hh <;> cases hh⟩ (fun _ => agree.refl _))
  | _ => cases hc

theorem DA.done (hr : readyIs ops la [] = true) (h : ∀ a w, SS P ne m E n kn ls H a w → Q .normal a w) : DA P ne m E n ops bs A H1 ls1 f la ag knA kn ls H Q := by
  intro w1 φ1 cs1 a w φ cs _ _ hs _ _ _ _
  have hr := readyIs_eq hr
  cases f with
  | zero => exact ⟨hr, h a w ⟨φ, cs, hs⟩⟩
  | succ f => exact ⟨fun _ => h a w ⟨φ, cs, hs⟩, by rw [hr]; simp⟩

theorem KA.put (h : KA φ1 cs1 knA a) {n : Nat} (hsz : n ≤ a.tmps.size) {d : Option Nat} (hd : (match d with | some a => Nat.blt a n | none => true) = true) {kv : KV} {v' : Value} (hv : KR φ1 cs1 kv v') : KA φ1 cs1 (putV knA d kv) (a.put d v') := by
  cases d with
  | none => exact h
  | some d =>
    have hlt : d < a.tmps.size := Nat.lt_of_lt_of_le (blt_lt hd) hsz
    intro t kv' hl
    simp only [putV, lkV] at hl
    simp only [Act.put]
    rw [Array.getD_eq_getD_getElem?, Array.getElem?_setIfInBounds]
    cases hb : Nat.beq d t with
    | true =>
      rw [hb] at hl
      have := Nat.eq_of_beq_eq_true hb
      subst this
      cases hl
      rw [if_pos rfl, if_pos hlt]
      exact hv
    | false =>
      rw [hb] at hl
      rw [if_neg (Nat.ne_of_beq_eq_false hb), ← Array.getD_eq_getD_getElem?]
      exact h t kv' hl

def dropV (d : Option Nat) (knA : KN) : KN := match d with
  | some d => knA.filter fun p => !(Nat.beq p.1 d)
  | none => knA

theorem lk_drop {d : Nat} : ∀ {kn : KN} {t : Nat} {kv : KV}, lkV (kn.filter fun p => !(Nat.beq p.1 d)) t = some kv → t ≠ d ∧ lkV kn t = some kv := by
  intro kn
  induction kn with
  | nil => intro t kv h; cases h
  | cons p l ih =>
    obtain ⟨s, v⟩ := p
    intro t kv h
    rw [List.filter_cons] at h
    cases hq : Nat.beq s d with
    | true =>
      rw [hq] at h
      obtain ⟨h1, h2⟩ := ih (by simpa using h)
      refine ⟨h1, ?_⟩
      simp only [lkV]
      have e := Nat.eq_of_beq_eq_true hq
      cases hs : Nat.beq s t with
      | true => exact absurd ((Nat.eq_of_beq_eq_true hs).symm.trans e) h1
      | false => exact h2
    | false =>
      rw [hq] at h
      simp only [Bool.not_false, if_true, lkV] at h
      simp only [lkV]
      cases hs : Nat.beq s t with
      | true =>
        rw [hs] at h
        have e := Nat.eq_of_beq_eq_true hs
        subst e
        exact ⟨Nat.ne_of_beq_eq_false hq, h⟩
      | false => rw [hs] at h; exact ih h

theorem KA.drop (h : KA φ1 cs1 knA a) (d : Option Nat) (v' : Value) : KA φ1 cs1 (dropV d knA) (a.put d v') := by
  cases d with
  | none => exact h
  | some d =>
    intro t kv hl
    obtain ⟨h1, h2⟩ := lk_drop hl
    simp only [Act.put]
    rw [Array.getD_eq_getD_getElem?, Array.getElem?_setIfInBounds, if_neg (fun e => h1 e.symm), ← Array.getD_eq_getD_getElem?]
    exact h t kv h2

/-- What is asked of an operation that is taken first. -/
def takeB (P : Program) (n : Nat) (ops : Array Oper) (A : List Nat) (la : Array Bool) (k : Nat) (o : Oper) : Bool :=
  A.contains k && Region.noSelect ops && Region.free .any ops la k && (Region.ready .any ops la).contains k && dstV n o

theorem evalA_ (h : KA φ1 cs1 knA a) (hg : Glob P φ1) {x : Operand} (hk : knownV knA x = true) (hx : okx P x = true) : VR φ1 (evV knA x) (a.eval x) := by
  cases x with
  | tmp t =>
    simp only [knownV] at hk
    simp only [evV]
    cases hl : lkV knA t with
    | none => rw [hl] at hk; cases hk
    | some kv =>
      cases kv with
      | val v => exact h t _ hl
      | loc i off => rw [hl] at hk; cases hk
      | sli i n => rw [hl] at hk; cases hk
  | const v => exact flat_refl depth hx
  | global g =>
    have hlt : g < P.globals.size := blt_lt hx
    obtain ⟨l, h1, h2, h3⟩ := hg g hlt
    have := VR.ptr (φ := φ1) g 0 l h1
    rw [h2, h3] at this
    exact this
  | func f => exact .func (.func f) #[] #[] #[] #[] rfl rfl (fun i x y hx => by simp at hx) (fun i x y hx => by simp at hx)

theorem take_core (ho : ops[k]? = some (opAt ops k)) (hB : takeB P n ops A la k (opAt ops k) = true) (hc : closedOk ops.toList bs = true) (hQ : ∀ c a w, ¬ Q (.panic c) a w) {kv : KV} {w1 : World}
    (hd : DC P H1 ls1 w1 φ1 cs1) (hle : φ1.le φ) (hs : SSφ P ne m E n kn ls H a w φ cs) (hka : KA φ1 cs1 knA a) (hpf : ∀ (i : Nat) (c : Nat), cs1[i]? = some c → cs[i]? = some c) (hJ : JC ops bs la) (hag : agree w1 w) {v' : Value} (hkr : KR φ1 cs1 kv v') (hkr2 : KR φ cs kv v') (hy : YieldsIf P ops (agree w1) (opAt ops k) v' a)
    (h : DA P ne m E n ops bs A H1 ls1 f (la.setIfInBounds k true) true (putV knA (opAt ops k).dst kv) (putV kn (opAt ops k).dst kv) ls H Q) : wpAnyD P ops Q bs A w1 (f + 1) la a w := by
  unfold takeB at hB
  simp only [Bool.and_eq_true] at hB
  obtain ⟨⟨⟨⟨b1, b2⟩, b3⟩, b4⟩, b5⟩ := hB
  have hr : k ∈ Region.ready .any ops la := by simpa using b4
  refine wpAnyD_first ho b1 hc (Region.noSelect_spec b2) hQ f la a w hJ (Region.free_spec ho b3) hr hy hag ?_
  exact h w1 φ1 cs1 _ w φ cs hd hle (hs.put b5 hkr2) (hka.put hs.size b5 hkr) hpf (hJ.next (rdy_of hc hJ hr)) (fun _ => hag)

/-- A value is taken. -/
theorem DA.take {v : Value} (ho : ops[k]? = some (opAt ops k)) (hB : takeB P n ops A la k (opAt ops k) = true) (hc : closedOk ops.toList bs = true) (hQ : ∀ c a w, ¬ Q (.panic c) a w)
    (hw : (wantV ops kn (opAt ops k), (opAt ops k).op.operands.all (okx P), (opAt ops k).op.operands.all (knownV knA)) = (some true, true, true)) (hv : detOp P H1 (opAt ops k) (evV knA) = some v)
    (h : DA P ne m E n ops bs A H1 ls1 f (la.setIfInBounds k true) true (putV knA (opAt ops k).dst (.val v)) (putV kn (opAt ops k).dst (.val v)) ls H Q) : DA P ne m E n ops bs A H1 ls1 (f + 1) la true knA kn ls H Q := by
  intro w1 φ1 cs1 a w φ cs hd hle hs hka hpf hJ hag
  simp only [Prod.mk.injEq] at hw
  obtain ⟨hw1, hw2, hw3⟩ := hw
  rw [Array.all_eq_true_iff_forall_mem] at hw2 hw3
  obtain ⟨v', h1, h2⟩ := detOp_ok (ρ' := a.eval) hd.inv (fun x hx => evalA_ hka hd.glob (hw3 x hx) (hw2 x hx)) hv
  exact take_core ho hB hc hQ hd hle hs hka hpf hJ (hag rfl) (kv := .val v) h1 (h1.mono hle) (.inl ⟨wantV_ok hs hw1, h2⟩) h

/-- What an operation reads of one's own variables. -/
def locDet (P : Program) (knA : KN) (ls1 : Lcs) (o : Oper) : Option KV :=
  match o.op with
  | .move _ | .assign _ | .nilCheck _ | .fieldAddr .. | .load .. => (locOp P knA ls1 o).map (·.1)
  | _ => none

theorem locDet_ok {o : Oper} {kv : KV} (h : locDet P knA ls1 o = some kv) (hd : DC P H1 ls1 w1 φ1 cs1) (hka : KA φ1 cs1 knA a) : ∃ v', KR φ1 cs1 kv v' ∧ ∀ w, agree w1 w → (execOp a.eval o).run P w = .ok (.value v') w := by
  unfold locDet at h
  have hl : ∃ ls', locOp P knA ls1 o = some (kv, ls') := by
    split at h
    all_goals first | (cases hq : locOp P knA ls1 o with | none => rw [hq] at h; cases h | some p => obtain ⟨x, y⟩ := p; rw [hq] at h; simp only [Option.map_some, Option.some.injEq] at h; subst h; exact ⟨y, rfl⟩) | cases h
  obtain ⟨ls', hl⟩ := hl
  obtain ⟨dst, op, ty, pos, after, guard⟩ := o
  unfold locOp at hl
  simp only at hl h
  split at hl
  · rename_i t
    split at hl
    · rename_i i off hk
      simp only [Option.some.injEq, Prod.mk.injEq] at hl
      obtain ⟨rfl, rfl⟩ := hl
      exact ⟨a.tmps.getD t undef, hka t _ hk, fun w _ => rfl⟩
    · cases hl
  · rename_i t
    split at hl
    · rename_i i off hk
      simp only [Option.some.injEq, Prod.mk.injEq] at hl
      obtain ⟨rfl, rfl⟩ := hl
      exact ⟨a.tmps.getD t undef, hka t _ hk, fun w _ => rfl⟩
    · cases hl
  · rename_i t
    split at hl
    · rename_i i off hk
      simp only [Option.some.injEq, Prod.mk.injEq] at hl
      obtain ⟨rfl, rfl⟩ := hl
      refine ⟨a.tmps.getD t undef, hka t _ hk, fun w _ => ?_⟩
      obtain ⟨c, h1, h2⟩ := hka t _ hk
      have : a.eval (.tmp t) = .pointer (some ⟨c, off, none⟩) := h2
      simp only [execOp, this]
      rw [h2]; rfl
    · cases hl
  · rename_i s t f
    split at hl
    · rename_i i off fs hk hu
      cases hf : fs[f]? with
      | none => rw [hf] at hl; cases hl
      | some fd =>
        rw [hf] at hl
        simp only at hl
        cases hi : P.info? fd.type with
        | none => rw [hi] at hl; cases hl
        | some inf =>
          rw [hi] at hl
          simp only at hl
          cases hz : Nat.beq inf.size 0 with
          | true => rw [hz] at hl; cases hl
          | false =>
            rw [hz] at hl
            simp only [cond_false, Option.some.injEq, Prod.mk.injEq] at hl
            obtain ⟨rfl, rfl⟩ := hl
            obtain ⟨c, h1, h2⟩ := hka t _ hk
            have he : a.eval (.tmp t) = .pointer (some ⟨c, off, none⟩) := h2
            refine ⟨.pointer (some ⟨c, off + fd.offset, none⟩), ⟨c, h1, rfl⟩, fun w _ => ?_⟩
            have hne := Nat.ne_of_beq_eq_false hz
            have hrun : (Instr.fieldAt s (.pointer (some ⟨c, off, none⟩)) f).run P w = .ok (.pointer (some ⟨c, off + fd.offset, none⟩)) w := by
              simp only [Instr.fieldAt, Sem.run_bind, run_und hu, Result.andThen_ok, hf, Instr.sureAddr, Sem.run_pure, fieldPlace, run_size hi]
              rw [if_neg hne]
              simp only [Sem.run_pure, Result.andThen_ok, Addr.add_lit]
            simp only [execOp, he, Sem.run_bind, hrun, Result.andThen_ok]
            rfl
    · cases hl
  · rename_i t x
    split at hl
    · rename_i i off d inf hk hu hi
      split at hl
      · rename_i e cells hc
        obtain ⟨c, h1, h2⟩ := hka x _ hk
        obtain ⟨rs, g2, g3⟩ := hd.loc i c _ h1 hc
        have he : a.eval (.tmp x) = .pointer (some ⟨c, off, none⟩) := h2
        have hlen := LR.length g3
        simp only at hlen g3
        have hlt : c < w1.heap.size := by rw [Array.getElem?_eq_some_iff] at g2; exact g2.1
        have hagg : ∀ w, (isAgg t).run P w = .ok (isAggD d) w := by
          intro w
          simp only [isAgg, Sem.run_bind, run_und hu, Result.andThen_ok]
          cases d <;> rfl
        have hex : ∀ w v, (loadVar t ⟨c, off, none⟩).run P w = .ok v w → (execOp a.eval ⟨dst, .load t (.tmp x), ty, pos, after, guard⟩).run P w = .ok (.value v) w := by
          intro w v hr
          simp only [execOp, he, Instr.loadAt, Instr.sureAddr, Sem.run_bind, Sem.run_pure, Result.andThen_ok, hr]
        have hcell : ∀ w, agree w1 w → ∀ (j : Nat) u, rs[off + j]? = some u → w.cell? ((⟨c, off, none⟩ : Addr).add j) = some u := by
          intro w hag j u hu
          rw [Addr.add_lit]
          simp [World.cell?, hag c hlt, g2, hu]
        cases hda : isAggD d with
        | true =>
          rw [hda] at hl
          simp only [cond_true] at hl
          cases hb : Nat.ble (off + inf.size) cells.length with
          | false => rw [hb] at hl; cases hl
          | true =>
            rw [hb] at hl
            simp only [cond_true, Option.some.injEq, Prod.mk.injEq] at hl
            obtain ⟨rfl, rfl⟩ := hl
            have hble := Nat.le_of_ble_eq_true hb
            have hls : ((rs.toList.drop off).take inf.size).length = inf.size := by simp at hlen ⊢; omega
            refine ⟨.agg ((rs.toList.drop off).take inf.size).toArray, ?_, fun w hag => hex w _ ?_⟩
            · have hpw : AR φ1 ((cells.drop off).take inf.size).toArray ((rs.toList.drop off).take inf.size).toArray := by
                refine ⟨by simp at hlen ⊢; omega, fun j u v hu hv => ?_⟩
                have hA := AR_iff.2 (show LR φ1 cells.toArray.toList rs.toList by simpa using g3)
                rw [List.getElem?_toArray, List.getElem?_take] at hu hv
                split at hu
                · rename_i hj
                  rw [if_pos hj, List.getElem?_drop] at hv
                  rw [List.getElem?_drop] at hu
                  exact hA.2 (off + j) u v (by simpa using hu) (by simpa using hv)
                · cases hu
              exact .agg _ _ hpw.1 hpw.2
            · have hrun := run_loadCells_list (P := P) w ⟨c, off, none⟩ ((rs.toList.drop off).take inf.size) (fun j u hu => by
                rw [List.getElem?_take] at hu
                split at hu
                · rw [List.getElem?_drop] at hu
                  exact hcell w hag j u (by simpa using hu)
                · cases hu)
              rw [hls] at hrun
              simp only [loadVar, Sem.run_bind, hagg w, Result.andThen_ok, hda, if_true, run_size hi, hrun, Sem.run_pure]
        | false =>
          rw [hda] at hl
          simp only [cond_false] at hl
          cases hv : cells[off]? with
          | none => rw [hv] at hl; cases hl
          | some v =>
            rw [hv] at hl
            simp only [Option.some.injEq, Prod.mk.injEq] at hl
            obtain ⟨rfl, rfl⟩ := hl
            have hA := AR_iff.2 (show LR φ1 cells.toArray.toList rs.toList by simpa using g3)
            obtain ⟨v', hv', hvr⟩ := hA.get (show cells.toArray[off]? = some v by simpa using hv)
            refine ⟨v', hvr, fun w hag => hex w _ ?_⟩
            have h0 := hcell w hag 0 v' (by simpa using hv')
            have e0 : (⟨c, off, none⟩ : Addr).add 0 = ⟨c, off, none⟩ := rfl
            rw [e0] at h0
            simp only [loadVar, Sem.run_bind, hagg w, hda, Result.andThen_ok, Bool.false_eq_true, if_false]
            simp [h0]
      · cases hl
    · cases hl
  all_goals first | (simp only [reduceCtorEq] at h; done) | (cases hl; done)

theorem KR.pfx {kv : KV} {v' : Value} (hle : φ1.le φ) (hpf : ∀ (i : Nat) (c : Nat), cs1[i]? = some c → cs[i]? = some c) (h : KR φ1 cs1 kv v') : KR φ cs kv v' := by
  cases kv with
  | val v => exact VR.mono hle h
  | loc i off =>
    obtain ⟨c, h1, h2⟩ := h
    exact ⟨c, hpf i c h1, h2⟩
  | sli i n =>
    obtain ⟨⟨c, h1, h2⟩, h3⟩ := h
    exact ⟨⟨c, hpf i c h1, h2⟩, h3⟩

/-- A read of one's own variable is taken. -/
theorem DA.takeL {kv : KV} (ho : ops[k]? = some (opAt ops k)) (hB : takeB P n ops A la k (opAt ops k) = true) (hc : closedOk ops.toList bs = true) (hQ : ∀ c a w, ¬ Q (.panic c) a w) (hw : wantV ops kn (opAt ops k) = some true) (hv : locDet P knA ls1 (opAt ops k) = some kv)
    (h : DA P ne m E n ops bs A H1 ls1 f (la.setIfInBounds k true) true (putV knA (opAt ops k).dst kv) (putV kn (opAt ops k).dst kv) ls H Q) : DA P ne m E n ops bs A H1 ls1 (f + 1) la true knA kn ls H Q := by
  intro w1 φ1 cs1 a w φ cs hd hle hs hka hpf hJ hag
  obtain ⟨v', h1, h2⟩ := locDet_ok hv hd hka
  exact take_core ho hB hc hQ hd hle hs hka hpf hJ (hag rfl) (kv := kv) h1 (h1.pfx hle hpf) (.inl ⟨wantV_ok hs hw, h2⟩) h

/-- A call as an operation, with a mark of its own. -/
theorem call_wp' {m2 : Nat} {g : Nat} {args : Array Value} {v : Value} {H' : AH} {o : Oper} (hs : SSφ P ne m E n kn ls H a w φ cs) (hx : o.op.operands.all (okx P) = true) (hkn : o.op.operands.all (knownV kn) = true) (hc : callV kn o = some (g, args)) (hr : CallS P ne m2 g args H v H')
    {K : Act → World → Prop} (hn : ∀ φ' v' w', VR φ' v v' → Inv φ' H' w' → Step m2 φ H w φ' H' w' → K (a.put o.dst v') w') : o.wp P a w K Q := by
  rw [Array.all_eq_true_iff_forall_mem] at hkn hx
  have hev : ∀ x ∈ o.op.operands, VR φ (evV kn x) (a.eval x) := fun x hxm => hs.eval (hkn x hxm) (hx x hxm)
  obtain ⟨⟨fn, c, hf, hb⟩, hr⟩ := hr hs.sane
  obtain ⟨dst, op, ty, pos, after, guard⟩ := o
  unfold callV at hc
  simp only at hc hev hn
  split at hc
  · rename_i g args0 ts
    have hgv := hev g (by simp [Op.operands, Call.operands])
    have hargs : AR φ (args0.map (evV kn)) (args0.map a.eval) := ar_map args0 fun x hx => hev x (by simp [Op.operands, Call.operands, hx])
    split at hc
    · rename_i f0 first cap hge
      simp only [Option.some.injEq, Prod.mk.injEq] at hc
      obtain ⟨rfl, rfl⟩ := hc
      rw [hge] at hgv
      generalize hq : a.eval g = q at hgv
      cases hgv with
      | func fn' f1 g1 f1' g1' hf1 hg1 i1 i2 =>
        have hall : AR φ (first ++ args0.map (evV kn) ++ cap) (f1' ++ args0.map a.eval ++ g1') := ((AR.append ⟨hf1, i1⟩ hargs).append ⟨hg1, i2⟩)
        show Oper.upon P _ a K Q _
        have hex : execOp a.eval { dst := dst, op := .call { callee := .value g, args := args0, argTypes := ts }, type := ty, pos := pos, after := after, guard := guard } = callFunc f0 (f1' ++ args0.map a.eval ++ g1') := by
          simp only [execOp, resolve, hq]; rfl
        rw [hex, run_callFunc_body hs.sane hf hb]
        exact calls_returned (hr φ w _ hs.glob hall hs.inv) hn
    · cases hc
  · cases hc

theorem agree.trans' {w1 w w' : World} (h1 : agree w1 w) (h2 : agree w w') : agree w1 w' := fun c hc => by
  have hlt : c < w.heap.size := by
    have := h1 c hc
    rw [Array.getElem?_eq_getElem hc] at this
    rw [Array.getElem?_eq_some_iff] at this
    exact this.1
  rw [h2 c hlt, h1 c hc]

theorem act_core (ho : ops[k]? = some (opAt ops k)) {w1 : World} (hs : SSφ P ne m E n kn ls H a w φ cs) (hw : wantV ops kn (opAt ops k) = some true)
    (h : ∀ K : Act → World → Prop, (∀ a' w', (demO ops A bs k = true → agree w1 w') ∧ wpAnyD P ops Q bs A w1 f (la.setIfInBounds k true) a' w' → K a' w') → (opAt ops k).wp P a w K Q) :
    wpOp P ops Q k (fun a' w' => (demO ops A bs k = true → agree w1 w') ∧ wpAnyD P ops Q bs A w1 f (la.setIfInBounds k true) a' w') a w := by
  unfold wpOp
  rw [ho]
  simp only [wantV_ok hs hw, if_true]
  left
  exact h _ fun a' w' hh => hh

theorem rdy_act (hr : (Region.ready .any ops la).contains k = true) (hc : closedOk ops.toList bs = true) (hJ : JC ops bs la) : JC ops bs (la.setIfInBounds k true) :=
  hJ.next (rdy_of hc hJ (by simpa using hr))

theorem DA.one (k : Nat) (hr : readyIs ops la [k] = true) (h : DAk P ne m E n ops bs A H1 ls1 k f la ag knA kn ls H Q) : DA P ne m E n ops bs A H1 ls1 (f + 1) la ag knA kn ls H Q := by
  intro w1 φ1 cs1 a w φ cs q1 q2 q3 q4 q5 q6 q7
  have hr := readyIs_eq hr
  refine ⟨fun h0 => (by rw [hr] at h0; cases h0), fun i hi => ?_⟩
  rw [hr] at hi
  simp only [List.mem_cons, List.not_mem_nil, or_false] at hi
  subst hi
  exact h w1 φ1 cs1 a w φ cs q1 q2 q3 q4 q5 q6 q7

theorem wpAnyD_weak {w2 : World} {A' : List Nat} (hA : ∀ i, la.getD i true = false → demO ops A bs i = true → demO ops A' bs i = true ∧ agree w1 w2) : ∀ (f : Nat) {la : Array Bool} {a : Act} {w : World}, (∀ i, la.getD i true = false → demO ops A bs i = true → demO ops A' bs i = true ∧ agree w1 w2) → wpAnyD P ops Q bs A' w2 f la a w → wpAnyD P ops Q bs A w1 f la a w := by
  intro f
  induction f with
  | zero => intro la a w _ h; exact h
  | succ f ih =>
    intro la a w hA h
    refine ⟨h.1, fun i hi => wpOp_mono (fun a' w' hh => ⟨fun hd => ?_, ih (fun j hj hd => hA j ?_ hd) hh.2⟩) (h.2 i hi)⟩
    · have hun : la.getD i true = false := by
        have h0 := (mem_ready.1 hi).1
        have hlt : i < la.size := by
          rcases Nat.lt_or_ge i la.size with h' | h'
          · exact h'
          · simp [Array.getElem?_eq_none h'] at h0
        simpa [hlt] using h0
      obtain ⟨q1, q2⟩ := hA i hun hd
      exact q2.trans' (hh.1 q1)
    · by_cases e : i = j
      · subst e
        rcases Nat.lt_or_ge i la.size with h' | h'
        · simp [h'] at hj
        · have : (la.setIfInBounds i true) = la := by rw [Array.setIfInBounds]; simp [Nat.not_lt.2 h']
          rw [this] at hj; exact hj
      · rwa [getD_set_ne true e] at hj

/-- All that waits is looked at anew: from here on. -/
def restB (ops : Array Oper) (A A' bs : List Nat) (la : Array Bool) (ag : Bool) : Bool :=
  (List.range la.size).all fun i => la.getD i true || !demO ops A bs i || (ag && demO ops A' bs i)

theorem DA.restart (A' : List Nat) (hA : restB ops A A' bs la ag = true) (h : DA P ne m E n ops bs A' H ls f la true kn kn ls H Q) : DA P ne m E n ops bs A H1 ls1 f la ag knA kn ls H Q := by
  intro w1 φ1 cs1 a w φ cs q1 q2 q3 q4 q5 q6 q7
  have hw := h w φ cs a w φ cs ⟨q3.glob, q3.inv, fun i c x h1 h2 => (q3.loc i c x h1 h2).2⟩ (Inj.le_refl φ) q3 (fun t kv hl => q3.slot t kv hl) (fun _ _ hc => hc) q6 (fun _ => agree.refl _)
  have hh : ∀ i, la.getD i true = false → demO ops A bs i = true → demO ops A' bs i = true ∧ agree w1 w := by
    intro i hi hd
    unfold restB at hA
    rw [List.all_eq_true] at hA
    have hlt : i < la.size := by
      rcases Nat.lt_or_ge i la.size with h' | h'
      · exact h'
      · simp [Array.getElem?_eq_none h'] at hi
    have := hA i (by simpa using hlt)
    rw [hi, hd] at this
    simp only [Bool.not_true, Bool.or_false, Bool.false_or, Bool.and_eq_true] at this
    exact ⟨this.2, q7 this.1⟩
  exact wpAnyD_weak hh f hh hw

theorem step_weak {φ φ' : Inj} {H H' : AH} {w w' : World} {m m2 : Nat} (hm : m ≤ m2) (h : Step m2 φ H w φ' H' w') : Step m φ H w φ' H' w' :=
  ⟨h.le, h.ext, fun id l h1 h2 => ⟨(h.new id l h1 h2).1, (h.new id l h1 h2).2.imp (fun q => q) fun ⟨id0, l0, q1, q2⟩ => ⟨id0, l0, Nat.le_trans hm q1, q2⟩⟩, h.alv, h.size, fun c hc hno => h.keep c hc fun id l hid => hno id l (Nat.le_trans hm hid), h.os, h.tape, h.output⟩

/-- Nothing that was there has been written. -/
theorem step_agree {φ φ' : Inj} {H H' : AH} {w w' : World} {m : Nat} (hm : H.next ≤ m) (hi : Inv φ H w) (h : Step m φ H w φ' H' w') : agree w w' := by
  intro c hc
  refine h.keep c hc fun id l hid hs hl => ?_
  have := (hi.dom id l hl).1
  omega

/-- Something new, or a write. -/
theorem DA.actH (m2 : Nat) (ag' : Bool) {v : Value} {H' : AH} (ho : ops[k]? = some (opAt ops k)) (hr : (Region.ready .any ops la).contains k = true) (hc : closedOk ops.toList bs = true) (hB : opV P n ops kn (opAt ops k) = true) (hv : runOp P (NE.plain 0) ih0 m2 (opAt ops k) (evV kn) H = some (v, H')) (hn : noCall (opAt ops k) = true)
    (hm : m ≤ m2) (hm2 : (demO ops A bs k || ag') = true → H.next ≤ m2) (ha : ((!demO ops A bs k || ag) && (!ag' || ag)) = true)
    (h : DA P ne m E n ops bs A H1 ls1 f (la.setIfInBounds k true) ag' (dropV (opAt ops k).dst knA) (putV kn (opAt ops k).dst (.val v)) ls H' Q) : DAk P ne m E n ops bs A H1 ls1 k f la ag knA kn ls H Q := by
  intro w1 φ1 cs1 a w φ cs hd1 hle hs hka hpf hJ hag
  unfold opV at hB
  simp only [Bool.and_eq_true] at hB
  obtain ⟨⟨⟨hg, hx⟩, hkn⟩, hd⟩ := hB
  rw [Array.all_eq_true_iff_forall_mem] at hkn hx
  have hw : wantV ops kn (opAt ops k) = some true := by
    split at hg
    · assumption
    · cases hg
  refine act_core ho hs hw fun K hK => ?_
  have hr' : runOp P ne ih0 m2 (opAt ops k) (evV kn) H = some (v, H') := by
    rw [← hv]
    generalize opAt ops k = o at hn
    obtain ⟨dst, op, ty, pos, after, guard⟩ := o
    unfold runOp
    cases op with
    | call c =>
      obtain ⟨callee, args, ts⟩ := c
      cases callee with
      | value g => cases hn
      | _ => rfl
    | _ => rfl
  refine runOp_ok hs.sane good_ih0 hr' hs.glob (fun x hxm => hs.eval (hkn x hxm) (hx x hxm)) hs.inv fun φ' v' w' h1 h2 h3 => ?_
  have hkeep : (demO ops A bs k || ag') = true → ag = true → agree w1 w' := fun hh hag2 => by
    exact (hag hag2).trans' (step_agree (hm2 hh) hs.inv h3)
  rw [Bool.and_eq_true] at ha
  refine hK _ _ ⟨fun hdm => hkeep (by rw [hdm]; rfl) (by have := ha.1; rw [hdm] at this; simpa using this), h w1 φ1 cs1 _ _ φ' cs hd1 (fun id l hl => h3.ext _ _ (hle _ _ hl)) ((hs.heap h2 (step_weak hm h3)).put hd h1) (hka.drop _ _) hpf (rdy_act hr hc hJ) fun hag2 => hkeep (by rw [hag2, Bool.or_true]) (by have := ha.2; rw [hag2] at this; simpa using this)⟩

/-- A call. -/
theorem DA.actC (m2 : Nat) (ag' : Bool) {v : Value} {H' : AH} (g : Nat) (args : Array Value) (ho : ops[k]? = some (opAt ops k)) (hr : (Region.ready .any ops la).contains k = true) (hc : closedOk ops.toList bs = true) (hB : opV P n ops kn (opAt ops k) = true) (hcl : callV kn (opAt ops k) = some (g, args)) (hcs : CallS P ne m2 g args H v H')
    (hm : m ≤ m2) (hm2 : (demO ops A bs k || ag') = true → H.next ≤ m2) (ha : ((!demO ops A bs k || ag) && (!ag' || ag)) = true)
    (h : DA P ne m E n ops bs A H1 ls1 f (la.setIfInBounds k true) ag' (dropV (opAt ops k).dst knA) (putV kn (opAt ops k).dst (.val v)) ls H' Q) : DAk P ne m E n ops bs A H1 ls1 k f la ag knA kn ls H Q := by
  intro w1 φ1 cs1 a w φ cs hd1 hle hs hka hpf hJ hag
  unfold opV at hB
  simp only [Bool.and_eq_true] at hB
  obtain ⟨⟨⟨hg, hx⟩, hkn⟩, hd⟩ := hB
  have hw : wantV ops kn (opAt ops k) = some true := by
    split at hg
    · assumption
    · cases hg
  refine act_core ho hs hw fun K hK => ?_
  refine call_wp' hs hx hkn hcl hcs fun φ' v' w' h1 h2 h3 => ?_
  have hkeep : (demO ops A bs k || ag') = true → ag = true → agree w1 w' := fun hh hag2 => by
    exact (hag hag2).trans' (step_agree (hm2 hh) hs.inv h3)
  rw [Bool.and_eq_true] at ha
  refine hK _ _ ⟨fun hdm => hkeep (by rw [hdm]; rfl) (by have := ha.1; rw [hdm] at this; simpa using this), h w1 φ1 cs1 _ _ φ' cs hd1 (fun id l hl => h3.ext _ _ (hle _ _ hl)) ((hs.heap h2 (step_weak hm h3)).put hd h1) (hka.drop _ _) hpf (rdy_act hr hc hJ) fun hag2 => hkeep (by rw [hag2, Bool.or_true]) (by have := ha.2; rw [hag2] at this; simpa using this)⟩

/-- A truth value is met both ways. -/
theorem DA.fix (t : Nat) {b : Bool} (d : Bool) (hb : b = d) (hl : lkV kn t = some (.val (.bool b))) (h : DA P ne m E n ops bs A H1 ls1 f la ag ((t, .val (.bool d)) :: knA) ((t, .val (.bool d)) :: kn) ls H Q) : DA P ne m E n ops bs A H1 ls1 f la ag knA kn ls H Q := by
  subst hb
  intro w1 φ1 cs1 a w φ cs hd1 hle hs hka hpf hJ hag
  have hv : VR φ (.bool b) (a.tmps.getD t undef) := hs.slot t _ hl
  have hv1 : VR φ1 (.bool b) (a.tmps.getD t undef) := by
    generalize a.tmps.getD t undef = u at hv
    cases hv; exact .bool b
  refine h w1 φ1 cs1 a w φ cs hd1 hle ⟨hs.glob, hs.inv, hs.step, hs.len, hs.loc, hs.inj, hs.low, fun s kv hh => ?_, hs.size, hs.defers, hs.sane, hs.inv0⟩ (fun s kv hh => ?_) hpf hJ hag
  · simp only [lkV] at hh
    cases hq : Nat.beq t s with
    | true =>
      rw [hq] at hh
      have := Nat.eq_of_beq_eq_true hq
      subst this
      cases hh
      exact hv
    | false => rw [hq] at hh; exact hs.slot s kv hh
  · simp only [lkV] at hh
    cases hq : Nat.beq t s with
    | true =>
      rw [hq] at hh
      have := Nat.eq_of_beq_eq_true hq
      subst this
      cases hh
      exact hv1
    | false => rw [hq] at hh; exact hka s kv hh

end
end Go.Abs


namespace Go.Abs

/-- How a loop is run: by whatever finds what the loop comes to. -/
structure LC where
  run : {S R : Type} → (S → Option (Lp S R)) → S → Option (S ⊕ R)
  fuel : Nat
  ok : ∀ {S R : Type} {body : S → Option (Lp S R)} {s : S} {o : S ⊕ R}, run body s = some o → loopO body s = some o

noncomputable def LCo (k : Nat) : LC := ⟨fun b s => loopO b s, k, fun h => h⟩
def LCn (k j : Nat) : LC := ⟨fun b s => iterO b k s, j, fun h => loopO_iff.2 ⟨k, h⟩⟩

variable {P : Program} {ne : NE} {m : Nat} {ih : Ex} {ρ : Operand → Value} {o : Oper} {H H' : AH}

theorem det_loadA {t : TypeId} {x : Operand} {a : Addr} {l : List Value} {k : Nat} (hop : o.op = .load t x) (hu : (P.underlying t).map isAggD = some true) (hi : (P.info? t).map (·.size) = some k) (hx : ρ x = .pointer (some a)) (h : rdCells H a 0 k = some l) : detOp P H o ρ = some (.agg l.toArray) := by
  obtain ⟨dst, op, ty, pos, after, guard⟩ := o
  simp only at hop
  subst hop
  cases hie : P.info? t with
  | none => rw [hie] at hi; cases hi
  | some i =>
    rw [hie] at hi
    simp only [Option.map_some, Option.some.injEq] at hi
    subst hi
    cases hd : P.underlying t with
    | none => rw [hd] at hu; cases hu
    | some d =>
      rw [hd] at hu
      simp only [Option.map_some, Option.some.injEq] at hu
      simp only [detOp, tPure, hx, aLoad, hd, hie, hu, cond_true, h]

theorem det_idx {t e : TypeId} {x y : Operand} {sz : Nat} {s : Sl3} {k : IntKind} {i : Int} {a : Addr} (hop : o.op = .indexAddr t x y) (hu : P.underlying t = some (.slice e)) (hi : (P.info? e).map (·.size) = some sz)
    (hx : ρ x = s.v) (hy : ρ y = .int k i) (h : idxA sz s i = some a) : detOp P H o ρ = some (.pointer (some a)) := by
  obtain ⟨dst, op, ty, pos, after, guard⟩ := o
  simp only at hop
  subst hop
  obtain ⟨p, l, c⟩ := s
  cases hie : P.info? e with
  | none => rw [hie] at hi; cases hi
  | some inf =>
    rw [hie] at hi
    simp only [Option.map_some, Option.some.injEq] at hi
    subst hi
    unfold idxA at h
    cases p with
    | none => cases h
    | some b =>
      simp only at h
      split at h
      · rename_i hb
        simp only [Option.some.injEq] at h
        subst h
        obtain ⟨j, rfl⟩ : ∃ j : Nat, i = (j : Int) := ⟨i.toNat, by omega⟩
        have hlt : Nat.blt j l = true := Nat.ble_eq_true_of_le (by omega)
        have hp : tPure P ⟨dst, .indexAddr t x y, ty, pos, after, guard⟩ ρ = some (.pointer (some (b.add (j * inf.size)))) := by
          simp only [tPure, hu, hx, hy, Sl3.v, hie]
          show (match (Value.int k (Int.ofNat j)) with | .int _ (.ofNat i) => _ | _ => none) = _
          simp only [hlt, cond_true]
        simp only [detOp, hp]
        simp
      · cases h

theorem run_loadAg {t : TypeId} {x : Operand} {a : Addr} {l : List Value} {k : Nat} (hop : o.op = .load t x) (hu : (P.underlying t).map isAggD = some true) (hi : (P.info? t).map (·.size) = some k) (hx : ρ x = .pointer (some a)) (h : rdCells H a 0 k = some l) : runOp P ne ih m o ρ H = some (.agg l.toArray, H) := by
  obtain ⟨dst, op, ty, pos, after, guard⟩ := o
  simp only at hop
  subst hop
  cases hie : P.info? t with
  | none => rw [hie] at hi; cases hi
  | some i =>
    rw [hie] at hi
    simp only [Option.map_some, Option.some.injEq] at hi
    subst hi
    cases hd : P.underlying t with
    | none => rw [hd] at hu; cases hu
    | some d =>
      rw [hd] at hu
      simp only [Option.map_some, Option.some.injEq] at hu
      simp only [runOp, aOp, execOp, hx, bind]
      have hS : arun P m (Instr.loadAt t (.pointer (some a))) H = some (.agg l.toArray, H) := by
        unfold Instr.loadAt Go.loadVar Go.isAgg
        have hl := arun_loadCellsFrom (P := P) (m := m) a i.size 0 #[] H
        rw [h] at hl
        simp only [Instr.sureAddr, Go.underlying, Go.program, Go.sizeOf, Go.typeInfo, bind, Pure.pure, Sem.bind, arun, hd]
        cases d <;> first | (simp only [isAggD] at hu; cases hu; done) | (simp only [Sem.bind, arun, if_true, hie, Go.loadCells]; rw [arun_bind, hl]; simp [arun])
      rw [arun_bind, hS]
      rfl

def idxR (sz n : Nat) (a : Addr) (i : Int) : Option Addr := if 0 ≤ i ∧ i < n then some (a.add (i.toNat * sz)) else none

theorem run_idxR {t e : TypeId} {x y : Operand} {sz n : Nat} {a a' : Addr} {k : IntKind} {i : Int} (hop : o.op = .indexAddr t x y) (hu : P.underlying t = some (.array n e)) (hi : (P.info? e).map (·.size) = some sz)
    (hx : ρ x = .pointer (some a)) (hy : ρ y = .int k i) (h : idxR sz n a i = some a') : runOp P ne ih m o ρ H = some (.pointer (some a'), H) := by
  obtain ⟨dst, op, ty, pos, after, guard⟩ := o
  simp only at hop
  subst hop
  cases hie : P.info? e with
  | none => rw [hie] at hi; cases hi
  | some inf =>
    rw [hie] at hi
    simp only [Option.map_some, Option.some.injEq] at hi
    subst hi
    unfold idxR at h
    split at h
    · rename_i hb
      simp only [Option.some.injEq] at h
      subst h
      simp only [runOp, aOp, execOp, hx, hy]
      have hS : arun P m (Instr.indexAt t (.pointer (some a)) (.int k i)) H = some (.pointer (some (a.add (i.toNat * inf.size))), H) := by
        unfold Instr.indexAt
        simp only [asIntOf, Go.underlying, Go.sizeOf, Go.typeInfo, Go.program, bind, Pure.pure, Sem.bind, arun, hu, hie, Instr.sureAddr]
        rw [if_pos hb]
        simp only [Sem.bind, arun, hie]
      simp only [bind]
      rw [arun_bind, hS]
      rfl
    · cases h

def slcR (sz n : Nat) (a : Addr) (lo hi : Option Int) : Option Sl3 :=
  let l := lo.getD 0
  let h := hi.getD n
  if 0 ≤ l ∧ l ≤ h ∧ h ≤ n ∧ n < OPEN then some ⟨some (if n = l.toNat then a else a.add (l.toNat * sz)), h.toNat - l.toNat, n - l.toNat⟩ else none

theorem run_slcR {t e : TypeId} {x : Operand} {lo hi : Option Operand} {sz n : Nat} {a : Addr} {s : Sl3} {k1 k2 : IntKind} {l1 l2 : Option Int} (hop : o.op = .slice t x lo hi none) (hu : P.underlying t = some (.array n e)) (hi' : (P.info? e).map (·.size) = some sz)
    (hx : ρ x = .pointer (some a)) (h1 : lo.map ρ = l1.map (.int k1)) (h2 : hi.map ρ = l2.map (.int k2)) (h : slcR sz n a l1 l2 = some s) : runOp P ne ih m o ρ H = some (s.v, H) := by
  obtain ⟨dst, op, ty, pos, after, guard⟩ := o
  simp only at hop
  subst hop
  cases hie : P.info? e with
  | none => rw [hie] at hi'; cases hi'
  | some inf =>
    rw [hie] at hi'
    simp only [Option.map_some, Option.some.injEq] at hi'
    subst hi'
    unfold slcR at h
    simp only at h
    split at h
    · rename_i hb
      simp only [Option.some.injEq] at h
      subst h
      obtain ⟨b1, b2, b3, b4⟩ := hb
      have hlt : Nat.blt n OPEN = true := Nat.ble_eq_true_of_le b4
      have hab : abounds n n (lo.map ρ) (hi.map ρ) none = some ((l1.getD 0).toNat, (l2.getD n).toNat, n) := by
        rw [h1, h2]
        unfold abounds
        simp only [bnd, Option.isSome_none, Bool.false_and, cond_false]
        cases l2 with
        | none =>
          simp only [Option.map_none, bnd, Option.getD_none]
          cases l1 with
          | none => simp [bnd]
          | some x =>
            simp only [Option.getD_some, Option.getD_none] at b1 b2
            obtain ⟨j, rfl⟩ : ∃ j : Nat, x = Int.ofNat j := ⟨x.toNat, by simp; omega⟩
            have : Nat.ble j n = true := Nat.ble_eq_true_of_le (by simp at b2; omega)
            simp [bnd, this]
        | some y =>
          simp only [Option.getD_some] at b1 b2 b3
          obtain ⟨q, rfl⟩ : ∃ j : Nat, y = Int.ofNat j := ⟨y.toNat, by simp; omega⟩
          have hq : Nat.ble q n = true := Nat.ble_eq_true_of_le (by simp at b3; omega)
          simp only [Option.map_some, bnd, hq, cond_true]
          cases l1 with
          | none => simp [bnd]
          | some x =>
            simp only [Option.getD_some] at b1 b2
            obtain ⟨j, rfl⟩ : ∃ j : Nat, x = Int.ofNat j := ⟨x.toNat, by simp; omega⟩
            have : Nat.ble j q = true := Nat.ble_eq_true_of_le (by simp at b2; omega)
            simp [bnd, this]
      simp only [runOp, aOp, hx, aSliceArr, hu, hie, Option.map_none, hab, hlt, Nat.ble_eq_true_of_le (Nat.le_refl n), Bool.and_self, cond_true, Sl3.v]
    · cases h

theorem rdc_cons {a : Addr} {i k : Nat} {v : Value} {l : List Value} (h1 : H.cell (a.add i) = some v) (h2 : rdCells H a (i + 1) k = some l) : rdCells H a i (k + 1) = some (v :: l) := by
  simp only [rdCells, h1, h2]

section
variable {E : Ent} {n : Nat} {kn : KN} {ls : Lcs} {ops : Array Oper} {k : Nat} {Q : Exit → Act → World → Prop}

/-- A call of a function of Go's own without a body. -/
theorem RS.ext {v : Value} (f : Nat) (args : Array Value) (ho : ops[k]? = some (opAt ops k)) (hB : opV P n ops kn (opAt ops k) = true) (hc : callV kn (opAt ops k) = some (f, args)) (ha : args.all (flat depth) = true) (hp : peval P (callFunc f args) = some (.value v)) (hv : flat depth v = true)
    (h : RS P ne m E n ops (k + 1) (putV kn (opAt ops k).dst (.val v)) ls H Q) : RS P ne m E n ops k kn ls H Q := by
  intro a w hs
  obtain ⟨φ, cs, hs⟩ := hs
  unfold opV at hB
  simp only [Bool.and_eq_true] at hB
  obtain ⟨⟨⟨hg, hx⟩, hkn⟩, hd⟩ := hB
  rw [Array.all_eq_true_iff_forall_mem] at hkn hx
  have hw : wantV ops kn (opAt ops k) = some true := by
    split at hg
    · assumption
    · cases hg
  rw [range_step ho, wpOps_cons]
  unfold wpOp
  rw [ho]
  simp only [wantV_ok hs hw, if_true]
  left
  have hev : ∀ x ∈ (opAt ops k).op.operands, VR φ (evV kn x) (a.eval x) := fun x hxm => hs.eval (hkn x hxm) (hx x hxm)
  have hn := h (a.put (opAt ops k).dst v) w ⟨φ, cs, hs.put hd (kv := .val v) (flat_refl depth hv)⟩
  revert hn hc hev
  generalize opAt ops k = o
  intro hc hev hn
  obtain ⟨dst, op, ty, pos, after, guard⟩ := o
  unfold callV at hc
  simp only at hc hev hn
  split at hc
  · rename_i g args0 ts
    have hgv := hev g (by simp [Op.operands, Call.operands])
    have hargs : AR φ (args0.map (evV kn)) (args0.map a.eval) := ar_map args0 fun x hx => hev x (by simp [Op.operands, Call.operands, hx])
    split at hc
    · rename_i f0 first cap hge
      simp only [Option.some.injEq, Prod.mk.injEq] at hc
      obtain ⟨rfl, rfl⟩ := hc
      rw [hge] at hgv
      generalize hq : a.eval g = q at hgv
      cases hgv with
      | func fn' f1 g1 f1' g1' hf1 hg1 i1 i2 =>
        have hall : AR φ (first ++ args0.map (evV kn) ++ cap) (f1' ++ args0.map a.eval ++ g1') := ((AR.append ⟨hf1, i1⟩ hargs).append ⟨hg1, i2⟩)
        have e := flat_all ha hall
        show Oper.upon P _ a _ Q _
        have hex : execOp a.eval { dst := dst, op := .call { callee := .value g, args := args0, argTypes := ts }, type := ty, pos := pos, after := after, guard := guard } = callFunc f0 (f1' ++ args0.map a.eval ++ g1') := by
          simp only [execOp, resolve, hq]; rfl
        rw [hex, ← e, peval_run P _ _ hp w]
        exact hn
    · cases hc
  · cases hc

end

end Go.Abs


namespace Go.Abs

variable {P : Program} {ne : NE} {m n : Nat}
variable {E : Ent} {kn knA : KN} {ls ls1 : Lcs} {H H1 H' : AH} {ops : Array Oper} {k : Nat} {Q : Exit → Act → World → Prop} {bs A : List Nat} {f : Nat} {la : Array Bool} {ag : Bool}

theorem SubV.cons {t : Nat} {v : KV} {l kn : KN} (h : lkV kn t = some v) (h2 : SubV l kn) : SubV ((t, v) :: l) kn := ⟨h, h2⟩
theorem SubV.nil {kn : KN} : SubV [] kn := trivial

/-- A new block. -/
def newB (e : TypeId) (cells : List Value) (H : AH) : Option (Addr × AH) := some (⟨H.next, 0, none⟩, H.push (pubB e cells))

theorem run_newB {ih : Ex} {ρ : Operand → Value} {o : Oper} {e : TypeId} {cells : List Value} {p : Addr} (hr : runOp P ne ih m o ρ H = some (.pointer (some ⟨H.next, 0, none⟩), H.push (pubB e cells))) (hx : newB e cells H = some (p, H')) : runOp P ne ih m o ρ H = some (.pointer (some p), H') := by
  cases hx
  exact hr

theorem RS.atD (d : Option Nat) (v : Value) (ho : ops[k]? = some (opAt ops k)) (hd : (opAt ops k).dst = d) (hB : (opV P n ops kn (opAt ops k) && noCall (opAt ops k)) = true) (hr : runOp P (NE.plain 0) ih0 m (opAt ops k) (evV kn) H = some (v, H'))
    (h : RS P ne m E n ops (k + 1) (putV kn d (.val v)) ls H' Q) : RS P ne m E n ops k kn ls H Q := by
  subst hd
  exact RS.at v ho hB hr h

theorem RS.callD (d : Option Nat) {v : Value} (f : Nat) (args : Array Value) (ho : ops[k]? = some (opAt ops k)) (hd : (opAt ops k).dst = d) (hB : opV P n ops kn (opAt ops k) = true) (hc : callV kn (opAt ops k) = some (f, args)) (hr : CallS P ne m f args H v H')
    (h : RS P ne m E n ops (k + 1) (putV kn d (.val v)) ls H' Q) : RS P ne m E n ops k kn ls H Q := by
  subst hd
  exact RS.call f args ho hB hc hr h

theorem RS.extD (d : Option Nat) {v : Value} (f : Nat) (args : Array Value) (ho : ops[k]? = some (opAt ops k)) (hd : (opAt ops k).dst = d) (hB : opV P n ops kn (opAt ops k) = true) (hc : callV kn (opAt ops k) = some (f, args)) (ha : args.all (flat depth) = true) (hp : peval P (callFunc f args) = some (.value v)) (hv : flat depth v = true)
    (h : RS P ne m E n ops (k + 1) (putV kn d (.val v)) ls H Q) : RS P ne m E n ops k kn ls H Q := by
  subst hd
  exact RS.ext f args ho hB hc ha hp hv h

theorem WS.drawnX {c : Code} (ops : Array Oper) (A : List Nat) (bs : List Nat) (sz : Nat) (hc : regOf c = some (ops, true)) (hb : befores ops.toList = bs) (hs : ops.size = sz) (hB : closedOk ops.toList bs = true) (h : DA P ne m E n ops bs A H ls sz (Array.replicate sz false) true kn kn ls H Q) : WS P ne m E n c kn ls H Q := by
  subst hb hs
  exact WS.drawn ops A hc hB h

theorem DA.takeD (k : Nat) (d : Option Nat) (v : Value) (ho : ops[k]? = some (opAt ops k)) (hd : (opAt ops k).dst = d) (hB : takeB P n ops A la k (opAt ops k) = true) (hc : closedOk ops.toList bs = true) (hQ : ∀ c a w, ¬ Q (.panic c) a w)
    (hw : (wantV ops kn (opAt ops k), (opAt ops k).op.operands.all (okx P), (opAt ops k).op.operands.all (knownV knA)) = (some true, true, true)) (hv : detOp P H1 (opAt ops k) (evV knA) = some v)
    (h : DA P ne m E n ops bs A H1 ls1 f (la.setIfInBounds k true) true (putV knA d (.val v)) (putV kn d (.val v)) ls H Q) : DA P ne m E n ops bs A H1 ls1 (f + 1) la true knA kn ls H Q := by
  subst hd
  exact DA.take ho hB hc hQ hw hv h

theorem DA.takeLD (k : Nat) (d : Option Nat) (kv : KV) (ho : ops[k]? = some (opAt ops k)) (hd : (opAt ops k).dst = d) (hB : takeB P n ops A la k (opAt ops k) = true) (hc : closedOk ops.toList bs = true) (hQ : ∀ c a w, ¬ Q (.panic c) a w) (hw : wantV ops kn (opAt ops k) = some true) (hv : locDet P knA ls1 (opAt ops k) = some kv)
    (h : DA P ne m E n ops bs A H1 ls1 f (la.setIfInBounds k true) true (putV knA d kv) (putV kn d kv) ls H Q) : DA P ne m E n ops bs A H1 ls1 (f + 1) la true knA kn ls H Q := by
  subst hd
  exact DA.takeL ho hB hc hQ hw hv h

theorem DA.actHD (k : Nat) (d : Option Nat) (m2 : Nat) (ag' : Bool) (v : Value) (ho : ops[k]? = some (opAt ops k)) (hdd : (opAt ops k).dst = d) (hr : (Region.ready .any ops la).contains k = true) (hc : closedOk ops.toList bs = true) (hB : (opV P n ops kn (opAt ops k) && noCall (opAt ops k)) = true) (hv : runOp P (NE.plain 0) ih0 m2 (opAt ops k) (evV kn) H = some (v, H'))
    (hm : m ≤ m2) (hm2 : (demO ops A bs k || ag') = true → H.next ≤ m2) (ha : ((!demO ops A bs k || ag) && (!ag' || ag)) = true)
    (h : DA P ne m E n ops bs A H1 ls1 f (la.setIfInBounds k true) ag' (dropV d knA) (putV kn d (.val v)) ls H' Q) : DAk P ne m E n ops bs A H1 ls1 k f la ag knA kn ls H Q := by
  subst hdd
  rw [Bool.and_eq_true] at hB
  exact DA.actH m2 ag' ho hr hc hB.1 hv hB.2 hm hm2 ha h

theorem DA.actCD (k : Nat) (d : Option Nat) (m2 : Nat) (ag' : Bool) {v : Value} (g : Nat) (args : Array Value) (ho : ops[k]? = some (opAt ops k)) (hdd : (opAt ops k).dst = d) (hr : (Region.ready .any ops la).contains k = true) (hc : closedOk ops.toList bs = true) (hB : opV P n ops kn (opAt ops k) = true) (hcl : callV kn (opAt ops k) = some (g, args)) (hcs : CallS P ne m2 g args H v H')
    (hm : m ≤ m2) (hm2 : (demO ops A bs k || ag') = true → H.next ≤ m2) (ha : ((!demO ops A bs k || ag) && (!ag' || ag)) = true)
    (h : DA P ne m E n ops bs A H1 ls1 f (la.setIfInBounds k true) ag' (dropV d knA) (putV kn d (.val v)) ls H' Q) : DAk P ne m E n ops bs A H1 ls1 k f la ag knA kn ls H Q := by
  subst hdd
  exact DA.actC m2 ag' g args ho hr hc hB hcl hcs hm hm2 ha h

theorem rdc_nil {a : Addr} {i : Nat} : rdCells H a i 0 = some [] := rfl

def ixByte (s : ByteArray) (b : Int) : Option Int :=
  match (List.range s.size).find? fun i => s[i]! == b.toNat.toUInt8 with
  | some i => some (i : Int)
  | none => some (-1)

theorem ixByte_run {s : ByteArray} {b x : Int} (h : ixByte s b = some x) : peval P (do let v ← Extern.BytealgIndexByte.indexByte #[.string s, .int .u8 b]; pure (Next.value v)) = some (.value (.int .i64 x)) := by
  have e : (do let v ← Extern.BytealgIndexByte.indexByte #[.string s, .int .u8 b]; pure (Next.value v) : Sem Next) = (match (List.range s.size).find? fun i => s[i]! == b.toNat.toUInt8 with | some i => pure (goInt i) | none => pure (goInt (-1)) : Sem Value) >>= fun v => pure (Next.value v) := rfl
  rw [e]
  unfold ixByte at h
  generalize (List.range s.size).find? (fun i => s[i]! == b.toNat.toUInt8) = q at h
  cases q with
  | some i => cases h; rfl
  | none => cases h; rfl

end Go.Abs


namespace Go.Abs

variable {P : Program} {ne : NE} {m n : Nat}

section
variable {E : Ent} {kn : KN} {ls : Lcs} {H : AH} {a : Act} {w : World} {φ : Inj} {cs : List Nat} {Q : Exit → Act → World → Prop}

def ldO (p : Nat) (t : TypeId) : Oper := { dst := none, op := .load t (.tmp p), type := 0, pos := default, after := #[], guard := none }

/-- What a named result that lies in memory holds. -/
def cellV (P : Program) (kn : KN) (ls : Lcs) (H : AH) (p : Nat) (t : TypeId) : Option Value :=
  match lkV kn p with
  | some (.loc _ _) => match locDet P kn ls (ldO p t) with
    | some (.val v) => some v
    | _ => none
  | some (.val (.pointer (some q))) => aLoad P t q H
  | _ => none

def resL (P : Program) (kn : KN) (ls : Lcs) (H : AH) : List ResultVar → Option (List Value)
  | [] => some []
  | .tmp t :: l => match lkV kn t, resL P kn ls H l with
    | some (.val u), some us => some (u :: us)
    | _, _ => none
  | .cell p t :: l => match cellV P kn ls H p t, resL P kn ls H l with
    | some u, some us => some (u :: us)
    | _, _ => none

def resF (P : Program) (fn : Func) (kn : KN) (ls : Lcs) (H : AH) : Option Value :=
  match resL P kn ls H fn.results.toList with
  | some [v] => some v
  | some l => some (.tuple l.toArray)
  | none => none

/-- It has gone back with this value. -/
def RT (P : Program) (ne : NE) (m : Nat) (E : Ent) (fn : Func) (v : Value) (H : AH) (a : Act) (w : World) : Prop :=
  ∃ n kn ls, SS P ne m E n kn ls H a w ∧ resF P fn kn ls H = some v

def retS (P : Program) (ne : NE) (m : Nat) (E : Ent) (fn : Func) (v : Value) (H : AH) : Exit → Act → World → Prop
  | .normal, a, w | .ret, a, w => RT P ne m E fn v H a w
  | _, _, _ => False

def argV : Nat → List Value → KN
  | _, [] => []
  | i, v :: l => (i, .val v) :: argV (i + 1) l

theorem lk_argV : ∀ (l : List Value) (i t : Nat) (kv : KV), lkV (argV i l) t = some kv → ∃ v, kv = .val v ∧ i ≤ t ∧ l[t - i]? = some v := by
  intro l
  induction l with
  | nil => intro i t kv h; cases h
  | cons v l ih =>
    intro i t kv h
    simp only [argV, lkV] at h
    cases hb : Nat.beq i t with
    | true =>
      rw [hb] at h
      have := Nat.eq_of_beq_eq_true hb
      subst this
      cases h
      exact ⟨v, rfl, Nat.le_refl _, by simp⟩
    | false =>
      rw [hb] at h
      have hne := Nat.ne_of_beq_eq_false hb
      obtain ⟨u, h1, h2, h3⟩ := ih _ _ _ h
      refine ⟨u, h1, by omega, ?_⟩
      rw [show t - i = (t - (i + 1)) + 1 by omega]
      simpa using h3

theorem cellV_run (hs : SSφ P ne m E n kn ls H a w φ cs) {p : Nat} {t : TypeId} {v : Value} (h : cellV P kn ls H p t = some v) : ∃ v', (resV a.tmps (.cell p t)).run P w = .ok v' w ∧ VR φ v v' := by
  unfold cellV at h
  split at h
  · rename_i i off hk
    split at h
    · rename_i u hu
      simp only [Option.some.injEq] at h
      subst h
      obtain ⟨v', h1, h2⟩ := locDet_ok hu (DC.mk hs.glob hs.inv fun i c x h1 h2 => (hs.loc i c x h1 h2).2) (fun t kv hl => hs.slot t kv hl : KA φ cs kn a)
      refine ⟨v', ?_, h1⟩
      have h3 := h2 w (agree.refl w)
      obtain ⟨c, _, hp⟩ := loc_inv hs hk
      have he : a.eval (.tmp p) = .pointer (some ⟨c, off, none⟩) := hp
      simp only [ldO, execOp, he, Instr.loadAt, Instr.sureAddr, Sem.run_bind, Sem.run_pure, Result.andThen_ok] at h3
      simp only [resV, hp, asAddr, Sem.run_bind, Sem.run_pure, Result.andThen_ok]
      generalize (loadVar t ⟨c, off, none⟩).run P w = q at h3 ⊢
      cases q <;> simp [Result.andThen, Sem.run_pure] at h3
      obtain ⟨rfl, rfl⟩ := h3
      rfl
    · cases h
  · rename_i q hk
    have hp := hs.slot p _ hk
    obtain ⟨q', hq2, hqa⟩ := VR.ptr_inv hp
    obtain ⟨v', h3, h4⟩ := aLoad_run hs.inv h hqa
    refine ⟨v', ?_, h4⟩
    simp only [resV, Sem.run_bind, hq2]
    exact h3
  · cases h

theorem mapM_res (hs : SSφ P ne m E n kn ls H a w φ cs) : ∀ {l : List ResultVar} {vs : List Value}, resL P kn ls H l = some vs → ∃ vs', (l.mapM (resV a.tmps)).run P w = .ok vs' w ∧ LR φ vs vs' := by
  intro l
  induction l with
  | nil => intro vs h; simp only [resL, Option.some.injEq] at h; subst h; exact ⟨[], rfl, .nil⟩
  | cons r l ih =>
    intro vs h
    cases r with
    | tmp t =>
      simp only [resL] at h
      split at h
      · rename_i u us h1 h2
        simp only [Option.some.injEq] at h
        subst h
        obtain ⟨vs', h3, h4⟩ := ih h2
        refine ⟨a.tmps.getD t undef :: vs', ?_, .cons (hs.slot t _ h1) h4⟩
        rw [List.mapM_cons]
        have hA : (resV a.tmps (.tmp t)).run P w = .ok (a.tmps.getD t undef) w := rfl
        simp only [Sem.run_bind, hA, Sem.run_pure, Result.andThen_ok, h3]
      · cases h
    | cell p t =>
      simp only [resL] at h
      split at h
      · rename_i u us h1 h2
        simp only [Option.some.injEq] at h
        subst h
        obtain ⟨vs', h3, h4⟩ := ih h2
        obtain ⟨v', h5, h6⟩ := cellV_run hs h1
        refine ⟨v' :: vs', ?_, .cons h6 h4⟩
        rw [List.mapM_cons]
        simp only [Sem.run_bind, h5, Sem.run_pure, Result.andThen_ok, h3]
      · cases h

theorem CallS.mk {f : Nat} {fn : Func} {B : Code} {args : List Value} {H H' : AH} {v : Value} (hf : P.funcs[f]? = some fn) (hb : fn.body = some B) (h : ∀ E : Ent, E.H = H → WS P ne m E fn.ntmps B (argV 0 args) [] H (retS P ne m E fn v H')) : CallS P ne m f args.toArray H v H' := by
  intro hS
  refine ⟨⟨fn, B, hf, hb⟩, fun φ w args' hg ha hi => ?_⟩
  have hent : SS P ne m ⟨φ, H, w⟩ fn.ntmps (argV 0 args) [] H { tmps := args' ++ Array.replicate (fn.ntmps - args'.size) undef, defers := [] } w := by
    refine ⟨φ, [], hg, hi, Step.refl _ _ _ _, rfl, fun i c x hc => (by cases hc), fun i j c hc => (by cases hc), fun i c hc => (by cases hc), fun t kv hl => ?_, by simp; omega, rfl, hS, hi⟩
    obtain ⟨v, rfl, _, h2⟩ := lk_argV _ _ _ _ hl
    rw [Nat.sub_zero] at h2
    have : args.toArray[t]? = some v := by simpa using h2
    obtain ⟨y, hy, hv⟩ := ha.get this
    have hlt : t < args'.size := by rw [Array.getElem?_eq_some_iff] at hy; exact hy.1
    show VR φ v _
    rw [Array.getD_eq_getD_getElem?, Array.getElem?_append, if_pos hlt, hy]
    exact hv
  have hw := h ⟨φ, H, w⟩ rfl _ _ hent
  refine calls_of_wp hf hb (wp_mono hw fun e a w' hpost => ?_)
  have fin : RT P ne m ⟨φ, H, w⟩ fn v H' a w' → a.defers = [] ∧ ∃ v', (results fn a.tmps).run P w' = .ok v' w' ∧ (∃ φ' v'', Ending.returned v' = .returned v'' ∧ VR φ' v v'' ∧ Inv φ' H' w' ∧ Step m φ H w φ' H' w') := by
    rintro ⟨n, kn, ls, ⟨φ', cs, hs⟩, hr⟩
    refine ⟨hs.defers, ?_⟩
    have main : ∃ (vs vs' : List Value), (fn.results.toList.mapM (resV a.tmps)).run P w' = .ok vs' w' ∧ LR φ' vs vs' ∧ v = (if h : vs.length = 1 then vs[0]'(by omega) else .tuple vs.toArray) := by
      unfold resF at hr
      cases hl : resL P kn ls H' fn.results.toList with
      | none => rw [hl] at hr; cases hr
      | some vs =>
        rw [hl] at hr
        obtain ⟨vs', h1, h2⟩ := mapM_res hs hl
        refine ⟨vs, vs', h1, h2, ?_⟩
        split at hr
        · rename_i u he
          cases he
          cases hr
          rfl
        · rename_i l hne he
          cases he
          cases hr
          rw [dif_neg ?_]
          intro h1
          match vs, h1 with
          | [u], _ => exact hne u rfl
        · cases hr
    obtain ⟨vs, vs', h1, h2, h3⟩ := main
    have hm : (fn.results.mapM (resV a.tmps)).run P w' = .ok vs'.toArray w' := by
      rw [Array.mapM_eq_mapM_toList]
      show Sem.run P (List.toArray <$> _) w' = _
      rw [Sem.run_map, h1]; rfl
    have hlen := LR.length h2
    have hres : (results fn a.tmps).run P w' = .ok (if h : vs'.toArray.size = 1 then vs'.toArray[0] else .tuple vs'.toArray) w' := by
      rw [results_eq, Sem.run_bind, hm, Result.andThen_ok]; rfl
    refine ⟨_, hres, φ', _, rfl, ?_, hs.inv, hs.step⟩
    rw [h3]
    by_cases h1' : vs.length = 1
    · rw [dif_pos h1', dif_pos (by simpa [← hlen] using h1')]
      cases h2 with
      | nil => cases h1'
      | cons hv ht => exact hv
    · rw [dif_neg h1', dif_neg (by simpa [← hlen] using h1')]
      have := AR_iff.2 (show LR φ' vs.toArray.toList vs'.toArray.toList by simpa using h2)
      exact .tuple _ _ this.1 this.2
  cases e with
  | normal => exact fin hpost
  | ret => exact fin hpost
  | _ => exact hpost.elim

theorem rtR {fn : Func} {v : Value} (h : RT P ne m E fn v H a w) : retS P ne m E fn v H .ret a w := h
theorem rtN {fn : Func} {v : Value} (h : RT P ne m E fn v H a w) : retS P ne m E fn v H .normal a w := h
theorem rtS {fn : Func} {v : Value} (hs : SS P ne m E n kn ls H a w) (h : resF P fn kn ls H = some v) : RT P ne m E fn v H a w := ⟨n, kn, ls, hs, h⟩

end
end Go.Abs


namespace Go.Abs

variable {P : Program} {ne : NE} {m n : Nat}

def pureOp (P : Program) (o : Oper) (ρ : Operand → Value) : Option Value :=
  match o.op with
  | .load .. => none
  | .lookup .. => none
  | _ => detOp P ⟨0, .nil⟩ o ρ

theorem pureOp_ok {φ : Inj} {o : Oper} {ρ ρ' : Operand → Value} {v : Value} (hρ : ∀ x ∈ o.op.operands, VR φ (ρ x) (ρ' x)) (h : pureOp P o ρ = some v) :
    ∃ v', VR φ v v' ∧ ∀ w, (execOp ρ' o).run P w = .ok (.value v') w := by
  have hnl : (∀ t x, o.op ≠ .load t x) ∧ (∀ t x k ok, o.op ≠ .lookup t x k ok) ∧ detOp P ⟨0, .nil⟩ o ρ = some v := by
    unfold pureOp at h
    split at h
    · cases h
    · cases h
    · rename_i q1 q2; exact ⟨fun t x e => q1 t x e, fun t x k ok e => q2 t x k ok e, h⟩
  clear h
  obtain ⟨n1, n2, h⟩ := hnl
  unfold detOp at h
  cases ht : tPure P o ρ with
  | some u =>
    rw [ht] at h
    simp only [Option.some.injEq] at h
    subst h
    obtain ⟨v', h1, h2⟩ := tPure_run hρ ht
    exact ⟨v', h1, h2⟩
  | none =>
    rw [ht] at h
    simp only at h
    have fl : (match flatRun P o ρ ⟨0, .nil⟩ with | some (v, _) => some v | none => none) = some v → (∀ w, ∀ nx, (execOp ρ' o).run P w = .ok nx w → nx ≠ .skip) → ∃ v', VR φ v v' ∧ ∀ w, (execOp ρ' o).run P w = .ok (.value v') w := by
      intro h hns
      cases hf : flatRun P o ρ ⟨0, .nil⟩ with
      | none => rw [hf] at h; cases h
      | some p =>
        obtain ⟨u, H'⟩ := p
        rw [hf] at h
        simp only [Option.some.injEq] at h
        subst h
        obtain ⟨v', h1, h2⟩ := flat_det hρ hf hns
        exact ⟨v', h1, h2⟩
    obtain ⟨dst, op, ty, pos, after, guard⟩ := o
    simp only at h hρ n1 n2
    split at h
    · exact (n1 _ _ rfl).elim
    · exact (n2 _ _ _ _ rfl).elim
    · rename_i x i
      have hx := hρ x (by simp [Op.operands])
      split at h
      · rename_i cs hc
        rw [hc] at hx
        generalize hq : ρ' x = q at hx
        cases hx with
        | tuple f f' hf h1 =>
          have hlt : i < f'.size := by
            rw [Array.getElem?_eq_some_iff] at h
            obtain ⟨h, _⟩ := h
            omega
          refine ⟨f'[i], h1 i _ _ h (by simp [hlt]), fun w => ?_⟩
          have hrun : (Instr.extract (.tuple f') i).run P w = .ok f'[i] w := by
            simp only [Instr.extract]
            simp [hlt]
          simp only [execOp, hq, Sem.run_bind, hrun, Result.andThen_ok]
          rfl
      · cases h
    · rename_i args ts
      split at h
      · rename_i e b k c hu hl
        simp only [Option.some.injEq] at h
        subst h
        have hargs : AR φ (args.map ρ) (args.map ρ') := ar_map args fun x hx => hρ x (by simp [Op.operands, Call.operands, hx])
        obtain ⟨_, x', hx', hv⟩ := ar_one hargs hl
        obtain ⟨b', c', rfl⟩ := slice_inv hv
        refine ⟨goInt k, .int _ _, fun w => ?_⟩
        cases hts : ts[0]? with
        | none => rw [hts] at hu; cases hu
        | some t =>
          rw [hts] at hu
          have hu : P.underlying t = some (.slice e) := hu
          have hrun : (Builtin.len_ ts ty (args.map ρ')).run P w = .ok (goInt k) w := by
            rw [hx']
            simp [Builtin.len_, hts, run_und hu]
          show (do pure (Next.value (← Builtin.len_ ts ty (args.map ρ'))) : Sem Next).run P w = _
          rw [Sem.run_bind, hrun]; rfl
      · exact fl h fun w nx hr => v_noskip (s := Builtin.len_ ts ty (args.map ρ')) hr
    · rename_i bo t x y u
      exact fl h fun w nx hr => v_noskip (s := (do eqGuard bo t x y (ρ' x) (ρ' y); binOp bo t (ρ' x) (ρ' y))) hr
    · rename_i uo t x
      exact fl h fun w nx hr => v_noskip (s := Op.unary uo (ρ' x)) hr
    · rename_i t ps
      exact fl h fun w nx hr => v_noskip (s := Instr.build t (ps.map fun (i, x) => (i, ρ' x))) hr
    · rename_i c x y
      exact fl h fun w nx hr => by
        simp only [execOp, Sem.run_bind] at hr
        cases hb : (asBool (ρ' c)).run P w with
        | ok b w' =>
          rw [hb] at hr
          have : Result.ok (Next.value (if b then ρ' x else ρ' y)) w' = Result.ok nx w := hr
          simp only [Result.ok.injEq] at this
          rw [← this.1]; intro e; cases e
        | halt z w' => rw [hb] at hr; cases hr
    · rename_i t x f
      exact fl h fun w nx hr => v_noskip (s := Instr.field t (ρ' x) f) hr
    · rename_i t x y
      exact fl h fun w nx hr => v_noskip (s := Instr.index t (ρ' x) (ρ' y)) hr
    · rename_i s d x
      split at h
      · exact fl h fun w nx hr => v_noskip (s := convert s d (ρ' x)) hr
      · exact fl h fun w nx hr => v_noskip (s := convert s d (ρ' x)) hr
      · cases h
    · cases h


variable {ops : Array Oper} {Q : Exit → Act → World → Prop} {bs A : List Nat} {w1 : World}

theorem wpAnyD_firstP {i : Nat} {oi : Oper} {v : Value} (hi : ops[i]? = some oi) (hc : closedOk ops.toList bs = true) (hsel : ∀ (j : Nat) (o : Oper) cs b, ops[j]? = some o → o.op ≠ .select cs b)
    (hQ : ∀ c a w, ¬ Q (.panic c) a w) :
    ∀ (fuel : Nat) (la : Array Bool) (a : Act) (w : World), JC ops bs la →
      (∀ j oj, ops[j]? = some oj → j ≠ i → la.getD j true = false → (∀ e ∈ oj.after, Region.binds .any e = true → e.on ≠ i) → oi.apart ops oj = true) →
      i ∈ Region.ready .any ops la → YieldsIf P ops (fun _ => True) oi v a → demO ops A bs i = false →
      wpAnyD P ops Q bs A w1 fuel (la.setIfInBounds i true) (a.put oi.dst v) w → wpAnyD P ops Q bs A w1 (fuel + 1) la a w := by
  intro fuel
  induction fuel with
  | zero =>
    intro la a w hJ _ hr hy hS H
    refine ⟨fun h => (by rw [h] at hr; cases hr), fun j hj => ?_⟩
    by_cases hji : j = i
    · subst hji; exact hy.wpOp hi trivial ⟨fun hh => (by rw [hS] at hh; cases hh), H⟩
    · have := ready_mono hj hji
      rw [H.1] at this
      cases this
  | succ fuel ih =>
    intro la a w hJ hfree hr hy hS H
    refine ⟨fun h => (by rw [h] at hr; cases hr), fun j hj => ?_⟩
    by_cases hji : j = i
    · subst hji; exact hy.wpOp hi trivial ⟨fun hh => (by rw [hS] at hh; cases hh), H⟩
    · have h1 := H.2 j (ready_mono hj hji)
      have r := rdy_of hc hJ hj
      have ri := rdy_of hc hJ hr
      obtain ⟨hjun, oj, hoj, hall⟩ := mem_ready.1 hj
      have hnot : ∀ e ∈ oj.after, Region.binds .any e = true → e.on ≠ i := fun e he hb heq => by
        have h1 := hall e he hb
        have h0 := (mem_ready.1 hr).1
        rw [heq] at h1
        rcases Nat.lt_or_ge i la.size with h' | h'
        · simp [h'] at h0 h1; rw [h0] at h1; cases h1
        · simp [Array.getElem?_eq_none h'] at h1
      have h2 := wpOp_putIf hoj (hfree j oj hoj hji hjun hnot) (fun cs b => hsel i oi cs b hi) (fun cs b => hsel j oj cs b hoj) (fun c a w h => absurd h (hQ c _ w)) hy h1
      have hfree' : ∀ k ok, ops[k]? = some ok → k ≠ i → (la.setIfInBounds j true).getD k true = false →
          (∀ e ∈ ok.after, Region.binds .any e = true → e.on ≠ i) → oi.apart ops ok = true := fun k ok hk hki hun hno => by
        refine hfree k ok hk hki ?_ hno
        by_cases hjk : j = k
        · subst hjk; exact hjun
        · rw [getD_set_ne true hjk] at hun; exact hun
      refine wpOp_mono (fun a' w' h3 => ⟨h3.2.1, ih (la.setIfInBounds j true) a' w' (hJ.next r) hfree' (ready_mono hr (Ne.symm hji)) h3.1 hS ?_⟩) h2
      rw [Array.setIfInBounds_comm _ _ hji]
      exact h3.2.2


section
variable {E : Ent} {knA kn : KN} {ls ls1 : Lcs} {H H1 : AH} {f k : Nat} {la : Array Bool} {ag : Bool}

def takeQ (P : Program) (n : Nat) (ops : Array Oper) (A bs : List Nat) (la : Array Bool) (k : Nat) (o : Oper) : Bool :=
  !(demO ops A bs k) && Region.noSelect ops && Region.free .any ops la k && (Region.ready .any ops la).contains k && dstV n o

/-- A value that touches no memory is taken first. -/
theorem DA.takeP (k : Nat) (d : Option Nat) (v : Value) (ho : ops[k]? = some (opAt ops k)) (hd : (opAt ops k).dst = d) (hB : takeQ P n ops A bs la k (opAt ops k) = true) (hc : closedOk ops.toList bs = true) (hQ : ∀ c a w, ¬ Q (.panic c) a w)
    (hw : (wantV ops kn (opAt ops k), (opAt ops k).op.operands.all (okx P), (opAt ops k).op.operands.all (knownV kn)) = (some true, true, true)) (hv : pureOp P (opAt ops k) (evV kn) = some v)
    (h : DA P ne m E n ops bs A H1 ls1 f (la.setIfInBounds k true) ag (dropV d knA) (putV kn d (.val v)) ls H Q) : DA P ne m E n ops bs A H1 ls1 (f + 1) la ag knA kn ls H Q := by
  subst hd
  intro w1 φ1 cs1 a w φ cs hd hle hs hka hpf hJ hag
  unfold takeQ at hB
  simp only [Bool.and_eq_true] at hB
  obtain ⟨⟨⟨⟨b1, b2⟩, b3⟩, b4⟩, b5⟩ := hB
  have hr : k ∈ Region.ready .any ops la := by simpa using b4
  simp only [Prod.mk.injEq] at hw
  obtain ⟨hw1, hw2, hw3⟩ := hw
  rw [Array.all_eq_true_iff_forall_mem] at hw2 hw3
  obtain ⟨v', h1, h2⟩ := pureOp_ok (ρ' := a.eval) (fun x hx => hs.eval (hw3 x hx) (hw2 x hx)) hv
  refine wpAnyD_firstP ho hc (Region.noSelect_spec b2) hQ f la a w hJ (Region.free_spec ho b3) hr (.inl ⟨wantV_ok hs hw1, fun w _ => h2 w⟩) (by simpa using b1) ?_
  exact h w1 φ1 cs1 _ w φ cs hd hle (hs.put b5 h1) (hka.drop _ _) hpf (hJ.next (rdy_of hc hJ hr)) hag

end

def notRead (o : Oper) : Bool := match o.op with
  | .load .. => false
  | .lookup .. => false
  | _ => true

theorem pureOp_of {o : Oper} {ρ : Operand → Value} {v : Value} (hn : notRead o = true) (h : detOp P ⟨0, .nil⟩ o ρ = some v) : pureOp P o ρ = some v := by
  unfold pureOp
  unfold notRead at hn
  split
  · rename_i e; rw [e] at hn; cases hn
  · rename_i e; rw [e] at hn; cases hn
  · exact h

theorem det_byt {o : Oper} {ρ : Operand → Value} {H : AH} {t : TypeId} {x y : Operand} {k : IntKind} {s : ByteArray} {i b : Int} (hop : o.op = .index t x y) (hu : P.underlying t = some .string) (hx : ρ x = .string s) (hy : ρ y = .int k i) (h : bytA s i = some b) : detOp P H o ρ = some (.int .u8 b) := by
  obtain ⟨dst, op, ty, pos, after, guard⟩ := o
  simp only at hop
  subst hop
  unfold bytA at h
  split at h
  · rename_i h0
    cases hb : s[i.toNat]? with
    | none => rw [hb] at h; cases h
    | some c =>
      rw [hb] at h
      simp only [Option.map_some, Option.some.injEq] at h
      subst h
      have hp' : peval P (execOp ρ { dst, op := .index t x y, type := ty, pos, after, guard }) = some (.value (.int .u8 c.toNat)) := by
        simp only [execOp, hx, hy]
        have hS : peval P (Instr.index t (.string s) (.int k i)) = some (.int .u8 c.toNat) := by
          unfold Instr.index
          simp only [asIntOf, Go.underlying, Go.program, bind, Pure.pure, Sem.bind, peval, hu, h0, if_true, hb]
        rw [peval_bind_some hS]
        rfl
      simp only [detOp, tPure, flatRun, Op.operands, hp']
      simp [hx, hy, flat, asVal]
  · cases h

theorem det_strcat {o : Oper} {ρ : Operand → Value} {H : AH} {t u : TypeId} {x y : Operand} {a b c : ByteArray} (hop : o.op = .binOp .add t x y u) (hx : ρ x = .string a) (hy : ρ y = .string b) (h : strcat a b = some c) : detOp P H o ρ = some (.string c) := by
  obtain ⟨dst, op, ty, pos, after, guard⟩ := o
  simp only at hop
  subst hop
  unfold strcat at h
  rcases ite_some h with ⟨_, h⟩ | ⟨hp, h⟩
  · cases h
  · cases h
    have hp' : peval P (execOp ρ { dst, op := .binOp .add t x y u, type := ty, pos, after, guard }) = some (.value (.string (a ++ b))) := by
      simp only [execOp, hx, hy, eqGuard, binOp, Op.stringOp, hp, if_false, bind, Pure.pure]
      rfl
    simp only [detOp, tPure, flatRun, Op.operands, hp', hx, hy]
    simp [hx, hy, flat, asVal]

end Go.Abs


namespace Go.Abs

variable {P : Program} {m : Nat}

/-- What a listed table's block holds. -/
theorem tab_met {laid : List (String × DataW Unit)} {W : World} {name : String} {k : IntKind} {zs : List Int} {g : Nat} {e t te : TypeId} {n : Nat} (hL : laidMet P laid W) (hf : laid.filter (fun x => x.1 == name) = [(name, Lib.tabData k zs)])
    (hg : P.globalNamed name = some g) (hty : (P.globals[g]?).map (·.type) = some t) (ht : P.underlying t = some (.array n te)) (he : P.underlying te = some (.int k)) (hce : P.cellsOf te = 1) (hct : P.cellsOf t = n) (hlt : g < P.globals.size)
    (hrow : (((begin P (fun _ _ => 0) default).world.heap[g]?).bind Obj.row?).map (·.2) = some e) (hsh : W.ShapedOpen P) : ∃ fr, W.heap[g]? = some (.cells (zs.map fun z => Value.int k z).toArray e fr) := by
  have h1 := laidMet.filter (fun x => x.1 == name) hL
  rw [hf] at h1
  exact ⟨(0, 0), tab_there hg hlt hrow hsh (Lib.tabIs_of_head hg hty ht he hce hct h1)⟩

def zsOf : DataW Unit → List Int
  | .agg l => l.map fun | .lit (.int _ z) => z | _ => 0
  | _ => []

end Go.Abs


namespace Go.Abs

variable {P : Program} {ne : NE} {m n : Nat}
variable {E : Ent} {kn knA : KN} {ls ls1 : Lcs} {H H1 H' : AH} {ops : Array Oper} {k : Nat} {Q : Exit → Act → World → Prop} {bs A : List Nat} {f : Nat} {la : Array Bool} {ag : Bool} {c : Code}

theorem WS.sq (h : WS P ne m E n (cfst c) kn ls H (Exit.then ((csnd c).wp P Q) Q)) (hc : isSeq c = true := by kernel_rfl) : WS P ne m E n c kn ls H Q := WS.seq hc h
theorem WS.sk (h : ∀ a w, SS P ne m E n kn ls H a w → Q .normal a w) (hc : isSkip c = true := by kernel_rfl) : WS P ne m E n c kn ls H Q := WS.skip hc h
theorem WS.rt (h : ∀ a w, SS P ne m E n kn ls H a w → Q .ret a w) (hc : isRet c = true := by kernel_rfl) : WS P ne m E n c kn ls H Q := WS.ret hc h
theorem WS.ex (i : Nat) (h : ∀ a w, SS P ne m E n kn ls H a w → Q (.exit i) a w) (hc : isExit i c = true := by kernel_rfl) : WS P ne m E n c kn ls H Q := WS.exit i hc h
theorem WS.bk (i : Nat) (h : WS P ne m E n (cfst c) kn ls H (blkS i Q)) (hc : isBlock i c = true := by kernel_rfl) : WS P ne m E n c kn ls H Q := WS.blk i hc h
theorem WS.cT (h : WS P ne m E n (cfst c) kn ls H Q) (hc : (condOf c).map (fun x => (knownV kn x, evV kn x)) = some (true, .bool true) := by kernel_rfl) : WS P ne m E n c kn ls H Q := WS.condT true rfl hc h
theorem WS.cF (h : WS P ne m E n (csnd c) kn ls H Q) (hc : (condOf c).map (fun x => (knownV kn x, evV kn x)) = some (true, .bool false) := by kernel_rfl) : WS P ne m E n c kn ls H Q := WS.condF false rfl hc h
theorem WS.fx (t : Nat) {b : Bool} (d : Bool) (hb : b = d) (h : WS P ne m E n c ((t, .val (.bool d)) :: kn) ls H Q) (hl : lkV kn t = some (.val (.bool b)) := by kernel_rfl) : WS P ne m E n c kn ls H Q := WS.fix t d hb hl h
theorem RS.fx (t : Nat) {b : Bool} (d : Bool) (hb : b = d) (h : RS P ne m E n ops k ((t, .val (.bool d)) :: kn) ls H Q) (hl : lkV kn t = some (.val (.bool b)) := by kernel_rfl) : RS P ne m E n ops k kn ls H Q := RS.fix t d hb hl h
theorem DA.fx (t : Nat) {b : Bool} (d : Bool) (hb : b = d) (h : DA P ne m E n ops bs A H1 ls1 f la ag ((t, .val (.bool d)) :: knA) ((t, .val (.bool d)) :: kn) ls H Q) (hl : lkV kn t = some (.val (.bool b)) := by kernel_rfl) : DA P ne m E n ops bs A H1 ls1 f la ag knA kn ls H Q := DA.fix t d hb hl h

theorem WS.rg (h : RS P ne m E n (opsOf c) 0 kn ls H Q) (hc : (regOf c).map (·.2) = some false := by kernel_rfl) : WS P ne m E n c kn ls H Q := by
  refine WS.region (opsOf c) ?_ h
  cases c with
  | region id ops d =>
    simp only [regOf, Option.map_some, Option.some.injEq] at hc
    subst hc; rfl
  | _ => cases hc

theorem RS.dn (h : ∀ a w, SS P ne m E n kn ls H a w → Q .normal a w) (hk : Nat.ble ops.size k = true := by kernel_rfl) : RS P ne m E n ops k kn ls H Q := RS.done hk h
theorem RS.mS (j : Nat) (new : KN) (h : RS P ne m E n ops (k + j) (new ++ kn) ls H Q) (hr : runLs P m n ops j k kn ls H = some (new ++ kn, ls, H) := by kernel_rfl) : RS P ne m E n ops k kn ls H Q := RS.many j new ls hr h
theorem RS.mL (j : Nat) (new : KN) (ls' : Lcs) (h : RS P ne m E n ops (k + j) (new ++ kn) ls' H Q) (hr : runLs P m n ops j k kn ls H = some (new ++ kn, ls', H) := by kernel_rfl) : RS P ne m E n ops k kn ls H Q := RS.many j new ls' hr h
theorem RS.o (d : Option Nat) (v : Value) (hr : runOp P (NE.plain 0) ih0 m (opAt ops k) (evV kn) H = some (v, H')) (h : RS P ne m E n ops (k + 1) (putV kn d (.val v)) ls H' Q)
    (ho : ops[k]? = some (opAt ops k) := by kernel_rfl) (hd : (opAt ops k).dst = d := by kernel_rfl) (hB : (opV P n ops kn (opAt ops k) && noCall (opAt ops k)) = true := by kernel_rfl) : RS P ne m E n ops k kn ls H Q := RS.atD d v ho hd hB hr h
theorem RS.cl (d : Option Nat) {v : Value} (g : Nat) (args : Array Value) (hr : CallS P ne m g args H v H') (h : RS P ne m E n ops (k + 1) (putV kn d (.val v)) ls H' Q)
    (ho : ops[k]? = some (opAt ops k) := by kernel_rfl) (hd : (opAt ops k).dst = d := by kernel_rfl) (hB : opV P n ops kn (opAt ops k) = true := by kernel_rfl) (hc : callV kn (opAt ops k) = some (g, args) := by kernel_rfl) : RS P ne m E n ops k kn ls H Q := RS.callD d g args ho hd hB hc hr h

theorem WS.dr (A : List Nat) (bs : List Nat) (sz : Nat) (h : closedOk (opsOf c).toList bs = true → DA P ne m E n (opsOf c) bs A H ls sz (Array.replicate sz false) true kn kn ls H Q) (hc : regOf c = some (opsOf c, true) := by kernel_rfl) (hb : befores (opsOf c).toList = bs := by kernel_rfl) (hs : (opsOf c).size = sz := by kernel_rfl) (hB : closedOk (opsOf c).toList bs = true := by kernel_rfl) : WS P ne m E n c kn ls H Q := WS.drawnX (opsOf c) A bs sz hc hb hs hB (h hB)
theorem DA.dn (h : ∀ a w, SS P ne m E n kn ls H a w → Q .normal a w) (hr : readyIs ops la [] = true := by kernel_rfl) : DA P ne m E n ops bs A H1 ls1 f la ag knA kn ls H Q := DA.done hr h
theorem DA.on (k : Nat) (h : DAk P ne m E n ops bs A H1 ls1 k f la ag knA kn ls H Q) (hr : readyIs ops la [k] = true := by kernel_rfl) : DA P ne m E n ops bs A H1 ls1 (f + 1) la ag knA kn ls H Q := DA.one k hr h

theorem DA.tD (k : Nat) (d : Option Nat) (v : Value) (hv : detOp P H1 (opAt ops k) (evV knA) = some v) (h : DA P ne m E n ops bs A H1 ls1 f (la.setIfInBounds k true) true (putV knA d (.val v)) (putV kn d (.val v)) ls H Q)
    (hc : closedOk ops.toList bs = true := by assumption) (ho : ops[k]? = some (opAt ops k) := by kernel_rfl) (hd : (opAt ops k).dst = d := by kernel_rfl) (hB : takeB P n ops A la k (opAt ops k) = true := by kernel_rfl) (hQ : ∀ c a w, ¬ Q (.panic c) a w := by exact fun _ _ _ h => h)
    (hw : (wantV ops kn (opAt ops k), (opAt ops k).op.operands.all (okx P), (opAt ops k).op.operands.all (knownV knA)) = (some true, true, true) := by kernel_rfl) : DA P ne m E n ops bs A H1 ls1 (f + 1) la true knA kn ls H Q := DA.takeD k d v ho hd hB hc hQ hw hv h
theorem DA.tL (k : Nat) (d : Option Nat) (kv : KV) (h : DA P ne m E n ops bs A H1 ls1 f (la.setIfInBounds k true) true (putV knA d kv) (putV kn d kv) ls H Q)
    (hc : closedOk ops.toList bs = true := by assumption) (ho : ops[k]? = some (opAt ops k) := by kernel_rfl) (hd : (opAt ops k).dst = d := by kernel_rfl) (hB : takeB P n ops A la k (opAt ops k) = true := by kernel_rfl) (hQ : ∀ c a w, ¬ Q (.panic c) a w := by exact fun _ _ _ h => h)
    (hw : wantV ops kn (opAt ops k) = some true := by kernel_rfl) (hv : locDet P knA ls1 (opAt ops k) = some kv := by kernel_rfl) : DA P ne m E n ops bs A H1 ls1 (f + 1) la true knA kn ls H Q := DA.takeLD k d kv ho hd hB hc hQ hw hv h
theorem DA.tP (k : Nat) (d : Option Nat) (v : Value) (h : DA P ne m E n ops bs A H1 ls1 f (la.setIfInBounds k true) ag (dropV d knA) (putV kn d (.val v)) ls H Q)
    (hc : closedOk ops.toList bs = true := by assumption) (ho : ops[k]? = some (opAt ops k) := by kernel_rfl) (hd : (opAt ops k).dst = d := by kernel_rfl) (hB : takeQ P n ops A bs la k (opAt ops k) = true := by kernel_rfl) (hQ : ∀ c a w, ¬ Q (.panic c) a w := by exact fun _ _ _ h => h)
    (hw : (wantV ops kn (opAt ops k), (opAt ops k).op.operands.all (okx P), (opAt ops k).op.operands.all (knownV kn)) = (some true, true, true) := by kernel_rfl) (hv : pureOp P (opAt ops k) (evV kn) = some v := by kernel_rfl) : DA P ne m E n ops bs A H1 ls1 (f + 1) la ag knA kn ls H Q := DA.takeP k d v ho hd hB hc hQ hw hv h
theorem DA.tPx (k : Nat) (d : Option Nat) (v : Value) (hv : detOp P ⟨0, .nil⟩ (opAt ops k) (evV kn) = some v) (h : DA P ne m E n ops bs A H1 ls1 f (la.setIfInBounds k true) ag (dropV d knA) (putV kn d (.val v)) ls H Q)
    (hc : closedOk ops.toList bs = true := by assumption) (ho : ops[k]? = some (opAt ops k) := by kernel_rfl) (hd : (opAt ops k).dst = d := by kernel_rfl) (hB : takeQ P n ops A bs la k (opAt ops k) = true := by kernel_rfl) (hQ : ∀ c a w, ¬ Q (.panic c) a w := by exact fun _ _ _ h => h)
    (hw : (wantV ops kn (opAt ops k), (opAt ops k).op.operands.all (okx P), (opAt ops k).op.operands.all (knownV kn)) = (some true, true, true) := by kernel_rfl) (hn : notRead (opAt ops k) = true := by kernel_rfl) : DA P ne m E n ops bs A H1 ls1 (f + 1) la ag knA kn ls H Q := DA.takeP k d v ho hd hB hc hQ hw (pureOp_of hn hv) h
/-- One that may change what was there: nobody reads any more. -/
theorem DA.aH (k : Nat) (d : Option Nat) (v : Value) (hv : runOp P (NE.plain 0) ih0 m (opAt ops k) (evV kn) H = some (v, H')) (h : DA P ne m E n ops bs A H1 ls1 f (la.setIfInBounds k true) false (dropV d knA) (putV kn d (.val v)) ls H' Q)
    (hc : closedOk ops.toList bs = true := by assumption) (ho : ops[k]? = some (opAt ops k) := by kernel_rfl) (hdd : (opAt ops k).dst = d := by kernel_rfl) (hr : (Region.ready .any ops la).contains k = true := by kernel_rfl) (hB : (opV P n ops kn (opAt ops k) && noCall (opAt ops k)) = true := by kernel_rfl) (hd : demO ops A bs k = false := by kernel_rfl) : DAk P ne m E n ops bs A H1 ls1 k f la ag knA kn ls H Q :=
  DA.actHD k d m false v ho hdd hr hc hB hv (Nat.le_refl _) (fun hh => by rw [hd] at hh; cases hh) (by rw [hd]; rfl) h
theorem DA.aCk (k : Nat) (d : Option Nat) (ag' : Bool) {v : Value} (g : Nat) (args : Array Value) (hcs : CallS P ne (Nat.max m H.next) g args H v H') (h : DA P ne m E n ops bs A H1 ls1 f (la.setIfInBounds k true) ag' (dropV d knA) (putV kn d (.val v)) ls H' Q)
    (hc : closedOk ops.toList bs = true := by assumption) (ho : ops[k]? = some (opAt ops k) := by kernel_rfl) (hdd : (opAt ops k).dst = d := by kernel_rfl) (hr : (Region.ready .any ops la).contains k = true := by kernel_rfl) (hB : opV P n ops kn (opAt ops k) = true := by kernel_rfl) (hcl : callV kn (opAt ops k) = some (g, args) := by kernel_rfl) (ha : ((!demO ops A bs k || ag) && (!ag' || ag)) = true := by kernel_rfl) : DAk P ne m E n ops bs A H1 ls1 k f la ag knA kn ls H Q :=
  DA.actCD k d (Nat.max m H.next) ag' g args ho hdd hr hc hB hcl hcs (Nat.le_max_left _ _) (fun _ => Nat.le_max_right _ _) ha h

theorem SubV.of : ∀ {kn' kn : KN}, kn'.map (fun p => lkV kn p.1) = kn'.map (fun p => some p.2) → SubV kn' kn := by
  intro kn'
  induction kn' with
  | nil => intro kn _; trivial
  | cons p l ih =>
    intro kn h
    obtain ⟨t, v⟩ := p
    simp only [List.map_cons, List.cons.injEq] at h
    exact ⟨h.1, ih h.2⟩

theorem SS.sb {a : Act} {w : World} (h : SS P ne m E n kn ls H a w) {kn' : KN} (k : Nat) {ls' : Lcs} (hs : kn'.map (fun p => lkV kn p.1) = kn'.map (fun p => some p.2) := by kernel_rfl) (hl : ls.take k = ls' := by kernel_rfl) (hb : belowL k kn' = true := by kernel_rfl) : SS P ne m E n kn' ls' H a w := h.sub (SubV.of hs) k hl hb

theorem rS {fn : Func} {v : Value} {a : Act} {w : World} (hs : SS P ne m E n kn ls H a w) (h : resF P fn kn ls H = some v := by kernel_rfl) : RT P ne m E fn v H a w := rtS hs h

section
variable {S R : Type} {body : S → Option (Lp S R)} {knOf : S → KN} {lsOf : S → Lcs} {hOf : S → AH} {i : Nat}

theorem WS.lI {QR : R → Act → World → Prop} (hbody : ∀ s o, body s = some o → WS P ne m E n (cfst c) (knOf s) (lsOf s) (hOf s) (lpS P ne m E n knOf lsOf hOf i QR o)) {s s' : S} (hl : loopO body s = some (.inl s')) (k : Nat) (h1 : ∀ a w, SS P ne m E n (knOf s') (lsOf s') (hOf s') a w → Q (.exit i) a w)
    (hc : isLoop c = true := by kernel_rfl) (hs : (knOf s).map (fun p => lkV kn p.1) = (knOf s).map (fun p => some p.2) := by kernel_rfl) (hls : ls.take k = lsOf s := by kernel_rfl) (hbl : belowL k (knOf s) = true := by kernel_rfl) (hH : H = hOf s := by rfl) : WS P ne m E n c kn ls H Q :=
  WS.loopI hc body knOf lsOf hOf i QR hbody hl k (SubV.of hs) hls hbl hH h1
theorem WS.lR {QR : R → Act → World → Prop} (hbody : ∀ s o, body s = some o → WS P ne m E n (cfst c) (knOf s) (lsOf s) (hOf s) (lpS P ne m E n knOf lsOf hOf i QR o)) {s : S} {r : R} (hl : loopO body s = some (.inr r)) (k : Nat) (h2 : ∀ a w, QR r a w → Q .ret a w)
    (hc : isLoop c = true := by kernel_rfl) (hs : (knOf s).map (fun p => lkV kn p.1) = (knOf s).map (fun p => some p.2) := by kernel_rfl) (hls : ls.take k = lsOf s := by kernel_rfl) (hbl : belowL k (knOf s) = true := by kernel_rfl) (hH : H = hOf s := by rfl) : WS P ne m E n c kn ls H Q :=
  WS.loopR hc body knOf lsOf hOf i QR hbody hl k (SubV.of hs) hls hbl hH h2
end

end Go.Abs


namespace Go.Abs

variable {P : Program} {ne : NE} {m : Nat} {H : AH}

theorem tab_world {φ : Inj} {w : World} {x : Tab} (hg : Glob P φ) (hi : Inv φ H w) (hlt : x.1 < P.globals.size) (hfl : x.2.2.all (flat depth) = true) (hx : H.get x.1 = some (tabBlk x)) :
    ∃ fr, w.heap[x.1]? = some (.cells x.2.2 x.2.1 fr) := by
  obtain ⟨l, h1, h2⟩ := hi.obj x.1 _ hx
  obtain ⟨l', g1, g2, g3⟩ := hg x.1 hlt
  rw [h1] at g1; cases g1
  obtain ⟨c', e', f', k1, k2⟩ := h2
  obtain ⟨k3, k4⟩ := k2.exact_ rfl
  have k5 := k2.elem
  subst k5
  rw [g2] at k1
  refine ⟨f', ?_⟩
  rw [k1]
  have : c' = x.2.2 := by
    refine Array.ext k4 fun i hi1 hi2 => ?_
    obtain ⟨v', q1, q2⟩ := k2.cell i x.2.2[i] (by simp [hi2])
    rw [k3, Nat.zero_add] at q1
    have hf : flat depth x.2.2[i] = true := by
      rw [Array.all_eq_true] at hfl
      exact hfl i hi2
    have := flat_eq depth hf q2
    rw [← this] at q1
    have q3 : c'[i]? = some c'[i] := by simp [hi1]
    rw [q3] at q1
    exact Option.some.inj q1
  rw [this]

structure UnderRes (P : Program) (φ : Inj) (H : AH) (w : World) (v : Value) (H1 : AH) (v' : Value) (w' : World) (φ1 : Inj) : Prop where
  vr : VR φ1 v v'
  inv : Inv φ1 H1 w'
  new : ∀ l, φ1 P.globals.size = some l → w.heap.size ≤ l.blk
  size : w.heap.size ≤ w'.heap.size
  keep : ∀ c, c < w.heap.size → w'.heap[c]? = w.heap[c]?
  os : w'.os = w.os
  tape : w'.tape = w.tape
  output : w'.output = w.output

theorem under_core {tabs : List Tab} {f : Nat} {args : Array Value} {v : Value} {H1 : AH} (hP : 0 < P.globals.size) (hB : tabsB P tabs = true) (hc : CallS P ne P.globals.size f args (startH P tabs) v H1)
    (ha : args.all (flat depth) = true) (hsub : ∀ x ∈ tabs, H.get x.1 = some (tabBlk x)) (hS : Sane P ne) :
    (∃ fn c, P.funcs[f]? = some fn ∧ fn.body = some c) ∧ ∀ φ w args', Glob P φ → AR φ args args' → Inv φ H w → Calls P f args' w fun e w' => ∃ v' φ1, e = .returned v' ∧ UnderRes P φ H w v H1 v' w' φ1 := by
  obtain ⟨h1, h2⟩ := hc hS
  refine ⟨h1, fun φ w args' hg har hi => ?_⟩
  have hB' := hB
  unfold tabsB at hB'
  rw [List.all_eq_true] at hB'
  have hlt : ∀ x ∈ tabs, x.1 < P.globals.size ∧ x.2.2.all (flat depth) = true := fun x hx => by
    have := hB' x hx
    simp only [Bool.and_eq_true] at this
    exact ⟨blt_lt this.1, this.2⟩
  have hsz : P.globals.size ≤ w.heap.size := by
    obtain ⟨l, g1, g2, _⟩ := hg (P.globals.size - 1) (by omega)
    have := (hi.dom _ l g1).2
    omega
  have hinv : Inv (φg P) (startH P tabs) w := inv_tabs hsz hB fun x hx => tab_world hg hi (hlt x hx).1 (hlt x hx).2 (hsub x hx)
  have har' : AR (φg P) args args' := by
    refine ⟨har.1, fun i x y hx hy => ?_⟩
    have hf : flat depth x = true := by
      rw [Array.all_eq_true_iff_forall_mem] at ha
      exact ha x (Array.mem_of_getElem? hx)
    have := flat_eq depth hf (har.2 i x y hx hy)
    subst this
    exact flat_refl depth hf
  refine (h2 (φg P) w args' glob_φg har' hinv).mono fun e w' ⟨φ1, v', he, hv, hi1, hst⟩ => ⟨v', φ1, he, hv, hi1, fun l hl => ?_, hst.size, fun c hc => ?_, hst.os, hst.tape, hst.output⟩
  · have hno : φg P P.globals.size = none := by simp [φg]
    rcases (hst.new _ l hl hno).2 with h | ⟨id0, l0, a1, a2, a3, _⟩
    · exact h
    · obtain ⟨b, hb⟩ := Option.isSome_iff_exists.1 a2
      obtain ⟨x, hx, rfl, _⟩ := startH_get hb
      have := (hlt x hx).1
      omega
  · refine hst.keep c hc fun id l hm hs _ => ?_
    obtain ⟨b, hb⟩ := Option.isSome_iff_exists.1 hs
    obtain ⟨x, hx, rfl, _⟩ := startH_get hb
    have := (hlt x hx).1
    omega

theorem inv_kept {φ : Inj} {w w' : World} (hi : Inv φ H w) (hs : w.heap.size ≤ w'.heap.size) (hk : ∀ c, c < w.heap.size → w'.heap[c]? = w.heap[c]?) : Inv φ H w' := by
  refine ⟨fun id l hl => ?_, fun id b hb => ?_, hi.sep⟩
  · have := hi.dom id l hl
    exact ⟨this.1, by omega⟩
  · obtain ⟨l, q1, q2⟩ := hi.obj id b hb
    exact ⟨l, q1, q2.same (hk l.blk (hi.dom id l q1).2)⟩

/-- A plain answer. -/
theorem CallS.under {tabs : List Tab} {f : Nat} {args : Array Value} {v : Value} {H1 : AH} (hP : 0 < P.globals.size) (hB : tabsB P tabs = true) (hc : CallS P ne P.globals.size f args (startH P tabs) v H1)
    (ha : args.all (flat depth) = true) (hv : flat depth v = true) (hsub : ∀ x ∈ tabs, H.get x.1 = some (tabBlk x)) : CallS P ne m f args H v H := by
  intro hS
  obtain ⟨h1, h2⟩ := under_core hP hB hc ha hsub hS
  refine ⟨h1, fun φ w args' hg har hi => (h2 φ w args' hg har hi).mono fun e w' ⟨v', φ1, he, hr⟩ => ?_⟩
  have hvv := flat_eq depth hv hr.vr
  subst hvv
  exact ⟨φ, v, he, flat_refl depth hv, inv_kept hi hr.size hr.keep, ⟨Nat.le_refl _, Inj.le_refl _, fun id l hl hn => (by rw [hl] at hn; cases hn), fun id hh => .inl hh, hr.size, fun c hc _ => hr.keep c hc, hr.os, hr.tape, hr.output⟩⟩

/-- A new slice of plain values. -/
theorem CallS.underNew {tabs : List Tab} {f : Nat} {args : Array Value} {n c : Nat} {H1 : AH} {b : Blk} {cs : Array Value} {e : TypeId} {fr : Nat × Nat} (hP : 0 < P.globals.size) (hB : tabsB P tabs = true)
    (hc : CallS P ne P.globals.size f args (startH P tabs) (.slice (some ⟨P.globals.size, 0, none⟩) n c) H1)
    (ha : args.all (flat depth) = true) (hb : H1.get P.globals.size = some b) (hob : b.obj = .cells cs e fr) (hopn : b.opn = false) (hco : c ≠ OPEN) (hcs : cs.all (flat depth) = true)
    (hsub : ∀ x ∈ tabs, H.get x.1 = some (tabBlk x)) : CallS P ne m f args H (.slice (some ⟨H.next, 0, none⟩) n c) (H.push b) := by
  intro hS
  obtain ⟨h1, h2⟩ := under_core hP hB hc ha hsub hS
  refine ⟨h1, fun φ w args' hg har hi => (h2 φ w args' hg har hi).mono fun ee w' ⟨v', φ1, he, hr⟩ => ?_⟩
  obtain ⟨l, q1, q2⟩ := hr.inv.obj _ b hb
  have hnew := hr.new l q1
  have hlt := (hr.inv.dom _ l q1).2
  have hle := Inj.le_upd l hi.fresh
  have hk := inv_kept hi hr.size hr.keep
  have hvr : VR (φ.upd H.next l) (.slice (some ⟨H.next, 0, none⟩) n c) v' := by
    have hvr := hr.vr
    cases hvr with
    | slice _ _ _ _ l' h hc => rw [q1] at h; cases h; exact .slice _ _ _ _ l (Inj.upd_same _ _ _) hc
    | sliceOpen => exact absurd rfl hco
    | sliceEnd => exact absurd rfl hco
    | sliceZero _ _ l' a h => rw [q1] at h; cases h; exact .sliceZero _ _ l a (Inj.upd_same _ _ _)
  have hdom : ∀ id l', φ id = some l' → id < H.next ∧ l'.blk < w.heap.size := hi.dom
  refine ⟨φ.upd H.next l, v', he, hvr, ⟨fun id l' hl => ?_, fun id b' hg' => ?_, fun id id' b1 b2 l1 l2 hb1 hb2 hne hro ha1 ha2 hl1 hl2 => ?_⟩,
    ⟨by simp, hle, fun id l' hl hn => ?_, fun id hh => ?_, hr.size, fun c hc _ => hr.keep c hc, hr.os, hr.tape, hr.output⟩⟩
  · by_cases e' : id = H.next
    · subst e'
      rw [Inj.upd_same] at hl; cases hl
      exact ⟨by simp, hlt⟩
    · rw [Inj.upd_other _ _ e'] at hl
      have := hk.dom id l' hl
      simp only [AH.next_push]
      omega
  · by_cases e' : id = H.next
    · subst e'
      rw [AH.get_push_same] at hg'; cases hg'
      refine ⟨l, Inj.upd_same _ _ _, ?_⟩
      unfold OR at q2 ⊢
      rw [hob] at q2 ⊢
      obtain ⟨c', e', f', k1, k2⟩ := q2
      refine ⟨c', e', f', k1, ⟨fun i v hv => ?_, k2.fin, k2.esz, k2.exact_, k2.own, k2.elem⟩⟩
      obtain ⟨v', z1, z2⟩ := k2.cell i v hv
      have hf : flat depth v = true := by
        rw [Array.all_eq_true_iff_forall_mem] at hcs
        exact hcs v (Array.mem_of_getElem? hv)
      have := flat_eq depth hf z2
      subst this
      exact ⟨v, z1, flat_refl depth hf⟩
    · rw [AH.get_push_other _ _ e'] at hg'
      obtain ⟨l', k1, k2⟩ := hk.obj id b' hg'
      exact ⟨l', by rw [Inj.upd_other _ _ e']; exact k1, k2.mono hle⟩
  · by_cases e1 : id = H.next
    · subst e1
      rw [Inj.upd_same] at hl1; cases hl1
      have e2 : id' ≠ H.next := fun h => hne h.symm
      rw [Inj.upd_other _ _ e2] at hl2
      have := (hdom _ _ hl2).2
      omega
    · rw [Inj.upd_other _ _ e1] at hl1
      rw [AH.get_push_other _ _ e1] at hb1
      by_cases e2 : id' = H.next
      · subst e2
        rw [Inj.upd_same] at hl2; cases hl2
        have := (hdom _ _ hl1).2
        omega
      · rw [Inj.upd_other _ _ e2] at hl2
        rw [AH.get_push_other _ _ e2] at hb2
        exact hi.sep id id' b1 b2 l1 l2 hb1 hb2 hne hro ha1 ha2 hl1 hl2
  · by_cases e' : id = H.next
    · subst e'
      rw [Inj.upd_same] at hl; cases hl
      exact ⟨Nat.le_refl _, .inl hnew⟩
    · rw [Inj.upd_other _ _ e'] at hl
      rw [hl] at hn; cases hn
  · by_cases e' : id = H.next
    · subst e'
      exact .inr hi.fresh
    · rw [AH.get_push_other _ _ e'] at hh
      exact .inl hh

end Go.Abs


namespace Go.Abs

/-- Nothing is turned but what W names; nothing is given back. -/
def Fm (W : Nat → Prop) (H H' : AH) : Prop := H.next ≤ H'.next ∧ ∀ id b, id < H.next → ¬ W id → H.get id = some b → H'.get id = some b

abbrev Ext (H H' : AH) : Prop := Fm (fun _ => False) H H'

theorem Fm.refl (W : Nat → Prop) (H : AH) : Fm W H H := ⟨Nat.le_refl _, fun _ _ _ _ h => h⟩

theorem Fm.comp {W W' : Nat → Prop} {H H1 H2 : AH} (h : Fm W H H1) (h' : Fm W' H1 H2) (hw : ∀ id, id < H.next → ¬ W id → ¬ W' id) : Fm W H H2 :=
  ⟨Nat.le_trans h.1 h'.1, fun id b hid hn hb => h'.2 id b (Nat.lt_of_lt_of_le hid h.1) (hw id hid hn) (h.2 id b hid hn hb)⟩

theorem Ext.trans {H H1 H2 : AH} (h : Ext H H1) (h' : Ext H1 H2) : Ext H H2 := Fm.comp h h' fun _ _ h => h

theorem Fm.weak {W W' : Nat → Prop} {H H1 : AH} (h : Fm W H H1) (hw : ∀ id, id < H.next → W id → W' id) : Fm W' H H1 :=
  ⟨h.1, fun id b hid hn hb => h.2 id b hid (fun hh => hn (hw id hid hh)) hb⟩

theorem Fm.push (W : Nat → Prop) (H : AH) (b : Blk) : Fm W H (H.push b) :=
  ⟨by simp, fun id _ hid _ hb => by rw [AH.get_push_other H _ (by omega)]; exact hb⟩

theorem Fm.put {H : AH} {i : Nat} {b : Blk} : Fm (fun id => id = i) H (H.put i b) :=
  ⟨Nat.le_refl _, fun id _ _ hn hb => by rw [AH.get_put_other H _ hn]; exact hb⟩

/-- The block of a slice. -/
def blkIs (s : Sl3) (id : Nat) : Prop := ∃ a, s.p = some a ∧ a.block = id

theorem cell_obj {H : AH} {a : Addr} {v : Value} (h : H.cell a = some v) : ∃ b c e f, H.get a.block = some b ∧ b.obj = .cells c e f ∧ a.spot = none ∧ c[a.off]? = some v := by
  unfold AH.cell at h
  split at h
  · rename_i c e f o z r hg hs
    exact ⟨_, c, e, f, hg, rfl, hs, h⟩
  · cases h

theorem cell_of {H : AH} {a : Addr} {v : Value} {b : Blk} {c : Array Value} {e : TypeId} {f : Nat × Nat} (hg : H.get a.block = some b) (hb : b.obj = .cells c e f) (hs : a.spot = none) (hv : c[a.off]? = some v) : H.cell a = some v := by
  unfold AH.cell
  obtain ⟨obj, o, z, r⟩ := b
  simp only at hb
  subst hb
  rw [hg, hs]
  exact hv

theorem add_block (a : Addr) (i : Nat) : (a.add i).block = a.block := by unfold Addr.add; split <;> rfl

theorem cell_fr {W : Nat → Prop} {H H' : AH} (h : Fm W H H') {a : Addr} {v : Value} (hlt : a.block < H.next) (hw : ¬ W a.block) (hc : H.cell a = some v) : H'.cell a = some v := by
  obtain ⟨b, c, e, f, h1, h2, h3, h4⟩ := cell_obj hc
  exact cell_of (h.2 _ _ hlt hw h1) h2 h3 h4

/-- A slice that holds these numbers. -/
structure Ro (k : IntKind) (H : AH) (s : Sl3) (xs : List Nat) : Prop where
  len : s.n = xs.length
  cap : s.n ≤ s.c
  top : s.c ≤ OPEN
  nil : s.p = none → s.n = 0 ∧ s.c = 0
  low : ∀ a, s.p = some a → a.block < H.next
  opn : ∀ a, s.p = some a → s.c = OPEN → ∃ b, H.get a.block = some b ∧ b.opn = true ∧ b.esz = 1 ∧ isCells b.obj = true
  cell : ∀ a, s.p = some a → ∀ (i : Nat) (h : i < xs.length), H.cell (a.add i) = some (.int k (xs[i] : Nat))

theorem Ro.fr {k : IntKind} {H H' : AH} {s : Sl3} {xs : List Nat} {W : Nat → Prop} (h : Ro k H s xs) (hf : Fm W H H') (hw : ∀ a, s.p = some a → ¬ W a.block) : Ro k H' s xs :=
  ⟨h.len, h.cap, h.top, h.nil, fun a ha => Nat.lt_of_lt_of_le (h.low a ha) hf.1,
    fun a ha ho => let ⟨b, h1, h2⟩ := h.opn a ha ho; ⟨b, hf.2 _ _ (h.low a ha) (hw a ha) h1, h2⟩,
    fun a ha i hi => cell_fr hf (by rw [add_block]; exact h.low a ha) (by rw [add_block]; exact hw a ha) (h.cell a ha i hi)⟩

theorem Ro.ext {k : IntKind} {H H' : AH} {s : Sl3} {xs : List Nat} (h : Ro k H s xs) (hf : Ext H H') : Ro k H' s xs := h.fr hf fun _ _ h => h

theorem Ro.nil' (k : IntKind) (H : AH) : Ro k H Sl3.nil [] :=
  ⟨rfl, Nat.le_refl _, Nat.zero_le _, fun _ => ⟨rfl, rfl⟩, fun a h => (by cases h), fun a h => (by cases h), fun a h => (by cases h)⟩

theorem Ro.some_ {k : IntKind} {H : AH} {s : Sl3} {xs : List Nat} (h : Ro k H s xs) (hp : 0 < xs.length) : ∃ a, s.p = some a := by
  cases hs : s.p with
  | some a => exact ⟨a, rfl⟩
  | none => have := h.nil hs; have := h.len; omega

/-- Reading an element. -/
theorem Ro.get {k : IntKind} {H : AH} {s : Sl3} {xs : List Nat} (h : Ro k H s xs) {i : Nat} (hi : i < xs.length) {v : Int} (hv : v = i) :
    ∃ p, idxA 1 s v = some p ∧ rd (deI k) H p = some ((xs[i] : Nat) : Int) ∧ (∀ c, H.next ≤ c → belowN c p = true) := by
  obtain ⟨a, ha⟩ := h.some_ (by omega)
  subst hv
  refine ⟨a.add i, ?_, ?_, fun c hc => ?_⟩
  · unfold idxA
    rw [ha]
    simp only
    rw [if_pos ⟨Int.natCast_nonneg i, by rw [h.len]; exact Int.ofNat_lt.2 hi⟩]
    simp
  · unfold rd
    rw [h.cell a ha i hi]
    simp [deI]
  · unfold belowN
    rw [add_block]
    exact blt_iff.2 (Nat.lt_of_lt_of_le (h.low a ha) hc)

theorem wrap_i64' {x : Int} (h0 : -9223372036854775808 ≤ x) (h1 : x < 9223372036854775808) : IntKind.i64.wrap x = x := by
  rw [IntKind.wrap_i64]; omega

theorem add_zero (a : Addr) : a.add 0 = a := rfl
theorem add_add {a : Addr} (ha : a.spot = none) (i j : Nat) : (a.add i).add j = a.add (i + j) := by
  obtain ⟨b, o, s⟩ := a
  simp only at ha
  subst ha
  unfold Addr.add
  by_cases hi : i = 0 <;> by_cases hj : j = 0 <;> simp [hi, hj] <;> omega

inductive Vec (k : IntKind) (e : TypeId) (m : Nat) (H : AH) (xs : List Nat) : Sl3 → Prop
  | nil (hx : xs = []) : Vec k e m H xs Sl3.nil
  | opn (id : Nat) (hm : m ≤ id) (hid : id < H.next) (hg : H.get id = some { obj := .cells (xs.map fun (x : Nat) => Value.int k (x : Int)).toArray e (0, 0), opn := true, esz := 1, ro := false }) : Vec k e m H xs ⟨some ⟨id, 0, none⟩, xs.length, OPEN⟩
  | fix (id c : Nat) (cs : Array Value) (hm : m ≤ id) (hid : id < H.next) (hg : H.get id = some { obj := .cells cs e (0, 0), opn := false, esz := 0, ro := false }) (hc : cs.size = c) (ho : c < OPEN) (hl : xs.length ≤ c)
      (hx : ∀ (i : Nat) (h : i < xs.length), cs[i]? = some (.int k (xs[i] : Nat))) : Vec k e m H xs ⟨some ⟨id, 0, none⟩, xs.length, c⟩

theorem Vec.ro {k : IntKind} {e : TypeId} {m : Nat} {H : AH} {xs : List Nat} {s : Sl3} (h : Vec k e m H xs s) (hl : xs.length ≤ OPEN) : Ro k H s xs := by
  have adds : ∀ (id i : Nat), (Addr.mk id 0 none).add i = ⟨id, i, none⟩ := by
    intro id i
    unfold Addr.add
    split
    · rename_i h; subst h; rfl
    · simp
  cases h with
  | nil hx => subst hx; exact Ro.nil' k H
  | opn id hm hid hg =>
    refine ⟨rfl, hl, Nat.le_refl _, fun h => (by cases h), fun a ha => ?_, fun a ha _ => ?_, fun a ha i hi => ?_⟩
    · cases ha; exact hid
    · cases ha; exact ⟨_, hg, rfl, rfl, rfl⟩
    · cases ha
      rw [adds]
      exact cell_of (a := ⟨id, i, none⟩) hg rfl rfl (by simp [hi])
  | fix id c cs hm hid hg hc ho hl hx =>
    refine ⟨rfl, hl, Nat.le_of_lt ho, fun h => (by cases h), fun a ha => ?_, fun a ha hh => ?_, fun a ha i hi => ?_⟩
    · cases ha; exact hid
    · exact absurd (show c = OPEN from hh) (by omega)
    · cases ha
      rw [adds]
      exact cell_of (a := ⟨id, i, none⟩) hg rfl rfl (hx i hi)

theorem Vec.fr {k : IntKind} {e : TypeId} {m : Nat} {H H' : AH} {xs : List Nat} {s : Sl3} {W : Nat → Prop} (h : Vec k e m H xs s) (hf : Fm W H H') (hw : ∀ id, blkIs s id → ¬ W id) : Vec k e m H' xs s := by
  cases h with
  | nil hx => exact .nil hx
  | opn id hm hid hg => exact .opn id hm (Nat.lt_of_lt_of_le hid hf.1) (hf.2 _ _ hid (hw id ⟨_, rfl, rfl⟩) hg)
  | fix id c cs hm hid hg hc ho hl hx => exact .fix id c cs hm (Nat.lt_of_lt_of_le hid hf.1) (hf.2 _ _ hid (hw id ⟨_, rfl, rfl⟩) hg) hc ho hl hx

theorem Vec.low {k : IntKind} {e : TypeId} {m : Nat} {H : AH} {xs : List Nat} {s : Sl3} (h : Vec k e m H xs s) : ∀ id, blkIs s id → id < H.next := by
  rintro id ⟨a, ha, rfl⟩
  cases h with
  | nil hx => cases ha
  | opn id hm hid hg => cases ha; exact hid
  | fix id c cs hm hid hg hc ho hl hx => cases ha; exact hid

end Go.Abs


namespace Go.Abs

abbrev nums (k : IntKind) (xs : List Nat) : List Value := xs.map fun (x : Nat) => Value.int k (x : Int)

theorem addr_add (id o i : Nat) : (Addr.mk id o none).add i = ⟨id, o + i, none⟩ := by
  unfold Addr.add
  split
  · rename_i h; subst h; rfl
  · rfl

theorem rdCells_of {H : AH} {a : Addr} : ∀ (l : List Value) (j : Nat), (∀ (i : Nat) (h : i < l.length), H.cell (a.add (j + i)) = some l[i]) → rdCells H a j l.length = some l := by
  intro l
  induction l with
  | nil => intro j _; rfl
  | cons v l ih =>
    intro j h
    have h0 := h 0 (by simp)
    simp only [Nat.add_zero, List.getElem_cons_zero] at h0
    have h1 := ih (j + 1) fun i hi => by
      have := h (i + 1) (by simpa using hi)
      rw [show j + 1 + i = j + (i + 1) by omega, this]
      simp
    simp only [List.length_cons, rdCells, h0, h1]

theorem Ro.rd {k : IntKind} {H : AH} {s : Sl3} {xs : List Nat} (h : Ro k H s xs) {a : Addr} (ha : s.p = some a) : rdCells H a 0 (s.n * 1) = some (nums k xs) := by
  have := rdCells_of (H := H) (a := a) (nums k xs) 0 fun i hi => by
    rw [Nat.zero_add, h.cell a ha i (by simpa using hi)]
    simp [nums]
  rw [h.len, Nat.mul_one]
  simpa [nums] using this

theorem one_nums (k : IntKind) (xs : List Nat) : (nums k xs).all one = true := by
  rw [List.all_eq_true]
  intro v hv
  simp only [nums, List.mem_map] at hv
  obtain ⟨x, _, rfl⟩ := hv
  rfl

theorem grownS_ok {H : AH} {e : TypeId} {sz bytes need : Nat} {cs : List Value} (h1 : (2 * need + 1000) * bytes ≤ 281474976710656) (h2 : need ≤ 281474976710656) :
    grownS H e sz bytes need cs = some (⟨some ⟨H.next, 0, none⟩, need, OPEN⟩, H.push { obj := .cells cs.toArray e (0, 0), opn := true, esz := sz, ro := false }) := by
  unfold grownS
  rw [if_pos ⟨h1, h2⟩]

theorem setCell_ok {H : AH} {m id off : Nat} {v : Value} {cs : Array Value} {e : TypeId} {opn : Bool} {esz : Nat} (hm : m ≤ id) (hg : H.get id = some { obj := .cells cs e (0, 0), opn, esz, ro := false }) (ho : off < cs.size) :
    H.setCell m ⟨id, off, none⟩ v = some (H.put id { obj := .cells (cs.setIfInBounds off v) e (0, 0), opn, esz, ro := false }) := by
  unfold AH.setCell
  simp only [hg, ble_of hm, blt_iff.2 ho, Bool.and_self, cond_true]

/-- Appending what another slice holds. -/
theorem Vec.app {k : IntKind} {e : TypeId} {m bytes : Nat} {H : AH} {xs ys : List Nat} {s z : Sl3} (h : Vec k e m H xs s) (hz : Ro k H z ys) (hzs : ∀ id, blkIs z id → ¬ blkIs s id)
    (h1 : (2 * (xs.length + ys.length) + 1000) * bytes ≤ 281474976710656) (h2 : xs.length + ys.length ≤ 281474976710656) (hm : m ≤ H.next) :
    ∃ s' H', appS m e 1 bytes H s z = some (s', H') ∧ Vec k e m H' (xs ++ ys) s' ∧ Fm (blkIs s) H H' ∧ ∀ id, blkIs s' id → blkIs s id ∨ H.next ≤ id := by
  have hO : OPEN = 9223372036854775808 := rfl
  have hs := h.ro (by omega)
  -- the elements
  have hsrc : ∀ r, appL m e 1 bytes H s ys.length (nums k ys) = r → appS m e 1 bytes H s z = r := by
    intro r hr
    unfold appS
    cases hp : z.p with
    | none =>
      have := hz.nil hp
      have hl := hz.len
      simp only
      rw [if_pos this.1]
      have : ys = [] := List.length_eq_zero_iff.1 (by omega)
      subst this
      exact hr
    | some b =>
      simp only
      rw [hz.rd hp]
      simp only
      rw [if_pos (one_nums k ys), hz.len]
      exact hr
  by_cases hy : ys.length = 0
  · have : ys = [] := List.length_eq_zero_iff.1 hy
    subst this
    refine ⟨s, H, hsrc _ ?_, by simpa using h, Fm.refl _ _, fun id hid => .inl hid⟩
    unfold appL
    rw [if_pos hy, if_pos hs.cap]
  · have mapApp : nums k xs ++ nums k ys = nums k (xs ++ ys) := by simp [nums]
    have lenApp : (xs ++ ys).length = xs.length + ys.length := by simp
    cases h with
    | nil hx =>
      subst hx
      refine ⟨⟨some ⟨H.next, 0, none⟩, ys.length, OPEN⟩, H.push { obj := .cells (nums k ys).toArray e (0, 0), opn := true, esz := 1, ro := false }, hsrc _ ?_, ?_, Fm.push _ _ _, ?_⟩
      · unfold appL
        rw [if_neg hy]
        simp only [Sl3.nil]
        rw [if_pos ⟨trivial, trivial⟩, grownS_ok (by simpa using h1) (by simpa using h2)]
      · simp only [List.nil_append]
        exact .opn H.next hm (by simp) (by rw [AH.get_push_same])
      · rintro id ⟨a, ha, rfl⟩
        cases ha
        exact .inr (Nat.le_refl _)
    | opn id hm' hid hg =>
      have hrd := hs.rd (a := ⟨id, 0, none⟩) rfl
      refine ⟨⟨some ⟨H.next, 0, none⟩, (xs ++ ys).length, OPEN⟩, (H.put id dead).push { obj := .cells (nums k (xs ++ ys)).toArray e (0, 0), opn := true, esz := 1, ro := false }, hsrc _ ?_, ?_, ?_, ?_⟩
      · unfold appL
        rw [if_neg hy]
        simp only
        simp only at hrd
        rw [hrd]
        simp only
        have hown : ownedB m H ⟨id, 0, none⟩ e 1 = true := by
          unfold ownedB
          simp only [hg, ble_of hm', Nat.beq_refl, Bool.and_self]
        rw [if_pos trivial, if_pos ⟨hown, one_nums k ys⟩, grownS_ok h1 h2, mapApp, ← lenApp]
        rfl
      · refine .opn H.next hm (by simp) ?_
        show ((H.put id dead).push _).get (H.put id dead).next = _
        rw [AH.get_push_same]
      · refine ⟨by simp, fun id' b hid' hn hb => ?_⟩
        have hne : id' ≠ id := fun e => hn ⟨_, rfl, e.symm⟩
        rw [AH.get_push_other _ _ (by simp; omega), AH.get_put_other _ _ hne]
        exact hb
      · rintro id' ⟨a, ha, rfl⟩
        cases ha
        exact .inr (Nat.le_refl _)
    | fix id c cs hm' hid hg hc ho hl hx =>
      have hrd := hs.rd (a := ⟨id, 0, none⟩) rfl
      by_cases hfit : xs.length + ys.length ≤ c
      · -- in place
        have hwr : ∀ (l : List Value) (j : Nat) (G : AH) (ds : Array Value), l.all one = true → G.get id = some { obj := .cells ds e (0, 0), opn := false, esz := 0, ro := false } → xs.length + j + l.length ≤ ds.size →
            ∃ G' ds', wrCells m ⟨id, xs.length, none⟩ j l G = some G' ∧ G'.get id = some { obj := .cells ds' e (0, 0), opn := false, esz := 0, ro := false } ∧ ds'.size = ds.size ∧ G'.next = G.next ∧ (∀ id', id' ≠ id → G'.get id' = G.get id') ∧
              (∀ i, i < xs.length + j → ds'[i]? = ds[i]?) ∧ ∀ (i : Nat) (hi : i < l.length), ds'[xs.length + j + i]? = some l[i] := by
          intro l
          induction l with
          | nil => intro j G ds _ hG _; exact ⟨G, ds, rfl, hG, rfl, rfl, fun _ _ => rfl, fun _ _ => rfl, fun i hi => by simp at hi⟩
          | cons v l ih =>
            intro j G ds hone hG hsz
            simp only [List.all_cons, Bool.and_eq_true] at hone
            have hset := setCell_ok (H := G) (m := m) (id := id) (off := xs.length + j) (v := v) hm' hG (by simp at hsz; omega)
            obtain ⟨G', ds', w1, w2, w3, w4, w5, w6, w7⟩ := ih (j + 1) (G.put id { obj := .cells (ds.setIfInBounds (xs.length + j) v) e (0, 0), opn := false, esz := 0, ro := false }) (ds.setIfInBounds (xs.length + j) v) hone.2 (AH.get_put_same _ _ _) (by simp at hsz ⊢; omega)
            refine ⟨G', ds', ?_, w2, by simpa using w3, w4, fun id' hne => by rw [w5 id' hne, AH.get_put_other _ _ hne], fun i hi => ?_, fun i hi => ?_⟩
            · simp only [wrCells, hone.1, cond_true]
              rw [addr_add, hset]
              exact w1
            · rw [w6 i (by omega), Array.getElem?_setIfInBounds_ne (by omega)]
            · cases i with
              | zero =>
                rw [Nat.add_zero, w6 _ (by omega), Array.getElem?_setIfInBounds_self_of_lt (by simp at hsz; omega)]
                rfl
              | succ i =>
                have := w7 i (by simpa using hi)
                rw [show xs.length + (j + 1) + i = xs.length + j + (i + 1) by omega] at this
                rw [this]
                simp
        obtain ⟨G', ds', w1, w2, w3, w4, w5, w6, w7⟩ := hwr (nums k ys) 0 H cs (one_nums k ys) hg (by simp [nums]; omega)
        refine ⟨⟨some ⟨id, 0, none⟩, (xs ++ ys).length, c⟩, G', hsrc _ ?_, ?_, ⟨by rw [w4]; exact Nat.le_refl _, fun id' b _ hn hb => by rw [w5 id' (fun e => hn ⟨_, rfl, e.symm⟩)]; exact hb⟩, ?_⟩
        · unfold appL
          rw [if_neg hy]
          simp only
          simp only at hrd
          rw [hrd]
          simp only
          rw [if_neg (by omega), if_pos hfit, Nat.mul_one, addr_add, Nat.zero_add, w1, ← lenApp]
          rfl
        · refine .fix id c ds' hm' (by rw [w4]; exact hid) w2 (by rw [w3]; exact hc) ho (by rw [lenApp]; exact hfit) fun i hi => ?_
          by_cases hlt : i < xs.length
          · rw [w6 i (by omega), List.getElem_append_left hlt]; exact hx i hlt
          · have hi2 : i - xs.length < ys.length := by rw [lenApp] at hi; omega
            have := w7 (i - xs.length) (by simpa [nums] using hi2)
            rw [Nat.add_zero, show xs.length + (i - xs.length) = i by omega] at this
            rw [this, List.getElem_append_right (by omega)]
            simp [nums]
        · rintro id' ⟨a, ha, rfl⟩
          cases ha
          exact .inl ⟨_, rfl, rfl⟩
      · refine ⟨⟨some ⟨H.next, 0, none⟩, (xs ++ ys).length, OPEN⟩, H.push { obj := .cells (nums k (xs ++ ys)).toArray e (0, 0), opn := true, esz := 1, ro := false }, hsrc _ ?_, ?_, Fm.push _ _ _, ?_⟩
        · unfold appL
          rw [if_neg hy]
          simp only
          simp only at hrd
          rw [hrd]
          simp only
          rw [if_neg (by omega), if_neg hfit, if_pos hl, grownS_ok h1 h2, mapApp, ← lenApp]
        · exact .opn H.next hm (by simp) (by rw [AH.get_push_same])
        · rintro id' ⟨a, ha, rfl⟩
          cases ha
          exact .inr (Nat.le_refl _)

/-- A new row of numbers. -/
theorem newR_ro {k : IntKind} {e : TypeId} {H : AH} {ys : List Nat} (hl : ys.length < OPEN) :
    ∃ z H', newR e ys.length (nums k ys).toArray H = some (z, H') ∧ Ro k H' z ys ∧ Ext H H' ∧ (∀ id, blkIs z id → id = H.next) ∧ H'.next = H.next + 1 := by
  refine ⟨_, _, rfl, ?_, Fm.push _ _ _, ?_, by simp⟩
  · refine ⟨rfl, Nat.le_refl _, Nat.le_of_lt hl, fun h => (by cases h), fun a ha => ?_, fun a _ ho => absurd (show ys.length = OPEN from ho) (by omega), fun a ha i hi => ?_⟩
    · cases ha; simp
    · cases ha
      rw [addr_add]
      exact cell_of (a := ⟨H.next, 0 + i, none⟩) (AH.get_push_same _ _) rfl rfl (by simp [nums, hi])
  · rintro id ⟨a, ha, rfl⟩
    cases ha
    rfl

/-- Appending one number. -/
theorem Vec.push {k : IntKind} {e : TypeId} {m bytes : Nat} {H : AH} {xs : List Nat} {s : Sl3} (h : Vec k e m H xs s) (x : Nat) {v : Int} (hv : v = x)
    (h1 : (2 * (xs.length + 1) + 1000) * bytes ≤ 281474976710656) (h2 : xs.length + 1 ≤ 281474976710656) (hm : m ≤ H.next) :
    ∃ z H1 s' H', newR e 1 #[Value.int k v] H = some (z, H1) ∧ appS m e 1 bytes H1 s z = some (s', H') ∧ Vec k e m H' (xs ++ [x]) s' ∧ Fm (blkIs s) H H' ∧ ∀ id, blkIs s' id → blkIs s id ∨ H.next ≤ id := by
  subst hv
  obtain ⟨z, H1, n1, n2, n3, n4, n5⟩ := newR_ro (k := k) (e := e) (H := H) (ys := [x]) (by simp [OPEN])
  have h' := h.fr n3 fun _ _ h => h
  obtain ⟨s', H', a1, a2, a3, a4⟩ := h'.app n2 (fun id hz hs => by have := n4 id hz; have := h.low id hs; omega) (bytes := bytes) (by simpa using h1) (by simpa using h2) (by omega)
  refine ⟨z, H1, s', H', n1, a1, a2, (n3.weak fun _ _ h => h.elim).comp a3 (fun _ _ hn => hn), fun id hid => ?_⟩
  rcases a4 id hid with h | h
  · exact .inl h
  · exact .inr (by omega)

end Go.Abs


namespace Go.Abs

def val (B : Nat) : List Nat → Nat
  | [] => 0
  | x :: l => x + B * val B l

variable {B : Nat}

theorem wrap_nat {x : Int} {n : Nat} (h : x = n) (hn : n < 9223372036854775808) : IntKind.i64.wrap x = n := by
  subst h
  exact wrap_i64' (by omega) (by omega)

end Go.Abs


namespace Go.Abs

/-- A cell of a block that stands. -/
def Cel (H : AH) (a : Addr) (v : Value) : Prop := H.cell a = some v ∧ a.block < H.next

theorem Cel.fr {W : Nat → Prop} {H H' : AH} {a : Addr} {v : Value} (h : Cel H a v) (hf : Fm W H H') (hw : ¬ W a.block) : Cel H' a v :=
  ⟨cell_fr hf h.2 hw h.1, Nat.lt_of_lt_of_le h.2 hf.1⟩

theorem Cel.ext {H H' : AH} {a : Addr} {v : Value} (h : Cel H a v) (hf : Ext H H') : Cel H' a v := h.fr hf fun h => h

theorem Cel.rd {α : Type} {H : AH} {a : Addr} {v : Value} (h : Cel H a v) (de : Value → Option α) : rd de H a = de v := by
  unfold Abs.rd
  rw [h.1]
  rfl

/-- From place i on these stand, each in so many cells. -/
def LAt {α : Type} (R : AH → Addr → α → Prop) (sz : Nat) (H : AH) (p : Option Addr) : Nat → List α → Prop
  | _, [] => True
  | i, x :: xs => (∃ a, p = some a ∧ R H (a.add (i * sz)) x) ∧ LAt R sz H p (i + 1) xs

theorem LAt.get {α : Type} {R : AH → Addr → α → Prop} {sz : Nat} {H : AH} {p : Option Addr} : ∀ {xs : List α} {i : Nat}, LAt R sz H p i xs → ∀ (j : Nat) (h : j < xs.length), ∃ a, p = some a ∧ R H (a.add ((i + j) * sz)) xs[j]
  | x :: xs, i, h, 0, hj => h.1
  | x :: xs, i, h, j + 1, hj => by
    obtain ⟨a, h1, h2⟩ := LAt.get h.2 j (by simpa using hj)
    exact ⟨a, h1, by rw [show i + (j + 1) = i + 1 + j by omega]; exact h2⟩

theorem LAt.imp {α : Type} {R R' : AH → Addr → α → Prop} {sz : Nat} {H H' : AH} {p : Option Addr} (hr : ∀ a x, R H a x → R' H' a x) : ∀ {xs : List α} {i : Nat}, LAt R sz H p i xs → LAt R' sz H' p i xs
  | [], _, _ => trivial
  | _ :: _, _, h => ⟨let ⟨a, h1, h2⟩ := h.1; ⟨a, h1, hr _ _ h2⟩, LAt.imp hr h.2⟩

theorem LAt.of {α : Type} {R : AH → Addr → α → Prop} {sz : Nat} {H : AH} {p : Option Addr} : ∀ {xs : List α} {i : Nat}, (∀ (j : Nat) (h : j < xs.length), ∃ a, p = some a ∧ R H (a.add ((i + j) * sz)) xs[j]) → LAt R sz H p i xs
  | [], _, _ => trivial
  | x :: xs, i, h => ⟨h 0 (by simp), LAt.of fun j hj => by
      obtain ⟨a, h1, h2⟩ := h (j + 1) (by simpa using hj)
      exact ⟨a, h1, by rw [show i + 1 + j = i + (j + 1) by omega]; exact h2⟩⟩

/-- The most that a row may hold. -/
def maxN : Nat := 9223372036854775807

/-- A slice of such things. -/
structure SlL {α : Type} (R : AH → Addr → α → Prop) (sz : Nat) (H : AH) (s : Sl3) (xs : List α) : Prop where
  n : s.n = xs.length
  cap : s.n ≤ s.c
  top : s.n ≤ maxN
  low : ∀ a, s.p = some a → a.block < H.next ∧ a.spot = none
  at_ : LAt R sz H s.p 0 xs

theorem SlL.len {α : Type} {R : AH → Addr → α → Prop} {sz : Nat} {H : AH} {s : Sl3} {xs : List α} (h : SlL R sz H s xs) : xs.length ≤ maxN := by
  have := h.n; have := h.top; omega

theorem SlL.imp {α : Type} {R R' : AH → Addr → α → Prop} {sz : Nat} {H H' : AH} {s : Sl3} {xs : List α} (h : SlL R sz H s xs) (hn : H.next ≤ H'.next) (hr : ∀ a x, R H a x → R' H' a x) : SlL R' sz H' s xs :=
  ⟨h.n, h.cap, h.top, fun a ha => ⟨Nat.lt_of_lt_of_le (h.low a ha).1 hn, (h.low a ha).2⟩, h.at_.imp hr⟩

theorem idxA_some {sz : Nat} {s : Sl3} {a : Addr} (ha : s.p = some a) {i : Nat} {v : Int} (hv : v = i) (hi : i < s.n) : idxA sz s v = some (a.add (i * sz)) := by
  subst hv
  unfold idxA
  rw [ha]
  simp only [Int.toNat_natCast]
  rw [if_pos ⟨by omega, by omega⟩]

theorem SlL.get {α : Type} {R : AH → Addr → α → Prop} {sz : Nat} {H : AH} {s : Sl3} {xs : List α} (h : SlL R sz H s xs) {i : Nat} (hi : i < xs.length) {v : Int} (hv : v = i) :
    ∃ q, idxA sz s v = some q ∧ R H q xs[i] := by
  obtain ⟨a, h1, h2⟩ := h.at_.get i hi
  rw [Nat.zero_add] at h2
  exact ⟨_, idxA_some h1 hv (by rw [h.n]; exact hi), h2⟩

theorem wrap_next {n i : Nat} (hi : i < n) (hn : n ≤ maxN) : IntKind.i64.wrap ((i : Int) + 1) = ((i + 1 : Nat) : Int) := by
  refine wrap_nat (by omega) ?_
  have : maxN = 9223372036854775807 := rfl
  omega

/-- What a search ends in. -/
def found {R : Type} (n : Nat) : Option R → Int ⊕ R
  | some r => .inr r
  | none => .inl (n : Int)

def stepO {R : Type} (i : Nat) : Option R → Lp Int R
  | some r => .ret r
  | none => .next (IntKind.i64.wrap ((i : Int) + 1))

/-- A loop that goes up by one and may end early. -/
theorem loopO_up {R : Type} {body : Int → Option (Lp Int R)} (n : Nat) (hn : n ≤ maxN) (out : Nat → Option R)
    (hs : ∀ i : Nat, i < n → body i = some (stepO i (out i))) (he : body n = some (.brk n)) :
    loopO body 0 = some (found n ((List.range n).findSome? out)) := by
  have key : ∀ (d i : Nat), i + d = n → loopO body (i : Int) = some (found n ((List.range' i d).findSome? out)) := by
    intro d
    induction d with
    | zero =>
      intro i hi
      have : i = n := by omega
      subst this
      rw [loopO_iff]
      exact ⟨1, by rw [iterO, he]; rfl⟩
    | succ d ih =>
      intro i hi
      have hb := hs i (by omega)
      rw [List.range'_succ, List.findSome?_cons]
      cases ho : out i with
      | some r =>
        rw [ho] at hb
        rw [loopO_iff]
        exact ⟨1, by rw [iterO, hb]; rfl⟩
      | none =>
        rw [ho] at hb
        simp only [stepO] at hb
        rw [wrap_next (by omega) hn] at hb
        rw [loopO_next hb]
        exact ih (i + 1) (by omega)
  have := key n 0 (by omega)
  rw [List.range_eq_range']
  exact this

/-- A text stands in a cell. -/
def StrA (H : AH) (q : Addr) (s : ByteArray) : Prop := Cel H q (.string s)

theorem Cel.push {H : AH} {b : Blk} {c : Array Value} {e : TypeId} {f : Nat × Nat} (hb : b.obj = .cells c e f) {i : Nat} {v : Value} (hv : c[i]? = some v) : Cel (H.push b) ⟨H.next, i, none⟩ v :=
  ⟨cell_of (a := ⟨H.next, i, none⟩) (AH.get_push_same _ _) hb rfl hv, by simp⟩

/-- A new block of single cells. -/
theorem SlL.push {α : Type} {R : AH → Addr → α → Prop} {H : AH} {b : Blk} {c : Array Value} {e : TypeId} {f : Nat × Nat} (hb : b.obj = .cells c e f) {xs : List α} (hn : xs.length ≤ maxN)
    (hr : ∀ (i : Nat) (h : i < xs.length), R (H.push b) ⟨H.next, i, none⟩ xs[i]) : SlL R 1 (H.push b) ⟨some ⟨H.next, 0, none⟩, xs.length, xs.length⟩ xs := by
  refine ⟨rfl, Nat.le_refl _, hn, fun a ha => ?_, LAt.of fun j hj => ⟨_, rfl, ?_⟩⟩
  · cases ha; simp
  · rw [addr_add, Nat.mul_one, Nat.zero_add, Nat.zero_add]
    exact hr j hj

theorem SlL.ext {α : Type} {R : AH → Addr → α → Prop} {sz : Nat} {H H' : AH} {s : Sl3} {xs : List α} (h : SlL R sz H s xs) (hf : Ext H H') (hr : ∀ a x, R H a x → R H' a x) : SlL R sz H' s xs := h.imp hf.1 hr

theorem bytA_get {s : ByteArray} {i : Nat} (hi : i < s.size) {v : Int} (hv : v = i) : bytA s v = some ((s[i].toNat : Nat) : Int) := by
  subst hv
  unfold bytA
  rw [if_pos (by omega)]
  simp [hi]

end Go.Abs


namespace Go.Abs

/-- A slice that holds these slices. -/
structure RoS (H : AH) (s : Sl3) (ss : List Sl3) : Prop where
  len : s.n = ss.length
  cap : s.n ≤ s.c
  nil : s.p = none → s.n = 0 ∧ s.c = 0
  low : ∀ a, s.p = some a → a.block < H.next
  cell : ∀ a, s.p = some a → ∀ (i : Nat) (h : i < ss.length), H.cell (a.add i) = some ss[i].v

theorem RoS.ext {H H' : AH} {s : Sl3} {ss : List Sl3} (h : RoS H s ss) (hf : Ext H H') : RoS H' s ss :=
  ⟨h.len, h.cap, h.nil, fun a ha => Nat.lt_of_lt_of_le (h.low a ha) hf.1, fun a ha i hi => cell_fr hf (by rw [add_block]; exact h.low a ha) (fun h => h) (h.cell a ha i hi)⟩

theorem RoS.get {H : AH} {s : Sl3} {ss : List Sl3} (h : RoS H s ss) {i : Nat} (hi : i < ss.length) {v : Int} (hv : v = i) : ∃ p, idxA 1 s v = some p ∧ rd deSl H p = some ss[i] := by
  subst hv
  cases hp : s.p with
  | none => have := h.nil hp; have := h.len; omega
  | some a =>
    refine ⟨a.add i, ?_, ?_⟩
    · unfold idxA
      rw [hp]
      simp only
      rw [if_pos ⟨Int.natCast_nonneg i, by rw [h.len]; exact Int.ofNat_lt.2 hi⟩]
      simp
    · unfold rd
      rw [h.cell a hp i hi]
      rfl

end Go.Abs


namespace Go.Abs

variable {P : Program}

/-- What came in stands in the world, and is only read. -/
structure Imp (P : Program) (φ : Inj) (H : AH) (W : World) : Prop where
  inv : Inv φ H W
  glob : Glob P φ
  ro : ∀ id b, H.get id = some b → b.ro = true

/-- A view of a row of cells. -/
def viewB (c : Array Value) (e : TypeId) : Blk := ⟨.cells c e (0, 0), true, 1, true⟩

theorem Imp.add {φ : Inj} {H : AH} {W : World} (h : Imp P φ H W) {blk off : Nat} {c c' : Array Value} {e : TypeId} {f : Nat × Nat} (hb : W.heap[blk]? = some (.cells c' e f))
    (hc : ∀ (i : Nat) (v : Value), c[i]? = some v → ∃ v', c'[off + i]? = some v' ∧ VR φ v v') : Imp P (φ.upd H.next ⟨blk, off, 0, 1⟩) (H.push (viewB c e)) W ∧ φ.le (φ.upd H.next ⟨blk, off, 0, 1⟩) := by
  have hle := Inj.le_upd ⟨blk, off, 0, 1⟩ h.inv.fresh
  have hro : ∀ id b, (H.push (viewB c e)).get id = some b → b.ro = true := fun id b hg => by
    by_cases e' : id = H.next
    · subst e'
      rw [AH.get_push_same] at hg; cases hg; rfl
    · rw [AH.get_push_other _ _ e'] at hg
      exact h.ro id b hg
  refine ⟨⟨⟨fun i l hl => ?_, fun i b hg => ?_, fun i j b b' l l' h1 _ _ hr => ?_⟩, fun g hg => ?_, hro⟩, hle⟩
  · by_cases e' : i = H.next
    · subst e'
      rw [Inj.upd_same] at hl; cases hl
      exact ⟨by simp, (Array.getElem?_eq_some_iff.1 hb).1⟩
    · rw [Inj.upd_other _ _ e'] at hl
      have := h.inv.dom i l hl
      simp only [AH.next_push]
      omega
  · by_cases e' : i = H.next
    · subst e'
      rw [AH.get_push_same] at hg; cases hg
      refine ⟨_, Inj.upd_same _ _ _, c', e, f, hb, fun i v hv => ?_, Nat.zero_le _, fun _ => rfl, fun ho => (by cases ho), fun hr => (by cases hr), rfl⟩
      obtain ⟨v', h1, h2⟩ := hc i v hv
      exact ⟨v', h1, h2.mono hle⟩
    · rw [AH.get_push_other _ _ e'] at hg
      obtain ⟨l, h1, h2⟩ := h.inv.obj i b hg
      exact ⟨l, by rw [Inj.upd_other _ _ e']; exact h1, h2.mono hle⟩
  · rw [hro i b h1] at hr; cases hr
  · obtain ⟨l, h1, h2, h3⟩ := h.glob g hg
    exact ⟨l, hle _ _ h1, h2, h3⟩

theorem cell?_some {w : World} {a : Addr} {v : Value} (h : w.cell? a = some v) : ∃ c e f, w.heap[a.block]? = some (.cells c e f) ∧ a.spot = none ∧ c[a.off]? = some v := by
  unfold World.cell? at h
  split at h
  · rename_i c e f hc
    split at h
    · cases h
    · rename_i hs
      refine ⟨c, e, f, hc, ?_, h⟩
      cases hh : a.spot with
      | none => rfl
      | some x => rw [hh] at hs; simp at hs
  · cases h

theorem add_off (a : Addr) (hs : a.spot = none) (i : Nat) : a.add i = ⟨a.block, a.off + i, none⟩ := by
  obtain ⟨b, o, s⟩ := a
  simp only at hs
  subst hs
  unfold Addr.add
  split
  · rename_i h; subst h; rfl
  · rfl

theorem addr_eta (a : Addr) (hs : a.spot = none) : (⟨a.block, a.off, none⟩ : Addr) = a := by
  obtain ⟨b, o, s⟩ := a
  simp only at hs
  subst hs
  rfl

/-- A row of cells that all stand in one block. -/
theorem Imp.cells {φ : Inj} {H : AH} {W : World} (h : Imp P φ H W) {a : Addr} {c : Array Value} (h0 : 0 < c.size) (hc : ∀ (i : Nat) (v : Value), c[i]? = some v → ∃ v', W.cell? (a.add i) = some v' ∧ VR φ v v') :
    ∃ φ' e, Imp P φ' (H.push (viewB c e)) W ∧ φ.le φ' ∧ ∀ n k, k ≠ OPEN → VR φ' (.slice (some ⟨H.next, 0, none⟩) n k) (.slice (some a) n k) := by
  obtain ⟨v', h1, _⟩ := hc 0 c[0] (by simp [h0])
  obtain ⟨c', e, f, h2, h3, _⟩ := cell?_some h1
  rw [add_block] at h2
  have hsp : a.spot = none := by
    unfold Addr.add at h3
    simpa using h3
  obtain ⟨h4, h5⟩ := h.add (blk := a.block) (off := a.off) (c := c) (c' := c') (e := e) (f := f) h2 (fun i v hv => by
    obtain ⟨w, g1, g2⟩ := hc i v hv
    obtain ⟨c'', e', f', g3, _, g5⟩ := cell?_some g1
    rw [add_block, h2] at g3
    simp only [Option.some.injEq, Obj.cells.injEq] at g3
    obtain ⟨rfl, _⟩ := g3
    rw [add_off a hsp] at g5
    exact ⟨w, g5, g2⟩)
  refine ⟨_, e, h4, h5, fun n k hk => ?_⟩
  have := VR.slice H.next 0 n k ⟨a.block, a.off, 0, 1⟩ (Inj.upd_same φ H.next ⟨a.block, a.off, 0, 1⟩) hk
  rw [show (⟨(⟨a.block, a.off, 0, 1⟩ : Loc).blk, (⟨a.block, a.off, 0, 1⟩ : Loc).off + 0, none⟩ : Addr) = a from addr_eta a hsp] at this
  exact this

theorem view_cell {H : AH} {c : Array Value} {e : TypeId} (i : Nat) : (H.push (viewB c e)).cell ((⟨H.next, 0, none⟩ : Addr).add i) = c[i]? := by
  rw [add_off _ rfl]
  unfold AH.cell
  simp only [AH.get_push_same, viewB, Nat.zero_add]

open Go.ChangeShapes in
theorem trodAll_len {H : Type} {enc : TypeId × Value → H} {W : World} {sp : Nat → Bool} {hd : Bool} : ∀ (ts : List TypeId) (vs : List Value) (ds : List (DataW H)) (ps : List MemPlace), DataW.TrodAll enc P W 0 sp hd ts vs ds ps → ds.length = ts.length := by
  intro ts
  induction ts with
  | nil => intro vs ds ps h; obtain ⟨_, rfl, _⟩ := trodAll_nil h; rfl
  | cons t ts ih => intro vs ds ps h; obtain ⟨v, vs', d, ds', p, q, _, rfl, _, _, h2⟩ := trodAll_cons h; simp [ih _ _ _ h2]


theorem Imp.startT {W : World} {tabs : List Tab} (h : P.globals.size ≤ W.heap.size) (hB : tabsB P tabs = true) (ht : ∀ x ∈ tabs, ∃ fr, W.heap[x.1]? = some (.cells x.2.2 x.2.1 fr)) : Imp P (φg P) (startH P tabs) W :=
  ⟨inv_tabs h hB ht, glob_φg, fun id b hb => by obtain ⟨x, _, _, rfl⟩ := startH_get hb; rfl⟩

open Go.RowKit in
theorem true_of_callI {ne : NE} (hS : Sane P ne) {f : Nat} {args args' : Array Value} {H H' : AH} {φ : Inj} {W : World} (h : CallS P ne H.next f args H (.bool true) H') (hi : Imp P φ H W) (ha : AR φ args args') :
    Calls P f args' W fun e W' => e = .returned (.bool true) ∧ Below W.heap.size W W' := by
  refine ((h hS).2 φ W args' hi.glob ha hi.inv).mono fun e W' hpost => ?_
  obtain ⟨φ', v', rfl, hv, _, hst⟩ := hpost
  cases hv
  refine ⟨rfl, hst.os, hst.tape, hst.output, hst.size, fun k hk => hst.keep k hk fun id l hm hs _ => ?_⟩
  obtain ⟨b, hb⟩ := Option.isSome_iff_exists.1 hs
  obtain ⟨l', h1, _⟩ := hi.inv.obj id b hb
  have := (hi.inv.dom id l' h1).1
  omega

/-- A law of a row that lists tables and has a bound on what comes in. -/
theorem lifted_row_tabs {H : Type} {enc : TypeId × Value → H} {C : Checked} {os : Os} {f : FuncId} {fn : Func} {s : OpenSpec} {k : (H : Type) → List (DataW H) → Bool} (hk : s.cond = some k) {F : Stop.Interp} {laid : List (String × DataW Unit)}
    (own : ownKnob C.prog.godebug = none) (started : os.Started) (noInit : C.prog.inits.idxOf? f = none) (hfn : C.prog.funcs[f]? = some fn)
    (hgb : globalsB C.prog = true) (hl : laidOutB C.prog = true) (hts : readB C.prog fn = true) (hv : s.vars = []) (hres : boolRes C.prog fn = true)
    (hspec : ∀ ds : List (DataW H), ds.length = fn.params.size → ((s.at F).fn H ds).results = [.lit (.bool true)] ∧ ((s.at F).fn H ds).args = ds ∧ ((s.at F).fn H ds).vars = [])
    (hva : (s.at F).vars = s.vars) (hh : (laid.filter fun x => x.2.handleName?.isSome) = [])
    (witness : ∃ (w : World) (tape : Tape) (i : Input), w.os = os ∧ (w.forCall tape i).Shaped C.prog ∧ i.vars = [] ∧ Input.okWide C.prog (w.forCall tape i) .any w.heap.size f i ∧
      s.preRow enc C.prog fn [] false laid (w.forCall tape i).memory i.args ∧ ({} : Assume).holds C.prog (lone (Frame.enter C.prog f i.args .normal) [] (w.forCall tape i)))
    (contract : ∀ (W : World) (base : Nat) (args : Array Value) (ds : List (DataW H)) (ps : List MemPlace), C.prog.globals.size ≤ W.heap.size →
      (∀ (j : Nat) t v, fn.params[j]? = some t → args[j]? = some v → Value.okWide C.prog W .any base t v) →
      DataW.TrodAll enc C.prog W 0 (fun _ => true) true fn.params.toList args.toList ds ps → k H ds = true → laidMet C.prog laid W → W.ShapedOpen C.prog → (DataW.weightsEach C.prog (fn.params.toList ++ s.bare.plain.varTypes C.prog) ds).all (· ≤ reachBytes) = true →
      Calls C.prog f args W fun e W' => e = .returned (.bool true) ∧ RowKit.Below W.heap.size W W') :
    ReturnsInHanded {} C os f .any (s.preRow enc C.prog fn [] false laid) ((s.at F).post enc C.prog fn false true false false) := by
  obtain ⟨tb, hres, hbool⟩ := boolRes_of hres
  have hts := readB_of hts
  refine returnsInHanded_of_row own started noInit hfn witness ?_
  intro W base args ds gs before hval hW _ hcond hwt hL hsh _
  have hL' : laidMet C.prog laid W := by
    unfold laidMetH at hL
    rw [hh] at hL
    exact hL
  have hW2 := hW
  obtain ⟨p, q, hA, hV, _⟩ := hW
  rw [hv] at hV
  obtain ⟨rfl, rfl⟩ := ChangeShapes.trodVars_none hV
  have hkk := hcond k hk
  rw [List.append_nil] at hkk hwt
  have hlen : ds.length = fn.params.size := by simpa using trodAll_len _ _ _ _ hA
  refine (contract W base args ds p (globals_there hgb hsh) hval hA hkk hL' hsh hwt).mono fun e W' ⟨he, hb⟩ => ?_
  subst he
  exact ⟨_, rfl, law_post hl hts (hva.trans hv) hres hbool (hva.symm ▸ hW2) (hspec ds hlen) hb⟩

end Go.Abs


namespace Go.Abs

variable {P : Program} {W : World} {φ : Inj} {H : AH}

/-- What one element of a row comes to. -/
def ElemIn {β : Type} (P : Program) (W : World) (sz : Nat) (R : AH → List Value → β → Prop) (cs : List Value) : Prop :=
  ∀ (φ : Inj) (H : AH), Imp P φ H W → ∃ φ' H' cs' b, Imp P φ' H' W ∧ φ.le φ' ∧ Ext H H' ∧ cs'.length = sz ∧ cs.length = sz ∧ LR φ' cs' cs ∧ R H' cs' b

theorem lr_get {φ : Inj} {l l' : List Value} (h : LR φ l l') {i : Nat} {v v' : Value} (h1 : l[i]? = some v) (h2 : l'[i]? = some v') : VR φ v v' := (get_of_forall₂ h).2 i v v' h1 h2

/-- So many elements come in, one behind the other. -/
theorem Imp.elems {β : Type} {sz : Nat} {R : AH → List Value → β → Prop} (hR : ∀ H H' cs b, Ext H H' → R H cs b → R H' cs b) : ∀ (n : Nat) (C : Nat → List Value), (∀ i, i < n → ElemIn P W sz R (C i)) → ∀ (φ : Inj) (H : AH), Imp P φ H W →
    ∃ φ' H', ∃ (C' : Nat → List Value) (bs : List β), Imp P φ' H' W ∧ φ.le φ' ∧ Ext H H' ∧ bs.length = n ∧ ∀ (i : Nat), i < n → (C' i).length = sz ∧ (C i).length = sz ∧ LR φ' (C' i) (C i) ∧ ∀ b, bs[i]? = some b → R H' (C' i) b := by
  intro n
  induction n with
  | zero => intro C _ φ H h; exact ⟨φ, H, fun _ => [], [], h, Inj.le_refl _, Fm.refl _ _, rfl, fun i hi => absurd hi (Nat.not_lt_zero _)⟩
  | succ n ih =>
    intro C hC φ H h
    obtain ⟨φ1, H1, C', bs, h1, h2, h3, h4, h5⟩ := ih C (fun i hi => hC i (by omega)) φ H h
    obtain ⟨φ2, H2, cs', b, g1, g2, g3, g4, g5, g6, g7⟩ := hC n (Nat.lt_succ_self n) φ1 H1 h1
    refine ⟨φ2, H2, fun i => if i = n then cs' else C' i, bs ++ [b], g1, Inj.le_trans h2 g2, h3.trans g3, by simp [h4], fun i hi => ?_⟩
    by_cases e : i = n
    · subst e
      simp only [if_true]
      refine ⟨g4, g5, g6, fun b' hb' => ?_⟩
      rw [List.getElem?_append_right (by omega), h4, Nat.sub_self] at hb'
      simp at hb'
      subst hb'
      exact g7
    · simp only [if_neg e]
      obtain ⟨k1, k2, k3, k4⟩ := h5 i (by omega)
      refine ⟨k1, k2, k3.mono g2, fun b' hb' => ?_⟩
      rw [List.getElem?_append_left (by omega)] at hb'
      exact hR _ _ _ _ g3 (k4 b' hb')

/-- An element's cells stand from an address on. -/
def Stands {β : Type} (sz : Nat) (R : AH → List Value → β → Prop) (H : AH) (q : Addr) (b : β) : Prop := ∃ cs : List Value, cs.length = sz ∧ (∀ j v, cs[j]? = some v → Cel H (q.add j) v) ∧ R H cs b

theorem Imp.slice {β : Type} {sz : Nat} (hsz : 0 < sz) {R : AH → List Value → β → Prop} (hR : ∀ H H' cs b, Ext H H' → R H cs b → R H' cs b) (h : Imp P φ H W) (hP : 0 < P.globals.size)
    {A : Option Addr} {n c : Nat} (hn : n ≤ c) (hc : c ≤ maxLen) (hnil : A = none → c = 0) {C : Nat → List Value} (hC : ∀ i, i < n → ElemIn P W sz R (C i))
    (hsp : ∀ a, A = some a → 0 < c → ∃ v, W.cell? a = some v)
    (hcell : ∀ a, A = some a → ∀ i, i < n → ∀ j, j < sz → W.cell? (a.add (i * sz + j)) = (C i)[j]?) :
    ∃ φ' H' s bs, Imp P φ' H' W ∧ φ.le φ' ∧ Ext H H' ∧ VR φ' (Sl3.v s) (.slice A n c) ∧ SlL (Stands sz R) sz H' s bs ∧ bs.length = n := by
  have hO : c ≠ OPEN := by
    have : OPEN = 9223372036854775808 := rfl
    have : maxLen = 9223372036854775807 := rfl
    omega
  have hm : n ≤ maxN := by
    have : maxN = 9223372036854775807 := rfl
    have : maxLen = 9223372036854775807 := rfl
    omega
  by_cases h0 : n = 0
  · subst h0
    cases A with
    | none =>
      obtain rfl : c = 0 := hnil rfl
      exact ⟨φ, H, Sl3.nil, [], h, Inj.le_refl _, Fm.refl _ _, VR.sliceNil 0 0, ⟨rfl, Nat.le_refl _, Nat.zero_le _, fun a ha => (by cases ha), trivial⟩, rfl⟩
    | some a =>
      obtain ⟨l, h1, _, _⟩ := h.glob 0 hP
      by_cases hc0 : c = 0
      · subst hc0
        refine ⟨φ, H, ⟨some ⟨0, 0, none⟩, 0, 0⟩, [], h, Inj.le_refl _, Fm.refl _ _, VR.sliceZero 0 0 l a h1, ⟨rfl, Nat.le_refl _, Nat.zero_le _, fun a ha => ?_, trivial⟩, rfl⟩
        cases ha; exact ⟨(h.inv.dom 0 l h1).1, rfl⟩
      · obtain ⟨v, hv⟩ := hsp a rfl (by omega)
        obtain ⟨c', e, f, k1, k2, k3⟩ := cell?_some hv
        obtain ⟨g1, g2⟩ := h.add (blk := a.block) (off := a.off) (c := #[]) (c' := c') (e := e) (f := f) k1 (fun i v hv => by simp at hv)
        refine ⟨_, _, ⟨some ⟨H.next, 0, none⟩, 0, c⟩, [], g1, g2, Fm.push _ _ _, ?_, ⟨rfl, Nat.zero_le _, Nat.zero_le _, fun a' ha' => ?_, trivial⟩, rfl⟩
        · have := VR.slice H.next 0 0 c ⟨a.block, a.off, 0, 1⟩ (Inj.upd_same φ H.next ⟨a.block, a.off, 0, 1⟩) hO
          rw [show (⟨(⟨a.block, a.off, 0, 1⟩ : Loc).blk, (⟨a.block, a.off, 0, 1⟩ : Loc).off + 0, none⟩ : Addr) = a from addr_eta a k2] at this
          exact this
        · cases ha'; exact ⟨by simp, rfl⟩
  · cases A with
    | none => exact absurd (hnil rfl) (by omega)
    | some a =>
      obtain ⟨φ1, H1, C', bs, h1, h2, h3, h4, h5⟩ := Imp.elems hR n C hC φ H h
      -- the row
      have hsize : 0 < n * sz := Nat.mul_pos (by omega) hsz
      have hdiv : ∀ x, x < n * sz → x / sz < n := fun x hx => Nat.div_lt_of_lt_mul (by rw [Nat.mul_comm]; exact hx)
      let c' : Array Value := Array.ofFn fun x : Fin (n * sz) => ((C' (x.val / sz))[x.val % sz]?).getD undef
      have hget : ∀ x, x < n * sz → c'[x]? = (C' (x / sz))[x % sz]? := by
        intro x hx
        have hl := (h5 (x / sz) (hdiv x hx)).1
        have hmod := Nat.mod_lt x hsz
        have : (C' (x / sz))[x % sz]? = some (C' (x / sz))[x % sz] := List.getElem?_eq_getElem (by omega)
        simp only [c', Array.getElem?_ofFn, dif_pos hx, this, Option.getD_some]
      obtain ⟨φ2, e, g1, g2, g3⟩ := h1.cells (a := a) (c := c') (by simp [c', hsize]) (fun x v hv => by
        have hx : x < n * sz := by
          have := (Array.getElem?_eq_some_iff.1 hv).1
          simpa [c'] using this
        have hmod := Nat.mod_lt x hsz
        obtain ⟨k1, k2, k3, _⟩ := h5 (x / sz) (hdiv x hx)
        rw [hget x hx] at hv
        have hw : (C (x / sz))[x % sz]? = some ((C (x / sz))[x % sz]'(by omega)) := List.getElem?_eq_getElem (by omega)
        refine ⟨_, ?_, lr_get k3 hv hw⟩
        have := hcell a rfl (x / sz) (hdiv x hx) (x % sz) hmod
        rw [show x / sz * sz + x % sz = x by rw [Nat.mul_comm]; exact Nat.div_add_mod x sz] at this
        rw [this, hw])
      refine ⟨φ2, _, ⟨some ⟨H1.next, 0, none⟩, n, c⟩, bs, g1, Inj.le_trans h2 g2, h3.trans (Fm.push _ _ _), g3 n c hO, ⟨h4.symm, hn, hm, fun a' ha' => ?_, LAt.of fun j hj => ⟨_, rfl, ?_⟩⟩, h4⟩
      · cases ha'; exact ⟨by simp, rfl⟩
      · rw [h4] at hj
        obtain ⟨k1, k2, k3, k4⟩ := h5 j hj
        have hb : bs[j]? = some bs[j] := List.getElem?_eq_getElem (by omega)
        refine ⟨C' j, k1, fun i v hv => ?_, hR _ _ _ _ (Fm.push _ _ _) (k4 _ hb)⟩
        have hi : i < sz := by
          have := (List.getElem?_eq_some_iff.1 hv).1
          omega
        rw [add_add rfl, Nat.zero_add]
        have hx : j * sz + i < n * sz := by
          have : (j + 1) * sz ≤ n * sz := Nat.mul_le_mul_right sz (by omega)
          rw [Nat.add_mul, Nat.one_mul] at this
          omega
        have e1 : (j * sz + i) / sz = j := by
          rw [Nat.mul_comm, Nat.mul_add_div hsz, Nat.div_eq_of_lt hi, Nat.add_zero]
        have e2 : (j * sz + i) % sz = i := by
          rw [Nat.mul_comm, Nat.mul_add_mod, Nat.mod_eq_of_lt hi]
        refine ⟨?_, ?_⟩
        · rw [view_cell, hget _ hx, e1, e2]
          exact hv
        · rw [addr_add]; simp

end Go.Abs


namespace Go.Abs

theorem ba_list (s t : ByteArray) : (s.toList == t.toList) = decide (s = t) := by
  rw [ByteArray.toList_eq, ByteArray.toList_eq, Bool.eq_iff_iff]
  simp only [beq_iff_eq, decide_eq_true_eq]
  obtain ⟨a⟩ := s
  obtain ⟨b⟩ := t
  simp only [ByteArray.mk.injEq]
  exact Array.toList_inj

variable {P : Program} {γ : Type} [DecidableEq γ]

/-- Keys of a type: how they stand in the heap. -/
structure KeyK (P : Program) (kt : TypeId) (enc : γ → Value) : Prop where
  und : ∃ d, P.underlying kt = some d ∧ ((∀ a b, Instr.sameNow d (enc a) (enc b) = some (decide (a = b))) ∨ ((∀ a b, Instr.sameNow d (enc a) (enc b) = none) ∧ ∀ a b, peval P (Op.equal kt (enc a) (enc b)) = some (decide (a = b))))
  chk : ∀ a b, peval P (Instr.checkKey b 10000 kt (enc a)) = some ()
  bits : ∀ a, Instr.sameBits 10000 (enc a) (enc a) = true

def look (l : List (γ × Value)) (k : γ) : Option Value := (l.find? fun x => decide (x.1 = k)).map (·.2)

def Ents (enc : γ → Value) (es : List MapEntry) (l : List (γ × Value)) : Prop := es.map (fun e => (e.key, e.val)) = l.map fun x => (enc x.1, x.2)

/-- A map that may be written, as a function of its keys. -/
def MapA (enc : γ → Value) (H : AH) (id : Nat) (f : γ → Option Value) : Prop :=
  ∃ es n opn esz l, H.get id = some { obj := .map es n, opn := opn, esz := esz, ro := false } ∧ Ents enc es.toList l ∧ ∀ k, look l k = f k

theorem MapA.fr {W : Nat → Prop} {enc : γ → Value} {H H' : AH} {id : Nat} {f : γ → Option Value} (h : MapA enc H id f) (hf : Fm W H H') (hlt : id < H.next) (hw : ¬ W id) : MapA enc H' id f := by
  obtain ⟨es, n, opn, esz, l, h1, h2, h3⟩ := h
  exact ⟨es, n, opn, esz, l, hf.2 _ _ hlt hw h1, h2, h3⟩

end Go.Abs

