/- An abstract interpreter of the loaded program, its soundness, and the laws of a symbolic walk, part 3. No condition. -/
import Derived.Test.YtgkogeglciogkaaGreatDoorNobodyEng2
import Derived.OrdersHeld
import Derived.LaidSub
namespace Go.Abs

variable {P : Program} {ne : NE} {m n : Nat}

section
variable {E : Ent} {kn : KN} {ls : Lcs} {H : AH} {a : Act} {w w' : World} {φ : Inj} {cs : List Nat} {Q : Exit → Act → World → Prop}

/-! ### Many operations at once -/

def runLs (P : Program) (m n : Nat) (ops : Array Oper) : Nat → Nat → KN → Lcs → AH → Option (KN × Lcs × AH)
  | 0, _, kn, ls, H => some (kn, ls, H)
  | j + 1, k, kn, ls, H => match ops[k]? with
    | some o => match wantV ops kn o with
      | some true => bif dstV n o then (match locOp P kn ls o with
        | some (kv, ls') => runLs P m n ops j (k + 1) (putV kn o.dst kv) ls' H
        | none => bif opV P n ops kn o && noCall o then (match runOp P (NE.plain 0) ih0 m o (evV kn) H with
          | some (v, H') => runLs P m n ops j (k + 1) (putV kn o.dst (.val v)) ls H'
          | none => none) else none) else none
      | some false => bif skV n ops kn o then runLs P m n ops j (k + 1) (putV kn o.dst (.val undef)) ls H else none
      | none => none
    | none => none

theorem opAt_of {ops : Array Oper} {k : Nat} {o : Oper} (h : ops[k]? = some o) : opAt ops k = o := by
  unfold opAt
  rw [Array.getD_eq_getD_getElem?, h]; rfl

theorem RS.loc {ops : Array Oper} {k : Nat} {kv : KV} {ls' : Lcs} (ho : ops[k]? = some (opAt ops k)) (hw : wantV ops kn (opAt ops k) = some true) (hd : dstV n (opAt ops k) = true) (hl : locOp P kn ls (opAt ops k) = some (kv, ls'))
    (h : RS P ne m E n ops (k + 1) (putV kn (opAt ops k).dst kv) ls' H Q) : RS P ne m E n ops k kn ls H Q := by
  intro a w hs
  obtain ⟨φ, cs, hs⟩ := hs
  rw [range_step ho, wpOps_cons]
  unfold wpOp
  rw [ho]
  simp only [wantV_ok hs hw, if_true]
  left
  exact locOp_ok hs hl hd fun v' w' cs' h' _ _ => h _ w' ⟨φ, cs', h'⟩

theorem RS.ls_ {ops : Array Oper} : ∀ (j : Nat) {k : Nat} {kn kn' : KN} {ls ls' : Lcs} {H H' : AH}, runLs P m n ops j k kn ls H = some (kn', ls', H') → RS P ne m E n ops (k + j) kn' ls' H' Q → RS P ne m E n ops k kn ls H Q := by
  intro j
  induction j with
  | zero =>
    intro k kn kn' ls ls' H H' hr h
    simp only [runLs, Option.some.injEq, Prod.mk.injEq] at hr
    obtain ⟨rfl, rfl, rfl⟩ := hr
    exact h
  | succ j ihj =>
    intro k kn kn' ls ls' H H' hr h
    rw [show k + (j + 1) = (k + 1) + j by omega] at h
    simp only [runLs] at hr
    cases ho : ops[k]? with
    | none => rw [ho] at hr; cases hr
    | some o =>
      have e := opAt_of ho
      subst e
      simp only [ho] at hr
      cases hw : wantV ops kn (opAt ops k) with
      | none => rw [hw] at hr; cases hr
      | some b =>
        simp only [hw] at hr
        cases b with
        | true =>
          simp only at hr
          cases hd : dstV n (opAt ops k) with
          | false => rw [hd] at hr; cases hr
          | true =>
            simp only [hd, cond_true] at hr
            cases hl : locOp P kn ls (opAt ops k) with
            | some p =>
              obtain ⟨kv, ls1⟩ := p
              simp only [hl] at hr
              exact RS.loc ho hw hd hl (ihj hr h)
            | none =>
              simp only [hl] at hr
              cases hB : opV P n ops kn (opAt ops k) with
              | false => rw [hB] at hr; cases hr
              | true =>
                cases hN : noCall (opAt ops k) with
                | false => rw [hB, hN] at hr; cases hr
                | true =>
                  simp only [hB, hN, Bool.and_self, cond_true] at hr
                  cases hv : runOp P (NE.plain 0) ih0 m (opAt ops k) (evV kn) H with
                  | none => rw [hv] at hr; cases hr
                  | some p =>
                    obtain ⟨v, H1⟩ := p
                    rw [hv] at hr
                    exact RS.op ho hB hv hN (ihj hr h)
        | false =>
          simp only at hr
          cases hB : skV n ops kn (opAt ops k) with
          | false => rw [hB] at hr; cases hr
          | true =>
            simp only [hB, cond_true] at hr
            exact RS.skp ho hB (ihj hr h)

theorem RS.many {ops : Array Oper} {k : Nat} (j : Nat) (new : KN) (ls' : Lcs) {H' : AH} (hr : runLs P m n ops j k kn ls H = some (new ++ kn, ls', H')) (h : RS P ne m E n ops (k + j) (new ++ kn) ls' H' Q) : RS P ne m E n ops k kn ls H Q :=
  RS.ls_ j hr h

/-- A truth value is met both ways. -/
theorem SS.fix (hs : SS P ne m E n kn ls H a w) (t : Nat) {b c : Bool} (hb : b = c) (hl : lkV kn t = some (.val (.bool b))) : SS P ne m E n ((t, .val (.bool c)) :: kn) ls H a w := by
  subst hb
  obtain ⟨φ, cs, h⟩ := hs
  refine ⟨φ, cs, h.glob, h.inv, h.step, h.len, h.loc, h.inj, h.low, fun s kv hh => ?_, h.size, h.defers, h.sane, h.inv0⟩
  simp only [lkV] at hh
  cases hq : Nat.beq t s with
  | true =>
    rw [hq] at hh
    have := Nat.eq_of_beq_eq_true hq
    subst this
    cases hh
    exact h.slot t _ hl
  | false => rw [hq] at hh; exact h.slot s kv hh

theorem RS.fix {ops : Array Oper} {k : Nat} (t : Nat) {b : Bool} (c : Bool) (hb : b = c) (hl : lkV kn t = some (.val (.bool b))) (h : RS P ne m E n ops k ((t, .val (.bool c)) :: kn) ls H Q) : RS P ne m E n ops k kn ls H Q :=
  fun a w hs => h a w (hs.fix t hb hl)

theorem WS.fix {c : Code} (t : Nat) {b : Bool} (d : Bool) (hb : b = d) (hl : lkV kn t = some (.val (.bool b))) (h : WS P ne m E n c ((t, .val (.bool d)) :: kn) ls H Q) : WS P ne m E n c kn ls H Q :=
  fun a w hs => h a w (hs.fix t hb hl)

/-- One operation on values, by a word of its own. -/
theorem RS.at {ops : Array Oper} {k : Nat} (v : Value) {H' : AH} (ho : ops[k]? = some (opAt ops k)) (hB : (opV P n ops kn (opAt ops k) && noCall (opAt ops k)) = true) (hr : runOp P (NE.plain 0) ih0 m (opAt ops k) (evV kn) H = some (v, H'))
    (h : RS P ne m E n ops (k + 1) (putV kn (opAt ops k).dst (.val v)) ls H' Q) : RS P ne m E n ops k kn ls H Q := by
  rw [Bool.and_eq_true] at hB
  exact RS.op ho hB.1 hr hB.2 h

/-! ### Ways out -/

def blkS (i : Nat) (Q : Exit → Act → World → Prop) : Exit → Act → World → Prop
  | .exit j, a, w => bif Nat.beq j i then Q .normal a w else Q (.exit j) a w
  | e, a, w => Q e a w

theorem WS.blk {c : Code} (i : Nat) (hc : isBlock i c = true) (h : WS P ne m E n (cfst c) kn ls H (blkS i Q)) : WS P ne m E n c kn ls H Q := by
  refine WS.block i hc fun a w hs => wp_mono (h a w hs) fun e a w hq => ?_
  cases e with
  | exit j =>
    show (if j = i then _ else _)
    have hq : (bif Nat.beq j i then Q .normal a w else Q (.exit j) a w) := hq
    cases hb : Nat.beq j i with
    | true => rw [hb] at hq; rw [if_pos (Nat.eq_of_beq_eq_true hb)]; exact hq
    | false => rw [hb] at hq; rw [if_neg (Nat.ne_of_beq_eq_false hb)]; exact hq
  | _ => exact hq

theorem sqR {N : Act → World → Prop} (h : Q .ret a w) : Exit.then N Q .ret a w := h
theorem sqE {N : Act → World → Prop} {i : Nat} (h : Q (.exit i) a w) : Exit.then N Q (.exit i) a w := h
theorem bkN {i : Nat} (h : Q .normal a w) : blkS i Q .normal a w := h
theorem bkR {i : Nat} (h : Q .ret a w) : blkS i Q .ret a w := h
theorem bkE {i : Nat} (h : Q .normal a w) : blkS i Q (.exit i) a w := by
  show (bif Nat.beq i i then Q .normal a w else Q (.exit i) a w)
  rw [Nat.beq_refl]; exact h
theorem bkX {i j : Nat} (hb : Nat.beq j i = false) (h : Q (.exit j) a w) : blkS i Q (.exit j) a w := by
  show (bif Nat.beq j i then Q .normal a w else Q (.exit j) a w)
  rw [hb]; exact h

/-! ### Loops -/

def lpS {S R : Type} (P : Program) (ne : NE) (m : Nat) (E : Ent) (n : Nat) (knOf : S → KN) (lsOf : S → Lcs) (hOf : S → AH) (i : Nat) (QR : R → Act → World → Prop) (o : Lp S R) : Exit → Act → World → Prop
  | .normal, a, w => ∃ s, o = .next s ∧ SS P ne m E n (knOf s) (lsOf s) (hOf s) a w
  | .exit j, a, w => ∃ s, o = .brk s ∧ j = i ∧ SS P ne m E n (knOf s) (lsOf s) (hOf s) a w
  | .ret, a, w => ∃ r, o = .ret r ∧ QR r a w
  | _, _, _ => False

theorem rounds_of {S R : Type} {c : Code} {body : S → Option (Lp S R)} {knOf : S → KN} {lsOf : S → Lcs} {hOf : S → AH} {i : Nat} {QR : R → Act → World → Prop}
    (hbody : ∀ s o, body s = some o → WS P ne m E n c (knOf s) (lsOf s) (hOf s) (lpS P ne m E n knOf lsOf hOf i QR o)) (hQ1 : ∀ s a w, SS P ne m E n (knOf s) (lsOf s) (hOf s) a w → (∀ r : R, True) → True) :
    ∀ (k : Nat) (s : S) (o : S ⊕ R), iterO body k s = some o → ∀ {Q : Exit → Act → World → Prop}, (∀ s', o = .inl s' → ∀ a w, SS P ne m E n (knOf s') (lsOf s') (hOf s') a w → Q (.exit i) a w) → (∀ r, o = .inr r → ∀ a w, QR r a w → Q .ret a w) →
      ∀ a w, SS P ne m E n (knOf s) (lsOf s) (hOf s) a w → Code.rounds P c Q k a w := by
  intro k
  induction k with
  | zero => intro s o h; cases h
  | succ k ih =>
    intro s o h Q h1 h2 a w hs
    rw [rounds_succ]
    simp only [iterO] at h
    cases hb : body s with
    | none => rw [hb] at h; cases h
    | some l =>
      rw [hb] at h
      refine wp_mono (hbody s l hb a w hs) fun e a' w' hq => ?_
      cases e with
      | normal =>
        obtain ⟨s', rfl, hs'⟩ := hq
        exact ih s' o h h1 h2 a' w' hs'
      | exit j =>
        obtain ⟨s', rfl, rfl, hs'⟩ := hq
        simp only [Option.some.injEq] at h
        exact h1 s' h.symm a' w' hs'
      | ret =>
        obtain ⟨r, rfl, hr⟩ := hq
        simp only [Option.some.injEq] at h
        exact h2 r h.symm a' w' hr
      | _ => exact hq.elim

theorem WS.loop_ {S R : Type} {c : Code} (hc : isLoop c = true) (body : S → Option (Lp S R)) (knOf : S → KN) (lsOf : S → Lcs) (hOf : S → AH) (i : Nat) (QR : R → Act → World → Prop)
    (hbody : ∀ s o, body s = some o → WS P ne m E n (cfst c) (knOf s) (lsOf s) (hOf s) (lpS P ne m E n knOf lsOf hOf i QR o)) {s : S} {o : S ⊕ R} (hl : loopO body s = some o) (k : Nat) (hsub : SubV (knOf s) kn) (hls : ls.take k = lsOf s) (hbl : belowL k (knOf s) = true) (hH : H = hOf s)
    (h1 : ∀ s', o = .inl s' → ∀ a w, SS P ne m E n (knOf s') (lsOf s') (hOf s') a w → Q (.exit i) a w) (h2 : ∀ r, o = .inr r → ∀ a w, QR r a w → Q .ret a w) : WS P ne m E n c kn ls H Q := by
  cases c with
  | loop body' =>
    intro a w hs
    obtain ⟨k', hk⟩ := loopO_iff.1 hl
    subst hH
    exact wp_loop_rounds k' (rounds_of hbody (fun _ _ _ _ _ => trivial) k' s o hk h1 h2 a w (hs.sub hsub k hls hbl))
  | _ => cases hc

theorem WS.loopI {S R : Type} {c : Code} (hc : isLoop c = true) (body : S → Option (Lp S R)) (knOf : S → KN) (lsOf : S → Lcs) (hOf : S → AH) (i : Nat) (QR : R → Act → World → Prop)
    (hbody : ∀ s o, body s = some o → WS P ne m E n (cfst c) (knOf s) (lsOf s) (hOf s) (lpS P ne m E n knOf lsOf hOf i QR o)) {s s' : S} (hl : loopO body s = some (.inl s')) (k : Nat) (hsub : SubV (knOf s) kn) (hls : ls.take k = lsOf s) (hbl : belowL k (knOf s) = true) (hH : H = hOf s)
    (h1 : ∀ a w, SS P ne m E n (knOf s') (lsOf s') (hOf s') a w → Q (.exit i) a w) : WS P ne m E n c kn ls H Q :=
  WS.loop_ hc body knOf lsOf hOf i QR hbody hl k hsub hls hbl hH (fun s2 e => by cases e; exact h1) (fun r e => by cases e)

theorem WS.loopR {S R : Type} {c : Code} (hc : isLoop c = true) (body : S → Option (Lp S R)) (knOf : S → KN) (lsOf : S → Lcs) (hOf : S → AH) (i : Nat) (QR : R → Act → World → Prop)
    (hbody : ∀ s o, body s = some o → WS P ne m E n (cfst c) (knOf s) (lsOf s) (hOf s) (lpS P ne m E n knOf lsOf hOf i QR o)) {s : S} {r : R} (hl : loopO body s = some (.inr r)) (k : Nat) (hsub : SubV (knOf s) kn) (hls : ls.take k = lsOf s) (hbl : belowL k (knOf s) = true) (hH : H = hOf s)
    (h2 : ∀ a w, QR r a w → Q .ret a w) : WS P ne m E n c kn ls H Q :=
  WS.loop_ hc body knOf lsOf hOf i QR hbody hl k hsub hls hbl hH (fun s2 e => by cases e) (fun r2 e => by cases e; exact h2)

section
variable {S R : Type} {knOf : S → KN} {lsOf : S → Lcs} {hOf : S → AH} {i : Nat} {QR : R → Act → World → Prop}
theorem lsN {o : Lp S R} {s : S} (ho : o = .next s) (h : SS P ne m E n (knOf s) (lsOf s) (hOf s) a w) : lpS P ne m E n knOf lsOf hOf i QR o .normal a w := ⟨s, ho, h⟩
theorem lsB {o : Lp S R} {s : S} (ho : o = .brk s) (h : SS P ne m E n (knOf s) (lsOf s) (hOf s) a w) : lpS P ne m E n knOf lsOf hOf i QR o (.exit i) a w := ⟨s, ho, rfl, h⟩
theorem lsR {o : Lp S R} {r : R} (ho : o = .ret r) (h : QR r a w) : lpS P ne m E n knOf lsOf hOf i QR o .ret a w := ⟨r, ho, h⟩
end

/-! ### Where two ways meet -/

def jnS (P : Program) (ne : NE) (m : Nat) (E : Ent) (n : Nat) (kn : KN) (ls : Lcs) (H : AH) (Q : Exit → Act → World → Prop) : Exit → Act → World → Prop
  | .normal, a, w => SS P ne m E n kn ls H a w
  | e, a, w => Q e a w

theorem WS.join {c : Code} {N : Act → World → Prop} (kn2 : KN) (ls2 : Lcs) (H2 : AH) (h : WS P ne m E n c kn ls H (jnS P ne m E n kn2 ls2 H2 Q)) (hN : ∀ a w, SS P ne m E n kn2 ls2 H2 a w → N a w) : WS P ne m E n c kn ls H (Exit.then N Q) := by
  refine fun a w hs => wp_mono (h a w hs) fun e a w hq => ?_
  cases e with
  | normal => exact hN a w hq
  | _ => exact hq

theorem jsN {kn2 : KN} {ls2 : Lcs} {H2 : AH} (h : SS P ne m E n kn2 ls2 H2 a w) : jnS P ne m E n kn2 ls2 H2 Q .normal a w := h
/-! ### A variable of one's own is handed over to the heap -/

def pubK (i : Nat) (id : Nat) : KN → KN
  | [] => []
  | (t, .loc j off) :: l => (t, bif Nat.beq j i then .val (.pointer (some ⟨id, off, none⟩)) else .loc j off) :: pubK i id l
  | (t, .sli j n) :: l => (t, bif Nat.beq j i then .val (.slice (some ⟨id, 0, none⟩) n n) else .sli j n) :: pubK i id l
  | x :: l => x :: pubK i id l

theorem lk_pub {i id : Nat} : ∀ {kn : KN} {t : Nat} {kv : KV}, lkV (pubK i id kn) t = some kv → (∃ off, lkV kn t = some (.loc i off) ∧ kv = .val (.pointer (some ⟨id, off, none⟩))) ∨ (∃ n, lkV kn t = some (.sli i n) ∧ kv = .val (.slice (some ⟨id, 0, none⟩) n n)) ∨ lkV kn t = some kv := by
  intro kn
  induction kn with
  | nil => intro t kv h; cases h
  | cons p l ih =>
    obtain ⟨s, v⟩ := p
    intro t kv h
    cases v with
    | val v =>
      simp only [pubK, lkV] at h ⊢
      cases hq : Nat.beq s t with
      | true => rw [hq] at h; cases h; exact .inr (.inr rfl)
      | false => rw [hq] at h; exact ih h
    | loc j off =>
      simp only [pubK, lkV] at h ⊢
      cases hq : Nat.beq s t with
      | true =>
        rw [hq] at h
        simp only [cond_true, Option.some.injEq] at h ⊢
        cases hj : Nat.beq j i with
        | true =>
          rw [hj] at h
          have := Nat.eq_of_beq_eq_true hj
          subst this
          subst h
          exact .inl ⟨off, rfl, rfl⟩
        | false => rw [hj] at h; subst h; exact .inr (.inr rfl)
      | false => rw [hq] at h; exact ih h
    | sli j off =>
      simp only [pubK, lkV] at h ⊢
      cases hq : Nat.beq s t with
      | true =>
        rw [hq] at h
        simp only [cond_true, Option.some.injEq] at h ⊢
        cases hj : Nat.beq j i with
        | true =>
          rw [hj] at h
          have := Nat.eq_of_beq_eq_true hj
          subst this
          subst h
          exact .inr (.inl ⟨off, rfl, rfl⟩)
        | false => rw [hj] at h; subst h; exact .inr (.inr rfl)
      | false => rw [hq] at h; exact ih h

def pubB (e : TypeId) (cells : List Value) : Blk := { obj := .cells cells.toArray e (0, 0), opn := false, esz := 0, ro := false }

theorem SSφ.pub (h : SSφ P ne m E n kn ls H a w φ cs) (i : Nat) {e : TypeId} {cells : List Value} (hi : ls[i]? = some (some (e, cells))) : ∃ φ', φ.le φ' ∧ SSφ P ne m E n (pubK i H.next kn) (ls.set i none) (H.push (pubB e cells)) a w φ' cs := by
  have hlt : i < cs.length := by rw [h.len]; rw [List.getElem?_eq_some_iff] at hi; exact hi.1
  have hci : cs[i]? = some cs[i] := by simp [hlt]
  obtain ⟨g1, ⟨rs, g2, g3⟩, g4⟩ := h.loc i _ _ hci hi
  have hfr : φ H.next = none := by
    cases hq : φ H.next with
    | none => rfl
    | some l => have := (h.inv.dom _ _ hq).1; omega
  have hle : φ.le (φ.upd H.next ⟨cs[i], 0, 0, 0⟩) := Inj.le_upd _ hfr
  have hup : ∀ id l, (φ.upd H.next ⟨cs[i], 0, 0, 0⟩) id = some l → (id = H.next ∧ l = ⟨cs[i], 0, 0, 0⟩) ∨ φ id = some l := by
    intro id l hl
    by_cases e : id = H.next
    · subst e; rw [Inj.upd_same] at hl; cases hl; exact .inl ⟨rfl, rfl⟩
    · rw [Inj.upd_other _ _ e] at hl; exact .inr hl
  have hw : cs[i] < w.heap.size := by rw [Array.getElem?_eq_some_iff] at g2; exact g2.1
  have hnew : (φ.upd H.next ⟨cs[i], 0, 0, 0⟩) H.next = some ⟨cs[i], 0, 0, 0⟩ := Inj.upd_same _ _ _
  have hOR : OR (φ.upd H.next ⟨cs[i], 0, 0, 0⟩) ⟨cs[i], 0, 0, 0⟩ (pubB e cells) w := by
    have hA := AR_iff.2 (show LR φ cells.toArray.toList rs.toList by simpa using g3)
    refine ⟨rs, e, (0, 0), g2, ⟨fun j v hv => ?_, Nat.zero_le _, fun hh => (by cases hh), fun _ => ⟨rfl, hA.1.symm⟩, fun _ => .inl (Nat.le_refl _), rfl⟩⟩
    obtain ⟨y, hy, hv'⟩ := hA.get hv
    exact ⟨y, by simpa using hy, hv'.mono hle⟩
  refine ⟨φ.upd H.next ⟨cs[i], 0, 0, 0⟩, hle, h.glob.mono hle, ⟨fun id l hl => ?_, fun id b hb => ?_, fun id id' b b' l l' hb hb' hne hr ha ha' hl hl' => ?_⟩, ?_, by simp [h.len], fun j c x hc hx => ?_, h.inj, h.low, fun t kv hl => ?_, h.size, h.defers, h.sane, h.inv0⟩
  · show id < H.next + 1 ∧ _
    rcases hup id l hl with ⟨rfl, rfl⟩ | hl
    · exact ⟨by omega, hw⟩
    · have := h.inv.dom id l hl
      exact ⟨by omega, this.2⟩
  · by_cases ei : id = H.next
    · subst ei
      rw [AH.get_push_same] at hb
      cases hb
      exact ⟨_, hnew, hOR⟩
    · rw [AH.get_push_other _ _ ei] at hb
      obtain ⟨l, h1, h2⟩ := h.inv.obj id b hb
      exact ⟨l, hle _ _ h1, h2.mono hle⟩
  · by_cases ei : id = H.next
    · subst ei
      rw [hnew] at hl; cases hl
      rcases hup id' l' hl' with ⟨rfl, _⟩ | hl'
      · exact absurd rfl hne
      · exact fun e => g4 id' l' hl' e.symm
    · rw [AH.get_push_other _ _ ei] at hb
      have hl : φ id = some l := (hup id l hl).resolve_left (fun hh => ei hh.1)
      by_cases ej : id' = H.next
      · subst ej
        rw [hnew] at hl'; cases hl'
        exact g4 id l hl
      · rw [AH.get_push_other _ _ ej] at hb'
        have hl' : φ id' = some l' := (hup id' l' hl').resolve_left (fun hh => ej hh.1)
        exact h.inv.sep id id' b b' l l' hb hb' hne hr ha ha' hl hl'
  · have s := h.step
    refine ⟨Nat.le_succ_of_le s.le, fun id l hl => hle _ _ (s.ext _ _ hl), fun id l hl hn => ?_, fun id hh => ?_, s.size, s.keep, s.os, s.tape, s.output⟩
    · rcases hup id l hl with ⟨rfl, rfl⟩ | hl
      · exact ⟨s.le, .inl g1⟩
      · exact s.new id l hl hn
    · by_cases ei : id = H.next
      · subst ei
        right
        cases hq : E.φ H.next with
        | none => rfl
        | some l => have := (h.inv0.dom _ _ hq).1; have := s.le; omega
      · rw [AH.get_push_other _ _ ei] at hh
        exact s.alv id hh
  · rw [List.getElem?_set] at hx
    by_cases hij : i = j
    · subst hij
      rw [if_pos rfl] at hx
      split at hx <;> cases hx
    · rw [if_neg hij] at hx
      obtain ⟨q1, ⟨cs', q2, q3⟩, q4⟩ := h.loc j c x hc hx
      refine ⟨q1, ⟨cs', q2, q3.mono' hle⟩, fun id l hl => ?_⟩
      rcases hup id l hl with ⟨rfl, rfl⟩ | hl
      · intro e
        have e : cs[i] = c := e
        exact hij (h.inj i j c (by rw [hci, e]) hc)
      · exact q4 id l hl
  · rcases lk_pub hl with ⟨off, h1, rfl⟩ | ⟨nn, h1, rfl⟩ | h1
    · obtain ⟨c, k1, k2⟩ := h.slot t _ h1
      rw [hci] at k1; cases k1
      show VR _ _ _
      rw [k2]
      have := VR.ptr (φ := φ.upd H.next ⟨cs[i], 0, 0, 0⟩) H.next off ⟨cs[i], 0, 0, 0⟩ hnew
      simpa using this
    · obtain ⟨⟨c, k1, k2⟩, k3⟩ := h.slot t _ h1
      rw [hci] at k1; cases k1
      show VR _ _ _
      rw [k2]
      have := VR.slice (φ := φ.upd H.next ⟨cs[i], 0, 0, 0⟩) H.next 0 nn nn ⟨cs[i], 0, 0, 0⟩ hnew k3
      simpa using this
    · exact (h.slot t kv h1).mono hle

theorem SS.pub (hs : SS P ne m E n kn ls H a w) (i : Nat) {e : TypeId} {cells : List Value} (hi : ls[i]? = some (some (e, cells))) : SS P ne m E n (pubK i H.next kn) (ls.set i none) (H.push (pubB e cells)) a w := by
  obtain ⟨φ, cs, h⟩ := hs
  obtain ⟨φ', _, h'⟩ := h.pub i hi
  exact ⟨φ', cs, h'⟩

theorem RS.pub {ops : Array Oper} {k : Nat} (i : Nat) (e : TypeId) (cells : List Value) (kn' : KN) (ls' : Lcs) (hi : ls[i]? = some (some (e, cells))) (hk : pubK i H.next kn = kn') (hl : ls.set i none = ls') (h : RS P ne m E n ops k kn' ls' (H.push (pubB e cells)) Q) : RS P ne m E n ops k kn ls H Q := by
  subst hk hl
  exact fun a w hs => h a w (hs.pub i hi)

end
end Go.Abs


namespace Go.Abs

variable {P : Program} {ne : NE} {m n : Nat}

/-! ### What reads, reads the same in all worlds that have kept what was there -/

theorem agree.cell {w1 w : World} (h : agree w1 w) {a : Addr} {v : Value} (hc : w1.cell? a = some v) : w.cell? a = some v := by
  unfold World.cell? at hc ⊢
  cases hb : w1.heap[a.block]? with
  | none => rw [hb] at hc; cases hc
  | some o =>
    have hlt : a.block < w1.heap.size := by rw [Array.getElem?_eq_some_iff] at hb; exact hb.1
    rw [h _ hlt, hb]
    rw [hb] at hc
    exact hc

theorem peval_bind_some {α β : Type} {s : Sem α} {f : α → Sem β} {a : α} (h : peval P s = some a) : peval P (s >>= f) = peval P (f a) := by
  show peval P (s.bind f) = _
  rw [pbind, h]; rfl

theorem aAsk_peval {φ : Inj} (kt : TypeId) (k : Value) {es es' : List MapEntry} (h : F2 (ER φ) es es') : ∀ (n : Nat) (r : Option (Nat × Value)), aAsk P kt k es n = some r →
    ∃ r', peval P (Instr.findAsking kt k es' n) = some r' ∧ FindR φ r r' := by
  induction h with
  | nil => intro n r hr; simp only [aAsk, Option.some.injEq] at hr; subst hr; exact ⟨none, rfl, trivial⟩
  | @cons a b _ _ hab _ ih =>
    intro n r hr
    simp only [aAsk] at hr
    cases hp : peval P (Op.equal kt k a.key) with
    | none => rw [hp] at hr; cases hr
    | some q =>
      rw [hp] at hr
      rw [hab.1] at hp
      cases q
      · obtain ⟨r', h1, h2⟩ := ih (n + 1) r hr
        refine ⟨r', ?_, h2⟩
        simp only [Instr.findAsking]
        rw [peval_bind_some hp]
        exact h1
      · simp only [Option.some.injEq] at hr
        subst hr
        refine ⟨some (n, b.val), ?_, rfl, hab.2.1⟩
        simp only [Instr.findAsking]
        rw [peval_bind_some hp]
        rfl

theorem peval_und {t : TypeId} {d : TypeDesc} (h : P.underlying t = some d) : peval P (underlying t) = some d := by
  simp only [Go.underlying, Go.program, bind, Pure.pure, Sem.bind, peval, h]

theorem aFind_peval {φ : Inj} {kt : TypeId} {k : Value} {es es' : List MapEntry} (h : F2 (ER φ) es es') {r : Option (Nat × Value)} (hr : aFind P kt k es = some r) :
    ∃ r', peval P (Instr.findKey kt k es') = some r' ∧ FindR φ r r' := by
  unfold aFind at hr
  cases hu : P.underlying kt with
  | none => rw [hu] at hr; cases hr
  | some d =>
    rw [hu] at hr
    simp only at hr
    rcases findNow_rel d k h 0 with ⟨h1, h2⟩ | ⟨q, q', h1, h2, h3⟩
    · rw [h1] at hr
      obtain ⟨r', a1, a2⟩ := aAsk_peval kt k h 0 r hr
      refine ⟨r', ?_, a2⟩
      simp only [Instr.findKey]
      rw [peval_bind_some (peval_und hu)]
      simp only [h2]
      exact a1
    · rw [h1] at hr
      simp only [Option.some.injEq] at hr
      subst hr
      refine ⟨q', ?_, h3⟩
      simp only [Instr.findKey]
      rw [peval_bind_some (peval_und hu)]
      simp only [h2]
      rfl

theorem aLookup_det {φ : Inj} {H : AH} {w1 : World} {t : TypeId} {x x' k v : Value} {ok : Bool} (hi : Inv φ H w1) (h : aLookup P t x k ok H = some v) (hx : VR φ x x') :
    ∃ v', VR φ v v' ∧ ∀ w, agree w1 w → (Instr.lookup t x' k ok).run P w = .ok v' w := by
  unfold aLookup at h
  cases ht : P.underlying t with
  | none => rw [ht] at h; cases h
  | some d =>
    rw [ht] at h
    cases d with
    | map kt e =>
      simp only at h
      cases he : aEntries H x with
      | none => rw [he] at h; cases h
      | some es =>
        rw [he] at h
        simp only at h
        have hent : ∃ es', MR φ es es' ∧ ((x' = .map none ∧ es' = #[]) ∨ ∃ r n, x' = .map (some r) ∧ w1.heap[r]? = some (.map es' n)) := by
          cases hx with
          | mapNil => simp only [aEntries, Option.some.injEq] at he; subst he; exact ⟨#[], MR.empty _, .inl ⟨rfl, rfl⟩⟩
          | map r l hl =>
            simp only [aEntries] at he
            split at he
            · rename_i es1 n _ _ _ hg
              simp only [Option.some.injEq] at he
              subst he
              obtain ⟨es', h1, h2⟩ := hi.map hg rfl hl
              exact ⟨es', h2, .inr ⟨_, n, rfl, h1⟩⟩
            · cases he
          | _ => cases he
        obtain ⟨es', hm, hx2⟩ := hent
        have hf := MR_iff.1 hm
        have hemp : es.isEmpty = es'.isEmpty := by have := hf.isEmpty; simpa using this
        cases hc : peval P (Instr.checkKey es.isEmpty 10000 kt k) with
        | none => rw [hc] at h; cases h
        | some u =>
          rw [hc] at h
          rw [hemp] at hc
          cases hfi : aFind P kt k es.toList with
          | none => rw [hfi] at h; cases h
          | some r =>
            rw [hfi] at h
            obtain ⟨r', hr1, hr2⟩ := aFind_peval hf hfi
            have tail : ∃ v', VR φ v v' ∧ ∀ w, (do
                Instr.checkKey es'.isEmpty 10000 kt k
                let (v, okb) ← match ← Instr.findKey kt k es'.toList with
                  | some (_, v) => pure (v, true)
                  | none => pure (← zeroValue e, false)
                pure (if ok then Value.tuple #[v, .bool okb] else v) : Sem Value).run P w = .ok v' w := by
              cases r with
              | none =>
                cases r' with
                | some p => exact hr2.elim
                | none =>
                  simp only at h
                  cases hz : (P.info? e).bind (·.zero) with
                  | none => rw [hz] at h; cases h
                  | some z =>
                    rw [hz] at h
                    simp only at h
                    cases hfl : flat depth z with
                    | false => rw [hfl] at h; cases h
                    | true =>
                      rw [hfl] at h
                      simp only [cond_true, Option.some.injEq] at h
                      subst h
                      refine ⟨if ok then Value.tuple #[z, .bool false] else z, ?_, fun w => ?_⟩
                      · cases ok
                        · exact flat_refl _ hfl
                        · exact vr_tuple2 (flat_refl _ hfl) (.bool false)
                      · simp only [Sem.run_bind, peval_run P _ _ hc w, Result.andThen_ok, peval_run P _ _ hr1 w, run_zero hz, Sem.run_pure]
              | some p =>
                obtain ⟨i, u⟩ := p
                cases r' with
                | none => exact hr2.elim
                | some p' =>
                  obtain ⟨i', u'⟩ := p'
                  simp only at h
                  simp only [Option.some.injEq] at h
                  subst h
                  refine ⟨if ok then Value.tuple #[u', .bool true] else u', ?_, fun w => ?_⟩
                  · cases ok
                    · exact hr2.2
                    · exact vr_tuple2 hr2.2 (.bool true)
                  · simp only [Sem.run_bind, peval_run P _ _ hc w, Result.andThen_ok, peval_run P _ _ hr1 w, Sem.run_pure]
            obtain ⟨v', hv1, hv2⟩ := tail
            refine ⟨v', hv1, fun w hag => ?_⟩
            rw [← hv2 w]
            rcases hx2 with ⟨rfl, rfl⟩ | ⟨rr, n, rfl, hg⟩
            · simp only [Instr.lookup, Sem.run_bind, run_und ht, Result.andThen_ok, Sem.run_pure]
              rfl
            · have hg2 : w.heap[rr]? = some (.map es' n) := by
                have hlt : rr < w1.heap.size := by rw [Array.getElem?_eq_some_iff] at hg; exact hg.1
                rw [hag _ hlt]; exact hg
              simp only [Instr.lookup, Sem.run_bind, run_und ht, Result.andThen_ok, Sem.run_pure, run_getObj_map hg2]
              rfl
    | _ => cases h

theorem aLoad_det {φ : Inj} {H : AH} {w1 : World} {t : TypeId} {q q' : Addr} {v : Value} (hi : Inv φ H w1) (h : aLoad P t q H = some v) (hq : AddrR φ q q') : ∃ v', VR φ v v' ∧ ∀ w, agree w1 w → (loadVar t q').run P w = .ok v' w := by
  unfold aLoad at h
  split at h
  · rename_i d i hu hii
    have hagg : ∀ w, (isAgg t).run P w = .ok (isAggD d) w := by
      intro w
      simp only [isAgg, Sem.run_bind, run_und hu, Result.andThen_ok]
      cases d <;> rfl
    cases hd : isAggD d with
    | true =>
      rw [hd] at h
      simp only [cond_true] at h
      cases hr : rdCells H q 0 i.size with
      | none => rw [hr] at h; cases h
      | some l =>
        rw [hr] at h
        simp only [Option.some.injEq] at h
        subst h
        obtain ⟨hl, l', h1, h2⟩ := rd_run hi hq _ 0 l hr
        refine ⟨.agg l'.toArray, ?_, fun w hag => ?_⟩
        · have := AR_iff.2 (show LR φ l.toArray.toList l'.toArray.toList by simpa using h1)
          exact .agg _ _ this.1 this.2
        · have hrun := run_loadCells_list (P := P) w q' l' (fun j u hu => hag.cell (by have := h2 j u hu; rwa [Nat.zero_add] at this))
          rw [← LR.length h1, hl] at hrun
          simp only [loadVar, Sem.run_bind, hagg, hd, Result.andThen_ok, if_true, run_size hii, hrun, Sem.run_pure]
    | false =>
      rw [hd] at h
      simp only [cond_false] at h
      obtain ⟨v', h1, h2⟩ := hi.cell h hq
      refine ⟨v', h2, fun w hag => ?_⟩
      have := hag.cell h1
      simp only [loadVar, Sem.run_bind, hagg, hd, Result.andThen_ok, Bool.false_eq_true, if_false]
      simp [this]
  · cases h

/-- What an operation reads. -/
def detOp (P : Program) (H : AH) (o : Oper) (ρ : Operand → Value) : Option Value :=
  match tPure P o ρ with
  | some v => some v
  | none => match o.op with
    | .load t x => match ρ x with
      | .pointer (some a) => aLoad P t a H
      | _ => none
    | .lookup t x k ok => bif flat depth (ρ k) then aLookup P t (ρ x) (ρ k) ok H else none
    | .extract x i => match ρ x with
      | .tuple cs => cs[i]?
      | _ => none
    | .call { callee := .builtin .len, args, argTypes } => match (argTypes[0]?).bind P.underlying, (args.map ρ).toList with
      | some (.slice _), [.slice _ k _] => some (goInt k)
      | _, _ => match flatRun P o ρ H with
        | some (v, _) => some v
        | none => none
    | .binOp .. | .unOp .. | .build .. | .pick .. | .field .. | .index .. => match flatRun P o ρ H with
      | some (v, _) => some v
      | none => none
    | .convert s d _ => match P.underlying s, P.underlying d with
      | some (.int _), some (.int _) => match flatRun P o ρ H with
        | some (v, _) => some v
        | none => none
      | some .string, some .string => match flatRun P o ρ H with
        | some (v, _) => some v
        | none => none
      | _, _ => none
    | _ => none

theorem flat_det {φ : Inj} {H H' : AH} {o : Oper} {ρ ρ' : Operand → Value} {v : Value} (hρ : ∀ x ∈ o.op.operands, VR φ (ρ x) (ρ' x)) (h : flatRun P o ρ H = some (v, H')) (hns : ∀ w, ∀ nx, (execOp ρ' o).run P w = .ok nx w → nx ≠ .skip) : ∃ v', VR φ v v' ∧ ∀ w, (execOp ρ' o).run P w = .ok (.value v') w := by
  unfold flatRun at h
  split at h
  · cases h
  · rename_i hs
    cases ha : o.op.operands.all (fun x => flat depth (ρ x)) with
    | false => rw [ha] at h; cases h
    | true =>
      rw [ha] at h
      simp only [cond_true] at h
      rw [Array.all_eq_true_iff_forall_mem] at ha
      have hc : execOp ρ o = execOp ρ' o := execOp_congr hs fun x hx => flat_eq depth (ha x hx) (hρ x hx)
      cases hp : peval P (execOp ρ o) with
      | none => rw [hp] at h; cases h
      | some nx =>
        rw [hp] at h
        rw [hc] at hp
        cases nx with
        | value u =>
          simp only [asVal] at h
          cases hf : flat depth u with
          | false => rw [hf] at h; cases h
          | true =>
            rw [hf] at h
            simp only [cond_true, Option.some.injEq, Prod.mk.injEq] at h
            obtain ⟨rfl, rfl⟩ := h
            exact ⟨u, flat_refl _ hf, fun w => peval_run P _ _ hp w⟩
        | skip => exact absurd rfl (hns default _ (peval_run P _ _ hp default))
        | _ => cases h

theorem v_noskip {s : Sem Value} {w : World} {nx : Next} (h : (do pure (Next.value (← s)) : Sem Next).run P w = .ok nx w) : nx ≠ .skip := by
  rw [Sem.run_bind] at h
  cases hs : s.run P w with
  | ok v w' =>
    rw [hs] at h
    have : Result.ok (Next.value v) w' = Result.ok nx w := h
    simp only [Result.ok.injEq] at this
    rw [← this.1]; intro e; cases e
  | halt x w' => rw [hs] at h; cases h

theorem detOp_ok {φ : Inj} {H : AH} {w1 : World} {o : Oper} {ρ ρ' : Operand → Value} {v : Value} (hi : Inv φ H w1) (hρ : ∀ x ∈ o.op.operands, VR φ (ρ x) (ρ' x)) (h : detOp P H o ρ = some v) :
    ∃ v', VR φ v v' ∧ ∀ w, agree w1 w → (execOp ρ' o).run P w = .ok (.value v') w := by
  unfold detOp at h
  cases ht : tPure P o ρ with
  | some u =>
    rw [ht] at h
    simp only [Option.some.injEq] at h
    subst h
    obtain ⟨v', h1, h2⟩ := tPure_run hρ ht
    exact ⟨v', h1, fun w _ => h2 w⟩
  | none =>
    rw [ht] at h
    simp only at h
    have fl : (match flatRun P o ρ H with | some (v, _) => some v | none => none) = some v → (∀ w, ∀ nx, (execOp ρ' o).run P w = .ok nx w → nx ≠ .skip) → ∃ v', VR φ v v' ∧ ∀ w, agree w1 w → (execOp ρ' o).run P w = .ok (.value v') w := by
      intro h hns
      cases hf : flatRun P o ρ H with
      | none => rw [hf] at h; cases h
      | some p =>
        obtain ⟨u, H'⟩ := p
        rw [hf] at h
        simp only [Option.some.injEq] at h
        subst h
        obtain ⟨v', h1, h2⟩ := flat_det hρ hf hns
        exact ⟨v', h1, fun w _ => h2 w⟩
    obtain ⟨dst, op, ty, pos, after, guard⟩ := o
    simp only at h hρ
    split at h
    · rename_i t x
      have hx := hρ x (by simp [Op.operands])
      split at h
      · rename_i a ha
        rw [ha] at hx
        obtain ⟨q', hq, hqa⟩ := hx.ptr_inv
        obtain ⟨v', h1, h2⟩ := aLoad_det hi h hqa
        refine ⟨v', h1, fun w hag => ?_⟩
        simp only [execOp, hq, Instr.loadAt, Instr.sureAddr, Sem.run_bind, Sem.run_pure, Result.andThen_ok, h2 w hag]
      · cases h
    · rename_i t x k ok
      cases hf : flat depth (ρ k) with
      | false => rw [hf] at h; cases h
      | true =>
        rw [hf] at h
        simp only [cond_true] at h
        have hk := flat_eq depth hf (hρ k (by simp [Op.operands]))
        obtain ⟨v', h1, h2⟩ := aLookup_det (w1 := w1) hi h (hρ x (by simp [Op.operands]))
        refine ⟨v', h1, fun w hag => ?_⟩
        rw [hk] at h2
        simp only [execOp, Sem.run_bind, h2 w hag, Result.andThen_ok]
        rfl
    · rename_i x i
      have hx := hρ x (by simp [Op.operands])
      split at h
      · rename_i cs hc
        rw [hc] at hx
        generalize hq : ρ' x = q at hx
        cases hx with
        | tuple f f' hf h1 =>
          have hlt : i < f'.size := by
            rw [Array.getElem?_eq_some_iff] at h
            obtain ⟨h, _⟩ := h
            omega
          refine ⟨f'[i], h1 i _ _ h (by simp [hlt]), fun w _ => ?_⟩
          have hrun : (Instr.extract (.tuple f') i).run P w = .ok f'[i] w := by
            simp only [Instr.extract]
            simp [hlt]
          simp only [execOp, hq, Sem.run_bind, hrun, Result.andThen_ok]
          rfl
      · cases h
    · rename_i args ts
      split at h
      · rename_i e b k c hu hl
        simp only [Option.some.injEq] at h
        subst h
        have hargs : AR φ (args.map ρ) (args.map ρ') := ar_map args fun x hx => hρ x (by simp [Op.operands, Call.operands, hx])
        obtain ⟨_, x', hx', hv⟩ := ar_one hargs hl
        obtain ⟨b', c', rfl⟩ := slice_inv hv
        refine ⟨goInt k, .int _ _, fun w _ => ?_⟩
        cases hts : ts[0]? with
        | none => rw [hts] at hu; cases hu
        | some t =>
          rw [hts] at hu
          have hu : P.underlying t = some (.slice e) := hu
          have hrun : (Builtin.len_ ts ty (args.map ρ')).run P w = .ok (goInt k) w := by
            rw [hx']
            simp [Builtin.len_, hts, run_und hu]
          show (do pure (Next.value (← Builtin.len_ ts ty (args.map ρ'))) : Sem Next).run P w = _
          rw [Sem.run_bind, hrun]; rfl
      · exact fl h fun w nx hr => v_noskip (s := Builtin.len_ ts ty (args.map ρ')) hr
    · rename_i bo t x y u
      exact fl h fun w nx hr => v_noskip (s := (do eqGuard bo t x y (ρ' x) (ρ' y); binOp bo t (ρ' x) (ρ' y))) hr
    · rename_i uo t x
      exact fl h fun w nx hr => v_noskip (s := Op.unary uo (ρ' x)) hr
    · rename_i t ps
      exact fl h fun w nx hr => v_noskip (s := Instr.build t (ps.map fun (i, x) => (i, ρ' x))) hr
    · rename_i c x y
      exact fl h fun w nx hr => by
        simp only [execOp, Sem.run_bind] at hr
        cases hb : (asBool (ρ' c)).run P w with
        | ok b w' =>
          rw [hb] at hr
          have : Result.ok (Next.value (if b then ρ' x else ρ' y)) w' = Result.ok nx w := hr
          simp only [Result.ok.injEq] at this
          rw [← this.1]; intro e; cases e
        | halt z w' => rw [hb] at hr; cases hr
    · rename_i t x f
      exact fl h fun w nx hr => v_noskip (s := Instr.field t (ρ' x) f) hr
    · rename_i t x y
      exact fl h fun w nx hr => v_noskip (s := Instr.index t (ρ' x) (ρ' y)) hr
    · rename_i s d x
      split at h
      · exact fl h fun w nx hr => v_noskip (s := convert s d (ρ' x)) hr
      · exact fl h fun w nx hr => v_noskip (s := convert s d (ρ' x)) hr
      · cases h
    · cases h

end Go.Abs


namespace Go.Abs

variable {P : Program} {ne : NE} {m n : Nat}

/-! ### Regions whose order is drawn: what reads is taken first, what acts comes in turn -/

/-- Must what was there stand behind operation j? Not where it waits for all that reads. -/
def dem (A : List Nat) (bs : List Nat) (j : Nat) : Bool := !(A.all fun i => Nat.blt i j && pre bs j i)

/-- Operations that only hand a value on. -/
def mvAt (ops : Array Oper) (j : Nat) : Bool :=
  match ops[j]? with
  | some o => (match o.op with
    | .move _ => true
    | .assign _ => true
    | .pick .. => true
    | _ => false)
  | none => false

def demO (ops : Array Oper) (A : List Nat) (bs : List Nat) (j : Nat) : Bool := dem A bs j && !mvAt ops j

theorem mv_same {P : Program} {ops : Array Oper} {Q : Exit → Act → World → Prop} {j : Nat} {K : Act → World → Prop} {a : Act} {w : World} (hm : mvAt ops j = true) (h : wpOp P ops Q j K a w) : wpOp P ops Q j (fun a' w' => w' = w ∧ K a' w') a w := by
  unfold wpOp at *
  unfold mvAt at hm
  cases ho : ops[j]? with
  | none => rw [ho] at hm; cases hm
  | some o =>
    rw [ho] at h hm
    simp only at h hm ⊢
    split
    · rename_i hw
      rw [if_pos hw] at h
      rcases h with h | h
      · left
        unfold Oper.wp at *
        have hr : (∃ v, (execOp a.eval o).run P w = .ok (.value v) w) ∨ ∃ x, (execOp a.eval o).run P w = .halt x w := by
          obtain ⟨dst, op, ty, pos, after, guard⟩ := o
          cases op with
          | move x => exact .inl ⟨_, rfl⟩
          | assign x => exact .inl ⟨_, rfl⟩
          | pick c x y =>
            simp only [execOp]
            cases hc : a.eval c with
            | bool b => exact .inl ⟨_, rfl⟩
            | _ => exact .inr ⟨_, rfl⟩
          | _ => cases hm
        rcases hr with ⟨v, hr⟩ | ⟨x, hr⟩
        · rw [hr] at h ⊢
          exact ⟨by first | rfl | trivial, h⟩
        · rw [hr] at h ⊢
          cases x <;> exact h
      · exact .inr h
    · rename_i hw
      rw [if_neg hw] at h
      exact ⟨by first | rfl | trivial, h⟩

def wpAnyD (P : Program) (ops : Array Oper) (Q : Exit → Act → World → Prop) (bs A : List Nat) (w1 : World) : Nat → Array Bool → Act → World → Prop
  | 0, la, a, w => Region.ready .any ops la = [] ∧ Q .normal a w
  | f + 1, la, a, w => (Region.ready .any ops la = [] → Q .normal a w) ∧
    ∀ i ∈ Region.ready .any ops la, wpOp P ops Q i (fun a' w' => (demO ops A bs i = true → agree w1 w') ∧ wpAnyD P ops Q bs A w1 f (la.setIfInBounds i true) a' w') a w

variable {ops : Array Oper} {Q : Exit → Act → World → Prop} {bs A : List Nat} {w1 : World}

theorem wpAny_of_D : ∀ (f : Nat) (la : Array Bool) (a : Act) (w : World), wpAnyD P ops Q bs A w1 f la a w → wpAny P .any ops Q f la a w
  | 0, _, _, _, h => h
  | f + 1, _, _, _, h => ⟨h.1, fun i hi => wpOp_mono (fun a' w' h' => wpAny_of_D f _ a' w' h'.2) (h.2 i hi)⟩

theorem wpAnyD_first {i : Nat} {oi : Oper} {v : Value} (hi : ops[i]? = some oi) (hA : A.contains i = true) (hc : closedOk ops.toList bs = true) (hsel : ∀ (j : Nat) (o : Oper) cs b, ops[j]? = some o → o.op ≠ .select cs b)
    (hQ : ∀ c a w, ¬ Q (.panic c) a w) :
    ∀ (fuel : Nat) (la : Array Bool) (a : Act) (w : World), JC ops bs la →
      (∀ j oj, ops[j]? = some oj → j ≠ i → la.getD j true = false → (∀ e ∈ oj.after, Region.binds .any e = true → e.on ≠ i) → oi.apart ops oj = true) →
      i ∈ Region.ready .any ops la → YieldsIf P ops (agree w1) oi v a → agree w1 w →
      wpAnyD P ops Q bs A w1 fuel (la.setIfInBounds i true) (a.put oi.dst v) w → wpAnyD P ops Q bs A w1 (fuel + 1) la a w := by
  intro fuel
  induction fuel with
  | zero =>
    intro la a w hJ _ hr hy hS H
    refine ⟨fun h => (by rw [h] at hr; cases hr), fun j hj => ?_⟩
    by_cases hji : j = i
    · subst hji; exact hy.wpOp hi hS ⟨fun _ => hS, H⟩
    · have := ready_mono hj hji
      rw [H.1] at this
      cases this
  | succ fuel ih =>
    intro la a w hJ hfree hr hy hS H
    refine ⟨fun h => (by rw [h] at hr; cases hr), fun j hj => ?_⟩
    by_cases hji : j = i
    · subst hji; exact hy.wpOp hi hS ⟨fun _ => hS, H⟩
    · have h1 := H.2 j (ready_mono hj hji)
      have r := rdy_of hc hJ hj
      have ri := rdy_of hc hJ hr
      have hd : dem A bs j = true := by
        cases hq : dem A bs j with
        | true => rfl
        | false =>
          exfalso
          unfold dem at hq
          have hq : (A.all fun i => Nat.blt i j && pre bs j i) = true := by simpa using hq
          rw [List.all_eq_true] at hq
          have := hq i (by simpa using hA)
          simp only [Bool.and_eq_true] at this
          exact ri.no (r.all i (blt_lt this.1) this.2)
      have h1 : wpOp P ops Q j (fun a' w' => agree w1 w' ∧ (demO ops A bs j = true → agree w1 w') ∧ wpAnyD P ops Q bs A w1 fuel ((la.setIfInBounds i true).setIfInBounds j true) a' w') (a.put oi.dst v) w := by
        cases hm : mvAt ops j with
        | true => exact wpOp_mono (fun a' w' hh => ⟨by rw [hh.1]; exact hS, hh.2⟩) (mv_same hm h1)
        | false => exact wpOp_mono (fun a' w' hh => ⟨hh.1 (by unfold demO; rw [hd, hm]; rfl), hh⟩) h1
      obtain ⟨hjun, oj, hoj, hall⟩ := mem_ready.1 hj
      have hnot : ∀ e ∈ oj.after, Region.binds .any e = true → e.on ≠ i := fun e he hb heq => by
        have h1 := hall e he hb
        have h0 := (mem_ready.1 hr).1
        rw [heq] at h1
        rcases Nat.lt_or_ge i la.size with h' | h'
        · simp [h'] at h0 h1; rw [h0] at h1; cases h1
        · simp [Array.getElem?_eq_none h'] at h1
      have h2 := wpOp_putIf hoj (hfree j oj hoj hji hjun hnot) (fun cs b => hsel i oi cs b hi) (fun cs b => hsel j oj cs b hoj) (fun c a w h => absurd h (hQ c _ w)) hy h1
      have hfree' : ∀ k ok, ops[k]? = some ok → k ≠ i → (la.setIfInBounds j true).getD k true = false →
          (∀ e ∈ ok.after, Region.binds .any e = true → e.on ≠ i) → oi.apart ops ok = true := fun k ok hk hki hun hno => by
        refine hfree k ok hk hki ?_ hno
        by_cases hjk : j = k
        · subst hjk; exact hjun
        · rw [getD_set_ne true hjk] at hun; exact hun
      refine wpOp_mono (fun a' w' h3 => ⟨fun _ => h3.2.1, ih (la.setIfInBounds j true) a' w' (hJ.next r) hfree' (ready_mono hr (Ne.symm hji)) h3.1 h3.2.1 ?_⟩) h2
      rw [Array.setIfInBounds_comm _ _ hji]
      exact h3.2.2.2

/-- How the region began. -/
structure DC (P : Program) (H1 : AH) (ls1 : Lcs) (w1 : World) (φ1 : Inj) (cs1 : List Nat) : Prop where
  glob : Glob P φ1
  inv : Inv φ1 H1 w1
  loc : ∀ (i : Nat) c x, cs1[i]? = some c → ls1[i]? = some (some x) → ∃ rs, w1.heap[c]? = some (.cells rs x.1 (0, 0)) ∧ LR φ1 x.2 rs.toList

def KA (φ1 : Inj) (cs1 : List Nat) (knA : KN) (a : Act) : Prop := ∀ t kv, lkV knA t = some kv → KR φ1 cs1 kv (a.tmps.getD t undef)

def DA (P : Program) (ne : NE) (m : Nat) (E : Ent) (n : Nat) (ops : Array Oper) (bs A : List Nat) (H1 : AH) (ls1 : Lcs) (f : Nat) (la : Array Bool) (ag : Bool) (knA kn : KN) (ls : Lcs) (H : AH) (Q : Exit → Act → World → Prop) : Prop :=
  ∀ w1 φ1 cs1 a w φ cs, DC P H1 ls1 w1 φ1 cs1 → φ1.le φ → SSφ P ne m E n kn ls H a w φ cs → KA φ1 cs1 knA a → (∀ (i : Nat) (c : Nat), cs1[i]? = some c → cs[i]? = some c) → JC ops bs la → (ag = true → agree w1 w) → wpAnyD P ops Q bs A w1 f la a w

/-- The same, where it is one operation's turn. -/
def DAk (P : Program) (ne : NE) (m : Nat) (E : Ent) (n : Nat) (ops : Array Oper) (bs A : List Nat) (H1 : AH) (ls1 : Lcs) (k f : Nat) (la : Array Bool) (ag : Bool) (knA kn : KN) (ls : Lcs) (H : AH) (Q : Exit → Act → World → Prop) : Prop :=
  ∀ w1 φ1 cs1 a w φ cs, DC P H1 ls1 w1 φ1 cs1 → φ1.le φ → SSφ P ne m E n kn ls H a w φ cs → KA φ1 cs1 knA a → (∀ (i : Nat) (c : Nat), cs1[i]? = some c → cs[i]? = some c) → JC ops bs la → (ag = true → agree w1 w) →
    wpOp P ops Q k (fun a' w' => (demO ops A bs k = true → agree w1 w') ∧ wpAnyD P ops Q bs A w1 f (la.setIfInBounds k true) a' w') a w

section
variable {E : Ent} {knA kn : KN} {ls ls1 : Lcs} {H H1 : AH} {a : Act} {w : World} {φ φ1 : Inj} {cs cs1 : List Nat} {f k : Nat} {la : Array Bool} {ag : Bool}

theorem WS.drawn {c : Code} (ops : Array Oper) (A : List Nat) (hc : regOf c = some (ops, true)) (hB : closedOk ops.toList (befores ops.toList) = true) (h : DA P ne m E n ops (befores ops.toList) A H ls ops.size (Array.replicate ops.size false) true kn kn ls H Q) : WS P ne m E n c kn ls H Q := by
  cases c with
  | region id ops' d =>
    simp only [regOf, Option.some.injEq, Prod.mk.injEq] at hc
    obtain ⟨rfl, rfl⟩ := hc
    intro a w hs
    obtain ⟨φ, cs, hs⟩ := hs
    refine wp_region_any hs.sane.mixed ?_
    have hs' : SSφ P ne m E n kn ls H a { w with drawn := w.drawn + 1 } φ cs :=
      ⟨hs.glob, ⟨hs.inv.dom, hs.inv.obj, hs.inv.sep⟩, ⟨hs.step.le, hs.step.ext, hs.step.new, hs.step.alv, hs.step.size, hs.step.keep, hs.step.os, hs.step.tape, hs.step.output⟩, hs.len, fun i c x h1 h2 => ⟨(hs.loc i c x h1 h2).1, (hs.loc i c x h1 h2).2, (hs.loc i c x h1 h2).3⟩, hs.inj, hs.low, hs.slot, hs.size, hs.defers, hs.sane, hs.inv0⟩
    exact wpAny_of_D _ _ _ _ (h _ φ cs a _ φ cs ⟨hs'.glob, hs'.inv, fun i c x h1 h2 => (hs'.loc i c x h1 h2).2⟩ (Inj.le_refl φ) hs' (fun t kv hl => hs'.slot t kv hl) (fun _ _ hc => hc) ⟨by simp, fun i j hh => by
      unfold LL at hh
      rw [Array.getD_eq_getD_getElem?, Array.getElem?_replicate] at hh
      split at hh <;> cases hh⟩ (fun _ => agree.refl _))
  | _ => cases hc

theorem DA.done (hr : readyIs ops la [] = true) (h : ∀ a w, SS P ne m E n kn ls H a w → Q .normal a w) : DA P ne m E n ops bs A H1 ls1 f la ag knA kn ls H Q := by
  intro w1 φ1 cs1 a w φ cs _ _ hs _ _ _ _
  have hr := readyIs_eq hr
  cases f with
  | zero => exact ⟨hr, h a w ⟨φ, cs, hs⟩⟩
  | succ f => exact ⟨fun _ => h a w ⟨φ, cs, hs⟩, by rw [hr]; simp⟩

theorem KA.put (h : KA φ1 cs1 knA a) {n : Nat} (hsz : n ≤ a.tmps.size) {d : Option Nat} (hd : (match d with | some a => Nat.blt a n | none => true) = true) {kv : KV} {v' : Value} (hv : KR φ1 cs1 kv v') : KA φ1 cs1 (putV knA d kv) (a.put d v') := by
  cases d with
  | none => exact h
  | some d =>
    have hlt : d < a.tmps.size := Nat.lt_of_lt_of_le (blt_lt hd) hsz
    intro t kv' hl
    simp only [putV, lkV] at hl
    simp only [Act.put]
    rw [Array.getD_eq_getD_getElem?, Array.getElem?_setIfInBounds]
    cases hb : Nat.beq d t with
    | true =>
      rw [hb] at hl
      have := Nat.eq_of_beq_eq_true hb
      subst this
      cases hl
      rw [if_pos rfl, if_pos hlt]
      exact hv
    | false =>
      rw [hb] at hl
      rw [if_neg (Nat.ne_of_beq_eq_false hb), ← Array.getD_eq_getD_getElem?]
      exact h t kv' hl

def dropV (d : Option Nat) (knA : KN) : KN := match d with
  | some d => knA.filter fun p => !(Nat.beq p.1 d)
  | none => knA

theorem lk_drop {d : Nat} : ∀ {kn : KN} {t : Nat} {kv : KV}, lkV (kn.filter fun p => !(Nat.beq p.1 d)) t = some kv → t ≠ d ∧ lkV kn t = some kv := by
  intro kn
  induction kn with
  | nil => intro t kv h; cases h
  | cons p l ih =>
    obtain ⟨s, v⟩ := p
    intro t kv h
    rw [List.filter_cons] at h
    cases hq : Nat.beq s d with
    | true =>
      rw [hq] at h
      obtain ⟨h1, h2⟩ := ih (by simpa using h)
      refine ⟨h1, ?_⟩
      simp only [lkV]
      have e := Nat.eq_of_beq_eq_true hq
      cases hs : Nat.beq s t with
      | true => exact absurd ((Nat.eq_of_beq_eq_true hs).symm.trans e) h1
      | false => exact h2
    | false =>
      rw [hq] at h
      simp only [Bool.not_false, if_true, lkV] at h
      simp only [lkV]
      cases hs : Nat.beq s t with
      | true =>
        rw [hs] at h
        have e := Nat.eq_of_beq_eq_true hs
        subst e
        exact ⟨Nat.ne_of_beq_eq_false hq, h⟩
      | false => rw [hs] at h; exact ih h

theorem KA.drop (h : KA φ1 cs1 knA a) (d : Option Nat) (v' : Value) : KA φ1 cs1 (dropV d knA) (a.put d v') := by
  cases d with
  | none => exact h
  | some d =>
    intro t kv hl
    obtain ⟨h1, h2⟩ := lk_drop hl
    simp only [Act.put]
    rw [Array.getD_eq_getD_getElem?, Array.getElem?_setIfInBounds, if_neg (fun e => h1 e.symm), ← Array.getD_eq_getD_getElem?]
    exact h t kv h2

/-- What is asked of an operation that is taken first. -/
def takeB (P : Program) (n : Nat) (ops : Array Oper) (A : List Nat) (la : Array Bool) (k : Nat) (o : Oper) : Bool :=
  A.contains k && Region.noSelect ops && Region.free .any ops la k && (Region.ready .any ops la).contains k && dstV n o

theorem evalA_ (h : KA φ1 cs1 knA a) (hg : Glob P φ1) {x : Operand} (hk : knownV knA x = true) (hx : okx P x = true) : VR φ1 (evV knA x) (a.eval x) := by
  cases x with
  | tmp t =>
    simp only [knownV] at hk
    simp only [evV]
    cases hl : lkV knA t with
    | none => rw [hl] at hk; cases hk
    | some kv =>
      cases kv with
      | val v => exact h t _ hl
      | loc i off => rw [hl] at hk; cases hk
      | sli i n => rw [hl] at hk; cases hk
  | const v => exact flat_refl depth hx
  | global g =>
    have hlt : g < P.globals.size := blt_lt hx
    obtain ⟨l, h1, h2, h3⟩ := hg g hlt
    have := VR.ptr (φ := φ1) g 0 l h1
    rw [h2, h3] at this
    exact this
  | func f => exact .func (.func f) #[] #[] #[] #[] rfl rfl (fun i x y hx => by simp at hx) (fun i x y hx => by simp at hx)

theorem take_core (ho : ops[k]? = some (opAt ops k)) (hB : takeB P n ops A la k (opAt ops k) = true) (hc : closedOk ops.toList bs = true) (hQ : ∀ c a w, ¬ Q (.panic c) a w) {kv : KV} {w1 : World}
    (hd : DC P H1 ls1 w1 φ1 cs1) (hle : φ1.le φ) (hs : SSφ P ne m E n kn ls H a w φ cs) (hka : KA φ1 cs1 knA a) (hpf : ∀ (i : Nat) (c : Nat), cs1[i]? = some c → cs[i]? = some c) (hJ : JC ops bs la) (hag : agree w1 w) {v' : Value} (hkr : KR φ1 cs1 kv v') (hkr2 : KR φ cs kv v') (hy : YieldsIf P ops (agree w1) (opAt ops k) v' a)
    (h : DA P ne m E n ops bs A H1 ls1 f (la.setIfInBounds k true) true (putV knA (opAt ops k).dst kv) (putV kn (opAt ops k).dst kv) ls H Q) : wpAnyD P ops Q bs A w1 (f + 1) la a w := by
  unfold takeB at hB
  simp only [Bool.and_eq_true] at hB
  obtain ⟨⟨⟨⟨b1, b2⟩, b3⟩, b4⟩, b5⟩ := hB
  have hr : k ∈ Region.ready .any ops la := by simpa using b4
  refine wpAnyD_first ho b1 hc (Region.noSelect_spec b2) hQ f la a w hJ (Region.free_spec ho b3) hr hy hag ?_
  exact h w1 φ1 cs1 _ w φ cs hd hle (hs.put b5 hkr2) (hka.put hs.size b5 hkr) hpf (hJ.next (rdy_of hc hJ hr)) (fun _ => hag)

/-- A value is taken. -/
theorem DA.take {v : Value} (ho : ops[k]? = some (opAt ops k)) (hB : takeB P n ops A la k (opAt ops k) = true) (hc : closedOk ops.toList bs = true) (hQ : ∀ c a w, ¬ Q (.panic c) a w)
    (hw : (wantV ops kn (opAt ops k), (opAt ops k).op.operands.all (okx P), (opAt ops k).op.operands.all (knownV knA)) = (some true, true, true)) (hv : detOp P H1 (opAt ops k) (evV knA) = some v)
    (h : DA P ne m E n ops bs A H1 ls1 f (la.setIfInBounds k true) true (putV knA (opAt ops k).dst (.val v)) (putV kn (opAt ops k).dst (.val v)) ls H Q) : DA P ne m E n ops bs A H1 ls1 (f + 1) la true knA kn ls H Q := by
  intro w1 φ1 cs1 a w φ cs hd hle hs hka hpf hJ hag
  simp only [Prod.mk.injEq] at hw
  obtain ⟨hw1, hw2, hw3⟩ := hw
  rw [Array.all_eq_true_iff_forall_mem] at hw2 hw3
  obtain ⟨v', h1, h2⟩ := detOp_ok (ρ' := a.eval) hd.inv (fun x hx => evalA_ hka hd.glob (hw3 x hx) (hw2 x hx)) hv
  exact take_core ho hB hc hQ hd hle hs hka hpf hJ (hag rfl) (kv := .val v) h1 (h1.mono hle) (.inl ⟨wantV_ok hs hw1, h2⟩) h

/-- One that is passed over is taken. -/
theorem DA.tskip (ho : ops[k]? = some (opAt ops k)) (hB : takeB P n ops A la k (opAt ops k) = true) (hc : closedOk ops.toList bs = true) (hQ : ∀ c a w, ¬ Q (.panic c) a w) (hw : wantV ops kn (opAt ops k) = some false)
    (h : DA P ne m E n ops bs A H1 ls1 f (la.setIfInBounds k true) true (putV knA (opAt ops k).dst (.val undef)) (putV kn (opAt ops k).dst (.val undef)) ls H Q) : DA P ne m E n ops bs A H1 ls1 (f + 1) la true knA kn ls H Q := by
  intro w1 φ1 cs1 a w φ cs hd hle hs hka hpf hJ hag
  exact take_core ho hB hc hQ hd hle hs hka hpf hJ (hag rfl) (kv := .val undef) (v' := undef) (vr_undef _) (vr_undef _) (.inr ⟨wantV_ok hs hw, rfl⟩) h

/-- What an operation reads of one's own variables. -/
def locDet (P : Program) (knA : KN) (ls1 : Lcs) (o : Oper) : Option KV :=
  match o.op with
  | .move _ | .assign _ | .nilCheck _ | .fieldAddr .. | .load .. => (locOp P knA ls1 o).map (·.1)
  | _ => none

theorem locDet_ok {o : Oper} {kv : KV} (h : locDet P knA ls1 o = some kv) (hd : DC P H1 ls1 w1 φ1 cs1) (hka : KA φ1 cs1 knA a) : ∃ v', KR φ1 cs1 kv v' ∧ ∀ w, agree w1 w → (execOp a.eval o).run P w = .ok (.value v') w := by
  unfold locDet at h
  have hl : ∃ ls', locOp P knA ls1 o = some (kv, ls') := by
    split at h
    all_goals first | (cases hq : locOp P knA ls1 o with | none => rw [hq] at h; cases h | some p => obtain ⟨x, y⟩ := p; rw [hq] at h; simp only [Option.map_some, Option.some.injEq] at h; subst h; exact ⟨y, rfl⟩) | cases h
  obtain ⟨ls', hl⟩ := hl
  obtain ⟨dst, op, ty, pos, after, guard⟩ := o
  unfold locOp at hl
  simp only at hl h
  split at hl
  · rename_i t
    split at hl
    · rename_i i off hk
      simp only [Option.some.injEq, Prod.mk.injEq] at hl
      obtain ⟨rfl, rfl⟩ := hl
      exact ⟨a.tmps.getD t undef, hka t _ hk, fun w _ => rfl⟩
    · cases hl
  · rename_i t
    split at hl
    · rename_i i off hk
      simp only [Option.some.injEq, Prod.mk.injEq] at hl
      obtain ⟨rfl, rfl⟩ := hl
      exact ⟨a.tmps.getD t undef, hka t _ hk, fun w _ => rfl⟩
    · cases hl
  · rename_i t
    split at hl
    · rename_i i off hk
      simp only [Option.some.injEq, Prod.mk.injEq] at hl
      obtain ⟨rfl, rfl⟩ := hl
      refine ⟨a.tmps.getD t undef, hka t _ hk, fun w _ => ?_⟩
      obtain ⟨c, h1, h2⟩ := hka t _ hk
      have : a.eval (.tmp t) = .pointer (some ⟨c, off, none⟩) := h2
      simp only [execOp, this]
      rw [h2]; rfl
    · cases hl
  · rename_i s t f
    split at hl
    · rename_i i off fs hk hu
      cases hf : fs[f]? with
      | none => rw [hf] at hl; cases hl
      | some fd =>
        rw [hf] at hl
        simp only at hl
        cases hi : P.info? fd.type with
        | none => rw [hi] at hl; cases hl
        | some inf =>
          rw [hi] at hl
          simp only at hl
          cases hz : Nat.beq inf.size 0 with
          | true => rw [hz] at hl; cases hl
          | false =>
            rw [hz] at hl
            simp only [cond_false, Option.some.injEq, Prod.mk.injEq] at hl
            obtain ⟨rfl, rfl⟩ := hl
            obtain ⟨c, h1, h2⟩ := hka t _ hk
            have he : a.eval (.tmp t) = .pointer (some ⟨c, off, none⟩) := h2
            refine ⟨.pointer (some ⟨c, off + fd.offset, none⟩), ⟨c, h1, rfl⟩, fun w _ => ?_⟩
            have hne := Nat.ne_of_beq_eq_false hz
            have hrun : (Instr.fieldAt s (.pointer (some ⟨c, off, none⟩)) f).run P w = .ok (.pointer (some ⟨c, off + fd.offset, none⟩)) w := by
              simp only [Instr.fieldAt, Sem.run_bind, run_und hu, Result.andThen_ok, hf, Instr.sureAddr, Sem.run_pure, fieldPlace, run_size hi]
              rw [if_neg hne]
              simp only [Sem.run_pure, Result.andThen_ok, Addr.add_lit]
            simp only [execOp, he, Sem.run_bind, hrun, Result.andThen_ok]
            rfl
    · cases hl
  · rename_i t x
    split at hl
    · rename_i i off d inf hk hu hi
      split at hl
      · rename_i e cells hc
        obtain ⟨c, h1, h2⟩ := hka x _ hk
        obtain ⟨rs, g2, g3⟩ := hd.loc i c _ h1 hc
        have he : a.eval (.tmp x) = .pointer (some ⟨c, off, none⟩) := h2
        have hlen := LR.length g3
        simp only at hlen g3
        have hlt : c < w1.heap.size := by rw [Array.getElem?_eq_some_iff] at g2; exact g2.1
        have hagg : ∀ w, (isAgg t).run P w = .ok (isAggD d) w := by
          intro w
          simp only [isAgg, Sem.run_bind, run_und hu, Result.andThen_ok]
          cases d <;> rfl
        have hex : ∀ w v, (loadVar t ⟨c, off, none⟩).run P w = .ok v w → (execOp a.eval ⟨dst, .load t (.tmp x), ty, pos, after, guard⟩).run P w = .ok (.value v) w := by
          intro w v hr
          simp only [execOp, he, Instr.loadAt, Instr.sureAddr, Sem.run_bind, Sem.run_pure, Result.andThen_ok, hr]
        have hcell : ∀ w, agree w1 w → ∀ (j : Nat) u, rs[off + j]? = some u → w.cell? ((⟨c, off, none⟩ : Addr).add j) = some u := by
          intro w hag j u hu
          rw [Addr.add_lit]
          simp [World.cell?, hag c hlt, g2, hu]
        cases hda : isAggD d with
        | true =>
          rw [hda] at hl
          simp only [cond_true] at hl
          cases hb : Nat.ble (off + inf.size) cells.length with
          | false => rw [hb] at hl; cases hl
          | true =>
            rw [hb] at hl
            simp only [cond_true, Option.some.injEq, Prod.mk.injEq] at hl
            obtain ⟨rfl, rfl⟩ := hl
            have hble := Nat.le_of_ble_eq_true hb
            have hls : ((rs.toList.drop off).take inf.size).length = inf.size := by simp at hlen ⊢; omega
            refine ⟨.agg ((rs.toList.drop off).take inf.size).toArray, ?_, fun w hag => hex w _ ?_⟩
            · have hpw : AR φ1 ((cells.drop off).take inf.size).toArray ((rs.toList.drop off).take inf.size).toArray := by
                refine ⟨by simp at hlen ⊢; omega, fun j u v hu hv => ?_⟩
                have hA := AR_iff.2 (show LR φ1 cells.toArray.toList rs.toList by simpa using g3)
                rw [List.getElem?_toArray, List.getElem?_take] at hu hv
                split at hu
                · rename_i hj
                  rw [if_pos hj, List.getElem?_drop] at hv
                  rw [List.getElem?_drop] at hu
                  exact hA.2 (off + j) u v (by simpa using hu) (by simpa using hv)
                · cases hu
              exact .agg _ _ hpw.1 hpw.2
            · have hrun := run_loadCells_list (P := P) w ⟨c, off, none⟩ ((rs.toList.drop off).take inf.size) (fun j u hu => by
                rw [List.getElem?_take] at hu
                split at hu
                · rw [List.getElem?_drop] at hu
                  exact hcell w hag j u (by simpa using hu)
                · cases hu)
              rw [hls] at hrun
              simp only [loadVar, Sem.run_bind, hagg w, Result.andThen_ok, hda, if_true, run_size hi, hrun, Sem.run_pure]
        | false =>
          rw [hda] at hl
          simp only [cond_false] at hl
          cases hv : cells[off]? with
          | none => rw [hv] at hl; cases hl
          | some v =>
            rw [hv] at hl
            simp only [Option.some.injEq, Prod.mk.injEq] at hl
            obtain ⟨rfl, rfl⟩ := hl
            have hA := AR_iff.2 (show LR φ1 cells.toArray.toList rs.toList by simpa using g3)
            obtain ⟨v', hv', hvr⟩ := hA.get (show cells.toArray[off]? = some v by simpa using hv)
            refine ⟨v', hvr, fun w hag => hex w _ ?_⟩
            have h0 := hcell w hag 0 v' (by simpa using hv')
            have e0 : (⟨c, off, none⟩ : Addr).add 0 = ⟨c, off, none⟩ := rfl
            rw [e0] at h0
            simp only [loadVar, Sem.run_bind, hagg w, hda, Result.andThen_ok, Bool.false_eq_true, if_false]
            simp [h0]
      · cases hl
    · cases hl
  all_goals first | (simp only [reduceCtorEq] at h; done) | (cases hl; done)

theorem KR.pfx {kv : KV} {v' : Value} (hle : φ1.le φ) (hpf : ∀ (i : Nat) (c : Nat), cs1[i]? = some c → cs[i]? = some c) (h : KR φ1 cs1 kv v') : KR φ cs kv v' := by
  cases kv with
  | val v => exact VR.mono hle h
  | loc i off =>
    obtain ⟨c, h1, h2⟩ := h
    exact ⟨c, hpf i c h1, h2⟩
  | sli i n =>
    obtain ⟨⟨c, h1, h2⟩, h3⟩ := h
    exact ⟨⟨c, hpf i c h1, h2⟩, h3⟩

/-- A read of one's own variable is taken. -/
theorem DA.takeL {kv : KV} (ho : ops[k]? = some (opAt ops k)) (hB : takeB P n ops A la k (opAt ops k) = true) (hc : closedOk ops.toList bs = true) (hQ : ∀ c a w, ¬ Q (.panic c) a w) (hw : wantV ops kn (opAt ops k) = some true) (hv : locDet P knA ls1 (opAt ops k) = some kv)
    (h : DA P ne m E n ops bs A H1 ls1 f (la.setIfInBounds k true) true (putV knA (opAt ops k).dst kv) (putV kn (opAt ops k).dst kv) ls H Q) : DA P ne m E n ops bs A H1 ls1 (f + 1) la true knA kn ls H Q := by
  intro w1 φ1 cs1 a w φ cs hd hle hs hka hpf hJ hag
  obtain ⟨v', h1, h2⟩ := locDet_ok hv hd hka
  exact take_core ho hB hc hQ hd hle hs hka hpf hJ (hag rfl) (kv := kv) h1 (h1.pfx hle hpf) (.inl ⟨wantV_ok hs hw, h2⟩) h

/-! What acts comes in turn -/

/-- A call as an operation, with a mark of its own. -/
theorem call_wp' {m2 : Nat} {g : Nat} {args : Array Value} {v : Value} {H' : AH} {o : Oper} (hs : SSφ P ne m E n kn ls H a w φ cs) (hx : o.op.operands.all (okx P) = true) (hkn : o.op.operands.all (knownV kn) = true) (hc : callV kn o = some (g, args)) (hr : CallS P ne m2 g args H v H')
    {K : Act → World → Prop} (hn : ∀ φ' v' w', VR φ' v v' → Inv φ' H' w' → Step m2 φ H w φ' H' w' → K (a.put o.dst v') w') : o.wp P a w K Q := by
  rw [Array.all_eq_true_iff_forall_mem] at hkn hx
  have hev : ∀ x ∈ o.op.operands, VR φ (evV kn x) (a.eval x) := fun x hxm => hs.eval (hkn x hxm) (hx x hxm)
  obtain ⟨⟨fn, c, hf, hb⟩, hr⟩ := hr hs.sane
  obtain ⟨dst, op, ty, pos, after, guard⟩ := o
  unfold callV at hc
  simp only at hc hev hn
  split at hc
  · rename_i g args0 ts
    have hgv := hev g (by simp [Op.operands, Call.operands])
    have hargs : AR φ (args0.map (evV kn)) (args0.map a.eval) := ar_map args0 fun x hx => hev x (by simp [Op.operands, Call.operands, hx])
    split at hc
    · rename_i f0 first cap hge
      simp only [Option.some.injEq, Prod.mk.injEq] at hc
      obtain ⟨rfl, rfl⟩ := hc
      rw [hge] at hgv
      generalize hq : a.eval g = q at hgv
      cases hgv with
      | func fn' f1 g1 f1' g1' hf1 hg1 i1 i2 =>
        have hall : AR φ (first ++ args0.map (evV kn) ++ cap) (f1' ++ args0.map a.eval ++ g1') := ((AR.append ⟨hf1, i1⟩ hargs).append ⟨hg1, i2⟩)
        show Oper.upon P _ a K Q _
        have hex : execOp a.eval { dst := dst, op := .call { callee := .value g, args := args0, argTypes := ts }, type := ty, pos := pos, after := after, guard := guard } = callFunc f0 (f1' ++ args0.map a.eval ++ g1') := by
          simp only [execOp, resolve, hq]; rfl
        rw [hex, run_callFunc_body hs.sane hf hb]
        exact calls_returned (hr φ w _ hs.glob hall hs.inv) hn
    · cases hc
  · cases hc

theorem agree.trans' {w1 w w' : World} (h1 : agree w1 w) (h2 : agree w w') : agree w1 w' := fun c hc => by
  have hlt : c < w.heap.size := by
    have := h1 c hc
    rw [Array.getElem?_eq_getElem hc] at this
    rw [Array.getElem?_eq_some_iff] at this
    exact this.1
  rw [h2 c hlt, h1 c hc]

theorem act_core (ho : ops[k]? = some (opAt ops k)) {w1 : World} (hs : SSφ P ne m E n kn ls H a w φ cs) (hw : wantV ops kn (opAt ops k) = some true)
    (h : ∀ K : Act → World → Prop, (∀ a' w', (demO ops A bs k = true → agree w1 w') ∧ wpAnyD P ops Q bs A w1 f (la.setIfInBounds k true) a' w' → K a' w') → (opAt ops k).wp P a w K Q) :
    wpOp P ops Q k (fun a' w' => (demO ops A bs k = true → agree w1 w') ∧ wpAnyD P ops Q bs A w1 f (la.setIfInBounds k true) a' w') a w := by
  unfold wpOp
  rw [ho]
  simp only [wantV_ok hs hw, if_true]
  left
  exact h _ fun a' w' hh => hh

theorem rdy_act (hr : (Region.ready .any ops la).contains k = true) (hc : closedOk ops.toList bs = true) (hJ : JC ops bs la) : JC ops bs (la.setIfInBounds k true) :=
  hJ.next (rdy_of hc hJ (by simpa using hr))

theorem DA.one (k : Nat) (hr : readyIs ops la [k] = true) (h : DAk P ne m E n ops bs A H1 ls1 k f la ag knA kn ls H Q) : DA P ne m E n ops bs A H1 ls1 (f + 1) la ag knA kn ls H Q := by
  intro w1 φ1 cs1 a w φ cs q1 q2 q3 q4 q5 q6 q7
  have hr := readyIs_eq hr
  refine ⟨fun h0 => (by rw [hr] at h0; cases h0), fun i hi => ?_⟩
  rw [hr] at hi
  simp only [List.mem_cons, List.not_mem_nil, or_false] at hi
  subst hi
  exact h w1 φ1 cs1 a w φ cs q1 q2 q3 q4 q5 q6 q7

/-- Two may come next. -/
theorem DA.two (k k2 : Nat) (hr : readyIs ops la [k, k2] = true) (h : DAk P ne m E n ops bs A H1 ls1 k f la ag knA kn ls H Q) (h2 : DAk P ne m E n ops bs A H1 ls1 k2 f la ag knA kn ls H Q) : DA P ne m E n ops bs A H1 ls1 (f + 1) la ag knA kn ls H Q := by
  intro w1 φ1 cs1 a w φ cs q1 q2 q3 q4 q5 q6 q7
  have hr := readyIs_eq hr
  refine ⟨fun h0 => (by rw [hr] at h0; cases h0), fun i hi => ?_⟩
  rw [hr] at hi
  simp only [List.mem_cons, List.not_mem_nil, or_false] at hi
  rcases hi with rfl | rfl
  · exact h w1 φ1 cs1 a w φ cs q1 q2 q3 q4 q5 q6 q7
  · exact h2 w1 φ1 cs1 a w φ cs q1 q2 q3 q4 q5 q6 q7

/-- Three may come next. -/
theorem DA.three (k k2 k3 : Nat) (hr : readyIs ops la [k, k2, k3] = true) (h : DAk P ne m E n ops bs A H1 ls1 k f la ag knA kn ls H Q) (h2 : DAk P ne m E n ops bs A H1 ls1 k2 f la ag knA kn ls H Q) (h3 : DAk P ne m E n ops bs A H1 ls1 k3 f la ag knA kn ls H Q) : DA P ne m E n ops bs A H1 ls1 (f + 1) la ag knA kn ls H Q := by
  intro w1 φ1 cs1 a w φ cs q1 q2 q3 q4 q5 q6 q7
  have hr := readyIs_eq hr
  refine ⟨fun h0 => (by rw [hr] at h0; cases h0), fun i hi => ?_⟩
  rw [hr] at hi
  simp only [List.mem_cons, List.not_mem_nil, or_false] at hi
  rcases hi with rfl | rfl | rfl
  · exact h w1 φ1 cs1 a w φ cs q1 q2 q3 q4 q5 q6 q7
  · exact h2 w1 φ1 cs1 a w φ cs q1 q2 q3 q4 q5 q6 q7
  · exact h3 w1 φ1 cs1 a w φ cs q1 q2 q3 q4 q5 q6 q7

theorem wpAnyD_weak {w2 : World} {A' : List Nat} (hA : ∀ i, la.getD i true = false → demO ops A bs i = true → demO ops A' bs i = true ∧ agree w1 w2) : ∀ (f : Nat) {la : Array Bool} {a : Act} {w : World}, (∀ i, la.getD i true = false → demO ops A bs i = true → demO ops A' bs i = true ∧ agree w1 w2) → wpAnyD P ops Q bs A' w2 f la a w → wpAnyD P ops Q bs A w1 f la a w := by
  intro f
  induction f with
  | zero => intro la a w _ h; exact h
  | succ f ih =>
    intro la a w hA h
    refine ⟨h.1, fun i hi => wpOp_mono (fun a' w' hh => ⟨fun hd => ?_, ih (fun j hj hd => hA j ?_ hd) hh.2⟩) (h.2 i hi)⟩
    · have hun : la.getD i true = false := by
        have h0 := (mem_ready.1 hi).1
        have hlt : i < la.size := by
          rcases Nat.lt_or_ge i la.size with h' | h'
          · exact h'
          · simp [Array.getElem?_eq_none h'] at h0
        simpa [hlt] using h0
      obtain ⟨q1, q2⟩ := hA i hun hd
      exact q2.trans' (hh.1 q1)
    · by_cases e : i = j
      · subst e
        rcases Nat.lt_or_ge i la.size with h' | h'
        · simp [h'] at hj
        · have : (la.setIfInBounds i true) = la := by rw [Array.setIfInBounds]; simp [Nat.not_lt.2 h']
          rw [this] at hj; exact hj
      · rwa [getD_set_ne true e] at hj

/-- All that waits is looked at anew: from here on. -/
def restB (ops : Array Oper) (A A' bs : List Nat) (la : Array Bool) (ag : Bool) : Bool :=
  (List.range la.size).all fun i => la.getD i true || !demO ops A bs i || (ag && demO ops A' bs i)

theorem DA.restart (A' : List Nat) (hA : restB ops A A' bs la ag = true) (h : DA P ne m E n ops bs A' H ls f la true kn kn ls H Q) : DA P ne m E n ops bs A H1 ls1 f la ag knA kn ls H Q := by
  intro w1 φ1 cs1 a w φ cs q1 q2 q3 q4 q5 q6 q7
  have hw := h w φ cs a w φ cs ⟨q3.glob, q3.inv, fun i c x h1 h2 => (q3.loc i c x h1 h2).2⟩ (Inj.le_refl φ) q3 (fun t kv hl => q3.slot t kv hl) (fun _ _ hc => hc) q6 (fun _ => agree.refl _)
  have hh : ∀ i, la.getD i true = false → demO ops A bs i = true → demO ops A' bs i = true ∧ agree w1 w := by
    intro i hi hd
    unfold restB at hA
    rw [List.all_eq_true] at hA
    have hlt : i < la.size := by
      rcases Nat.lt_or_ge i la.size with h' | h'
      · exact h'
      · simp [Array.getElem?_eq_none h'] at hi
    have := hA i (by simpa using hlt)
    rw [hi, hd] at this
    simp only [Bool.not_true, Bool.or_false, Bool.false_or, Bool.and_eq_true] at this
    exact ⟨this.2, q7 this.1⟩
  exact wpAnyD_weak hh f hh hw

/-- One's own variables. -/
theorem DA.actL {kv : KV} {ls' : Lcs} (ag' : Bool) (ho : ops[k]? = some (opAt ops k)) (hr : (Region.ready .any ops la).contains k = true) (hc : closedOk ops.toList bs = true) (hw : wantV ops kn (opAt ops k) = some true) (hd : dstV n (opAt ops k) = true) (hl : locOp P kn ls (opAt ops k) = some (kv, ls'))
    (ha : ((!demO ops A bs k || (ag && notStore (opAt ops k))) && (!ag' || (ag && notStore (opAt ops k)))) = true)
    (h : DA P ne m E n ops bs A H1 ls1 f (la.setIfInBounds k true) ag' (dropV (opAt ops k).dst knA) (putV kn (opAt ops k).dst kv) ls' H Q) : DAk P ne m E n ops bs A H1 ls1 k f la ag knA kn ls H Q := by
  intro w1 φ1 cs1 a w φ cs hd1 hle hs hka hpf hJ hag
  refine act_core ho hs hw fun K hK => ?_
  refine locOp_ok hs hl hd fun v' w' cs' hs' hpf' hag' => hK _ _ ?_
  have hkeep : (ag && notStore (opAt ops k)) = true → agree w1 w' := fun hh => by
    rw [Bool.and_eq_true] at hh
    have h1 := hag hh.1
    have h2 := hag' hh.2
    exact fun c hc => by
      have hlt : c < w.heap.size := by
        have := h1 c hc
        rw [Array.getElem?_eq_getElem hc] at this
        rw [Array.getElem?_eq_some_iff] at this
        exact this.1
      rw [h2 c hlt, h1 c hc]
  rw [Bool.and_eq_true] at ha
  refine ⟨fun hdm => hkeep (by have := ha.1; rw [hdm] at this; simpa using this), h w1 φ1 cs1 _ _ φ cs' hd1 hle hs' (hka.drop _ _) (fun i c hc => hpf' i c (hpf i c hc)) (rdy_act hr hc hJ) fun hag2 => hkeep (by have := ha.2; rw [hag2] at this; simpa using this)⟩

theorem step_weak {φ φ' : Inj} {H H' : AH} {w w' : World} {m m2 : Nat} (hm : m ≤ m2) (h : Step m2 φ H w φ' H' w') : Step m φ H w φ' H' w' :=
  ⟨h.le, h.ext, fun id l h1 h2 => ⟨(h.new id l h1 h2).1, (h.new id l h1 h2).2.imp (fun q => q) fun ⟨id0, l0, q1, q2⟩ => ⟨id0, l0, Nat.le_trans hm q1, q2⟩⟩, h.alv, h.size, fun c hc hno => h.keep c hc fun id l hid => hno id l (Nat.le_trans hm hid), h.os, h.tape, h.output⟩

/-- Nothing that was there has been written. -/
theorem step_agree {φ φ' : Inj} {H H' : AH} {w w' : World} {m : Nat} (hm : H.next ≤ m) (hi : Inv φ H w) (h : Step m φ H w φ' H' w') : agree w w' := by
  intro c hc
  refine h.keep c hc fun id l hid hs hl => ?_
  have := (hi.dom id l hl).1
  omega

/-- Something new, or a write. -/
theorem DA.actH (m2 : Nat) (ag' : Bool) {v : Value} {H' : AH} (ho : ops[k]? = some (opAt ops k)) (hr : (Region.ready .any ops la).contains k = true) (hc : closedOk ops.toList bs = true) (hB : opV P n ops kn (opAt ops k) = true) (hv : runOp P (NE.plain 0) ih0 m2 (opAt ops k) (evV kn) H = some (v, H')) (hn : noCall (opAt ops k) = true)
    (hm : m ≤ m2) (hm2 : (demO ops A bs k || ag') = true → H.next ≤ m2) (ha : ((!demO ops A bs k || ag) && (!ag' || ag)) = true)
    (h : DA P ne m E n ops bs A H1 ls1 f (la.setIfInBounds k true) ag' (dropV (opAt ops k).dst knA) (putV kn (opAt ops k).dst (.val v)) ls H' Q) : DAk P ne m E n ops bs A H1 ls1 k f la ag knA kn ls H Q := by
  intro w1 φ1 cs1 a w φ cs hd1 hle hs hka hpf hJ hag
  unfold opV at hB
  simp only [Bool.and_eq_true] at hB
  obtain ⟨⟨⟨hg, hx⟩, hkn⟩, hd⟩ := hB
  rw [Array.all_eq_true_iff_forall_mem] at hkn hx
  have hw : wantV ops kn (opAt ops k) = some true := by
    split at hg
    · assumption
    · cases hg
  refine act_core ho hs hw fun K hK => ?_
  have hr' : runOp P ne ih0 m2 (opAt ops k) (evV kn) H = some (v, H') := by
    rw [← hv]
    generalize opAt ops k = o at hn
    obtain ⟨dst, op, ty, pos, after, guard⟩ := o
    unfold runOp
    cases op with
    | call c =>
      obtain ⟨callee, args, ts⟩ := c
      cases callee with
      | value g => cases hn
      | _ => rfl
    | _ => rfl
  refine runOp_ok hs.sane good_ih0 hr' hs.glob (fun x hxm => hs.eval (hkn x hxm) (hx x hxm)) hs.inv fun φ' v' w' h1 h2 h3 => ?_
  have hkeep : (demO ops A bs k || ag') = true → ag = true → agree w1 w' := fun hh hag2 => by
    exact (hag hag2).trans' (step_agree (hm2 hh) hs.inv h3)
  rw [Bool.and_eq_true] at ha
  refine hK _ _ ⟨fun hdm => hkeep (by rw [hdm]; rfl) (by have := ha.1; rw [hdm] at this; simpa using this), h w1 φ1 cs1 _ _ φ' cs hd1 (fun id l hl => h3.ext _ _ (hle _ _ hl)) ((hs.heap h2 (step_weak hm h3)).put hd h1) (hka.drop _ _) hpf (rdy_act hr hc hJ) fun hag2 => hkeep (by rw [hag2, Bool.or_true]) (by have := ha.2; rw [hag2] at this; simpa using this)⟩

/-- A call. -/
theorem DA.actC (m2 : Nat) (ag' : Bool) {v : Value} {H' : AH} (g : Nat) (args : Array Value) (ho : ops[k]? = some (opAt ops k)) (hr : (Region.ready .any ops la).contains k = true) (hc : closedOk ops.toList bs = true) (hB : opV P n ops kn (opAt ops k) = true) (hcl : callV kn (opAt ops k) = some (g, args)) (hcs : CallS P ne m2 g args H v H')
    (hm : m ≤ m2) (hm2 : (demO ops A bs k || ag') = true → H.next ≤ m2) (ha : ((!demO ops A bs k || ag) && (!ag' || ag)) = true)
    (h : DA P ne m E n ops bs A H1 ls1 f (la.setIfInBounds k true) ag' (dropV (opAt ops k).dst knA) (putV kn (opAt ops k).dst (.val v)) ls H' Q) : DAk P ne m E n ops bs A H1 ls1 k f la ag knA kn ls H Q := by
  intro w1 φ1 cs1 a w φ cs hd1 hle hs hka hpf hJ hag
  unfold opV at hB
  simp only [Bool.and_eq_true] at hB
  obtain ⟨⟨⟨hg, hx⟩, hkn⟩, hd⟩ := hB
  have hw : wantV ops kn (opAt ops k) = some true := by
    split at hg
    · assumption
    · cases hg
  refine act_core ho hs hw fun K hK => ?_
  refine call_wp' hs hx hkn hcl hcs fun φ' v' w' h1 h2 h3 => ?_
  have hkeep : (demO ops A bs k || ag') = true → ag = true → agree w1 w' := fun hh hag2 => by
    exact (hag hag2).trans' (step_agree (hm2 hh) hs.inv h3)
  rw [Bool.and_eq_true] at ha
  refine hK _ _ ⟨fun hdm => hkeep (by rw [hdm]; rfl) (by have := ha.1; rw [hdm] at this; simpa using this), h w1 φ1 cs1 _ _ φ' cs hd1 (fun id l hl => h3.ext _ _ (hle _ _ hl)) ((hs.heap h2 (step_weak hm h3)).put hd h1) (hka.drop _ _) hpf (rdy_act hr hc hJ) fun hag2 => hkeep (by rw [hag2, Bool.or_true]) (by have := ha.2; rw [hag2] at this; simpa using this)⟩

/-- A truth value is met both ways. -/
theorem DA.fix (t : Nat) {b : Bool} (d : Bool) (hb : b = d) (hl : lkV kn t = some (.val (.bool b))) (h : DA P ne m E n ops bs A H1 ls1 f la ag ((t, .val (.bool d)) :: knA) ((t, .val (.bool d)) :: kn) ls H Q) : DA P ne m E n ops bs A H1 ls1 f la ag knA kn ls H Q := by
  subst hb
  intro w1 φ1 cs1 a w φ cs hd1 hle hs hka hpf hJ hag
  have hv : VR φ (.bool b) (a.tmps.getD t undef) := hs.slot t _ hl
  have hv1 : VR φ1 (.bool b) (a.tmps.getD t undef) := by
    generalize a.tmps.getD t undef = u at hv
    cases hv; exact .bool b
  refine h w1 φ1 cs1 a w φ cs hd1 hle ⟨hs.glob, hs.inv, hs.step, hs.len, hs.loc, hs.inj, hs.low, fun s kv hh => ?_, hs.size, hs.defers, hs.sane, hs.inv0⟩ (fun s kv hh => ?_) hpf hJ hag
  · simp only [lkV] at hh
    cases hq : Nat.beq t s with
    | true =>
      rw [hq] at hh
      have := Nat.eq_of_beq_eq_true hq
      subst this
      cases hh
      exact hv
    | false => rw [hq] at hh; exact hs.slot s kv hh
  · simp only [lkV] at hh
    cases hq : Nat.beq t s with
    | true =>
      rw [hq] at hh
      have := Nat.eq_of_beq_eq_true hq
      subst this
      cases hh
      exact hv1
    | false => rw [hq] at hh; exact hka s kv hh

end
end Go.Abs


namespace Go.Abs

/-! ### Words of the printed functions -/

/-- How a loop is run: by whatever finds what the loop comes to. -/
structure LC where
  run : {S R : Type} → (S → Option (Lp S R)) → S → Option (S ⊕ R)
  fuel : Nat
  ok : ∀ {S R : Type} {body : S → Option (Lp S R)} {s : S} {o : S ⊕ R}, run body s = some o → loopO body s = some o

def LCn (k j : Nat) : LC := ⟨fun b s => iterO b k s, j, fun h => loopO_iff.2 ⟨k, h⟩⟩

variable {P : Program} {ne : NE} {m : Nat} {ih : Ex} {ρ : Operand → Value} {o : Oper} {H H' : AH}

/-! What is read in a drawn region -/

theorem det_load {t : TypeId} {x : Operand} {a : Addr} {v : Value} (hop : o.op = .load t x) (hu : (P.underlying t).map isAggD = some false) (hi : (P.info? t).isSome = true) (hx : ρ x = .pointer (some a)) (h : H.cell a = some v) : detOp P H o ρ = some v := by
  obtain ⟨dst, op, ty, pos, after, guard⟩ := o
  simp only at hop
  subst hop
  obtain ⟨i, hi⟩ := Option.isSome_iff_exists.1 hi
  cases hd : P.underlying t with
  | none => rw [hd] at hu; cases hu
  | some d =>
    rw [hd] at hu
    simp only [Option.map_some, Option.some.injEq] at hu
    simp only [detOp, tPure, hx, aLoad, hd, hi, hu, cond_false, h]

theorem det_loadA {t : TypeId} {x : Operand} {a : Addr} {l : List Value} {k : Nat} (hop : o.op = .load t x) (hu : (P.underlying t).map isAggD = some true) (hi : (P.info? t).map (·.size) = some k) (hx : ρ x = .pointer (some a)) (h : rdCells H a 0 k = some l) : detOp P H o ρ = some (.agg l.toArray) := by
  obtain ⟨dst, op, ty, pos, after, guard⟩ := o
  simp only at hop
  subst hop
  cases hie : P.info? t with
  | none => rw [hie] at hi; cases hi
  | some i =>
    rw [hie] at hi
    simp only [Option.map_some, Option.some.injEq] at hi
    subst hi
    cases hd : P.underlying t with
    | none => rw [hd] at hu; cases hu
    | some d =>
      rw [hd] at hu
      simp only [Option.map_some, Option.some.injEq] at hu
      simp only [detOp, tPure, hx, aLoad, hd, hie, hu, cond_true, h]

theorem det_idx {t e : TypeId} {x y : Operand} {sz : Nat} {s : Sl3} {k : IntKind} {i : Int} {a : Addr} (hop : o.op = .indexAddr t x y) (hu : P.underlying t = some (.slice e)) (hi : (P.info? e).map (·.size) = some sz)
    (hx : ρ x = s.v) (hy : ρ y = .int k i) (h : idxA sz s i = some a) : detOp P H o ρ = some (.pointer (some a)) := by
  obtain ⟨dst, op, ty, pos, after, guard⟩ := o
  simp only at hop
  subst hop
  obtain ⟨p, l, c⟩ := s
  cases hie : P.info? e with
  | none => rw [hie] at hi; cases hi
  | some inf =>
    rw [hie] at hi
    simp only [Option.map_some, Option.some.injEq] at hi
    subst hi
    unfold idxA at h
    cases p with
    | none => cases h
    | some b =>
      simp only at h
      split at h
      · rename_i hb
        simp only [Option.some.injEq] at h
        subst h
        obtain ⟨j, rfl⟩ : ∃ j : Nat, i = (j : Int) := ⟨i.toNat, by omega⟩
        have hlt : Nat.blt j l = true := Nat.ble_eq_true_of_le (by omega)
        have hp : tPure P ⟨dst, .indexAddr t x y, ty, pos, after, guard⟩ ρ = some (.pointer (some (b.add (j * inf.size)))) := by
          simp only [tPure, hu, hx, hy, Sl3.v, hie]
          show (match (Value.int k (Int.ofNat j)) with | .int _ (.ofNat i) => _ | _ => none) = _
          simp only [hlt, cond_true]
        simp only [detOp, hp]
        simp
      · cases h

/-! Structs in the heap -/

theorem run_loadAg {t : TypeId} {x : Operand} {a : Addr} {l : List Value} {k : Nat} (hop : o.op = .load t x) (hu : (P.underlying t).map isAggD = some true) (hi : (P.info? t).map (·.size) = some k) (hx : ρ x = .pointer (some a)) (h : rdCells H a 0 k = some l) : runOp P ne ih m o ρ H = some (.agg l.toArray, H) := by
  obtain ⟨dst, op, ty, pos, after, guard⟩ := o
  simp only at hop
  subst hop
  cases hie : P.info? t with
  | none => rw [hie] at hi; cases hi
  | some i =>
    rw [hie] at hi
    simp only [Option.map_some, Option.some.injEq] at hi
    subst hi
    cases hd : P.underlying t with
    | none => rw [hd] at hu; cases hu
    | some d =>
      rw [hd] at hu
      simp only [Option.map_some, Option.some.injEq] at hu
      simp only [runOp, aOp, execOp, hx, bind]
      have hS : arun P m (Instr.loadAt t (.pointer (some a))) H = some (.agg l.toArray, H) := by
        unfold Instr.loadAt Go.loadVar Go.isAgg
        have hl := arun_loadCellsFrom (P := P) (m := m) a i.size 0 #[] H
        rw [h] at hl
        simp only [Instr.sureAddr, Go.underlying, Go.program, Go.sizeOf, Go.typeInfo, bind, Pure.pure, Sem.bind, arun, hd]
        cases d <;> first | (simp only [isAggD] at hu; cases hu; done) | (simp only [Sem.bind, arun, if_true, hie, Go.loadCells]; rw [arun_bind, hl]; simp [arun])
      rw [arun_bind, hS]
      rfl

/-! Arrays that a pointer leads to -/

def idxR (sz n : Nat) (a : Addr) (i : Int) : Option Addr := if 0 ≤ i ∧ i < n then some (a.add (i.toNat * sz)) else none

theorem run_idxR {t e : TypeId} {x y : Operand} {sz n : Nat} {a a' : Addr} {k : IntKind} {i : Int} (hop : o.op = .indexAddr t x y) (hu : P.underlying t = some (.array n e)) (hi : (P.info? e).map (·.size) = some sz)
    (hx : ρ x = .pointer (some a)) (hy : ρ y = .int k i) (h : idxR sz n a i = some a') : runOp P ne ih m o ρ H = some (.pointer (some a'), H) := by
  obtain ⟨dst, op, ty, pos, after, guard⟩ := o
  simp only at hop
  subst hop
  cases hie : P.info? e with
  | none => rw [hie] at hi; cases hi
  | some inf =>
    rw [hie] at hi
    simp only [Option.map_some, Option.some.injEq] at hi
    subst hi
    unfold idxR at h
    split at h
    · rename_i hb
      simp only [Option.some.injEq] at h
      subst h
      simp only [runOp, aOp, execOp, hx, hy]
      have hS : arun P m (Instr.indexAt t (.pointer (some a)) (.int k i)) H = some (.pointer (some (a.add (i.toNat * inf.size))), H) := by
        unfold Instr.indexAt
        simp only [asIntOf, Go.underlying, Go.sizeOf, Go.typeInfo, Go.program, bind, Pure.pure, Sem.bind, arun, hu, hie, Instr.sureAddr]
        rw [if_pos hb]
        simp only [Sem.bind, arun, hie]
      simp only [bind]
      rw [arun_bind, hS]
      rfl
    · cases h

/-! Maps -/

def mapB : Blk := { obj := .map #[] 0, opn := false, esz := 0, ro := false }

def lkM {α : Type} (P : Program) (t : TypeId) (de : Value → Option α) (H : AH) (m : Option Nat) (k : Value) : Option (α × Bool) :=
  match aLookup P t (.map m) k true H with
  | some (.tuple cs) => match cs.toList with
    | [x, .bool b] => (de x).map (·, b)
    | _ => none
  | _ => none

def lk1 {α : Type} (P : Program) (t : TypeId) (de : Value → Option α) (H : AH) (m : Option Nat) (k : Value) : Option α := (aLookup P t (.map m) k false H).bind de

theorem lkM_eq {α : Type} {t : TypeId} {de : Value → Option α} {mm : Option Nat} {k : Value} {x : α} {b : Bool} {v : Value} (h : lkM P t de H mm k = some (x, b)) (hv : ∀ u, de u = some x → u = v) : aLookup P t (.map mm) k true H = some (.tuple #[v, .bool b]) := by
  unfold lkM at h
  split at h
  · rename_i cs hc
    split at h
    · rename_i y c hl
      cases hd : de y with
      | none => rw [hd] at h; cases h
      | some z =>
        rw [hd] at h
        simp only [Option.map_some, Option.some.injEq, Prod.mk.injEq] at h
        obtain ⟨rfl, rfl⟩ := h
        rw [hc, ← hv y hd, list_two hl]
    · cases h
  · cases h

theorem lk1_eq {α : Type} {t : TypeId} {de : Value → Option α} {mm : Option Nat} {k : Value} {x : α} {v : Value} (h : lk1 P t de H mm k = some x) (hv : ∀ u, de u = some x → u = v) : aLookup P t (.map mm) k false H = some v := by
  obtain ⟨u, h1, h2⟩ := bind_some h
  rw [h1, hv u h2]

theorem run_look {t : TypeId} {x y : Operand} {ok : Bool} {mm : Option Nat} {k v : Value} (hop : o.op = .lookup t x y ok) (hx : ρ x = .map mm) (hy : ρ y = k) (hf : flat depth k = true) (h : aLookup P t (.map mm) k ok H = some v) : runOp P ne ih m o ρ H = some (v, H) := by
  obtain ⟨dst, op, ty, pos, after, guard⟩ := o
  simp only at hop
  subst hop
  simp only [runOp, aOp, hx, hy, hf, cond_true, h]

def upM (P : Program) (m : Nat) (t : TypeId) (H : AH) (mm : Option Nat) (k v : Value) : Option AH :=
  match aUpdate P m t (.map mm) k v H with
  | some (.tuple cs, H') => if cs.size = 0 then some H' else none
  | _ => none

theorem run_upM {t : TypeId} {x y z : Operand} {mm : Option Nat} {k v : Value} (hop : o.op = .mapUpdate t x y z) (hx : ρ x = .map mm) (hy : ρ y = k) (hz : ρ z = v) (hf : flat depth k = true) (h : upM P m t H mm k v = some H') : runOp P ne ih m o ρ H = some (undef, H') := by
  obtain ⟨dst, op, ty, pos, after, guard⟩ := o
  simp only at hop
  subst hop
  unfold upM at h
  split at h
  · rename_i cs H1 hu
    split at h
    · rename_i hs
      simp only [Option.some.injEq] at h
      subst h
      have e : cs = #[] := Array.eq_empty_of_size_eq_zero hs
      subst e
      simp only [runOp, aOp, hx, hy, hz, hf, cond_true, hu]
      rfl
    · cases h
  · cases h

def deM : Value → Option (Option Nat)
  | .map r => some r
  | _ => none
theorem deM_inv {x : Option Nat} : ∀ u, deM u = some x → u = .map x := by
  intro u h
  cases u <;> simp only [deM] at h <;> cases h
  rfl

theorem rdc_cons {a : Addr} {i k : Nat} {v : Value} {l : List Value} (h1 : H.cell (a.add i) = some v) (h2 : rdCells H a (i + 1) k = some l) : rdCells H a i (k + 1) = some (v :: l) := by
  simp only [rdCells, h1, h2]

section
variable {E : Ent} {n : Nat} {kn : KN} {ls : Lcs} {ops : Array Oper} {k : Nat} {Q : Exit → Act → World → Prop}

/-- A call of a function of Go's own without a body. -/
theorem RS.ext {v : Value} (f : Nat) (args : Array Value) (ho : ops[k]? = some (opAt ops k)) (hB : opV P n ops kn (opAt ops k) = true) (hc : callV kn (opAt ops k) = some (f, args)) (ha : args.all (flat depth) = true) (hp : peval P (callFunc f args) = some (.value v)) (hv : flat depth v = true)
    (h : RS P ne m E n ops (k + 1) (putV kn (opAt ops k).dst (.val v)) ls H Q) : RS P ne m E n ops k kn ls H Q := by
  intro a w hs
  obtain ⟨φ, cs, hs⟩ := hs
  unfold opV at hB
  simp only [Bool.and_eq_true] at hB
  obtain ⟨⟨⟨hg, hx⟩, hkn⟩, hd⟩ := hB
  rw [Array.all_eq_true_iff_forall_mem] at hkn hx
  have hw : wantV ops kn (opAt ops k) = some true := by
    split at hg
    · assumption
    · cases hg
  rw [range_step ho, wpOps_cons]
  unfold wpOp
  rw [ho]
  simp only [wantV_ok hs hw, if_true]
  left
  have hev : ∀ x ∈ (opAt ops k).op.operands, VR φ (evV kn x) (a.eval x) := fun x hxm => hs.eval (hkn x hxm) (hx x hxm)
  have hn := h (a.put (opAt ops k).dst v) w ⟨φ, cs, hs.put hd (kv := .val v) (flat_refl depth hv)⟩
  revert hn hc hev
  generalize opAt ops k = o
  intro hc hev hn
  obtain ⟨dst, op, ty, pos, after, guard⟩ := o
  unfold callV at hc
  simp only at hc hev hn
  split at hc
  · rename_i g args0 ts
    have hgv := hev g (by simp [Op.operands, Call.operands])
    have hargs : AR φ (args0.map (evV kn)) (args0.map a.eval) := ar_map args0 fun x hx => hev x (by simp [Op.operands, Call.operands, hx])
    split at hc
    · rename_i f0 first cap hge
      simp only [Option.some.injEq, Prod.mk.injEq] at hc
      obtain ⟨rfl, rfl⟩ := hc
      rw [hge] at hgv
      generalize hq : a.eval g = q at hgv
      cases hgv with
      | func fn' f1 g1 f1' g1' hf1 hg1 i1 i2 =>
        have hall : AR φ (first ++ args0.map (evV kn) ++ cap) (f1' ++ args0.map a.eval ++ g1') := ((AR.append ⟨hf1, i1⟩ hargs).append ⟨hg1, i2⟩)
        have e := flat_all ha hall
        show Oper.upon P _ a _ Q _
        have hex : execOp a.eval { dst := dst, op := .call { callee := .value g, args := args0, argTypes := ts }, type := ty, pos := pos, after := after, guard := guard } = callFunc f0 (f1' ++ args0.map a.eval ++ g1') := by
          simp only [execOp, resolve, hq]; rfl
        rw [hex, ← e, peval_run P _ _ hp w]
        exact hn
    · cases hc
  · cases hc

end

end Go.Abs


namespace Go.Abs

/-! ### The rules as the printer names them -/

variable {P : Program} {ne : NE} {m n : Nat}
variable {E : Ent} {kn knA : KN} {ls ls1 : Lcs} {H H1 H' : AH} {ops : Array Oper} {k : Nat} {Q : Exit → Act → World → Prop} {bs A : List Nat} {f : Nat} {la : Array Bool} {ag : Bool}

theorem SubV.cons {t : Nat} {v : KV} {l kn : KN} (h : lkV kn t = some v) (h2 : SubV l kn) : SubV ((t, v) :: l) kn := ⟨h, h2⟩
theorem SubV.nil {kn : KN} : SubV [] kn := trivial

/-- A new block. -/
def newB (e : TypeId) (cells : List Value) (H : AH) : Option (Addr × AH) := some (⟨H.next, 0, none⟩, H.push (pubB e cells))

theorem run_newB {ih : Ex} {ρ : Operand → Value} {o : Oper} {e : TypeId} {cells : List Value} {p : Addr} (hr : runOp P ne ih m o ρ H = some (.pointer (some ⟨H.next, 0, none⟩), H.push (pubB e cells))) (hx : newB e cells H = some (p, H')) : runOp P ne ih m o ρ H = some (.pointer (some p), H') := by
  cases hx
  exact hr

/-- A new map. -/
def newM (H : AH) : Option (Nat × AH) := some (H.next, H.push mapB)

theorem run_newM {ih : Ex} {ρ : Operand → Value} {o : Oper} {p : Nat} (hr : runOp P ne ih m o ρ H = some (.map (some H.next), H.push mapB)) (hx : newM H = some (p, H')) : runOp P ne ih m o ρ H = some (.map (some p), H') := by
  cases hx
  exact hr

theorem RS.atD (d : Option Nat) (v : Value) (ho : ops[k]? = some (opAt ops k)) (hd : (opAt ops k).dst = d) (hB : (opV P n ops kn (opAt ops k) && noCall (opAt ops k)) = true) (hr : runOp P (NE.plain 0) ih0 m (opAt ops k) (evV kn) H = some (v, H'))
    (h : RS P ne m E n ops (k + 1) (putV kn d (.val v)) ls H' Q) : RS P ne m E n ops k kn ls H Q := by
  subst hd
  exact RS.at v ho hB hr h

theorem RS.callD (d : Option Nat) {v : Value} (f : Nat) (args : Array Value) (ho : ops[k]? = some (opAt ops k)) (hd : (opAt ops k).dst = d) (hB : opV P n ops kn (opAt ops k) = true) (hc : callV kn (opAt ops k) = some (f, args)) (hr : CallS P ne m f args H v H')
    (h : RS P ne m E n ops (k + 1) (putV kn d (.val v)) ls H' Q) : RS P ne m E n ops k kn ls H Q := by
  subst hd
  exact RS.call f args ho hB hc hr h

theorem WS.drawnX {c : Code} (ops : Array Oper) (A : List Nat) (bs : List Nat) (sz : Nat) (hc : regOf c = some (ops, true)) (hb : befores ops.toList = bs) (hs : ops.size = sz) (hB : closedOk ops.toList bs = true) (h : DA P ne m E n ops bs A H ls sz (Array.replicate sz false) true kn kn ls H Q) : WS P ne m E n c kn ls H Q := by
  subst hb hs
  exact WS.drawn ops A hc hB h

theorem DA.takeD (k : Nat) (d : Option Nat) (v : Value) (ho : ops[k]? = some (opAt ops k)) (hd : (opAt ops k).dst = d) (hB : takeB P n ops A la k (opAt ops k) = true) (hc : closedOk ops.toList bs = true) (hQ : ∀ c a w, ¬ Q (.panic c) a w)
    (hw : (wantV ops kn (opAt ops k), (opAt ops k).op.operands.all (okx P), (opAt ops k).op.operands.all (knownV knA)) = (some true, true, true)) (hv : detOp P H1 (opAt ops k) (evV knA) = some v)
    (h : DA P ne m E n ops bs A H1 ls1 f (la.setIfInBounds k true) true (putV knA d (.val v)) (putV kn d (.val v)) ls H Q) : DA P ne m E n ops bs A H1 ls1 (f + 1) la true knA kn ls H Q := by
  subst hd
  exact DA.take ho hB hc hQ hw hv h

theorem DA.tskipD (k : Nat) (d : Option Nat) (ho : ops[k]? = some (opAt ops k)) (hd : (opAt ops k).dst = d) (hB : takeB P n ops A la k (opAt ops k) = true) (hc : closedOk ops.toList bs = true) (hQ : ∀ c a w, ¬ Q (.panic c) a w) (hw : wantV ops kn (opAt ops k) = some false)
    (h : DA P ne m E n ops bs A H1 ls1 f (la.setIfInBounds k true) true (putV knA d (.val undef)) (putV kn d (.val undef)) ls H Q) : DA P ne m E n ops bs A H1 ls1 (f + 1) la true knA kn ls H Q := by
  subst hd
  exact DA.tskip ho hB hc hQ hw h

theorem DA.takeLD (k : Nat) (d : Option Nat) (kv : KV) (ho : ops[k]? = some (opAt ops k)) (hd : (opAt ops k).dst = d) (hB : takeB P n ops A la k (opAt ops k) = true) (hc : closedOk ops.toList bs = true) (hQ : ∀ c a w, ¬ Q (.panic c) a w) (hw : wantV ops kn (opAt ops k) = some true) (hv : locDet P knA ls1 (opAt ops k) = some kv)
    (h : DA P ne m E n ops bs A H1 ls1 f (la.setIfInBounds k true) true (putV knA d kv) (putV kn d kv) ls H Q) : DA P ne m E n ops bs A H1 ls1 (f + 1) la true knA kn ls H Q := by
  subst hd
  exact DA.takeL ho hB hc hQ hw hv h

theorem DA.actLD (k : Nat) (d : Option Nat) (kv : KV) (ls' : Lcs) (ag' : Bool) (ho : ops[k]? = some (opAt ops k)) (hdd : (opAt ops k).dst = d) (hr : (Region.ready .any ops la).contains k = true) (hc : closedOk ops.toList bs = true) (hw : wantV ops kn (opAt ops k) = some true) (hd : dstV n (opAt ops k) = true) (hl : locOp P kn ls (opAt ops k) = some (kv, ls'))
    (ha : ((!demO ops A bs k || (ag && notStore (opAt ops k))) && (!ag' || (ag && notStore (opAt ops k)))) = true)
    (h : DA P ne m E n ops bs A H1 ls1 f (la.setIfInBounds k true) ag' (dropV d knA) (putV kn d kv) ls' H Q) : DAk P ne m E n ops bs A H1 ls1 k f la ag knA kn ls H Q := by
  subst hdd
  exact DA.actL ag' ho hr hc hw hd hl ha h

theorem DA.actHD (k : Nat) (d : Option Nat) (m2 : Nat) (ag' : Bool) (v : Value) (ho : ops[k]? = some (opAt ops k)) (hdd : (opAt ops k).dst = d) (hr : (Region.ready .any ops la).contains k = true) (hc : closedOk ops.toList bs = true) (hB : (opV P n ops kn (opAt ops k) && noCall (opAt ops k)) = true) (hv : runOp P (NE.plain 0) ih0 m2 (opAt ops k) (evV kn) H = some (v, H'))
    (hm : m ≤ m2) (hm2 : (demO ops A bs k || ag') = true → H.next ≤ m2) (ha : ((!demO ops A bs k || ag) && (!ag' || ag)) = true)
    (h : DA P ne m E n ops bs A H1 ls1 f (la.setIfInBounds k true) ag' (dropV d knA) (putV kn d (.val v)) ls H' Q) : DAk P ne m E n ops bs A H1 ls1 k f la ag knA kn ls H Q := by
  subst hdd
  rw [Bool.and_eq_true] at hB
  exact DA.actH m2 ag' ho hr hc hB.1 hv hB.2 hm hm2 ha h

theorem DA.actCD (k : Nat) (d : Option Nat) (m2 : Nat) (ag' : Bool) {v : Value} (g : Nat) (args : Array Value) (ho : ops[k]? = some (opAt ops k)) (hdd : (opAt ops k).dst = d) (hr : (Region.ready .any ops la).contains k = true) (hc : closedOk ops.toList bs = true) (hB : opV P n ops kn (opAt ops k) = true) (hcl : callV kn (opAt ops k) = some (g, args)) (hcs : CallS P ne m2 g args H v H')
    (hm : m ≤ m2) (hm2 : (demO ops A bs k || ag') = true → H.next ≤ m2) (ha : ((!demO ops A bs k || ag) && (!ag' || ag)) = true)
    (h : DA P ne m E n ops bs A H1 ls1 f (la.setIfInBounds k true) ag' (dropV d knA) (putV kn d (.val v)) ls H' Q) : DAk P ne m E n ops bs A H1 ls1 k f la ag knA kn ls H Q := by
  subst hdd
  exact DA.actC m2 ag' g args ho hr hc hB hcl hcs hm hm2 ha h

theorem rdc_nil {a : Addr} {i : Nat} : rdCells H a i 0 = some [] := rfl

/-! bytealg.IndexByteString: no body -/

end Go.Abs


namespace Go.Abs

variable {P : Program} {ne : NE} {m n : Nat}

section
variable {E : Ent} {kn : KN} {ls : Lcs} {H : AH} {a : Act} {w : World} {φ : Inj} {cs : List Nat} {Q : Exit → Act → World → Prop}

/-! Functions -/

def ldO (p : Nat) (t : TypeId) : Oper := { dst := none, op := .load t (.tmp p), type := 0, pos := default, after := #[], guard := none }

/-- What a named result that lies in memory holds. -/
def cellV (P : Program) (kn : KN) (ls : Lcs) (H : AH) (p : Nat) (t : TypeId) : Option Value :=
  match lkV kn p with
  | some (.loc _ _) => match locDet P kn ls (ldO p t) with
    | some (.val v) => some v
    | _ => none
  | some (.val (.pointer (some q))) => aLoad P t q H
  | _ => none

def resL (P : Program) (kn : KN) (ls : Lcs) (H : AH) : List ResultVar → Option (List Value)
  | [] => some []
  | .tmp t :: l => match lkV kn t, resL P kn ls H l with
    | some (.val u), some us => some (u :: us)
    | _, _ => none
  | .cell p t :: l => match cellV P kn ls H p t, resL P kn ls H l with
    | some u, some us => some (u :: us)
    | _, _ => none

def resF (P : Program) (fn : Func) (kn : KN) (ls : Lcs) (H : AH) : Option Value :=
  match resL P kn ls H fn.results.toList with
  | some [v] => some v
  | some l => some (.tuple l.toArray)
  | none => none

/-- It has gone back with this value. -/
def RT (P : Program) (ne : NE) (m : Nat) (E : Ent) (fn : Func) (v : Value) (H : AH) (a : Act) (w : World) : Prop :=
  ∃ n kn ls, SS P ne m E n kn ls H a w ∧ resF P fn kn ls H = some v

def retS (P : Program) (ne : NE) (m : Nat) (E : Ent) (fn : Func) (v : Value) (H : AH) : Exit → Act → World → Prop
  | .normal, a, w | .ret, a, w => RT P ne m E fn v H a w
  | _, _, _ => False

def argV : Nat → List Value → KN
  | _, [] => []
  | i, v :: l => (i, .val v) :: argV (i + 1) l

theorem lk_argV : ∀ (l : List Value) (i t : Nat) (kv : KV), lkV (argV i l) t = some kv → ∃ v, kv = .val v ∧ i ≤ t ∧ l[t - i]? = some v := by
  intro l
  induction l with
  | nil => intro i t kv h; cases h
  | cons v l ih =>
    intro i t kv h
    simp only [argV, lkV] at h
    cases hb : Nat.beq i t with
    | true =>
      rw [hb] at h
      have := Nat.eq_of_beq_eq_true hb
      subst this
      cases h
      exact ⟨v, rfl, Nat.le_refl _, by simp⟩
    | false =>
      rw [hb] at h
      have hne := Nat.ne_of_beq_eq_false hb
      obtain ⟨u, h1, h2, h3⟩ := ih _ _ _ h
      refine ⟨u, h1, by omega, ?_⟩
      rw [show t - i = (t - (i + 1)) + 1 by omega]
      simpa using h3

theorem cellV_run (hs : SSφ P ne m E n kn ls H a w φ cs) {p : Nat} {t : TypeId} {v : Value} (h : cellV P kn ls H p t = some v) : ∃ v', (resV a.tmps (.cell p t)).run P w = .ok v' w ∧ VR φ v v' := by
  unfold cellV at h
  split at h
  · rename_i i off hk
    split at h
    · rename_i u hu
      simp only [Option.some.injEq] at h
      subst h
      obtain ⟨v', h1, h2⟩ := locDet_ok hu (DC.mk hs.glob hs.inv fun i c x h1 h2 => (hs.loc i c x h1 h2).2) (fun t kv hl => hs.slot t kv hl : KA φ cs kn a)
      refine ⟨v', ?_, h1⟩
      have h3 := h2 w (agree.refl w)
      obtain ⟨c, _, hp⟩ := loc_inv hs hk
      have he : a.eval (.tmp p) = .pointer (some ⟨c, off, none⟩) := hp
      simp only [ldO, execOp, he, Instr.loadAt, Instr.sureAddr, Sem.run_bind, Sem.run_pure, Result.andThen_ok] at h3
      simp only [resV, hp, asAddr, Sem.run_bind, Sem.run_pure, Result.andThen_ok]
      generalize (loadVar t ⟨c, off, none⟩).run P w = q at h3 ⊢
      cases q <;> simp [Result.andThen, Sem.run_pure] at h3
      obtain ⟨rfl, rfl⟩ := h3
      rfl
    · cases h
  · rename_i q hk
    have hp := hs.slot p _ hk
    obtain ⟨q', hq2, hqa⟩ := VR.ptr_inv hp
    obtain ⟨v', h3, h4⟩ := aLoad_run hs.inv h hqa
    refine ⟨v', ?_, h4⟩
    simp only [resV, Sem.run_bind, hq2]
    exact h3
  · cases h

theorem mapM_res (hs : SSφ P ne m E n kn ls H a w φ cs) : ∀ {l : List ResultVar} {vs : List Value}, resL P kn ls H l = some vs → ∃ vs', (l.mapM (resV a.tmps)).run P w = .ok vs' w ∧ LR φ vs vs' := by
  intro l
  induction l with
  | nil => intro vs h; simp only [resL, Option.some.injEq] at h; subst h; exact ⟨[], rfl, .nil⟩
  | cons r l ih =>
    intro vs h
    cases r with
    | tmp t =>
      simp only [resL] at h
      split at h
      · rename_i u us h1 h2
        simp only [Option.some.injEq] at h
        subst h
        obtain ⟨vs', h3, h4⟩ := ih h2
        refine ⟨a.tmps.getD t undef :: vs', ?_, .cons (hs.slot t _ h1) h4⟩
        rw [List.mapM_cons]
        have hA : (resV a.tmps (.tmp t)).run P w = .ok (a.tmps.getD t undef) w := rfl
        simp only [Sem.run_bind, hA, Sem.run_pure, Result.andThen_ok, h3]
      · cases h
    | cell p t =>
      simp only [resL] at h
      split at h
      · rename_i u us h1 h2
        simp only [Option.some.injEq] at h
        subst h
        obtain ⟨vs', h3, h4⟩ := ih h2
        obtain ⟨v', h5, h6⟩ := cellV_run hs h1
        refine ⟨v' :: vs', ?_, .cons h6 h4⟩
        rw [List.mapM_cons]
        simp only [Sem.run_bind, h5, Sem.run_pure, Result.andThen_ok, h3]
      · cases h

theorem CallS.mk {f : Nat} {fn : Func} {B : Code} {args : List Value} {H H' : AH} {v : Value} (hf : P.funcs[f]? = some fn) (hb : fn.body = some B) (h : ∀ E : Ent, E.H = H → WS P ne m E fn.ntmps B (argV 0 args) [] H (retS P ne m E fn v H')) : CallS P ne m f args.toArray H v H' := by
  intro hS
  refine ⟨⟨fn, B, hf, hb⟩, fun φ w args' hg ha hi => ?_⟩
  have hent : SS P ne m ⟨φ, H, w⟩ fn.ntmps (argV 0 args) [] H { tmps := args' ++ Array.replicate (fn.ntmps - args'.size) undef, defers := [] } w := by
    refine ⟨φ, [], hg, hi, Step.refl _ _ _ _, rfl, fun i c x hc => (by cases hc), fun i j c hc => (by cases hc), fun i c hc => (by cases hc), fun t kv hl => ?_, by simp; omega, rfl, hS, hi⟩
    obtain ⟨v, rfl, _, h2⟩ := lk_argV _ _ _ _ hl
    rw [Nat.sub_zero] at h2
    have : args.toArray[t]? = some v := by simpa using h2
    obtain ⟨y, hy, hv⟩ := ha.get this
    have hlt : t < args'.size := by rw [Array.getElem?_eq_some_iff] at hy; exact hy.1
    show VR φ v _
    rw [Array.getD_eq_getD_getElem?, Array.getElem?_append, if_pos hlt, hy]
    exact hv
  have hw := h ⟨φ, H, w⟩ rfl _ _ hent
  refine calls_of_wp hf hb (wp_mono hw fun e a w' hpost => ?_)
  have fin : RT P ne m ⟨φ, H, w⟩ fn v H' a w' → a.defers = [] ∧ ∃ v', (results fn a.tmps).run P w' = .ok v' w' ∧ (∃ φ' v'', Ending.returned v' = .returned v'' ∧ VR φ' v v'' ∧ Inv φ' H' w' ∧ Step m φ H w φ' H' w') := by
    rintro ⟨n, kn, ls, ⟨φ', cs, hs⟩, hr⟩
    refine ⟨hs.defers, ?_⟩
    have main : ∃ (vs vs' : List Value), (fn.results.toList.mapM (resV a.tmps)).run P w' = .ok vs' w' ∧ LR φ' vs vs' ∧ v = (if h : vs.length = 1 then vs[0]'(by omega) else .tuple vs.toArray) := by
      unfold resF at hr
      cases hl : resL P kn ls H' fn.results.toList with
      | none => rw [hl] at hr; cases hr
      | some vs =>
        rw [hl] at hr
        obtain ⟨vs', h1, h2⟩ := mapM_res hs hl
        refine ⟨vs, vs', h1, h2, ?_⟩
        split at hr
        · rename_i u he
          cases he
          cases hr
          rfl
        · rename_i l hne he
          cases he
          cases hr
          rw [dif_neg ?_]
          intro h1
          match vs, h1 with
          | [u], _ => exact hne u rfl
        · cases hr
    obtain ⟨vs, vs', h1, h2, h3⟩ := main
    have hm : (fn.results.mapM (resV a.tmps)).run P w' = .ok vs'.toArray w' := by
      rw [Array.mapM_eq_mapM_toList]
      show Sem.run P (List.toArray <$> _) w' = _
      rw [Sem.run_map, h1]; rfl
    have hlen := LR.length h2
    have hres : (results fn a.tmps).run P w' = .ok (if h : vs'.toArray.size = 1 then vs'.toArray[0] else .tuple vs'.toArray) w' := by
      rw [results_eq, Sem.run_bind, hm, Result.andThen_ok]; rfl
    refine ⟨_, hres, φ', _, rfl, ?_, hs.inv, hs.step⟩
    rw [h3]
    by_cases h1' : vs.length = 1
    · rw [dif_pos h1', dif_pos (by simpa [← hlen] using h1')]
      cases h2 with
      | nil => cases h1'
      | cons hv ht => exact hv
    · rw [dif_neg h1', dif_neg (by simpa [← hlen] using h1')]
      have := AR_iff.2 (show LR φ' vs.toArray.toList vs'.toArray.toList by simpa using h2)
      exact .tuple _ _ this.1 this.2
  cases e with
  | normal => exact fin hpost
  | ret => exact fin hpost
  | _ => exact hpost.elim

theorem rtR {fn : Func} {v : Value} (h : RT P ne m E fn v H a w) : retS P ne m E fn v H .ret a w := h
theorem rtN {fn : Func} {v : Value} (h : RT P ne m E fn v H a w) : retS P ne m E fn v H .normal a w := h
theorem rtS {fn : Func} {v : Value} (hs : SS P ne m E n kn ls H a w) (h : resF P fn kn ls H = some v) : RT P ne m E fn v H a w := ⟨n, kn, ls, hs, h⟩

/-- A part that comes to one state on all its ways. -/
theorem WS.toone {c : Code} (kn2 : KN) (ls2 : Lcs) (H2 : AH) (h : WS P ne m E n c kn ls H (jnS P ne m E n kn2 ls2 H2 (fun _ _ _ => False))) (hN : ∀ a w, SS P ne m E n kn2 ls2 H2 a w → Q .normal a w) : WS P ne m E n c kn ls H Q := by
  refine fun a w hs => wp_mono (h a w hs) fun e a w hq => ?_
  cases e with
  | normal => exact hN a w hq
  | _ => exact hq.elim

end
end Go.Abs


namespace Go.Abs

/-! ### Drawn regions: what touches no memory is taken first, wherever it stands -/

variable {P : Program} {ne : NE} {m n : Nat}

def pureOp (P : Program) (o : Oper) (ρ : Operand → Value) : Option Value :=
  match o.op with
  | .load .. => none
  | .lookup .. => none
  | _ => detOp P ⟨0, .nil⟩ o ρ

theorem pureOp_ok {φ : Inj} {o : Oper} {ρ ρ' : Operand → Value} {v : Value} (hρ : ∀ x ∈ o.op.operands, VR φ (ρ x) (ρ' x)) (h : pureOp P o ρ = some v) :
    ∃ v', VR φ v v' ∧ ∀ w, (execOp ρ' o).run P w = .ok (.value v') w := by
  have hnl : (∀ t x, o.op ≠ .load t x) ∧ (∀ t x k ok, o.op ≠ .lookup t x k ok) ∧ detOp P ⟨0, .nil⟩ o ρ = some v := by
    unfold pureOp at h
    split at h
    · cases h
    · cases h
    · rename_i q1 q2; exact ⟨fun t x e => q1 t x e, fun t x k ok e => q2 t x k ok e, h⟩
  clear h
  obtain ⟨n1, n2, h⟩ := hnl
  unfold detOp at h
  cases ht : tPure P o ρ with
  | some u =>
    rw [ht] at h
    simp only [Option.some.injEq] at h
    subst h
    obtain ⟨v', h1, h2⟩ := tPure_run hρ ht
    exact ⟨v', h1, h2⟩
  | none =>
    rw [ht] at h
    simp only at h
    have fl : (match flatRun P o ρ ⟨0, .nil⟩ with | some (v, _) => some v | none => none) = some v → (∀ w, ∀ nx, (execOp ρ' o).run P w = .ok nx w → nx ≠ .skip) → ∃ v', VR φ v v' ∧ ∀ w, (execOp ρ' o).run P w = .ok (.value v') w := by
      intro h hns
      cases hf : flatRun P o ρ ⟨0, .nil⟩ with
      | none => rw [hf] at h; cases h
      | some p =>
        obtain ⟨u, H'⟩ := p
        rw [hf] at h
        simp only [Option.some.injEq] at h
        subst h
        obtain ⟨v', h1, h2⟩ := flat_det hρ hf hns
        exact ⟨v', h1, h2⟩
    obtain ⟨dst, op, ty, pos, after, guard⟩ := o
    simp only at h hρ n1 n2
    split at h
    · exact (n1 _ _ rfl).elim
    · exact (n2 _ _ _ _ rfl).elim
    · rename_i x i
      have hx := hρ x (by simp [Op.operands])
      split at h
      · rename_i cs hc
        rw [hc] at hx
        generalize hq : ρ' x = q at hx
        cases hx with
        | tuple f f' hf h1 =>
          have hlt : i < f'.size := by
            rw [Array.getElem?_eq_some_iff] at h
            obtain ⟨h, _⟩ := h
            omega
          refine ⟨f'[i], h1 i _ _ h (by simp [hlt]), fun w => ?_⟩
          have hrun : (Instr.extract (.tuple f') i).run P w = .ok f'[i] w := by
            simp only [Instr.extract]
            simp [hlt]
          simp only [execOp, hq, Sem.run_bind, hrun, Result.andThen_ok]
          rfl
      · cases h
    · rename_i args ts
      split at h
      · rename_i e b k c hu hl
        simp only [Option.some.injEq] at h
        subst h
        have hargs : AR φ (args.map ρ) (args.map ρ') := ar_map args fun x hx => hρ x (by simp [Op.operands, Call.operands, hx])
        obtain ⟨_, x', hx', hv⟩ := ar_one hargs hl
        obtain ⟨b', c', rfl⟩ := slice_inv hv
        refine ⟨goInt k, .int _ _, fun w => ?_⟩
        cases hts : ts[0]? with
        | none => rw [hts] at hu; cases hu
        | some t =>
          rw [hts] at hu
          have hu : P.underlying t = some (.slice e) := hu
          have hrun : (Builtin.len_ ts ty (args.map ρ')).run P w = .ok (goInt k) w := by
            rw [hx']
            simp [Builtin.len_, hts, run_und hu]
          show (do pure (Next.value (← Builtin.len_ ts ty (args.map ρ'))) : Sem Next).run P w = _
          rw [Sem.run_bind, hrun]; rfl
      · exact fl h fun w nx hr => v_noskip (s := Builtin.len_ ts ty (args.map ρ')) hr
    · rename_i bo t x y u
      exact fl h fun w nx hr => v_noskip (s := (do eqGuard bo t x y (ρ' x) (ρ' y); binOp bo t (ρ' x) (ρ' y))) hr
    · rename_i uo t x
      exact fl h fun w nx hr => v_noskip (s := Op.unary uo (ρ' x)) hr
    · rename_i t ps
      exact fl h fun w nx hr => v_noskip (s := Instr.build t (ps.map fun (i, x) => (i, ρ' x))) hr
    · rename_i c x y
      exact fl h fun w nx hr => by
        simp only [execOp, Sem.run_bind] at hr
        cases hb : (asBool (ρ' c)).run P w with
        | ok b w' =>
          rw [hb] at hr
          have : Result.ok (Next.value (if b then ρ' x else ρ' y)) w' = Result.ok nx w := hr
          simp only [Result.ok.injEq] at this
          rw [← this.1]; intro e; cases e
        | halt z w' => rw [hb] at hr; cases hr
    · rename_i t x f
      exact fl h fun w nx hr => v_noskip (s := Instr.field t (ρ' x) f) hr
    · rename_i t x y
      exact fl h fun w nx hr => v_noskip (s := Instr.index t (ρ' x) (ρ' y)) hr
    · rename_i s d x
      split at h
      · exact fl h fun w nx hr => v_noskip (s := convert s d (ρ' x)) hr
      · exact fl h fun w nx hr => v_noskip (s := convert s d (ρ' x)) hr
      · cases h
    · cases h


variable {ops : Array Oper} {Q : Exit → Act → World → Prop} {bs A : List Nat} {w1 : World}

theorem wpAnyD_firstP {i : Nat} {oi : Oper} {v : Value} (hi : ops[i]? = some oi) (hc : closedOk ops.toList bs = true) (hsel : ∀ (j : Nat) (o : Oper) cs b, ops[j]? = some o → o.op ≠ .select cs b)
    (hQ : ∀ c a w, ¬ Q (.panic c) a w) :
    ∀ (fuel : Nat) (la : Array Bool) (a : Act) (w : World), JC ops bs la →
      (∀ j oj, ops[j]? = some oj → j ≠ i → la.getD j true = false → (∀ e ∈ oj.after, Region.binds .any e = true → e.on ≠ i) → oi.apart ops oj = true) →
      i ∈ Region.ready .any ops la → YieldsIf P ops (fun _ => True) oi v a → demO ops A bs i = false →
      wpAnyD P ops Q bs A w1 fuel (la.setIfInBounds i true) (a.put oi.dst v) w → wpAnyD P ops Q bs A w1 (fuel + 1) la a w := by
  intro fuel
  induction fuel with
  | zero =>
    intro la a w hJ _ hr hy hS H
    refine ⟨fun h => (by rw [h] at hr; cases hr), fun j hj => ?_⟩
    by_cases hji : j = i
    · subst hji; exact hy.wpOp hi trivial ⟨fun hh => (by rw [hS] at hh; cases hh), H⟩
    · have := ready_mono hj hji
      rw [H.1] at this
      cases this
  | succ fuel ih =>
    intro la a w hJ hfree hr hy hS H
    refine ⟨fun h => (by rw [h] at hr; cases hr), fun j hj => ?_⟩
    by_cases hji : j = i
    · subst hji; exact hy.wpOp hi trivial ⟨fun hh => (by rw [hS] at hh; cases hh), H⟩
    · have h1 := H.2 j (ready_mono hj hji)
      have r := rdy_of hc hJ hj
      have ri := rdy_of hc hJ hr
      obtain ⟨hjun, oj, hoj, hall⟩ := mem_ready.1 hj
      have hnot : ∀ e ∈ oj.after, Region.binds .any e = true → e.on ≠ i := fun e he hb heq => by
        have h1 := hall e he hb
        have h0 := (mem_ready.1 hr).1
        rw [heq] at h1
        rcases Nat.lt_or_ge i la.size with h' | h'
        · simp [h'] at h0 h1; rw [h0] at h1; cases h1
        · simp [Array.getElem?_eq_none h'] at h1
      have h2 := wpOp_putIf hoj (hfree j oj hoj hji hjun hnot) (fun cs b => hsel i oi cs b hi) (fun cs b => hsel j oj cs b hoj) (fun c a w h => absurd h (hQ c _ w)) hy h1
      have hfree' : ∀ k ok, ops[k]? = some ok → k ≠ i → (la.setIfInBounds j true).getD k true = false →
          (∀ e ∈ ok.after, Region.binds .any e = true → e.on ≠ i) → oi.apart ops ok = true := fun k ok hk hki hun hno => by
        refine hfree k ok hk hki ?_ hno
        by_cases hjk : j = k
        · subst hjk; exact hjun
        · rw [getD_set_ne true hjk] at hun; exact hun
      refine wpOp_mono (fun a' w' h3 => ⟨h3.2.1, ih (la.setIfInBounds j true) a' w' (hJ.next r) hfree' (ready_mono hr (Ne.symm hji)) h3.1 hS ?_⟩) h2
      rw [Array.setIfInBounds_comm _ _ hji]
      exact h3.2.2


theorem locDetP_ok {φ1 : Inj} {cs1 : List Nat} {knA : KN} {ls1 : Lcs} {a : Act} {o : Oper} {kv : KV} (hnl : ∀ t x, o.op ≠ .load t x) (h : locDet P knA ls1 o = some kv) (hka : KA φ1 cs1 knA a) : ∃ v', KR φ1 cs1 kv v' ∧ ∀ w, (execOp a.eval o).run P w = .ok (.value v') w := by
  unfold locDet at h
  have hl : ∃ ls', locOp P knA ls1 o = some (kv, ls') := by
    split at h
    all_goals first | (cases hq : locOp P knA ls1 o with | none => rw [hq] at h; cases h | some p => obtain ⟨x, y⟩ := p; rw [hq] at h; simp only [Option.map_some, Option.some.injEq] at h; subst h; exact ⟨y, rfl⟩) | cases h
  obtain ⟨ls', hl⟩ := hl
  obtain ⟨dst, op, ty, pos, after, guard⟩ := o
  unfold locOp at hl
  simp only at hl h hnl
  split at hl
  · rename_i t
    split at hl
    · rename_i i off hk
      simp only [Option.some.injEq, Prod.mk.injEq] at hl
      obtain ⟨rfl, rfl⟩ := hl
      exact ⟨a.tmps.getD t undef, hka t _ hk, fun w => rfl⟩
    · cases hl
  · rename_i t
    split at hl
    · rename_i i off hk
      simp only [Option.some.injEq, Prod.mk.injEq] at hl
      obtain ⟨rfl, rfl⟩ := hl
      exact ⟨a.tmps.getD t undef, hka t _ hk, fun w => rfl⟩
    · cases hl
  · rename_i t
    split at hl
    · rename_i i off hk
      simp only [Option.some.injEq, Prod.mk.injEq] at hl
      obtain ⟨rfl, rfl⟩ := hl
      refine ⟨a.tmps.getD t undef, hka t _ hk, fun w => ?_⟩
      obtain ⟨c, h1, h2⟩ := hka t _ hk
      have : a.eval (.tmp t) = .pointer (some ⟨c, off, none⟩) := h2
      simp only [execOp, this]
      rw [h2]; rfl
    · cases hl
  · rename_i s t f
    split at hl
    · rename_i i off fs hk hu
      cases hf : fs[f]? with
      | none => rw [hf] at hl; cases hl
      | some fd =>
        rw [hf] at hl
        simp only at hl
        cases hi : P.info? fd.type with
        | none => rw [hi] at hl; cases hl
        | some inf =>
          rw [hi] at hl
          simp only at hl
          cases hz : Nat.beq inf.size 0 with
          | true => rw [hz] at hl; cases hl
          | false =>
            rw [hz] at hl
            simp only [cond_false, Option.some.injEq, Prod.mk.injEq] at hl
            obtain ⟨rfl, rfl⟩ := hl
            obtain ⟨c, h1, h2⟩ := hka t _ hk
            have he : a.eval (.tmp t) = .pointer (some ⟨c, off, none⟩) := h2
            refine ⟨.pointer (some ⟨c, off + fd.offset, none⟩), ⟨c, h1, rfl⟩, fun w => ?_⟩
            have hne := Nat.ne_of_beq_eq_false hz
            have hrun : (Instr.fieldAt s (.pointer (some ⟨c, off, none⟩)) f).run P w = .ok (.pointer (some ⟨c, off + fd.offset, none⟩)) w := by
              simp only [Instr.fieldAt, Sem.run_bind, run_und hu, Result.andThen_ok, hf, Instr.sureAddr, Sem.run_pure, fieldPlace, run_size hi]
              rw [if_neg hne]
              simp only [Sem.run_pure, Result.andThen_ok, Addr.add_lit]
            simp only [execOp, he, Sem.run_bind, hrun, Result.andThen_ok]
            rfl
    · cases hl
  · exact (hnl _ _ rfl).elim
  all_goals first | (simp only [reduceCtorEq] at h; done) | (cases hl; done)

section
variable {E : Ent} {knA kn : KN} {ls ls1 : Lcs} {H H1 : AH} {f k : Nat} {la : Array Bool} {ag : Bool}

def takeQ (P : Program) (n : Nat) (ops : Array Oper) (A bs : List Nat) (la : Array Bool) (k : Nat) (o : Oper) : Bool :=
  !(demO ops A bs k) && Region.noSelect ops && Region.free .any ops la k && (Region.ready .any ops la).contains k && dstV n o

/-- A value that touches no memory is taken first. -/
theorem DA.takeP (k : Nat) (d : Option Nat) (v : Value) (ho : ops[k]? = some (opAt ops k)) (hd : (opAt ops k).dst = d) (hB : takeQ P n ops A bs la k (opAt ops k) = true) (hc : closedOk ops.toList bs = true) (hQ : ∀ c a w, ¬ Q (.panic c) a w)
    (hw : (wantV ops kn (opAt ops k), (opAt ops k).op.operands.all (okx P), (opAt ops k).op.operands.all (knownV kn)) = (some true, true, true)) (hv : pureOp P (opAt ops k) (evV kn) = some v)
    (h : DA P ne m E n ops bs A H1 ls1 f (la.setIfInBounds k true) ag (dropV d knA) (putV kn d (.val v)) ls H Q) : DA P ne m E n ops bs A H1 ls1 (f + 1) la ag knA kn ls H Q := by
  subst hd
  intro w1 φ1 cs1 a w φ cs hd hle hs hka hpf hJ hag
  unfold takeQ at hB
  simp only [Bool.and_eq_true] at hB
  obtain ⟨⟨⟨⟨b1, b2⟩, b3⟩, b4⟩, b5⟩ := hB
  have hr : k ∈ Region.ready .any ops la := by simpa using b4
  simp only [Prod.mk.injEq] at hw
  obtain ⟨hw1, hw2, hw3⟩ := hw
  rw [Array.all_eq_true_iff_forall_mem] at hw2 hw3
  obtain ⟨v', h1, h2⟩ := pureOp_ok (ρ' := a.eval) (fun x hx => hs.eval (hw3 x hx) (hw2 x hx)) hv
  refine wpAnyD_firstP ho hc (Region.noSelect_spec b2) hQ f la a w hJ (Region.free_spec ho b3) hr (.inl ⟨wantV_ok hs hw1, fun w _ => h2 w⟩) (by simpa using b1) ?_
  exact h w1 φ1 cs1 _ w φ cs hd hle (hs.put b5 h1) (hka.drop _ _) hpf (hJ.next (rdy_of hc hJ hr)) hag

/-- One's own variable's address is taken first. -/
theorem DA.takePL (k : Nat) (d : Option Nat) (kv : KV) (ho : ops[k]? = some (opAt ops k)) (hd : (opAt ops k).dst = d) (hB : takeQ P n ops A bs la k (opAt ops k) = true) (hc : closedOk ops.toList bs = true) (hQ : ∀ c a w, ¬ Q (.panic c) a w)
    (hw : wantV ops kn (opAt ops k) = some true) (hv : (match (opAt ops k).op with | .load .. => none | _ => locDet P kn ls (opAt ops k)) = some kv)
    (h : DA P ne m E n ops bs A H1 ls1 f (la.setIfInBounds k true) ag (dropV d knA) (putV kn d kv) ls H Q) : DA P ne m E n ops bs A H1 ls1 (f + 1) la ag knA kn ls H Q := by
  subst hd
  intro w1 φ1 cs1 a w φ cs hd hle hs hka hpf hJ hag
  unfold takeQ at hB
  simp only [Bool.and_eq_true] at hB
  obtain ⟨⟨⟨⟨b1, b2⟩, b3⟩, b4⟩, b5⟩ := hB
  have hr : k ∈ Region.ready .any ops la := by simpa using b4
  have hv2 : locDet P kn ls (opAt ops k) = some kv := by
    split at hv
    · cases hv
    · exact hv
  have hnl : ∀ t x, (opAt ops k).op ≠ .load t x := by
    intro t x e
    rw [e] at hv
    cases hv
  obtain ⟨v', h1, h2⟩ := locDetP_ok hnl hv2 (fun t kv hl => hs.slot t kv hl : KA φ cs kn a)
  refine wpAnyD_firstP ho hc (Region.noSelect_spec b2) hQ f la a w hJ (Region.free_spec ho b3) hr (.inl ⟨wantV_ok hs hw, fun w _ => h2 w⟩) (by simpa using b1) ?_
  exact h w1 φ1 cs1 _ w φ cs hd hle (hs.put b5 h1) (hka.drop _ _) hpf (hJ.next (rdy_of hc hJ hr)) hag

/-- One that is passed over is taken first. -/
theorem DA.tskipP (k : Nat) (d : Option Nat) (ho : ops[k]? = some (opAt ops k)) (hd : (opAt ops k).dst = d) (hB : takeQ P n ops A bs la k (opAt ops k) = true) (hc : closedOk ops.toList bs = true) (hQ : ∀ c a w, ¬ Q (.panic c) a w) (hw : wantV ops kn (opAt ops k) = some false)
    (h : DA P ne m E n ops bs A H1 ls1 f (la.setIfInBounds k true) ag (dropV d knA) (putV kn d (.val undef)) ls H Q) : DA P ne m E n ops bs A H1 ls1 (f + 1) la ag knA kn ls H Q := by
  subst hd
  intro w1 φ1 cs1 a w φ cs hd hle hs hka hpf hJ hag
  unfold takeQ at hB
  simp only [Bool.and_eq_true] at hB
  obtain ⟨⟨⟨⟨b1, b2⟩, b3⟩, b4⟩, b5⟩ := hB
  have hr : k ∈ Region.ready .any ops la := by simpa using b4
  refine wpAnyD_firstP (v := undef) ho hc (Region.noSelect_spec b2) hQ f la a w hJ (Region.free_spec ho b3) hr (.inr ⟨wantV_ok hs hw, rfl⟩) (by simpa using b1) ?_
  exact h w1 φ1 cs1 _ w φ cs hd hle (hs.put b5 (kv := .val undef) (vr_undef _)) (hka.drop _ _) hpf (hJ.next (rdy_of hc hJ hr)) hag

end

def notRead (o : Oper) : Bool := match o.op with
  | .load .. => false
  | .lookup .. => false
  | _ => true

theorem pureOp_of {o : Oper} {ρ : Operand → Value} {v : Value} (hn : notRead o = true) (h : detOp P ⟨0, .nil⟩ o ρ = some v) : pureOp P o ρ = some v := by
  unfold pureOp
  unfold notRead at hn
  split
  · rename_i e; rw [e] at hn; cases hn
  · rename_i e; rw [e] at hn; cases hn
  · exact h

theorem det_strcat {o : Oper} {ρ : Operand → Value} {H : AH} {t u : TypeId} {x y : Operand} {a b c : ByteArray} (hop : o.op = .binOp .add t x y u) (hx : ρ x = .string a) (hy : ρ y = .string b) (h : strcat a b = some c) : detOp P H o ρ = some (.string c) := by
  obtain ⟨dst, op, ty, pos, after, guard⟩ := o
  simp only at hop
  subst hop
  unfold strcat at h
  rcases ite_some h with ⟨_, h⟩ | ⟨hp, h⟩
  · cases h
  · cases h
    have hp' : peval P (execOp ρ { dst, op := .binOp .add t x y u, type := ty, pos, after, guard }) = some (.value (.string (a ++ b))) := by
      simp only [execOp, hx, hy, eqGuard, binOp, Op.stringOp, hp, if_false, bind, Pure.pure]
      rfl
    simp only [detOp, tPure, flatRun, Op.operands, hp', hx, hy]
    simp [hx, hy, flat, asVal]

end Go.Abs


namespace Go.Abs

/-! ### New slices as one's own, and handed over later -/

variable {P : Program} {ne : NE} {m n : Nat}
variable {E : Ent} {kn knA : KN} {ls ls1 : Lcs} {H H1 H' : AH} {ops : Array Oper} {k : Nat} {Q : Exit → Act → World → Prop} {bs A : List Nat} {f : Nat} {la : Array Bool} {ag : Bool}

def bsB (P : Program) (t : TypeId) (len : Nat) (ps : Array (Nat × Value)) : Option (TypeId × List Value) :=
  match P.underlying t with
  | some (.slice e) => match P.info? e with
    | some inf => match inf.zero with
      | some z => bif Nat.ble (len * inf.size) 1000000 && flat depth z && !(Nat.beq (len * inf.size) 0) && Nat.blt len OPEN then
          (Instr.fill (fun i => some (i * inf.size, inf.size)) ((Array.range (len * inf.size)).map (z.cells[· % z.cells.size]!)) ps.toList).map fun cs => (e, cs.toList)
        else none
      | none => none
    | none => none
  | _ => none

theorem bs_run {φ : Inj} {t : TypeId} {len : Nat} {ps ps' : Array (Nat × Value)} {e : TypeId} {l : List Value} (h : bsB P t len ps = some (e, l)) (hp : F2 (PR φ) ps.toList ps'.toList) (w : World) :
    len ≠ OPEN ∧ ∃ cs', (Instr.buildSlice t len ps').run P w = .ok (.slice (some ⟨w.heap.size, 0, none⟩) len len) { w with heap := w.heap.push (.cells cs' e (0, 0)) } ∧ AR φ l.toArray cs' := by
  unfold bsB at h
  split at h
  · rename_i el hu
    cases hi : P.info? el with
    | none => rw [hi] at h; cases h
    | some inf =>
      rw [hi] at h
      simp only at h
      cases hz : inf.zero with
      | none => rw [hz] at h; cases h
      | some z =>
        rw [hz] at h
        simp only at h
        cases hc : (Nat.ble (len * inf.size) 1000000 && flat depth z && !(Nat.beq (len * inf.size) 0) && Nat.blt len OPEN) with
        | false => rw [hc] at h; cases h
        | true =>
          rw [hc] at h
          simp only [cond_true] at h
          simp only [Bool.and_eq_true] at hc
          obtain ⟨⟨⟨c1, c2⟩, c3⟩, c4⟩ := hc
          have c1 := Nat.le_of_ble_eq_true c1
          have c3 : len * inf.size ≠ 0 := by
            intro e0
            rw [e0] at c3
            cases c3
          have c4 := blt_lt c4
          refine ⟨fun e0 => by rw [e0] at c4; exact absurd c4 (Nat.lt_irrefl _), ?_⟩
          have hzc : AR φ z.cells z.cells := flat_cells_refl c2
          rcases ar_fill (φ := φ) (fun i => some (i * inf.size, inf.size)) _ _ _ _ hp (ar_zeros hzc (len * inf.size)) with ⟨e1, e2⟩ | ⟨o, o', e1, e2, ho⟩
          · rw [e1] at h; cases h
          · rw [e1] at h
            simp only [Option.map_some, Option.some.injEq, Prod.mk.injEq] at h
            obtain ⟨rfl, rfl⟩ := h
            refine ⟨o', ?_, by simpa using ho⟩
            have hzr : (zeroValue el).run P w = .ok z w := run_zero (by rw [hi]; exact hz) w
            unfold Instr.buildSlice
            simp only [Sem.run_bind, run_und hu, Result.andThen_ok, run_size hi]
            rw [if_neg (by omega), if_neg c3]
            simp only [Sem.run_bind, hzr, Result.andThen_ok, Sem.run_pure, e2]
            rfl
  · cases h

def lsBS (P : Program) (kn : KN) (ls : Lcs) (o : Oper) : Option (KV × Lcs) :=
  match o.op with
  | .buildSlice t len ps => match bsB P t len (ps.map fun (i, x) => (i, evV kn x)) with
    | some (e, l) => some (.sli ls.length len, ls ++ [some (e, l)])
    | none => none
  | _ => none

theorem DA.actS (k : Nat) (d : Option Nat) (kv : KV) (ls' : Lcs) (ho : ops[k]? = some (opAt ops k)) (hdd : (opAt ops k).dst = d) (hr : (Region.ready .any ops la).contains k = true) (hc : closedOk ops.toList bs = true) (hB : opV P n ops kn (opAt ops k) = true) (hl : lsBS P kn ls (opAt ops k) = some (kv, ls'))
    (ha : (!demO ops A bs k || ag) = true)
    (h : DA P ne m E n ops bs A H1 ls1 f (la.setIfInBounds k true) ag (dropV d knA) (putV kn d kv) ls' H Q) : DAk P ne m E n ops bs A H1 ls1 k f la ag knA kn ls H Q := by
  subst hdd
  intro w1 φ1 cs1 a w φ cs hd1 hle hs hka hpf hJ hag
  unfold opV at hB
  simp only [Bool.and_eq_true] at hB
  obtain ⟨⟨⟨hg, hx⟩, hkn⟩, hd⟩ := hB
  rw [Array.all_eq_true_iff_forall_mem] at hkn hx
  have hw : wantV ops kn (opAt ops k) = some true := by
    split at hg
    · assumption
    · cases hg
  refine act_core ho hs hw fun K hK => ?_
  have hev : ∀ x ∈ (opAt ops k).op.operands, VR φ (evV kn x) (a.eval x) := fun x hxm => hs.eval (hkn x hxm) (hx x hxm)
  have hh := h w1 φ1 cs1
  obtain ⟨oo, hoo⟩ : ∃ oo, opAt ops k = oo := ⟨_, rfl⟩
  rw [hoo] at hl hd hev hh ⊢
  obtain ⟨dst, op, ty, pos, after, guard⟩ := oo
  unfold lsBS at hl
  simp only at hl hd
  cases op with
  | buildSlice t len ps =>
    simp only at hl
    cases hb : bsB P t len (ps.map fun (i, x) => (i, evV kn x)) with
    | none => rw [hb] at hl; cases hl
    | some p =>
      obtain ⟨e, l⟩ := p
      rw [hb] at hl
      simp only [Option.some.injEq, Prod.mk.injEq] at hl
      obtain ⟨rfl, rfl⟩ := hl
      obtain ⟨hno, cs', hrun, har⟩ := bs_run hb (parts_rel ps (ρ := evV kn) (ρ' := a.eval) hev) w
      obtain ⟨cs2, hs2, hp2, hq2⟩ := hs.new (e := e) (v := .agg l.toArray) (v' := .agg cs') (.agg _ _ har.1 har.2) (d := none) rfl
      have hs3 := hs2.put (d := dst) hd (kv := .sli ls.length len) (v' := .slice (some ⟨w.heap.size, 0, none⟩) len len) ⟨⟨_, hq2, rfl⟩, hno⟩
      have hex : (execOp a.eval ⟨dst, .buildSlice t len ps, ty, pos, after, guard⟩).run P w = .ok (.value (.slice (some ⟨w.heap.size, 0, none⟩) len len)) { w with heap := w.heap.push (.cells cs' e (0, 0)) } := by
        simp only [execOp, Sem.run_bind, hrun, Result.andThen_ok]; rfl
      unfold Oper.wp
      rw [hex]
      have hag' : ag = true → agree w1 { w with heap := w.heap.push (.cells cs' e (0, 0)) } := fun h1 => (hag h1).trans' (agree_push _ _)
      refine hK _ _ ⟨fun hdm => hag' (by rw [hdm] at ha; simpa using ha), ?_⟩
      exact hh _ _ φ cs2 hd1 hle (by simpa [putV, Act.put, Value.cells] using hs3) (by simpa using hka.drop dst _) (fun i c hc => hp2 i c (hpf i c hc)) (rdy_act hr hc hJ) hag'
  | _ => cases hl

/-- A new block, by its number. -/
def newS (e : TypeId) (cells : List Value) (H : AH) : Option (Nat × AH) := some (H.next, H.push (pubB e cells))

theorem DA.pubK (i : Nat) {e : TypeId} {cells : List Value} {id : Nat} (kn' : KN) (ls' : Lcs) (hx : newS e cells H = some (id, H')) (hi : ls[i]? = some (some (e, cells))) (hk : pubK i id kn = kn') (hl : ls.set i none = ls')
    (h : DAk P ne m E n ops bs A H1 ls1 k f la ag knA kn' ls' H' Q) : DAk P ne m E n ops bs A H1 ls1 k f la ag knA kn ls H Q := by
  cases hx
  subst hk hl
  intro w1 φ1 cs1 a w φ cs hd1 hle hs hka hpf hJ hag
  obtain ⟨φ', h1, h2⟩ := hs.pub i hi
  exact h w1 φ1 cs1 a w φ' cs hd1 (fun id l hl => h1 _ _ (hle _ _ hl)) h2 hka hpf hJ hag

/-! A part with labels that nothing jumps to -/

def isScope : Code → Bool | .scope _ => true | _ => false

theorem WS.scope {c : Code} (hc : isScope c = true) (h : WS P ne m E n (cfst c) kn ls H (Exit.noGoto Q)) : WS P ne m E n c kn ls H Q := by
  cases c with
  | scope b => exact fun a w hs => wp_scope_straight (h a w hs)
  | _ => cases hc

theorem sgR {a : Act} {w : World} (h : Q .ret a w) : Exit.noGoto Q .ret a w := h
/-! Loops that are left by other ways too -/

section
variable {S R : Type} {knOf : S → KN} {lsOf : S → Lcs} {hOf : S → AH} {i : Nat} {QR : R → Exit → Act → World → Prop} {a : Act} {w : World}

def lpX (P : Program) (ne : NE) (m : Nat) (E : Ent) (n : Nat) (knOf : S → KN) (lsOf : S → Lcs) (hOf : S → AH) (i : Nat) (QR : R → Exit → Act → World → Prop) (o : Lp S R) : Exit → Act → World → Prop
  | .normal, a, w => ∃ s, o = .next s ∧ SS P ne m E n (knOf s) (lsOf s) (hOf s) a w
  | e, a, w => (∃ s, o = .brk s ∧ e = .exit i ∧ SS P ne m E n (knOf s) (lsOf s) (hOf s) a w) ∨ ∃ r, o = .ret r ∧ QR r e a w

theorem lxB {o : Lp S R} {s : S} (ho : o = .brk s) (h : SS P ne m E n (knOf s) (lsOf s) (hOf s) a w) : lpX P ne m E n knOf lsOf hOf i QR o (.exit i) a w := .inl ⟨s, ho, rfl, h⟩
theorem roundsX_of {c : Code} {body : S → Option (Lp S R)}
    (hbody : ∀ s o, body s = some o → WS P ne m E n c (knOf s) (lsOf s) (hOf s) (lpX P ne m E n knOf lsOf hOf i QR o)) :
    ∀ (k : Nat) (s : S) (o : S ⊕ R), iterO body k s = some o → ∀ {Q : Exit → Act → World → Prop}, (∀ s', o = .inl s' → ∀ a w, SS P ne m E n (knOf s') (lsOf s') (hOf s') a w → Q (.exit i) a w) → (∀ r, o = .inr r → ∀ e a w, QR r e a w → Q e a w) →
      ∀ a w, SS P ne m E n (knOf s) (lsOf s) (hOf s) a w → Code.rounds P c Q k a w := by
  intro k
  induction k with
  | zero => intro s o h; cases h
  | succ k ih =>
    intro s o h Q h1 h2 a w hs
    rw [rounds_succ]
    simp only [iterO] at h
    cases hb : body s with
    | none => rw [hb] at h; cases h
    | some l =>
      rw [hb] at h
      have other : ∀ e a' w', ((∃ s, l = .brk s ∧ e = .exit i ∧ SS P ne m E n (knOf s) (lsOf s) (hOf s) a' w') ∨ ∃ r, l = .ret r ∧ QR r e a' w') → Q e a' w' := by
        rintro e a' w' (⟨s', rfl, rfl, hs'⟩ | ⟨r, rfl, hr⟩)
        · simp only [Option.some.injEq] at h
          exact h1 s' h.symm a' w' hs'
        · simp only [Option.some.injEq] at h
          exact h2 r h.symm _ a' w' hr
      refine wp_mono (hbody s l hb a w hs) fun e a' w' hq => ?_
      cases e with
      | normal =>
        obtain ⟨s', rfl, hs'⟩ := hq
        exact ih s' o h h1 h2 a' w' hs'
      | _ => exact other _ a' w' hq

theorem WS.loopX_ {c : Code} (hc : isLoop c = true) (body : S → Option (Lp S R)) (knOf : S → KN) (lsOf : S → Lcs) (hOf : S → AH) (i : Nat) (QR : R → Exit → Act → World → Prop)
    (hbody : ∀ s o, body s = some o → WS P ne m E n (cfst c) (knOf s) (lsOf s) (hOf s) (lpX P ne m E n knOf lsOf hOf i QR o)) {s : S} {o : S ⊕ R} (hl : loopO body s = some o) (k : Nat) (hsub : SubV (knOf s) kn) (hls : ls.take k = lsOf s) (hbl : belowL k (knOf s) = true) (hH : H = hOf s)
    (h1 : ∀ s', o = .inl s' → ∀ a w, SS P ne m E n (knOf s') (lsOf s') (hOf s') a w → Q (.exit i) a w) (h2 : ∀ r, o = .inr r → ∀ e a w, QR r e a w → Q e a w) : WS P ne m E n c kn ls H Q := by
  cases c with
  | loop body' =>
    intro a w hs
    obtain ⟨k', hk⟩ := loopO_iff.1 hl
    subst hH
    exact wp_loop_rounds k' (roundsX_of hbody k' s o hk h1 h2 a w (hs.sub hsub k hls hbl))
  | _ => cases hc

theorem WS.loopXI {c : Code} (hc : isLoop c = true) (body : S → Option (Lp S R)) (knOf : S → KN) (lsOf : S → Lcs) (hOf : S → AH) (i : Nat) (QR : R → Exit → Act → World → Prop)
    (hbody : ∀ s o, body s = some o → WS P ne m E n (cfst c) (knOf s) (lsOf s) (hOf s) (lpX P ne m E n knOf lsOf hOf i QR o)) {s s' : S} (hl : loopO body s = some (.inl s')) (k : Nat) (hsub : SubV (knOf s) kn) (hls : ls.take k = lsOf s) (hbl : belowL k (knOf s) = true) (hH : H = hOf s)
    (h1 : ∀ a w, SS P ne m E n (knOf s') (lsOf s') (hOf s') a w → Q (.exit i) a w) : WS P ne m E n c kn ls H Q :=
  WS.loopX_ hc body knOf lsOf hOf i QR hbody hl k hsub hls hbl hH (fun s2 e => by cases e; exact h1) (fun r e => by cases e)

theorem WS.loopXR {c : Code} (hc : isLoop c = true) (body : S → Option (Lp S R)) (knOf : S → KN) (lsOf : S → Lcs) (hOf : S → AH) (i : Nat) (QR : R → Exit → Act → World → Prop)
    (hbody : ∀ s o, body s = some o → WS P ne m E n (cfst c) (knOf s) (lsOf s) (hOf s) (lpX P ne m E n knOf lsOf hOf i QR o)) {s : S} {r : R} (hl : loopO body s = some (.inr r)) (k : Nat) (hsub : SubV (knOf s) kn) (hls : ls.take k = lsOf s) (hbl : belowL k (knOf s) = true) (hH : H = hOf s)
    (h2 : ∀ e a w, QR r e a w → Q e a w) : WS P ne m E n c kn ls H Q :=
  WS.loopX_ hc body knOf lsOf hOf i QR hbody hl k hsub hls hbl hH (fun s2 e => by cases e) (fun r2 e => by cases e; exact h2)

end

/-! Any operation, by the interpreter's own word -/

def gOp {α : Type} (P : Program) (m : Nat) (ops : Array Oper) (k : Nat) (kn : KN) (de : Value → Option α) (H : AH) : Option (α × AH) :=
  match runOp P (NE.plain 0) ih0 m (opAt ops k) (evV kn) H with
  | some (v, H') => (de v).map fun x => (x, H')
  | none => none

theorem gOp_run {α : Type} {knS : KN} {de : Value → Option α} {x : α} {v : Value} (hx : gOp P m ops k knS de H = some (x, H')) (hv : ∀ u, de u = some x → u = v) (he : runOp P (NE.plain 0) ih0 m (opAt ops k) (evV knS) H = runOp P (NE.plain 0) ih0 m (opAt ops k) (evV kn) H) : runOp P (NE.plain 0) ih0 m (opAt ops k) (evV kn) H = some (v, H') := by
  rw [← he]
  unfold gOp at hx
  split at hx
  · rename_i u H1 hu
    cases hd : de u with
    | none => rw [hd] at hx; cases hx
    | some y =>
      rw [hd] at hx
      simp only [Option.map_some, Option.some.injEq, Prod.mk.injEq] at hx
      obtain ⟨rfl, rfl⟩ := hx
      rw [hu, hv u hd]
  · cases hx

/-- One that changes no memory. -/
def gOp1 {α : Type} (P : Program) (ops : Array Oper) (k : Nat) (kn : KN) (de : Value → Option α) (H : AH) : Option α :=
  (gOp P 0 ops k kn de H).map (·.1)

theorem gOp1_run {α : Type} {knS : KN} {de : Value → Option α} {x : α} {v : Value} (hx : gOp1 P ops k knS de H = some x) (hv : ∀ u, de u = some x → u = v) (hq : quiet P (opAt ops k) = true) (he : runOp P (NE.plain 0) ih0 0 (opAt ops k) (evV knS) H = runOp P (NE.plain 0) ih0 m (opAt ops k) (evV kn) H) : runOp P (NE.plain 0) ih0 m (opAt ops k) (evV kn) H = some (v, H) := by
  unfold gOp1 at hx
  cases hg : gOp P 0 ops k knS de H with
  | none => rw [hg] at hx; cases hx
  | some p =>
    obtain ⟨y, H1⟩ := p
    rw [hg] at hx
    simp only [Option.map_some, Option.some.injEq] at hx
    subst hx
    rw [← he]
    have h1 : runOp P (NE.plain 0) ih0 0 (opAt ops k) (evV knS) H = some (v, H1) := gOp_run hg hv rfl
    rw [h1, quiet_same hq h1]

/-- A call of abi.NoEscape. -/
theorem RS.esc {f : Nat} (d : Option Nat) (v : Value) (ho : ops[k]? = some (opAt ops k)) (hd : (opAt ops k).dst = d) (hB : opV P n ops kn (opAt ops k) = true) (hr : runOp P (NE.plain f) ih0 m (opAt ops k) (evV kn) H = some (v, H'))
    (h : RS P (NE.plain f) m E n ops (k + 1) (putV kn d (.val v)) ls H' Q) : RS P (NE.plain f) m E n ops k kn ls H Q := by
  subst hd
  intro a w hs
  obtain ⟨φ, cs, hs⟩ := hs
  unfold opV at hB
  simp only [Bool.and_eq_true] at hB
  obtain ⟨⟨⟨hg, hx⟩, hkn⟩, hd⟩ := hB
  rw [Array.all_eq_true_iff_forall_mem] at hkn hx
  have hw : wantV ops kn (opAt ops k) = some true := by
    split at hg
    · assumption
    · cases hg
  rw [range_step ho, wpOps_cons]
  unfold wpOp
  rw [ho]
  simp only [wantV_ok hs hw, if_true]
  left
  refine runOp_ok hs.sane good_ih0 hr hs.glob (fun x hxm => hs.eval (hkn x hxm) (hx x hxm)) hs.inv fun φ' v' w' h1 h2 h3 => ?_
  exact h _ _ ⟨φ', cs, (hs.heap h2 h3).put hd h1⟩

end Go.Abs


namespace Go.Abs

variable {P : Program} {m : Nat}

/-! ### A law without inputs, by the contract of its function -/

open Go.RowKit in
theorem true_of_callS {ne : NE} (hS : Sane P ne) {f : Nat} {args args' : Array Value} {tabs : List Tab} {H' : AH}
    (h : CallS P ne P.globals.size f args (startH P tabs) (.bool true) H') (ha : AR (φg P) args args') {W : World} (hW : P.globals.size ≤ W.heap.size) (hB : tabsB P tabs = true)
    (ht : ∀ x ∈ tabs, ∃ fr, W.heap[x.1]? = some (.cells x.2.2 x.2.1 fr)) : Calls P f args' W fun e W' => e = .returned (.bool true) ∧ Below W.heap.size W W' := by
  refine ((h hS).2 (φg P) W args' glob_φg ha (inv_tabs hW hB ht)).mono fun e W' hpost => ?_
  obtain ⟨φ', v', rfl, hv, _, hst⟩ := hpost
  cases hv
  refine ⟨rfl, hst.os, hst.tape, hst.output, hst.size, fun k hk => hst.keep k hk fun id l hm hs _ => ?_⟩
  obtain ⟨b, hb⟩ := Option.isSome_iff_exists.1 hs
  obtain ⟨x, hx, rfl, _⟩ := startH_get hb
  unfold tabsB at hB
  rw [List.all_eq_true] at hB
  have := hB x hx
  simp only [Bool.and_eq_true] at this
  have := blt_lt this.1
  omega

theorem lifted_callS {H : Type} {enc : TypeId × Value → H} {a : Assume} {C : Checked} {os : Os} {f : FuncId} {fn : Func} {s : ChangeSpec} {conds : List PathCond} {apart fresh handsOn : Bool} {X : World → Array Value → Prop} {ne : NE} {tabs : List Tab}
    (own : ownKnob C.prog.godebug = none) (started : os.Started) (noInit : C.prog.inits.idxOf? f = none) (hfn : C.prog.funcs[f]? = some fn) (hbody : fn.body.isSome = true)
    (hS : Sane C.prog ne) (hgb : globalsB C.prog = true) (hl : laidOutB C.prog = true) (hts : readB C.prog fn = true) (hv : s.vars = []) (hres : boolRes C.prog fn = true)
    (hspec : ∀ ds : List (DataW H), ds.length = fn.params.size → (s.fn H ds).results = [.lit (.bool true)] ∧ (s.fn H ds).args = ds ∧ (s.fn H ds).vars = [])
    (hB : tabsB C.prog tabs = true) (hX : ∀ (w w' : World) (args : Array Value), w.heap = w'.heap → X w args → X w' args) (ht : ∀ W args, X W args → W.ShapedOpen C.prog → ∀ x ∈ tabs, ∃ fr, W.heap[x.1]? = some (.cells x.2.2 x.2.1 fr))
    (hrun : ∃ H', CallS C.prog ne C.prog.globals.size f (fn.params.map (anyArg C.prog)) (startH C.prog tabs) (.bool true) H')
    (witness : ∃ (w : World) (tape : Tape) (i : Input), w.os = os ∧ (w.forCall tape i).Shaped C.prog ∧ i.vars = [] ∧ Input.okWide C.prog (w.forCall tape i) .any w.heap.size f i ∧
      ((s.pre enc C.prog fn conds apart (w.forCall tape i).memory i.args ∧ X (w.forCall tape i).memory i.args) ∧ sizedMet enc C.prog fn (OpenSpec.ofChange s) apart (w.forCall tape i).memory i.args) ∧ a.holds C.prog (lone (Frame.enter C.prog f i.args .normal) [] (w.forCall tape i))) :
    ReturnsInHanded a C os f .any (fun w args => (s.pre enc C.prog fn conds apart w args ∧ X w args) ∧ sizedMet enc C.prog fn (OpenSpec.ofChange s) apart w args) (s.post enc C.prog fn apart fresh handsOn false) := by
  obtain ⟨c, hbody⟩ := Option.isSome_iff_exists.1 hbody
  obtain ⟨tb, hres, hbool⟩ := boolRes_of hres
  have hts := readB_of hts
  refine returnsInHanded_of_calls own started noInit witness ?_
  intro w tape i _ hsh _ hok hpre hholds
  obtain ⟨_, _, _, fn', hfn', _, _, _, hsz, hval⟩ := hok
  have e : fn' = fn := Option.some.inj (hfn'.symm.trans hfn)
  subst e
  obtain ⟨⟨⟨ds, gs, before, hw, hc⟩, hx⟩, _⟩ := hpre
  have hw' := DataW.Whole.of_heap (w' := w.forCall tape i) (by rfl) hw
  have hx' := hX _ (w.forCall tape i) _ (by rfl) hx
  have hlen : ds.length = fn'.params.size := by
    obtain ⟨p, q, hA, _⟩ := hw'
    have key : ∀ (ts : List TypeId) (vs : List Value) (ds : List (DataW H)) (ps : List MemPlace), DataW.TrodAll enc C.prog (w.forCall tape i) 0 (fun _ => true) true ts vs ds ps → ds.length = ts.length := by
      intro ts
      induction ts with
      | nil => intro vs ds ps h; obtain ⟨_, rfl, _⟩ := ChangeShapes.trodAll_nil h; rfl
      | cons t ts ih => intro vs ds ps h; obtain ⟨v, vs', d, ds', p, q, _, rfl, _, _, h2⟩ := ChangeShapes.trodAll_cons h; simp [ih _ _ _ h2]
    simpa using key _ _ _ _ hA
  obtain ⟨H', hrun⟩ := hrun
  refine (true_of_callS hS hrun (ar_anyArgs hsz hval) (globals_there hgb hsh) hB (ht _ _ hx' hsh)).mono fun e W' ⟨he, hb⟩ => ?_
  subst he
  exact ChangeSpec.post_blind (law_post hl hts hv hres hbool hw' (hspec ds hlen) hb)

/-- What a listed table's block holds. -/
theorem tab_met {laid : List (String × DataW Unit)} {W : World} {name : String} {k : IntKind} {zs : List Int} {g : Nat} {e t te : TypeId} {n : Nat} (hL : laidMet P laid W) (hf : laid.filter (fun x => x.1 == name) = [(name, Lib.tabData k zs)])
    (hg : P.globalNamed name = some g) (hty : (P.globals[g]?).map (·.type) = some t) (ht : P.underlying t = some (.array n te)) (he : P.underlying te = some (.int k)) (hce : P.cellsOf te = 1) (hct : P.cellsOf t = n) (hlt : g < P.globals.size)
    (hrow : (((begin P (fun _ _ => 0) default).world.heap[g]?).bind Obj.row?).map (·.2) = some e) (hsh : W.ShapedOpen P) : ∃ fr, W.heap[g]? = some (.cells (zs.map fun z => Value.int k z).toArray e fr) := by
  have h1 := laidMet.filter (fun x => x.1 == name) hL
  rw [hf] at h1
  exact ⟨(0, 0), tab_there hg hlt hrow hsh (Lib.tabIs_of_head hg hty ht he hce hct h1)⟩

def zsOf : DataW Unit → List Int
  | .agg l => l.map fun | .lit (.int _ z) => z | _ => 0
  | _ => []

end Go.Abs


namespace Go.Abs

/-! ### The rules in short words: what the kernel sees by itself is not written -/

variable {P : Program} {ne : NE} {m n : Nat}
variable {E : Ent} {kn knA : KN} {ls ls1 : Lcs} {H H1 H' : AH} {ops : Array Oper} {k : Nat} {Q : Exit → Act → World → Prop} {bs A : List Nat} {f : Nat} {la : Array Bool} {ag : Bool} {c : Code}

theorem WS.sq (h : WS P ne m E n (cfst c) kn ls H (Exit.then ((csnd c).wp P Q) Q)) (hc : isSeq c = true := by kernel_rfl) : WS P ne m E n c kn ls H Q := WS.seq hc h
theorem WS.sk (h : ∀ a w, SS P ne m E n kn ls H a w → Q .normal a w) (hc : isSkip c = true := by kernel_rfl) : WS P ne m E n c kn ls H Q := WS.skip hc h
theorem WS.rt (h : ∀ a w, SS P ne m E n kn ls H a w → Q .ret a w) (hc : isRet c = true := by kernel_rfl) : WS P ne m E n c kn ls H Q := WS.ret hc h
theorem WS.ex (i : Nat) (h : ∀ a w, SS P ne m E n kn ls H a w → Q (.exit i) a w) (hc : isExit i c = true := by kernel_rfl) : WS P ne m E n c kn ls H Q := WS.exit i hc h
theorem WS.bk (i : Nat) (h : WS P ne m E n (cfst c) kn ls H (blkS i Q)) (hc : isBlock i c = true := by kernel_rfl) : WS P ne m E n c kn ls H Q := WS.blk i hc h
theorem WS.cT (h : WS P ne m E n (cfst c) kn ls H Q) (hc : (condOf c).map (fun x => (knownV kn x, evV kn x)) = some (true, .bool true) := by kernel_rfl) : WS P ne m E n c kn ls H Q := WS.condT true rfl hc h
theorem WS.cF (h : WS P ne m E n (csnd c) kn ls H Q) (hc : (condOf c).map (fun x => (knownV kn x, evV kn x)) = some (true, .bool false) := by kernel_rfl) : WS P ne m E n c kn ls H Q := WS.condF false rfl hc h
theorem WS.fx (t : Nat) {b : Bool} (d : Bool) (hb : b = d) (h : WS P ne m E n c ((t, .val (.bool d)) :: kn) ls H Q) (hl : lkV kn t = some (.val (.bool b)) := by kernel_rfl) : WS P ne m E n c kn ls H Q := WS.fix t d hb hl h
theorem RS.fx (t : Nat) {b : Bool} (d : Bool) (hb : b = d) (h : RS P ne m E n ops k ((t, .val (.bool d)) :: kn) ls H Q) (hl : lkV kn t = some (.val (.bool b)) := by kernel_rfl) : RS P ne m E n ops k kn ls H Q := RS.fix t d hb hl h
theorem DA.fx (t : Nat) {b : Bool} (d : Bool) (hb : b = d) (h : DA P ne m E n ops bs A H1 ls1 f la ag ((t, .val (.bool d)) :: knA) ((t, .val (.bool d)) :: kn) ls H Q) (hl : lkV kn t = some (.val (.bool b)) := by kernel_rfl) : DA P ne m E n ops bs A H1 ls1 f la ag knA kn ls H Q := DA.fix t d hb hl h

theorem WS.rg (h : RS P ne m E n (opsOf c) 0 kn ls H Q) (hc : (regOf c).map (·.2) = some false := by kernel_rfl) : WS P ne m E n c kn ls H Q := by
  refine WS.region (opsOf c) ?_ h
  cases c with
  | region id ops d =>
    simp only [regOf, Option.map_some, Option.some.injEq] at hc
    subst hc; rfl
  | _ => cases hc

theorem RS.dn (h : ∀ a w, SS P ne m E n kn ls H a w → Q .normal a w) (hk : Nat.ble ops.size k = true := by kernel_rfl) : RS P ne m E n ops k kn ls H Q := RS.done hk h
theorem RS.mS (j : Nat) (new : KN) (h : RS P ne m E n ops (k + j) (new ++ kn) ls H Q) (hr : runLs P m n ops j k kn ls H = some (new ++ kn, ls, H) := by kernel_rfl) : RS P ne m E n ops k kn ls H Q := RS.many j new ls hr h
theorem RS.mL (j : Nat) (new : KN) (ls' : Lcs) (h : RS P ne m E n ops (k + j) (new ++ kn) ls' H Q) (hr : runLs P m n ops j k kn ls H = some (new ++ kn, ls', H) := by kernel_rfl) : RS P ne m E n ops k kn ls H Q := RS.many j new ls' hr h
theorem RS.o (d : Option Nat) (v : Value) (hr : runOp P (NE.plain 0) ih0 m (opAt ops k) (evV kn) H = some (v, H')) (h : RS P ne m E n ops (k + 1) (putV kn d (.val v)) ls H' Q)
    (ho : ops[k]? = some (opAt ops k) := by kernel_rfl) (hd : (opAt ops k).dst = d := by kernel_rfl) (hB : (opV P n ops kn (opAt ops k) && noCall (opAt ops k)) = true := by kernel_rfl) : RS P ne m E n ops k kn ls H Q := RS.atD d v ho hd hB hr h
theorem RS.cl (d : Option Nat) {v : Value} (g : Nat) (args : Array Value) (hr : CallS P ne m g args H v H') (h : RS P ne m E n ops (k + 1) (putV kn d (.val v)) ls H' Q)
    (ho : ops[k]? = some (opAt ops k) := by kernel_rfl) (hd : (opAt ops k).dst = d := by kernel_rfl) (hB : opV P n ops kn (opAt ops k) = true := by kernel_rfl) (hc : callV kn (opAt ops k) = some (g, args) := by kernel_rfl) : RS P ne m E n ops k kn ls H Q := RS.callD d g args ho hd hB hc hr h

/-! Drawn regions -/

theorem WS.dr (A : List Nat) (bs : List Nat) (sz : Nat) (h : closedOk (opsOf c).toList bs = true → DA P ne m E n (opsOf c) bs A H ls sz (Array.replicate sz false) true kn kn ls H Q) (hc : regOf c = some (opsOf c, true) := by kernel_rfl) (hb : befores (opsOf c).toList = bs := by kernel_rfl) (hs : (opsOf c).size = sz := by kernel_rfl) (hB : closedOk (opsOf c).toList bs = true := by kernel_rfl) : WS P ne m E n c kn ls H Q := WS.drawnX (opsOf c) A bs sz hc hb hs hB (h hB)
theorem DA.dn (h : ∀ a w, SS P ne m E n kn ls H a w → Q .normal a w) (hr : readyIs ops la [] = true := by kernel_rfl) : DA P ne m E n ops bs A H1 ls1 f la ag knA kn ls H Q := DA.done hr h
theorem DA.on (k : Nat) (h : DAk P ne m E n ops bs A H1 ls1 k f la ag knA kn ls H Q) (hr : readyIs ops la [k] = true := by kernel_rfl) : DA P ne m E n ops bs A H1 ls1 (f + 1) la ag knA kn ls H Q := DA.one k hr h

theorem DA.tD (k : Nat) (d : Option Nat) (v : Value) (hv : detOp P H1 (opAt ops k) (evV knA) = some v) (h : DA P ne m E n ops bs A H1 ls1 f (la.setIfInBounds k true) true (putV knA d (.val v)) (putV kn d (.val v)) ls H Q)
    (hc : closedOk ops.toList bs = true := by assumption) (ho : ops[k]? = some (opAt ops k) := by kernel_rfl) (hd : (opAt ops k).dst = d := by kernel_rfl) (hB : takeB P n ops A la k (opAt ops k) = true := by kernel_rfl) (hQ : ∀ c a w, ¬ Q (.panic c) a w := by exact fun _ _ _ h => h)
    (hw : (wantV ops kn (opAt ops k), (opAt ops k).op.operands.all (okx P), (opAt ops k).op.operands.all (knownV knA)) = (some true, true, true) := by kernel_rfl) : DA P ne m E n ops bs A H1 ls1 (f + 1) la true knA kn ls H Q := DA.takeD k d v ho hd hB hc hQ hw hv h
theorem DA.tK (k : Nat) (d : Option Nat) (v : Value) (h : DA P ne m E n ops bs A H1 ls1 f (la.setIfInBounds k true) true (putV knA d (.val v)) (putV kn d (.val v)) ls H Q)
    (hc : closedOk ops.toList bs = true := by assumption) (ho : ops[k]? = some (opAt ops k) := by kernel_rfl) (hd : (opAt ops k).dst = d := by kernel_rfl) (hB : takeB P n ops A la k (opAt ops k) = true := by kernel_rfl) (hQ : ∀ c a w, ¬ Q (.panic c) a w := by exact fun _ _ _ h => h)
    (hw : (wantV ops kn (opAt ops k), (opAt ops k).op.operands.all (okx P), (opAt ops k).op.operands.all (knownV knA)) = (some true, true, true) := by kernel_rfl) (hv : detOp P H1 (opAt ops k) (evV knA) = some v := by kernel_rfl) : DA P ne m E n ops bs A H1 ls1 (f + 1) la true knA kn ls H Q := DA.takeD k d v ho hd hB hc hQ hw hv h
theorem DA.tL (k : Nat) (d : Option Nat) (kv : KV) (h : DA P ne m E n ops bs A H1 ls1 f (la.setIfInBounds k true) true (putV knA d kv) (putV kn d kv) ls H Q)
    (hc : closedOk ops.toList bs = true := by assumption) (ho : ops[k]? = some (opAt ops k) := by kernel_rfl) (hd : (opAt ops k).dst = d := by kernel_rfl) (hB : takeB P n ops A la k (opAt ops k) = true := by kernel_rfl) (hQ : ∀ c a w, ¬ Q (.panic c) a w := by exact fun _ _ _ h => h)
    (hw : wantV ops kn (opAt ops k) = some true := by kernel_rfl) (hv : locDet P knA ls1 (opAt ops k) = some kv := by kernel_rfl) : DA P ne m E n ops bs A H1 ls1 (f + 1) la true knA kn ls H Q := DA.takeLD k d kv ho hd hB hc hQ hw hv h
theorem DA.tP (k : Nat) (d : Option Nat) (v : Value) (h : DA P ne m E n ops bs A H1 ls1 f (la.setIfInBounds k true) ag (dropV d knA) (putV kn d (.val v)) ls H Q)
    (hc : closedOk ops.toList bs = true := by assumption) (ho : ops[k]? = some (opAt ops k) := by kernel_rfl) (hd : (opAt ops k).dst = d := by kernel_rfl) (hB : takeQ P n ops A bs la k (opAt ops k) = true := by kernel_rfl) (hQ : ∀ c a w, ¬ Q (.panic c) a w := by exact fun _ _ _ h => h)
    (hw : (wantV ops kn (opAt ops k), (opAt ops k).op.operands.all (okx P), (opAt ops k).op.operands.all (knownV kn)) = (some true, true, true) := by kernel_rfl) (hv : pureOp P (opAt ops k) (evV kn) = some v := by kernel_rfl) : DA P ne m E n ops bs A H1 ls1 (f + 1) la ag knA kn ls H Q := DA.takeP k d v ho hd hB hc hQ hw hv h
theorem DA.tPx (k : Nat) (d : Option Nat) (v : Value) (hv : detOp P ⟨0, .nil⟩ (opAt ops k) (evV kn) = some v) (h : DA P ne m E n ops bs A H1 ls1 f (la.setIfInBounds k true) ag (dropV d knA) (putV kn d (.val v)) ls H Q)
    (hc : closedOk ops.toList bs = true := by assumption) (ho : ops[k]? = some (opAt ops k) := by kernel_rfl) (hd : (opAt ops k).dst = d := by kernel_rfl) (hB : takeQ P n ops A bs la k (opAt ops k) = true := by kernel_rfl) (hQ : ∀ c a w, ¬ Q (.panic c) a w := by exact fun _ _ _ h => h)
    (hw : (wantV ops kn (opAt ops k), (opAt ops k).op.operands.all (okx P), (opAt ops k).op.operands.all (knownV kn)) = (some true, true, true) := by kernel_rfl) (hn : notRead (opAt ops k) = true := by kernel_rfl) : DA P ne m E n ops bs A H1 ls1 (f + 1) la ag knA kn ls H Q := DA.takeP k d v ho hd hB hc hQ hw (pureOp_of hn hv) h
theorem DA.tPL (k : Nat) (d : Option Nat) (kv : KV) (h : DA P ne m E n ops bs A H1 ls1 f (la.setIfInBounds k true) ag (dropV d knA) (putV kn d kv) ls H Q)
    (hc : closedOk ops.toList bs = true := by assumption) (ho : ops[k]? = some (opAt ops k) := by kernel_rfl) (hd : (opAt ops k).dst = d := by kernel_rfl) (hB : takeQ P n ops A bs la k (opAt ops k) = true := by kernel_rfl) (hQ : ∀ c a w, ¬ Q (.panic c) a w := by exact fun _ _ _ h => h)
    (hw : wantV ops kn (opAt ops k) = some true := by kernel_rfl) (hv : (match (opAt ops k).op with | .load .. => none | _ => locDet P kn ls (opAt ops k)) = some kv := by kernel_rfl) : DA P ne m E n ops bs A H1 ls1 (f + 1) la ag knA kn ls H Q := DA.takePL k d kv ho hd hB hc hQ hw hv h
theorem DA.aL (k : Nat) (d : Option Nat) (kv : KV) (ls' : Lcs) (ag' : Bool) (h : DA P ne m E n ops bs A H1 ls1 f (la.setIfInBounds k true) ag' (dropV d knA) (putV kn d kv) ls' H Q)
    (hc : closedOk ops.toList bs = true := by assumption) (ho : ops[k]? = some (opAt ops k) := by kernel_rfl) (hdd : (opAt ops k).dst = d := by kernel_rfl) (hr : (Region.ready .any ops la).contains k = true := by kernel_rfl) (hw : wantV ops kn (opAt ops k) = some true := by kernel_rfl) (hd : dstV n (opAt ops k) = true := by kernel_rfl) (hl : locOp P kn ls (opAt ops k) = some (kv, ls') := by kernel_rfl)
    (ha : ((!demO ops A bs k || (ag && notStore (opAt ops k))) && (!ag' || (ag && notStore (opAt ops k)))) = true := by kernel_rfl) : DAk P ne m E n ops bs A H1 ls1 k f la ag knA kn ls H Q := DA.actLD k d kv ls' ag' ho hdd hr hc hw hd hl ha h
/-- One that may change what was there: nobody reads any more. -/
theorem DA.aH (k : Nat) (d : Option Nat) (v : Value) (hv : runOp P (NE.plain 0) ih0 m (opAt ops k) (evV kn) H = some (v, H')) (h : DA P ne m E n ops bs A H1 ls1 f (la.setIfInBounds k true) false (dropV d knA) (putV kn d (.val v)) ls H' Q)
    (hc : closedOk ops.toList bs = true := by assumption) (ho : ops[k]? = some (opAt ops k) := by kernel_rfl) (hdd : (opAt ops k).dst = d := by kernel_rfl) (hr : (Region.ready .any ops la).contains k = true := by kernel_rfl) (hB : (opV P n ops kn (opAt ops k) && noCall (opAt ops k)) = true := by kernel_rfl) (hd : demO ops A bs k = false := by kernel_rfl) : DAk P ne m E n ops bs A H1 ls1 k f la ag knA kn ls H Q :=
  DA.actHD k d m false v ho hdd hr hc hB hv (Nat.le_refl _) (fun hh => by rw [hd] at hh; cases hh) (by rw [hd]; rfl) h
theorem DA.aHk (k : Nat) (d : Option Nat) (ag' : Bool) (v : Value) (hv : runOp P (NE.plain 0) ih0 (Nat.max m H.next) (opAt ops k) (evV kn) H = some (v, H')) (h : DA P ne m E n ops bs A H1 ls1 f (la.setIfInBounds k true) ag' (dropV d knA) (putV kn d (.val v)) ls H' Q)
    (hc : closedOk ops.toList bs = true := by assumption) (ho : ops[k]? = some (opAt ops k) := by kernel_rfl) (hdd : (opAt ops k).dst = d := by kernel_rfl) (hr : (Region.ready .any ops la).contains k = true := by kernel_rfl) (hB : (opV P n ops kn (opAt ops k) && noCall (opAt ops k)) = true := by kernel_rfl) (ha : ((!demO ops A bs k || ag) && (!ag' || ag)) = true := by kernel_rfl) : DAk P ne m E n ops bs A H1 ls1 k f la ag knA kn ls H Q :=
  DA.actHD k d (Nat.max m H.next) ag' v ho hdd hr hc hB hv (Nat.le_max_left _ _) (fun _ => Nat.le_max_right _ _) ha h
theorem DA.aC (k : Nat) (d : Option Nat) {v : Value} (g : Nat) (args : Array Value) (hcs : CallS P ne m g args H v H') (h : DA P ne m E n ops bs A H1 ls1 f (la.setIfInBounds k true) false (dropV d knA) (putV kn d (.val v)) ls H' Q)
    (hc : closedOk ops.toList bs = true := by assumption) (ho : ops[k]? = some (opAt ops k) := by kernel_rfl) (hdd : (opAt ops k).dst = d := by kernel_rfl) (hr : (Region.ready .any ops la).contains k = true := by kernel_rfl) (hB : opV P n ops kn (opAt ops k) = true := by kernel_rfl) (hcl : callV kn (opAt ops k) = some (g, args) := by kernel_rfl) (hd : demO ops A bs k = false := by kernel_rfl) : DAk P ne m E n ops bs A H1 ls1 k f la ag knA kn ls H Q :=
  DA.actCD k d m false g args ho hdd hr hc hB hcl hcs (Nat.le_refl _) (fun hh => by rw [hd] at hh; cases hh) (by rw [hd]; rfl) h
theorem DA.aCk (k : Nat) (d : Option Nat) (ag' : Bool) {v : Value} (g : Nat) (args : Array Value) (hcs : CallS P ne (Nat.max m H.next) g args H v H') (h : DA P ne m E n ops bs A H1 ls1 f (la.setIfInBounds k true) ag' (dropV d knA) (putV kn d (.val v)) ls H' Q)
    (hc : closedOk ops.toList bs = true := by assumption) (ho : ops[k]? = some (opAt ops k) := by kernel_rfl) (hdd : (opAt ops k).dst = d := by kernel_rfl) (hr : (Region.ready .any ops la).contains k = true := by kernel_rfl) (hB : opV P n ops kn (opAt ops k) = true := by kernel_rfl) (hcl : callV kn (opAt ops k) = some (g, args) := by kernel_rfl) (ha : ((!demO ops A bs k || ag) && (!ag' || ag)) = true := by kernel_rfl) : DAk P ne m E n ops bs A H1 ls1 k f la ag knA kn ls H Q :=
  DA.actCD k d (Nat.max m H.next) ag' g args ho hdd hr hc hB hcl hcs (Nat.le_max_left _ _) (fun _ => Nat.le_max_right _ _) ha h

/-! What is kept -/

theorem SubV.of : ∀ {kn' kn : KN}, kn'.map (fun p => lkV kn p.1) = kn'.map (fun p => some p.2) → SubV kn' kn := by
  intro kn'
  induction kn' with
  | nil => intro kn _; trivial
  | cons p l ih =>
    intro kn h
    obtain ⟨t, v⟩ := p
    simp only [List.map_cons, List.cons.injEq] at h
    exact ⟨h.1, ih h.2⟩

theorem SS.sb {a : Act} {w : World} (h : SS P ne m E n kn ls H a w) {kn' : KN} (k : Nat) {ls' : Lcs} (hs : kn'.map (fun p => lkV kn p.1) = kn'.map (fun p => some p.2) := by kernel_rfl) (hl : ls.take k = ls' := by kernel_rfl) (hb : belowL k kn' = true := by kernel_rfl) : SS P ne m E n kn' ls' H a w := h.sub (SubV.of hs) k hl hb

theorem rS {fn : Func} {v : Value} {a : Act} {w : World} (hs : SS P ne m E n kn ls H a w) (h : resF P fn kn ls H = some v := by kernel_rfl) : RT P ne m E fn v H a w := rtS hs h

section
variable {S R : Type} {body : S → Option (Lp S R)} {knOf : S → KN} {lsOf : S → Lcs} {hOf : S → AH} {i : Nat}

theorem WS.lI {QR : R → Act → World → Prop} (hbody : ∀ s o, body s = some o → WS P ne m E n (cfst c) (knOf s) (lsOf s) (hOf s) (lpS P ne m E n knOf lsOf hOf i QR o)) {s s' : S} (hl : loopO body s = some (.inl s')) (k : Nat) (h1 : ∀ a w, SS P ne m E n (knOf s') (lsOf s') (hOf s') a w → Q (.exit i) a w)
    (hc : isLoop c = true := by kernel_rfl) (hs : (knOf s).map (fun p => lkV kn p.1) = (knOf s).map (fun p => some p.2) := by kernel_rfl) (hls : ls.take k = lsOf s := by kernel_rfl) (hbl : belowL k (knOf s) = true := by kernel_rfl) (hH : H = hOf s := by rfl) : WS P ne m E n c kn ls H Q :=
  WS.loopI hc body knOf lsOf hOf i QR hbody hl k (SubV.of hs) hls hbl hH h1
theorem WS.lR {QR : R → Act → World → Prop} (hbody : ∀ s o, body s = some o → WS P ne m E n (cfst c) (knOf s) (lsOf s) (hOf s) (lpS P ne m E n knOf lsOf hOf i QR o)) {s : S} {r : R} (hl : loopO body s = some (.inr r)) (k : Nat) (h2 : ∀ a w, QR r a w → Q .ret a w)
    (hc : isLoop c = true := by kernel_rfl) (hs : (knOf s).map (fun p => lkV kn p.1) = (knOf s).map (fun p => some p.2) := by kernel_rfl) (hls : ls.take k = lsOf s := by kernel_rfl) (hbl : belowL k (knOf s) = true := by kernel_rfl) (hH : H = hOf s := by rfl) : WS P ne m E n c kn ls H Q :=
  WS.loopR hc body knOf lsOf hOf i QR hbody hl k (SubV.of hs) hls hbl hH h2
theorem WS.lXI {QR : R → Exit → Act → World → Prop} (hbody : ∀ s o, body s = some o → WS P ne m E n (cfst c) (knOf s) (lsOf s) (hOf s) (lpX P ne m E n knOf lsOf hOf i QR o)) {s s' : S} (hl : loopO body s = some (.inl s')) (k : Nat) (h1 : ∀ a w, SS P ne m E n (knOf s') (lsOf s') (hOf s') a w → Q (.exit i) a w)
    (hc : isLoop c = true := by kernel_rfl) (hs : (knOf s).map (fun p => lkV kn p.1) = (knOf s).map (fun p => some p.2) := by kernel_rfl) (hls : ls.take k = lsOf s := by kernel_rfl) (hbl : belowL k (knOf s) = true := by kernel_rfl) (hH : H = hOf s := by rfl) : WS P ne m E n c kn ls H Q :=
  WS.loopXI hc body knOf lsOf hOf i QR hbody hl k (SubV.of hs) hls hbl hH h1
theorem WS.lXR {QR : R → Exit → Act → World → Prop} (hbody : ∀ s o, body s = some o → WS P ne m E n (cfst c) (knOf s) (lsOf s) (hOf s) (lpX P ne m E n knOf lsOf hOf i QR o)) {s : S} {r : R} (hl : loopO body s = some (.inr r)) (k : Nat) (h2 : ∀ e a w, QR r e a w → Q e a w)
    (hc : isLoop c = true := by kernel_rfl) (hs : (knOf s).map (fun p => lkV kn p.1) = (knOf s).map (fun p => some p.2) := by kernel_rfl) (hls : ls.take k = lsOf s := by kernel_rfl) (hbl : belowL k (knOf s) = true := by kernel_rfl) (hH : H = hOf s := by rfl) : WS P ne m E n c kn ls H Q :=
  WS.loopXR hc body knOf lsOf hOf i QR hbody hl k (SubV.of hs) hls hbl hH h2
end

end Go.Abs

