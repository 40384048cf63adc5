/- The engine, part 25 of 35: pieces of the interpreter and of its soundness. No condition. -/
import Derived.Test.YtiggbefjndkkmaaGreatDoorE24
namespace Go.Abs

variable {P : Program} {m : Nat}

def pl (D : Nat → DSt) (i : Nat) : Pl := (D (i + 1)).pls.headD ⟨.pass, .nil, 0, undef, 0⟩

def IsAct (ops : Array Oper) (D : Nat → DSt) (i : Nat) : Prop := i < ops.size ∧ (pl D i).kind = .act
def IsNew (ops : Array Oper) (D : Nat → DSt) (i : Nat) (b : Blk) : Prop := i < ops.size ∧ (pl D i).kind = .new b

structure Plan (P : Program) (ne : Nat) (ih : Ex) (m n : Nat) (ops : Array Oper) (bs : List Nat) (D : Nat → DSt) (ss0 : Sl) (H0 : AH) : Prop where
  slots : slotsOk ops bs = true
  edges : edgesOk ops.toList = true
  closed : closedOk ops.toList bs = true
  start : D 0 = ⟨ss0, H0.next, H0, [], [H0], [], []⟩
  seq : ∀ i o, ops.toList[i]? = some o → PCase P ne ih m n ops bs i o (D i) (D (i + 1))
  steady : ∀ i o, ops.toList[i]? = some o → steady P ne ih m bs (D ops.size).gs.reverse (D ops.size).acts.reverse i o (pl D i) = true

section
variable {ne : Nat} {ih : Ex} {n : Nat} {ops : Array Oper} {bs : List Nat} {D : Nat → DSt} {ss0 : Sl} {H0 : AH}

theorem op_at {i : Nat} (h : i < ops.size) : ∃ o, ops.toList[i]? = some o ∧ ops[i]? = some o := ⟨ops[i], by simp [h], by simp [h]⟩

theorem Plan.cnt_step (p : Plan P ne ih m n ops bs D ss0 H0) {i : Nat} (hi : i < ops.size) : (D i).cnt ≤ (D (i + 1)).cnt := by
  obtain ⟨o, ho, _⟩ := op_at hi
  cases p.seq i o ho <;> omega

theorem Plan.cnt_mono (p : Plan P ne ih m n ops bs D ss0 H0) {i j : Nat} (hij : i ≤ j) (hj : j ≤ ops.size) : (D i).cnt ≤ (D j).cnt := by
  induction j with
  | zero => rw [show i = 0 by omega]; exact Nat.le_refl _
  | succ j ih =>
    by_cases h : i = j + 1
    · subst h; exact Nat.le_refl _
    · exact Nat.le_trans (ih (by omega) (by omega)) (p.cnt_step (by omega))

theorem Plan.gnext (p : Plan P ne ih m n ops bs D ss0 H0) {i : Nat} (hi : i ≤ ops.size) : (D i).G.next ≤ (D i).cnt := by
  induction i with
  | zero => rw [p.start]; exact Nat.le_refl _
  | succ i ih =>
    obtain ⟨o, ho, _⟩ := op_at (show i < ops.size by omega)
    have := ih (by omega)
    cases p.seq i o ho with
    | pass hw hp hc hG hpe ha hgs hpl => rw [hc, hG]; exact this
    | quiet v hw hx hq hp hc hG hpe ha hgs hpl => rw [hc, hG]; exact this
    | new v H b hw hx hr hb hn hm hp hc hG hpe ha hgs hpl => rw [hc, hG]; omega
    | act v hw hx hch hr hle hp hc hpe ha hgs hpl => rw [hc]; exact Nat.le_refl _

theorem Plan.kind_new (p : Plan P ne ih m n ops bs D ss0 H0) {i : Nat} {b : Blk} (h : IsNew ops D i b) : (D (i + 1)).cnt = (D i).cnt + 1 := by
  obtain ⟨o, ho, _⟩ := op_at h.1
  have hk := h.2
  unfold pl at hk
  cases p.seq i o ho with
  | pass hw hp hc hG hpe ha hgs hpl => rw [hpl] at hk; cases hk
  | quiet v hw hx hq hp hc hG hpe ha hgs hpl => rw [hpl] at hk; cases hk
  | new v H b hw hx hr hb hn hm hp hc hG hpe ha hgs hpl => exact hc
  | act v hw hx hch hr hle hp hc hpe ha hgs hpl => rw [hpl] at hk; cases hk

theorem not_new_act {i : Nat} {b : Blk} (h : IsNew ops D i b) (k : IsAct ops D i) : False := by have := h.2; rw [k.2] at this; cases this

theorem Plan.new_inj (p : Plan P ne ih m n ops bs D ss0 H0) {i j : Nat} {b : Blk} (h : IsNew ops D i b) (hj : j < ops.size) (hc : (D i).cnt = (D j).cnt) : j ≤ i := by
  by_cases hlt : i < j
  · have h1 := p.cnt_mono (show i + 1 ≤ j by omega) (by omega)
    rw [p.kind_new h] at h1
    omega
  · omega

theorem Plan.new_eq (p : Plan P ne ih m n ops bs D ss0 H0) {i j : Nat} {b c : Blk} (h : IsNew ops D i b) (k : IsNew ops D j c) (hc : (D i).cnt = (D j).cnt) : i = j :=
  Nat.le_antisymm (p.new_inj k h.1 hc.symm) (p.new_inj h k.1 hc)

theorem Plan.acts (p : Plan P ne ih m n ops bs D ss0 H0) {i : Nat} (hi : i ≤ ops.size) : ∀ a, a ∈ (D i).acts ↔ a < i ∧ IsAct ops D a := by
  induction i with
  | zero => intro a; rw [p.start]; simp
  | succ i ih =>
    obtain ⟨o, ho, _⟩ := op_at (show i < ops.size by omega)
    have := ih (by omega)
    intro a
    have skip : (pl D i).kind ≠ .act → ((a < i ∧ IsAct ops D a) ↔ (a < i + 1 ∧ IsAct ops D a)) := by
      intro hk
      constructor
      · intro h; exact ⟨by omega, h.2⟩
      · intro h
        refine ⟨?_, h.2⟩
        have : a ≠ i := fun e => hk (e ▸ h.2.2)
        omega
    cases p.seq i o ho with
    | pass hw hp hc hG hpe ha hgs hpl => rw [ha, this]; exact skip (by unfold pl; rw [hpl]; simp)
    | quiet v hw hx hq hp hc hG hpe ha hgs hpl => rw [ha, this]; exact skip (by unfold pl; rw [hpl]; simp)
    | new v H b hw hx hr hb hn hm hp hc hG hpe ha hgs hpl => rw [ha, this]; exact skip (by unfold pl; rw [hpl]; simp)
    | act v hw hx hch hr hle hp hc hpe ha hgs hpl =>
      rw [ha, List.mem_cons, this]
      constructor
      · rintro (rfl | h)
        · exact ⟨by omega, by omega, by unfold pl; rw [hpl]; rfl⟩
        · exact ⟨by omega, h.2⟩
      · intro h
        by_cases e : a = i
        · exact .inl e
        · exact .inr ⟨by omega, h.2⟩

theorem Plan.g_same (p : Plan P ne ih m n ops bs D ss0 H0) {i j : Nat} (hij : i ≤ j) (hj : j ≤ ops.size) (hno : ∀ a, i ≤ a → a < j → ¬ IsAct ops D a) : (D j).G = (D i).G := by
  induction j with
  | zero => rw [show i = 0 by omega]
  | succ j ih =>
    by_cases h : i = j + 1
    · subst h; rfl
    · have h1 := ih (by omega) (by omega) fun a h1 h2 => hno a h1 (by omega)
      rw [← h1]
      obtain ⟨o, ho, _⟩ := op_at (show j < ops.size by omega)
      cases p.seq j o ho with
      | pass hw hp hc hG hpe ha hgs hpl => exact hG
      | quiet v hw hx hq hp hc hG hpe ha hgs hpl => exact hG
      | new v H b hw hx hr hb hn hm hp hc hG hpe ha hgs hpl => exact hG
      | act v hw hx hch hr hle hp hc hpe ha hgs hpl => exact absurd ⟨by omega, by unfold pl; rw [hpl]; rfl⟩ (hno j (by omega) (by omega))

theorem Plan.pend (p : Plan P ne ih m n ops bs D ss0 H0) {i : Nat} (hi : i ≤ ops.size) : ∀ q, q ∈ (D i).pend ↔ q.1 < i ∧ IsNew ops D q.1 q.2.2 ∧ q.2.1 = (D q.1).cnt ∧ ∀ a, IsAct ops D a → q.1 < a → a < i → pre bs a q.1 = false := by
  induction i with
  | zero => intro a; rw [p.start]; simp
  | succ i ih =>
    obtain ⟨o, ho, _⟩ := op_at (show i < ops.size by omega)
    have := ih (by omega)
    intro q
    have noact : (pl D i).kind ≠ .act → ((∀ a, IsAct ops D a → q.1 < a → a < i → pre bs a q.1 = false) ↔ (∀ a, IsAct ops D a → q.1 < a → a < i + 1 → pre bs a q.1 = false)) := by
      intro hk
      constructor
      · intro h a ha h1 h2
        have : a ≠ i := fun e => hk (e ▸ ha.2)
        exact h a ha h1 (by omega)
      · intro h a ha h1 h2; exact h a ha h1 (by omega)
    have skip : (pl D i).kind ≠ .act → (∀ b, (pl D i).kind ≠ .new b) → ((q.1 < i ∧ IsNew ops D q.1 q.2.2 ∧ q.2.1 = (D q.1).cnt ∧ ∀ a, IsAct ops D a → q.1 < a → a < i → pre bs a q.1 = false) ↔ (q.1 < i + 1 ∧ IsNew ops D q.1 q.2.2 ∧ q.2.1 = (D q.1).cnt ∧ ∀ a, IsAct ops D a → q.1 < a → a < i + 1 → pre bs a q.1 = false)) := by
      intro hk hk2
      rw [noact hk]
      constructor
      · intro h; exact ⟨by omega, h.2⟩
      · intro h
        have : q.1 ≠ i := fun e => hk2 _ (by have := h.2.1.2; rw [e] at this; exact this)
        exact ⟨by omega, h.2⟩
    cases p.seq i o ho with
    | pass hw hp hc hG hpe ha hgs hpl => rw [hpe, this]; exact skip (by unfold pl; rw [hpl]; simp) (by unfold pl; rw [hpl]; simp)
    | quiet v hw hx hq hp hc hG hpe ha hgs hpl => rw [hpe, this]; exact skip (by unfold pl; rw [hpl]; simp) (by unfold pl; rw [hpl]; simp)
    | new v H b hw hx hr hb hn hm hp hc hG hpe ha hgs hpl =>
      have hk : (pl D i).kind = .new b := by unfold pl; rw [hpl]; rfl
      rw [hpe, List.mem_cons, this, noact (by rw [hk]; simp)]
      constructor
      · rintro (rfl | h)
        · exact ⟨by simp, ⟨by simp; omega, hk⟩, rfl, fun a _ h1 h2 => by simp at h1; omega⟩
        · exact ⟨by omega, h.2⟩
      · intro h
        by_cases e : q.1 = i
        · left
          obtain ⟨q1, q2, q3⟩ := q
          have e : q1 = i := e
          subst e
          have : (pl D q1).kind = .new q3 := h.2.1.2
          rw [hk] at this
          cases this
          have h3 : q2 = (D q1).cnt := h.2.2.1
          rw [h3]
        · exact .inr ⟨by omega, h.2⟩
    | act v hw hx hch hr hle hp hc hpe ha hgs hpl =>
      have hk : (pl D i).kind = .act := by unfold pl; rw [hpl]; rfl
      rw [hpe, List.mem_filter, this]
      constructor
      · rintro ⟨⟨h1, h2, h3, h4⟩, h5⟩
        refine ⟨by omega, h2, h3, fun a hA hlt hlt2 => ?_⟩
        by_cases e : a = i
        · subst e; simpa using h5
        · exact h4 a hA hlt (by omega)
      · rintro ⟨h1, h2, h3, h4⟩
        have hne : q.1 ≠ i := fun e => by have := h2.2; rw [e, hk] at this; cases this
        refine ⟨⟨by omega, h2, h3, fun a hA hlt hlt2 => h4 a hA hlt (by omega)⟩, ?_⟩
        rw [h4 i ⟨by omega, hk⟩ (by omega) (by omega)]; rfl

theorem putA_other {ss ss' : Sl} {d : Option Tmp} {v : Value} {t : Nat} (h : putA n ss d v = some ss') (hd : d ≠ some t) : ss'.get t = ss.get t := by
  unfold putA at h
  split at h
  · rename_i d
    cases hb : Nat.blt d n with
    | false => rw [hb] at h; cases h
    | true =>
      rw [hb] at h
      simp only [cond_true, Option.some.injEq] at h
      subst h
      exact Tr.get_set_other _ _ _ _ _ (by omega) (fun e => hd (by rw [e]))
  · cases h; rfl

theorem Plan.put (p : Plan P ne ih m n ops bs D ss0 H0) {i : Nat} {o : Oper} (ho : ops.toList[i]? = some o) : ∃ v, putA n (D i).ss o.dst v = some (D (i + 1)).ss := by
  cases p.seq i o ho with
  | pass hw hp hc hG hpe ha hgs hpl => exact ⟨_, hp⟩
  | quiet v hw hx hq hp hc hG hpe ha hgs hpl => exact ⟨_, hp⟩
  | new v H b hw hx hr hb hn hm hp hc hG hpe ha hgs hpl => exact ⟨_, hp⟩
  | act v hw hx hch hr hle hp hc hpe ha hgs hpl => exact ⟨_, hp⟩

theorem Plan.ss_same (p : Plan P ne ih m n ops bs D ss0 H0) {t i j : Nat} (hij : i ≤ j) (hj : j ≤ ops.size) (hno : ∀ k o, i ≤ k → k < j → ops.toList[k]? = some o → o.dst ≠ some t) : (D j).ss.get t = (D i).ss.get t := by
  induction j with
  | zero => rw [show i = 0 by omega]
  | succ j ih =>
    by_cases h : i = j + 1
    · subst h; rfl
    · rw [← ih (by omega) (by omega) fun k o h1 h2 => hno k o h1 (by omega)]
      obtain ⟨o, ho, _⟩ := op_at (show j < ops.size by omega)
      obtain ⟨v, hv⟩ := p.put ho
      exact putA_other hv (hno j o (by omega) (by omega) ho)

theorem Plan.trace (p : Plan P ne ih m n ops bs D ss0 H0) {i j : Nat} (hij : i ≤ j) (hj : j ≤ ops.size) :
    ∃ Y Z : List _, (D j).gs.reverse = (D i).gs.reverse ++ Y ∧ (D j).acts.reverse = (D i).acts.reverse ++ Z ∧ ∀ a ∈ Z, i ≤ a ∧ IsAct ops D a := by
  induction j with
  | zero => rw [show i = 0 by omega]; exact ⟨[], [], by simp, by simp, by simp⟩
  | succ j ih =>
    by_cases h : i = j + 1
    · subst h; exact ⟨[], [], by simp, by simp, by simp⟩
    · obtain ⟨Y, Z, h1, h2, h3⟩ := ih (by omega) (by omega)
      obtain ⟨o, ho, _⟩ := op_at (show j < ops.size by omega)
      cases p.seq j o ho with
      | pass hw hp hc hG hpe ha hgs hpl => rw [ha, hgs]; exact ⟨Y, Z, h1, h2, h3⟩
      | quiet v hw hx hq hp hc hG hpe ha hgs hpl => rw [ha, hgs]; exact ⟨Y, Z, h1, h2, h3⟩
      | new v H b hw hx hr hb hn hm hp hc hG hpe ha hgs hpl => rw [ha, hgs]; exact ⟨Y, Z, h1, h2, h3⟩
      | act v hw hx hch hr hle hp hc hpe ha hgs hpl =>
        rw [ha, hgs]
        refine ⟨Y ++ [(D (j + 1)).G], Z ++ [j], by rw [List.reverse_cons, h1, List.append_assoc], by rw [List.reverse_cons, h2, List.append_assoc], fun a hm => ?_⟩
        rw [List.mem_append] at hm
        rcases hm with hm | hm
        · exact h3 a hm
        · have : a = j := by simpa using hm
          subst this
          exact ⟨by omega, by omega, by unfold pl; rw [hpl]; rfl⟩

theorem Plan.gs_head (p : Plan P ne ih m n ops bs D ss0 H0) {i : Nat} (hi : i ≤ ops.size) : ∃ r, (D i).gs = (D i).G :: r ∧ r.length = (D i).acts.length := by
  induction i with
  | zero => rw [p.start]; exact ⟨[], rfl, rfl⟩
  | succ i ih =>
    obtain ⟨r, h1, h2⟩ := ih (by omega)
    obtain ⟨o, ho, _⟩ := op_at (show i < ops.size by omega)
    cases p.seq i o ho with
    | pass hw hp hc hG hpe ha hgs hpl => rw [ha, hgs, hG]; exact ⟨r, h1, h2⟩
    | quiet v hw hx hq hp hc hG hpe ha hgs hpl => rw [ha, hgs, hG]; exact ⟨r, h1, h2⟩
    | new v H b hw hx hr hb hn hm hp hc hG hpe ha hgs hpl => rw [ha, hgs, hG]; exact ⟨r, h1, h2⟩
    | act v hw hx hch hr hle hp hc hpe ha hgs hpl => rw [ha, hgs]; exact ⟨(D i).gs, rfl, by rw [h1]; simp [h2]⟩

/-- At a cut the heap so far stands in the list at the number of what has acted. -/
theorem Plan.at_cut (p : Plan P ne ih m n ops bs D ss0 H0) {k : Nat} (hk : k ≤ ops.size) :
    (D ops.size).gs.reverse[(D k).acts.length]? = some (D k).G ∧ (D ops.size).acts.reverse.take (D k).acts.length = (D k).acts.reverse ∧ ∀ a ∈ (D ops.size).acts.reverse.drop (D k).acts.length, k ≤ a ∧ IsAct ops D a := by
  obtain ⟨Y, Z, h1, h2, h3⟩ := p.trace hk (Nat.le_refl _)
  obtain ⟨r, h4, h5⟩ := p.gs_head hk
  refine ⟨?_, ?_, ?_⟩
  · rw [h1, h4, List.reverse_cons, List.append_assoc, List.getElem?_append_right (by simp [h5])]
    simp [h5]
  · rw [h2, List.take_append_of_le_length (by simp)]
    rw [← List.length_reverse, List.take_length]
  · rw [h2]
    intro a ha
    rw [List.drop_append_of_le_length (by simp)] at ha
    rw [← List.length_reverse, List.drop_length, List.nil_append] at ha
    exact h3 a ha

end

theorem planOps_pls {ne : Nat} {ih : Ex} {n : Nat} {ops : Array Oper} {bs : List Nat} {D : Nat → DSt} (h0 : (D 0).pls = []) (seq : ∀ i o, ops.toList[i]? = some o → PCase P ne ih m n ops bs i o (D i) (D (i + 1))) : ∀ i, i ≤ ops.size →
    (D i).pls.length = i ∧ ∀ j, j < i → (D i).pls.reverse[j]? = some (pl D j) := by
  intro i
  induction i with
  | zero => intro _; rw [h0]; exact ⟨rfl, fun j hj => by omega⟩
  | succ i ih =>
    intro hi
    obtain ⟨h1, h2⟩ := ih (by omega)
    obtain ⟨o, ho, _⟩ := op_at (show i < ops.size by omega)
    have key : ∃ x, (D (i + 1)).pls = x :: (D i).pls := by
      cases seq i o ho with
      | pass hw hp hc hG hpe ha hgs hpl => exact ⟨_, hpl⟩
      | quiet v hw hx hq hp hc hG hpe ha hgs hpl => exact ⟨_, hpl⟩
      | new v H b hw hx hr hb hn hm hp hc hG hpe ha hgs hpl => exact ⟨_, hpl⟩
      | act v hw hx hch hr hle hp hc hpe ha hgs hpl => exact ⟨_, hpl⟩
    obtain ⟨x, hx⟩ := key
    have hpl : pl D i = x := by unfold pl; rw [hx]; rfl
    refine ⟨by rw [hx]; simp [h1], fun j hj => ?_⟩
    rw [hx, List.reverse_cons]
    by_cases e : j = i
    · subst e
      rw [List.getElem?_append_right (by simp [h1])]
      simp [h1, hpl]
    · rw [List.getElem?_append_left (by simp [h1]; omega)]
      exact h2 j (by omega)

theorem steadyAll_at {ne : Nat} {ih : Ex} {bs : List Nat} {gs : List AH} {acts : List Nat} : ∀ (l : List Oper) (k : List Pl) (i : Nat), steadyAll P ne ih m bs gs acts i l k = true → ∀ j o, l[j]? = some o → ∃ q, k[j]? = some q ∧ steady P ne ih m bs gs acts (i + j) o q = true := by
  intro l
  induction l with
  | nil => intro k i h j o hj; simp at hj
  | cons o l ihl =>
    intro k i h j o' hj
    cases k with
    | nil => simp [steadyAll] at h
    | cons q k =>
      simp only [steadyAll, Bool.and_eq_true] at h
      cases j with
      | zero => simp at hj; subst hj; exact ⟨q, rfl, h.1⟩
      | succ j =>
        obtain ⟨q', h1, h2⟩ := ihl k (i + 1) h.2 j o' (by simpa using hj)
        exact ⟨q', by simpa using h1, by rw [show i + (j + 1) = i + 1 + j by omega]; exact h2⟩

theorem drawnA_plan {ne : Nat} {ih : Ex} {ops : Array Oper} {st st' : ASt} (h : drawnA P ne ih m ops st = some st') :
    ∃ D, Plan P ne ih m st.n ops (befores ops.toList) D st.ss st.H ∧ st' = ⟨(D ops.size).ss, st.n, putAll (D ops.size).pend { (D ops.size).G with next := (D ops.size).cnt }⟩ := by
  unfold drawnA at h
  cases hc : (slotsOk ops (befores ops.toList) && edgesOk ops.toList && closedOk ops.toList (befores ops.toList)) with
  | false => simp only [hc] at h; cases h
  | true =>
    simp only [hc, cond_true] at h
    simp only [Bool.and_eq_true] at hc
    cases hp : planOps P ne ih m st.n ops (befores ops.toList) 0 ops.toList ⟨st.ss, st.H.next, st.H, [], [st.H], [], []⟩ with
    | none => rw [hp] at h; cases h
    | some d =>
      rw [hp] at h
      simp only at h
      obtain ⟨D, h1, h2, h3⟩ := planOps_seq _ _ _ _ hp
      simp only [Nat.zero_add] at h2 h3
      have h2 : D ops.size = d := h2
      cases hs : steadyAll P ne ih m (befores ops.toList) d.gs.reverse d.acts.reverse 0 ops.toList d.pls.reverse with
      | false => rw [hs] at h; cases h
      | true =>
        rw [hs] at h
        simp only [cond_true, Option.some.injEq] at h
        subst h
        subst h2
        refine ⟨D, ⟨hc.1.1, hc.1.2, hc.2, h1, h3, fun i o ho => ?_⟩, rfl⟩
        obtain ⟨q, h4, h5⟩ := steadyAll_at _ _ _ hs i o ho
        have hlt : i < ops.size := by rw [List.getElem?_eq_some_iff] at ho; simpa using ho.1
        have := (planOps_pls (by rw [h1]) h3 ops.size (Nat.le_refl _)).2 i hlt
        rw [h4] at this
        cases this
        rw [Nat.zero_add] at h5
        exact h5

end Go.Abs
