/- SortTexts is proved where what it reads is of bulk at most 1048576: it returns true and its arguments read as before. No condition beyond the row's own (five listed tables of Go's library as the text lays them). -/
import Derived.Test.YtccbilfbhecdaaaDoorTx4
namespace Go.Proofs.YtccbilfbhecdaaaDoor
open Go Go.Abs
set_option maxRecDepth 100000

theorem HasT.ext {H H' : AH} (h : HasT H) (hf : Ext H H') : HasT H' := fun x hx =>
  ⟨hf.2 _ _ (h x hx).2 (fun h => h) (h x hx).1, Nat.lt_of_lt_of_le (h x hx).2 hf.1⟩

theorem any_bytes (s : ByteArray) (p : UInt8 → Bool) (hs : s.size ≤ maxN) {R : Type} (r : R) {body : Int → Option (Lp Int R)}
    (hb : ∀ (i : Nat) (c : Nat), i < s.size → bytA s (i : Int) = some (c : Int) → c < 256 → (∀ x : UInt8, x.toNat = c → body (i : Int) = some (if p x = true then .ret r else .next (IntKind.i64.wrap ((i : Int) + 1)))))
    (he : body (s.size : Int) = some (.brk (s.size : Int))) : loopO body 0 = some (if (bs s).any p = true then .inr r else .inl (s.size : Int)) := by
  have hl := loopO_up (body := body) s.size hs (fun i => if p ((bs s).getD i 0) = true then some r else none) (fun i hi => by
    have h1 := hb i _ hi (bytA_bs hi rfl) (by exact UInt8.toNat_lt _) ((bs s).getD i 0) rfl
    rw [h1]
    cases p ((bs s).getD i 0) <;> rfl) he
  rw [hl, ← bs_len, find_any (bs s) p r 0]
  cases (bs s).any p <;> rfl

theorem simple_loop (k : Nat) (H : AH) {s : ByteArray} (hs : s.size ≤ maxN) : loopO (sort_simple_b0 (LCo k) H s) 0 = some (if (bs s).any (fun x => !gB x.toNat) = true then .inr (false, H) else .inl (s.size : Int)) := by
  refine any_bytes s _ hs _ (fun i c hi hc h256 x hx => ?_) ?_
  · unfold sort_simple_b0
    rw [if_pos (by omega), hc]
    simp only [Option.bind_some]
    have := ask_byte k h256
    unfold askB at this
    rw [this, ← hx]
    simp only [Option.bind_some]
    cases gB x.toNat <;> rfl
  · unfold sort_simple_b0
    rw [if_neg (by omega)]

theorem reserved_spec (k m : Nat) {H : AH} (hT : HasT H) (s : ByteArray) : ∃ H', sort_reserved (LCo k) m H s = some (hasS wordsL s, H') ∧ Ext H H' := by
  obtain ⟨z, H', h1, h2, h3⟩ := fields_run (LCo k) m hT
  refine ⟨H', ?_, h3⟩
  unfold sort_reserved
  unfold wordsV at h1
  rw [h1]
  simp only [Option.bind_some]
  rw [contains_spec k h2]
  rfl

theorem digit_ask {c : Nat} : (if (c : Int) ≥ 48 then some (decide ((c : Int) ≤ 57)) else some false) = some (decide (48 ≤ c) && decide (c ≤ 57)) := by
  by_cases h : 48 ≤ c
  · rw [if_pos (by omega)]
    by_cases h2 : c ≤ 57
    · have : (c : Int) ≤ 57 := by omega
      simp [h, h2, this]
    · have : ¬ ((c : Int) ≤ 57) := by omega
      simp [h, h2, this]
  · rw [if_neg (by omega)]
    simp [h]

theorem any_not {l : List UInt8} : (l.any fun x => !gB x.toNat) = !(l.all fun x => gB x.toNat) := by
  induction l with
  | nil => rfl
  | cons x l ih => rw [List.any_cons, List.all_cons, ih]; cases gB x.toNat <;> rfl

theorem name_pos {s : ByteArray} (h : nameS s = true) : 0 < s.size ∧ s.size ≤ 200 := by
  unfold nameS at h
  simp only [Bool.and_eq_true, Bool.not_eq_true', Bool.or_eq_false_iff, decide_eq_false_iff_not] at h
  omega

theorem simple_spec (k m : Nat) {H : AH} (hT : HasT H) {s : ByteArray} (hs : s.size ≤ maxN) : ∃ H', sort_simple (LCo k) m H s = some (simpS s, H') ∧ Ext H H' := by
  unfold sort_simple
  rw [Name_spec k hs]
  simp only [Option.bind_some]
  cases hn : nameS s with
  | false =>
    refine ⟨H, ?_, Fm.refl _ _⟩
    simp [simpS, hn]
  | true =>
    have hp := (name_pos hn).1
    simp only [if_true]
    rw [bytA_bs hp (v := 0) rfl]
    simp only [Option.bind_some]
    rw [digit_ask]
    simp only [Option.bind_some]
    cases hd : (decide (48 ≤ ((bs s).getD 0 0).toNat) && decide (((bs s).getD 0 0).toNat ≤ 57)) with
    | true =>
      refine ⟨H, ?_, Fm.refl _ _⟩
      simp only [if_true]
      unfold simpS
      rw [hn, hd]
      rfl
    | false =>
      simp only [Bool.false_eq_true, if_false]
      show ∃ H', Option.bind (loopO (sort_simple_b0 (LCo k) H s) 0) _ = _ ∧ _
      rw [simple_loop k H hs, any_not]
      cases ha : (bs s).all fun x => gB x.toNat with
      | false =>
        refine ⟨H, ?_, Fm.refl _ _⟩
        unfold simpS
        rw [hn, hd, ha]
        rfl
      | true =>
        obtain ⟨H', h1, h2⟩ := reserved_spec k m hT s
        refine ⟨H', ?_, h2⟩
        simp only [Bool.not_true, Bool.false_eq_true, if_false, Option.bind_some]
        rw [h1]
        unfold simpS
        rw [hn, hd, ha]
        rfl

theorem newR_str (e : TypeId) (l : List ByteArray) (hl : l.length ≤ maxN) (H : AH) : ∃ z H', newR e l.length (l.map Value.string).toArray H = some (z, H') ∧ SlL StrA 1 H' z l ∧ Ext H H' := by
  refine ⟨_, _, rfl, SlL.push (xs := l) rfl hl fun i hi => ?_, Fm.push _ _ _⟩
  exact Cel.push rfl (by simp [hi])

theorem refReserved_spec (k m : Nat) {H : AH} (s : ByteArray) : ∃ H', ref04_Reserved (LCo k) m H s = some (hasS wordsL s, H') ∧ Ext H H' := by
  obtain ⟨z, H', h1, h2, h3⟩ := newR_str 9 wordsL (by rw [maxN_eq]; decide) H
  refine ⟨H', ?_, h3⟩
  have : ref04_Reserved (LCo k) m H s = Option.bind (newR 9 wordsL.length (wordsL.map Value.string).toArray H) fun (s1, H2) => Option.bind (ref04_has (LCo k) H2 s1 s) fun x3 => some (x3, H2) := rfl
  rw [this, h1]
  simp only [Option.bind_some]
  rw [has_spec k h2]
  rfl

theorem refSimple_loop (k : Nat) (H : AH) {s : ByteArray} (hs : s.size ≤ maxN) : loopO (ref04_Simple_b0 (LCo k) s H) 0 = some (if (bs s).any (fun x => !gB x.toNat) = true then .inr (false, H) else .inl (s.size : Int)) := by
  refine any_bytes s _ hs _ (fun i c hi hc h256 x hx => ?_) ?_
  · unfold ref04_Simple_b0
    rw [if_pos (by omega), hc]
    simp only [Option.bind_some]
    rw [ref_byte k h256, ← hx]
    simp only [Option.bind_some]
    cases gB x.toNat <;> rfl
  · unfold ref04_Simple_b0
    rw [if_neg (by omega)]

theorem refSimple_spec (k m : Nat) {H : AH} {s : ByteArray} (hs : s.size ≤ maxN) : ∃ H', ref04_Simple (LCo k) m H s = some (simpS s, H') ∧ Ext H H' := by
  unfold ref04_Simple
  rw [refName_spec k hs]
  simp only [Option.bind_some]
  cases hn : nameS s with
  | false =>
    refine ⟨H, ?_, Fm.refl _ _⟩
    simp [simpS, hn]
  | true =>
    have hp := (name_pos hn).1
    simp only [if_true]
    rw [bytA_bs hp (v := 0) rfl]
    simp only [Option.bind_some]
    obtain ⟨H', h1, h2⟩ := refReserved_spec k m (H := H) s
    rw [h1]
    simp only [Option.bind_some]
    have fin : ∀ {d : Bool}, (decide (48 ≤ ((bs s).getD 0 0).toNat) && decide (((bs s).getD 0 0).toNat ≤ 57)) = false → 
        ∃ H'_1, (if hasS wordsL s = true then some (false, H') else Option.bind ((LCo k).run (ref04_Simple_b0 (LCo k) s H') 0) fun o => match o with | .inl _ => some (true, H') | .inr r => some r) = some (simpS s, H'_1) ∧ Ext H H'_1 := by
      intro _ hd
      refine ⟨H', ?_, h2⟩
      cases hw : hasS wordsL s with
      | true =>
        simp [simpS, hw]
      | false =>
        simp only [Bool.false_eq_true, if_false]
        show Option.bind (loopO (ref04_Simple_b0 (LCo k) s H') 0) _ = _
        rw [refSimple_loop k H' hs, any_not]
        unfold simpS
        rw [hn, hd, hw]
        cases (bs s).all fun x => gB x.toNat <;> rfl
    by_cases h48 : 48 ≤ ((bs s).getD 0 0).toNat
    · rw [if_pos (by omega)]
      by_cases h57 : ((bs s).getD 0 0).toNat ≤ 57
      · rw [if_pos (by omega)]
        refine ⟨H, ?_, Fm.refl _ _⟩
        unfold simpS
        rw [decide_eq_true h48, decide_eq_true h57, hn]
        rfl
      · rw [if_neg (by omega)]
        exact fin (d := true) (by rw [decide_eq_false h57, Bool.and_false])
    · rw [if_neg (by omega)]
      exact fin (d := true) (by rw [decide_eq_false h48, Bool.false_and])

def quoteS (s : ByteArray) : ByteArray := if simpS s = true then s else (⟨#[124]⟩ ++ s) ++ ⟨#[124]⟩

theorem strcat_ok {a b : ByteArray} (h : a.size + b.size ≤ maxN) : strcat a b = some (a ++ b) := by
  unfold strcat
  have : IntKind.i64.max = 9223372036854775807 := by decide
  rw [maxN_eq] at h
  rw [if_neg (by rw [this]; omega)]

theorem bars {s : ByteArray} (hs : s.size ≤ 4611686018427387904) : (Option.bind (strcat (⟨#[124]⟩ : ByteArray) s) fun s3 => strcat s3 (⟨#[124]⟩ : ByteArray)) = some ((⟨#[124]⟩ ++ s) ++ ⟨#[124]⟩) := by
  have h1 : (⟨#[124]⟩ : ByteArray).size = 1 := rfl
  rw [strcat_ok (by rw [maxN_eq, h1]; omega)]
  simp only [Option.bind_some]
  rw [strcat_ok (by rw [ByteArray.size_append, maxN_eq, h1]; omega)]

theorem Quote_spec (k m : Nat) {H : AH} (hT : HasT H) {s : ByteArray} (hs : s.size ≤ 4611686018427387904) : ∃ H', sort_Quote (LCo k) m H s = some (quoteS s, H') ∧ Ext H H' := by
  obtain ⟨H', h1, h2⟩ := simple_spec k m hT (s := s) (by rw [maxN_eq]; omega)
  refine ⟨H', ?_, h2⟩
  unfold sort_Quote quoteS
  rw [h1]
  simp only [Option.bind_some]
  cases simpS s with
  | true => rfl
  | false =>
    have hb := bars hs
    simp only [Bool.false_eq_true, if_false]
    cases h3 : strcat (⟨#[124]⟩ : ByteArray) s with
    | none => rw [h3] at hb; cases hb
    | some x =>
      rw [h3] at hb
      simp only [Option.bind_some] at hb ⊢
      rw [hb]
      rfl

theorem refQuote_spec (k m : Nat) {H : AH} {s : ByteArray} (hs : s.size ≤ 4611686018427387904) : ∃ H', ref04_Quote (LCo k) m H s = some (quoteS s, H') ∧ Ext H H' := by
  obtain ⟨H', h1, h2⟩ := refSimple_spec k m (H := H) (s := s) (by rw [maxN_eq]; omega)
  refine ⟨H', ?_, h2⟩
  unfold ref04_Quote quoteS
  rw [h1]
  simp only [Option.bind_some]
  cases simpS s with
  | true => rfl
  | false =>
    have hb := bars hs
    simp only [Bool.false_eq_true, if_false]
    cases h3 : strcat (⟨#[124]⟩ : ByteArray) s with
    | none => rw [h3] at hb; cases hb
    | some x =>
      rw [h3] at hb
      simp only [Option.bind_some] at hb ⊢
      rw [hb]
      rfl

end Go.Proofs.YtccbilfbhecdaaaDoor


namespace Go.Proofs.YtccbilfbhecdaaaDoor
open Go Go.Abs
set_option maxRecDepth 100000

/-- Sorts in a row: kind, width, name, arguments; and those behind. -/
inductive Fo where
  | nil
  | cons (k w : Int) (n : ByteArray) (a r : Fo)

def Fo.len : Fo → Nat
  | .nil => 0
  | .cons _ _ _ _ r => r.len + 1
def Fo.dep : Fo → Nat
  | .nil => 0
  | .cons _ _ _ a r => max (a.dep + 1) r.dep

/-- The longest name that comes in. -/
def maxS : Nat := 140737488351232

/-- A sort's four cells. -/
structure SoC (H : AH) (q : Addr) (k w : Int) (n : ByteArray) (s : Sl3) : Prop where
  ck : Cel H (q.add 0) (.int .i64 k)
  cw : Cel H (q.add 1) (.int .i64 w)
  cn : Cel H (q.add 2) (.string n)
  cs : Cel H (q.add 3) s.v
  hn : n.size ≤ maxS

theorem SoC.ext {H H' : AH} {q : Addr} {k w : Int} {n : ByteArray} {s : Sl3} (h : SoC H q k w n s) (hf : Ext H H') : SoC H' q k w n s :=
  ⟨h.ck.ext hf, h.cw.ext hf, h.cn.ext hf, h.cs.ext hf, h.hn⟩

def FoA (H : AH) : Option Addr → Nat → Fo → Prop
  | _, _, .nil => True
  | p, i, .cons k w n a r => (∃ q s, p = some q ∧ SoC H (q.add (i * 4)) k w n s ∧ s.n = a.len ∧ s.n ≤ maxN ∧ FoA H s.p 0 a) ∧ FoA H p (i + 1) r

/-- A slice of sorts. -/
def SlF (H : AH) (s : Sl3) (f : Fo) : Prop := s.n = f.len ∧ s.n ≤ maxN ∧ FoA H s.p 0 f

theorem FoA.ext {H H' : AH} (hf : Ext H H') : ∀ {f : Fo} {p : Option Addr} {i : Nat}, FoA H p i f → FoA H' p i f
  | .nil, _, _, _ => trivial
  | .cons _ _ _ _ _, _, _, h => by
    obtain ⟨⟨q, s, h1, h2, h3, h4, h5⟩, h6⟩ := h
    exact ⟨⟨q, s, h1, h2.ext hf, h3, h4, FoA.ext hf h5⟩, FoA.ext hf h6⟩

theorem SlF.ext {H H' : AH} {s : Sl3} {f : Fo} (h : SlF H s f) (hf : Ext H H') : SlF H' s f := ⟨h.1, h.2.1, h.2.2.ext hf⟩

/-- What is read at a place. -/
theorem FoA.rd {H : AH} {s : Sl3} {i : Nat} {k w : Int} {n : ByteArray} {a r : Fo} (h : FoA H s.p i (.cons k w n a r)) (hi : i < s.n) :
    ∃ q s', idxA 4 s (i : Int) = some q ∧ rd (deI .i64) H (Addr.add q 0) = some k ∧ rd (deI .i64) H (Addr.add q 1) = some w ∧ rd deS H (Addr.add q 2) = some n ∧ rd deSl H (Addr.add q 3) = some s' ∧ SlF H s' a ∧ n.size ≤ maxS ∧ FoA H s.p (i + 1) r := by
  obtain ⟨⟨q, s', h1, h2, h3, h4, h5⟩, h6⟩ := h
  exact ⟨_, s', idxA_some h1 rfl hi, by rw [h2.ck.rd]; rfl, by rw [h2.cw.rd]; rfl, by rw [h2.cn.rd]; rfl, by rw [h2.cs.rd]; rfl, ⟨h3, h4, h5⟩, h2.hn, h6⟩

/-- As the program counts. -/
def pF (d : Int) : Fo → Int → Int × Bool
  | .nil, n => (n, true)
  | .cons _ _ _ a r, n =>
    let q := if IntKind.i64.wrap (d + 1) > 16 then (0, false) else pF (IntKind.i64.wrap (d + 1)) a 1
    let n' := IntKind.i64.wrap (n + q.1)
    if (!q.2 || decide (n' > 256)) = true then (n', false) else pF d r n'

def pS (d : Int) (a : Fo) : Int × Bool := if d > 16 then (0, false) else pF d a 1

theorem parts_loop (k : Nat) {H : AH} : ∀ (f : Fo) (s : Sl3) (i : Nat) (n d : Int) (fuel : Nat) (x0 x1 : Int) (x2 : ByteArray), FoA H s.p i f → s.n = i + f.len → s.n ≤ maxN → f.dep ≤ fuel →
    loopO (sort_parts_b0 (LCo k) (fam_sort_parts (LCo k) fuel) H x0 x1 x2 s d) (n, (i : Int)) = some (if (pF d f n).2 = true then .inl ((pF d f n).1, (s.n : Int)) else .inr ((pF d f n).1, false)) := by
  intro f
  induction f with
  | nil =>
    intro s i n d fuel x0 x1 x2 h hn hm hd
    refine loopO_brk ?_
    simp only [Fo.len, Nat.add_zero] at hn
    unfold sort_parts_b0
    simp only [if_neg (show ¬ ((i : Int) < (s.n : Int)) by omega), pF]
    rw [hn]
  | cons k' w' n' a r iha ihr =>
    intro s i n d fuel x0 x1 x2 h hn hm hd
    simp only [Fo.len] at hn
    simp only [Fo.dep] at hd
    obtain ⟨q, s', r1, r2, r3, r4, r5, r6, _, r7⟩ := h.rd (by omega)
    obtain ⟨g, rfl⟩ : ∃ g, fuel = g + 1 := ⟨fuel - 1, by omega⟩
    have hrec : fam_sort_parts (LCo k) (g + 1) H k' w' n' s' (IntKind.i64.wrap (d + 1)) = some (pS (IntKind.i64.wrap (d + 1)) a) := by
      show sort_parts_body (LCo k) (fam_sort_parts (LCo k) g) H k' w' n' s' (IntKind.i64.wrap (d + 1)) = _
      unfold sort_parts_body pS
      split
      · rfl
      · have := iha s' 0 1 (IntKind.i64.wrap (d + 1)) g k' w' n' r6.2.2 (by rw [r6.1]; omega) r6.2.1 (by omega)
        show Option.bind (loopO (sort_parts_b0 (LCo k) (fam_sort_parts (LCo k) g) H k' w' n' s' (IntKind.i64.wrap (d + 1))) (1, ((0 : Nat) : Int))) _ = _
        rw [this]
        cases hq : pF (IntKind.i64.wrap (d + 1)) a 1 with
        | mk y b => cases b <;> rfl
    have hb : sort_parts_b0 (LCo k) (fam_sort_parts (LCo k) (g + 1)) H x0 x1 x2 s d (n, (i : Int)) =
        some (if (!(pS (IntKind.i64.wrap (d + 1)) a).2 || decide (IntKind.i64.wrap (n + (pS (IntKind.i64.wrap (d + 1)) a).1) > 256)) = true then .ret (IntKind.i64.wrap (n + (pS (IntKind.i64.wrap (d + 1)) a).1), false)
          else .next (IntKind.i64.wrap (n + (pS (IntKind.i64.wrap (d + 1)) a).1), IntKind.i64.wrap ((i : Int) + 1))) := by
      unfold sort_parts_b0
      simp only [if_pos (show (i : Int) < (s.n : Int) by omega), r1, r2, r3, r4, r5, Option.bind_some, hrec]
      cases (pS (IntKind.i64.wrap (d + 1)) a).2 with
      | false => rfl
      | true =>
        by_cases hc : IntKind.i64.wrap (n + (pS (IntKind.i64.wrap (d + 1)) a).1) > 256
        · simp [hc]
        · simp [hc]
    have hp : pF d (.cons k' w' n' a r) n = if (!(pS (IntKind.i64.wrap (d + 1)) a).2 || decide (IntKind.i64.wrap (n + (pS (IntKind.i64.wrap (d + 1)) a).1) > 256)) = true then (IntKind.i64.wrap (n + (pS (IntKind.i64.wrap (d + 1)) a).1), false) else pF d r (IntKind.i64.wrap (n + (pS (IntKind.i64.wrap (d + 1)) a).1)) := rfl
    rw [hp]
    split at hb
    · rename_i hc
      rw [if_pos hc]
      exact loopO_ret hb
    · rename_i hc
      rw [if_neg hc, loopO_next hb, wrap_next (n := s.n) (by omega) hm]
      exact ihr s (i + 1) _ d (g + 1) x0 x1 x2 r7 (by omega) hm (by omega)

theorem parts_spec (k fuel : Nat) {H : AH} {s : Sl3} {a : Fo} (h : SlF H s a) (hd : a.dep ≤ fuel) (x0 x1 : Int) (x2 : ByteArray) (d : Int) : fam_sort_parts (LCo k) (fuel + 1) H x0 x1 x2 s d = some (pS d a) := by
  show sort_parts_body (LCo k) (fam_sort_parts (LCo k) fuel) H x0 x1 x2 s d = _
  unfold sort_parts_body pS
  split
  · rfl
  · have := parts_loop k a s 0 1 d fuel x0 x1 x2 h.2.2 (by rw [h.1]; omega) h.2.1 hd
    show Option.bind (loopO (sort_parts_b0 (LCo k) (fam_sort_parts (LCo k) fuel) H x0 x1 x2 s d) (1, ((0 : Nat) : Int))) _ = _
    rw [this]
    cases hq : pF d a 1 with
    | mk y b => cases b <;> rfl

/-- As the definition counts. -/
def qF : Fo → Int → Int
  | .nil, n => n
  | .cons _ _ _ a r, n => if n ≤ 256 then qF r (min (IntKind.i64.wrap (n + qF a 1)) 257) else n

theorem refParts_loop (k : Nat) {H : AH} : ∀ (f : Fo) (s : Sl3) (i : Nat) (n : Int) (fuel : Nat) (x0 x1 : Int) (x2 : ByteArray), FoA H s.p i f → s.n = i + f.len → s.n ≤ maxN → f.dep ≤ fuel →
    ∃ j, loopO (ref04_Parts_b0 (LCo k) (fam_ref04_Parts (LCo k) fuel) H x0 x1 x2 s) (n, (i : Int)) = some (.inl (qF f n, j)) := by
  intro f
  induction f with
  | nil =>
    intro s i n fuel x0 x1 x2 h hn hm hd
    refine ⟨_, loopO_brk (s' := (n, (i : Int))) ?_⟩
    simp only [Fo.len, Nat.add_zero] at hn
    unfold ref04_Parts_b0
    simp only [if_neg (show ¬ ((i : Int) < (s.n : Int)) by omega)]
    rfl
  | cons k' w' n' a r iha ihr =>
    intro s i n fuel x0 x1 x2 h hn hm hd
    simp only [Fo.len] at hn
    simp only [Fo.dep] at hd
    obtain ⟨q, s', r1, r2, r3, r4, r5, r6, _, r7⟩ := h.rd (by omega)
    obtain ⟨g, rfl⟩ : ∃ g, fuel = g + 1 := ⟨fuel - 1, by omega⟩
    by_cases hc : n ≤ 256
    · have hrec : fam_ref04_Parts (LCo k) (g + 1) H k' w' n' s' = some (qF a 1) := by
        show ref04_Parts_body (LCo k) (fam_ref04_Parts (LCo k) g) H k' w' n' s' = _
        unfold ref04_Parts_body
        obtain ⟨j, hj⟩ := iha s' 0 1 g k' w' n' r6.2.2 (by rw [r6.1]; omega) r6.2.1 (by omega)
        show Option.bind (loopO (ref04_Parts_b0 (LCo k) (fam_ref04_Parts (LCo k) g) H k' w' n' s') (1, ((0 : Nat) : Int))) _ = _
        rw [hj]
        rfl
      have hb : ref04_Parts_b0 (LCo k) (fam_ref04_Parts (LCo k) (g + 1)) H x0 x1 x2 s (n, (i : Int)) = some (.next (min (IntKind.i64.wrap (n + qF a 1)) 257, IntKind.i64.wrap ((i : Int) + 1))) := by
        unfold ref04_Parts_b0
        simp only [if_pos (show (i : Int) < (s.n : Int) by omega), r1, r2, r3, r4, r5, Option.bind_some, hrec, decide_eq_true hc, if_true]
        rw [min_op]
        rfl
      obtain ⟨j, hj⟩ := ihr s (i + 1) (min (IntKind.i64.wrap (n + qF a 1)) 257) (g + 1) x0 x1 x2 r7 (by omega) hm (by omega)
      refine ⟨j, ?_⟩
      rw [loopO_next hb, wrap_next (n := s.n) (by omega) hm, hj]
      simp only [qF, if_pos hc]
    · refine ⟨(i : Int), loopO_brk ?_⟩
      unfold ref04_Parts_b0
      simp [if_pos (show (i : Int) < (s.n : Int) by omega), hc, qF]

theorem refParts_spec (k fuel : Nat) {H : AH} {s : Sl3} {a : Fo} (h : SlF H s a) (hd : a.dep ≤ fuel) (x0 x1 : Int) (x2 : ByteArray) : fam_ref04_Parts (LCo k) (fuel + 1) H x0 x1 x2 s = some (qF a 1) := by
  show ref04_Parts_body (LCo k) (fam_ref04_Parts (LCo k) fuel) H x0 x1 x2 s = _
  unfold ref04_Parts_body
  obtain ⟨j, hj⟩ := refParts_loop k a s 0 1 fuel x0 x1 x2 h.2.2 (by rw [h.1]; omega) h.2.1 hd
  show Option.bind (loopO (ref04_Parts_b0 (LCo k) (fam_ref04_Parts (LCo k) fuel) H x0 x1 x2 s) (1, ((0 : Nat) : Int))) _ = _
  rw [hj]
  rfl

/-- Deeper than so much? -/
def dF (most : Int) : Fo → Bool
  | .nil => false
  | .cons _ _ _ a r => (if IntKind.i64.wrap (most - 1) = 0 then true else dF (IntKind.i64.wrap (most - 1)) a) || dF most r

def dS (most : Int) (a : Fo) : Bool := if most = 0 then true else dF most a

theorem deep_loop (k : Nat) {H : AH} : ∀ (f : Fo) (s : Sl3) (i : Nat) (d : Int) (fuel : Nat) (x0 x1 : Int) (x2 : ByteArray), FoA H s.p i f → s.n = i + f.len → s.n ≤ maxN → f.dep ≤ fuel →
    ∃ j, loopO (ref04_Deep_b0 (LCo k) (fam_ref04_Deep (LCo k) fuel) H x0 x1 x2 s d) (i : Int) = some (if dF d f = true then .inr true else .inl j) := by
  intro f
  induction f with
  | nil =>
    intro s i d fuel x0 x1 x2 h hn hm hd
    refine ⟨(i : Int), loopO_brk ?_⟩
    simp only [Fo.len, Nat.add_zero] at hn
    unfold ref04_Deep_b0
    rw [if_neg (show ¬ ((i : Int) < (s.n : Int)) by omega)]
  | cons k' w' n' a r iha ihr =>
    intro s i d fuel x0 x1 x2 h hn hm hd
    simp only [Fo.len] at hn
    simp only [Fo.dep] at hd
    obtain ⟨q, s', r1, r2, r3, r4, r5, r6, _, r7⟩ := h.rd (by omega)
    obtain ⟨g, rfl⟩ : ∃ g, fuel = g + 1 := ⟨fuel - 1, by omega⟩
    have hrec : fam_ref04_Deep (LCo k) (g + 1) H k' w' n' s' (IntKind.i64.wrap (d - 1)) = some (dS (IntKind.i64.wrap (d - 1)) a) := by
      show ref04_Deep_body (LCo k) (fam_ref04_Deep (LCo k) g) H k' w' n' s' (IntKind.i64.wrap (d - 1)) = _
      unfold ref04_Deep_body dS
      split
      · rfl
      · obtain ⟨j, hj⟩ := iha s' 0 (IntKind.i64.wrap (d - 1)) g k' w' n' r6.2.2 (by rw [r6.1]; omega) r6.2.1 (by omega)
        show Option.bind (loopO (ref04_Deep_b0 (LCo k) (fam_ref04_Deep (LCo k) g) H k' w' n' s' (IntKind.i64.wrap (d - 1))) ((0 : Nat) : Int)) _ = _
        rw [hj]
        cases dF (IntKind.i64.wrap (d - 1)) a <;> rfl
    have hb : ref04_Deep_b0 (LCo k) (fam_ref04_Deep (LCo k) (g + 1)) H x0 x1 x2 s d (i : Int) = some (if dS (IntKind.i64.wrap (d - 1)) a = true then .ret true else .next (IntKind.i64.wrap ((i : Int) + 1))) := by
      unfold ref04_Deep_b0
      simp only [if_pos (show (i : Int) < (s.n : Int) by omega), r1, r2, r3, r4, r5, Option.bind_some, hrec]
      cases dS (IntKind.i64.wrap (d - 1)) a <;> rfl
    have hp : dF d (.cons k' w' n' a r) = (dS (IntKind.i64.wrap (d - 1)) a || dF d r) := rfl
    rw [hp]
    cases hc : dS (IntKind.i64.wrap (d - 1)) a with
    | true =>
      rw [hc] at hb
      exact ⟨0, loopO_ret hb⟩
    | false =>
      rw [hc] at hb
      simp only [Bool.false_eq_true, if_false] at hb
      rw [loopO_next hb, wrap_next (n := s.n) (by omega) hm]
      simp only [Bool.false_or]
      exact ihr s (i + 1) d (g + 1) x0 x1 x2 r7 (by omega) hm (by omega)

theorem deep_spec (k fuel : Nat) {H : AH} {s : Sl3} {a : Fo} (h : SlF H s a) (hd : a.dep ≤ fuel) (x0 x1 : Int) (x2 : ByteArray) (d : Int) : fam_ref04_Deep (LCo k) (fuel + 1) H x0 x1 x2 s d = some (dS d a) := by
  show ref04_Deep_body (LCo k) (fam_ref04_Deep (LCo k) fuel) H x0 x1 x2 s d = _
  unfold ref04_Deep_body dS
  split
  · rfl
  · obtain ⟨j, hj⟩ := deep_loop k a s 0 d fuel x0 x1 x2 h.2.2 (by rw [h.1]; omega) h.2.1 hd
    show Option.bind (loopO (ref04_Deep_b0 (LCo k) (fam_ref04_Deep (LCo k) fuel) H x0 x1 x2 s d) ((0 : Nat) : Int)) _ = _
    rw [hj]
    cases dF d a <;> rfl

def Fo.size : Fo → Nat
  | .nil => 0
  | .cons _ _ _ a r => a.size + 1 + r.size

end Go.Proofs.YtccbilfbhecdaaaDoor


namespace Go.Proofs.YtccbilfbhecdaaaDoor
open Go Go.Abs Go.ChangeShapes Go.WideShapes
set_option maxRecDepth 100000

theorem cells28 : Tryd.prog.cellsOf 28 = 4 := by kernel_rfl
theorem cells25 : Tryd.prog.cellsOf 25 = 1 := by kernel_rfl
theorem cells3 : Tryd.prog.cellsOf 3 = 1 := by kernel_rfl
theorem cells9 : Tryd.prog.cellsOf 9 = 1 := by kernel_rfl
theorem cells26 : Tryd.prog.cellsOf 26 = 1 := by kernel_rfl

/-- A sort's cells as they come in. -/
structure SortV (H : AH) (cs : List Value) (b : (Int × Int × ByteArray × Fo)) : Prop where
  ex : ∃ s, cs = [.int .i64 b.1, .int .i64 b.2.1, .string b.2.2.1, Sl3.v s] ∧ b.2.2.1.size ≤ maxS ∧ SlF H s b.2.2.2

def foOf : List (Int × Int × ByteArray × Fo) → Fo
  | [] => .nil
  | x :: l => .cons x.1 x.2.1 x.2.2.1 x.2.2.2 (foOf l)

theorem foOf_len : ∀ l, (foOf l).len = l.length
  | [] => rfl
  | x :: l => by simp [foOf, Fo.len, foOf_len l]

theorem SortV.ext (H H' : AH) (cs : List Value) (b : (Int × Int × ByteArray × Fo)) (hf : Ext H H') (h : SortV H cs b) : SortV H' cs b := by
  obtain ⟨s, h1, h2, h3⟩ := h.ex
  exact ⟨s, h1, h2, h3.ext hf⟩

theorem stands_so {H : AH} {q : Addr} {b : (Int × Int × ByteArray × Fo)} (h : Stands 4 SortV H q b) : ∃ s, SoC H q b.1 b.2.1 b.2.2.1 s ∧ SlF H s b.2.2.2 := by
  obtain ⟨cs, h1, h2, h3⟩ := h
  obtain ⟨s, rfl, h4, h5⟩ := h3.ex
  exact ⟨s, ⟨h2 0 _ rfl, h2 1 _ rfl, h2 2 _ rfl, h2 3 _ rfl, h4⟩, h5⟩

theorem slF_of {H : AH} {s : Sl3} {l : List (Int × Int × ByteArray × Fo)} (h : SlL (Stands 4 SortV) 4 H s l) : SlF H s (foOf l) := by
  refine ⟨by rw [foOf_len]; exact h.n, h.top, ?_⟩
  have key : ∀ (l : List (Int × Int × ByteArray × Fo)) (p : Option Addr) (i : Nat), LAt (Stands 4 SortV) 4 H p i l → FoA H p i (foOf l) := by
    intro l
    induction l with
    | nil => intro p i _; trivial
    | cons x l ih =>
      intro p i h
      obtain ⟨⟨a, h1, h2⟩, h3⟩ := h
      obtain ⟨s, h4, h5⟩ := stands_so h2
      exact ⟨⟨a, s, h1, h4, h5.1, h5.2.1, h5.2.2⟩, ih p (i + 1) h3⟩
  exact key l s.p 0 h.at_

section
variable {H : Type} {enc : TypeId × Value → H} {W : World}

theorem wt_all {l : List Nat} (h : l.all (· ≤ reachBytes) = true) {n : Nat} (hn : n ∈ l) : n ≤ maxS := by
  rw [List.all_eq_true] at h
  have := h n hn
  simp only [decide_eq_true_eq] at this
  exact this

theorem weightsAll_mem {P : Program} {e : TypeId} : ∀ {l : List (DataW H)} {d : DataW H}, d ∈ l → ∀ n ∈ d.weights P e, n ∈ DataW.weightsAll P e l
  | x :: l, d, hd, n, hn => by
    simp only [DataW.weightsAll, List.mem_append]
    rcases List.mem_cons.1 hd with rfl | hd
    · exact .inl hn
    · exact .inr (weightsAll_mem hd n hn)

/-- A slice's elements, each of which comes in. -/
theorem import_slice {t e : TypeId} {sz : Nat} (ht : Tryd.prog.underlying t = some (.slice e)) (hc : Tryd.prog.cellsOf e = sz) (hsz : 0 < sz) {β : Type} {R : AH → List Value → β → Prop} (hR : ∀ H H' cs b, Ext H H' → R H cs b → R H' cs b)
    {fuel : Nat} (elem : ∀ n, n < fuel → ∀ cs x, DataW.trod enc Tryd.prog W 0 (fun _ => true) true n e cs = some x → (x.1.weights Tryd.prog e).all (· ≤ reachBytes) = true → ElemIn Tryd.prog W sz R cs)
    {cs : List Value} {x : DataW H × List MemPlace} (hx : DataW.trod enc Tryd.prog W 0 (fun _ => true) true fuel t cs = some x) (hw : (x.1.weights Tryd.prog t).all (· ≤ reachBytes) = true) {φ : Inj} {H0 : AH} (h : Imp Tryd.prog φ H0 W) :
    ∃ v φ' H' s bs, cs = [v] ∧ Imp Tryd.prog φ' H' W ∧ φ.le φ' ∧ Ext H0 H' ∧ VR φ' (Sl3.v s) v ∧ SlL (Stands sz R) sz H' s (bs : List β) ∧ (0 < Tryd.prog.bytesOf e → bs.length ≤ maxS) := by
  rcases DataW.trod_slice ht hx with ⟨rfl, rfl⟩ | ⟨a, len, cap, elems, rest, n, rfl, rfl, rfl, hb, hl, hm, hlen, hel, hsp, _⟩
  · obtain ⟨φ', H', s, bs, h1, h2, h3, h4, h5, h6⟩ := Imp.slice (n := 0) (c := 0) (A := none) hsz hR h some_globals (Nat.le_refl _) (Nat.zero_le _) (fun _ => rfl) (C := fun _ => []) (fun i hi => absurd hi (Nat.not_lt_zero _)) (fun a ha => by cases ha) (fun a ha => by cases ha)
    exact ⟨_, φ', H', s, bs, rfl, h1, h2, h3, h4, h5, fun _ => by omega⟩
  · have get : ∀ i, i < len → ∃ cs' y, W.cells? 0 (a.add (i * sz)) sz = some cs' ∧ DataW.trod enc Tryd.prog W 0 (fun _ => true) true n e cs' = some y ∧ y ∈ elems := by
      intro i hi
      have := hel i hi
      rw [hc, List.getElem?_eq_getElem (by omega)] at this
      obtain ⟨cs', h1, h2⟩ := Option.bind_eq_some_iff.1 this
      exact ⟨cs', _, h1, h2, List.getElem_mem _⟩
    have hww : ∀ y ∈ elems, (y.1.weights Tryd.prog e).all (· ≤ reachBytes) = true := by
      intro y hy
      rw [List.all_eq_true]
      intro w hw'
      rw [List.all_eq_true] at hw
      refine hw w ?_
      simp only [DataW.weights, ht, List.mem_cons, List.mem_append]
      exact .inr (.inl (weightsAll_mem (List.mem_map.2 ⟨y, hy, rfl⟩) w hw'))
    obtain ⟨φ', H', s, bs, h1, h2, h3, h4, h5, h6⟩ := Imp.slice (n := len) (c := cap) (A := some a) hsz hR h some_globals hl hm (fun h => by cases h) (C := fun i => (W.cells? 0 (a.add (i * sz)) sz).getD []) (fun i hi => by
        obtain ⟨cs', y, g1, g2, g3⟩ := get i hi
        simp only [g1, Option.getD_some]
        exact elem n (Nat.lt_succ_self n) cs' y g2 (hww y g3)) (fun a' ha' hpos => by
        cases ha'
        by_cases h0 : 0 < len
        · obtain ⟨cs', y, g1, g2, g3⟩ := get 0 h0
          obtain ⟨_, k2, k3⟩ := World.cells?_some g1
          have := k3 0 hsz
          rw [Nat.zero_mul, add_zero, add_zero] at this
          exact ⟨_, this.trans (List.getElem?_eq_getElem (by omega))⟩
        · obtain rfl : len = 0 := by omega
          obtain ⟨q1, q2⟩ := hsp rfl
          have := q2 0 (by omega)
          rw [hc, List.getElem?_eq_getElem (by omega)] at this
          obtain ⟨cs', g1, g2⟩ := Option.bind_eq_some_iff.1 this
          obtain ⟨_, k2, k3⟩ := World.cells?_some g1
          have := k3 0 hsz
          rw [Nat.zero_add, Nat.zero_mul, add_zero, add_zero] at this
          exact ⟨_, this.trans (List.getElem?_eq_getElem (by omega))⟩) (fun a' ha' i hi j hj => by
        cases ha'
        obtain ⟨cs', y, g1, g2, g3⟩ := get i hi
        obtain ⟨_, k2, k3⟩ := World.cells?_some g1
        have := k3 j hj
        simp only [g1, Option.getD_some]
        rw [← this]
        have hsp : a.spot = none := by
          obtain ⟨cs0, y0, g1, g2, g3⟩ := get 0 (by omega)
          obtain ⟨_, k2, k3⟩ := World.cells?_some g1
          have k0 := k3 0 hsz
          rw [Nat.zero_mul, add_zero, add_zero] at k0
          obtain ⟨_, _, _, _, hs, _⟩ := cell?_some (k0.trans (List.getElem?_eq_getElem (by omega)))
          exact hs
        rw [add_add hsp])
    refine ⟨_, φ', H', s, bs, rfl, h1, h2, h3, h4, h5, fun hbe => ?_⟩
    have hm : (elems.length + rest.length) * Tryd.prog.bytesOf e ≤ maxS := wt_all hw (by simp [DataW.weights, ht])
    have h7 : elems.length + rest.length ≤ (elems.length + rest.length) * Tryd.prog.bytesOf e := Nat.le_mul_of_pos_right _ hbe
    omega

theorem trod_str {fuel : Nat} {t : TypeId} (ht : Tryd.prog.underlying t = some .string) {cs : List Value} {x : DataW H × List MemPlace} (h : DataW.trod enc Tryd.prog W 0 (fun _ => true) true fuel t cs = some x) (hw : (x.1.weights Tryd.prog t).all (· ≤ reachBytes) = true) :
    ∃ s, cs = [.string s] ∧ s.size ≤ maxS := by
  obtain ⟨s, rfl, rfl, _⟩ := DataW.trod_string ht h
  refine ⟨s, rfl, ?_⟩
  have := wt_all hw (n := s.data.toList.length) (by simp [DataW.weights])
  simpa using this

/-- A sort's cells come in. -/
theorem import_sortv : ∀ (fuel : Nat) (cs : List Value) (x : DataW H × List MemPlace), DataW.trod enc Tryd.prog W 0 (fun _ => true) true fuel 28 cs = some x → (x.1.weights Tryd.prog 28).all (· ≤ reachBytes) = true → ElemIn Tryd.prog W 4 SortV cs := by
  intro fuel
  induction fuel using Nat.strongRecOn with
  | ind fuel ih =>
    intro cs x hx hw φ H0 h
    obtain ⟨xs, n, rfl, rfl, hl, hlen, hf⟩ := DataW.trod_struct Tryd.underlying28 hx
    rw [cells28] at hl
    match xs, hlen with
    | [y0, y1, y2, y3], _ =>
      match cs, hl with
      | [c0, c1, c2, c3], _ =>
        have f0 : DataW.trod enc Tryd.prog W 0 (fun _ => true) true n 25 (([c0, c1, c2, c3].drop 0).take (Tryd.prog.cellsOf 25)) = some y0 := hf 0 _ rfl
        rw [cells25] at f0
        change DataW.trod enc Tryd.prog W 0 (fun _ => true) true n 25 [c0] = some y0 at f0
        have f1 : DataW.trod enc Tryd.prog W 0 (fun _ => true) true n 3 (([c0, c1, c2, c3].drop 1).take (Tryd.prog.cellsOf 3)) = some y1 := hf 1 _ rfl
        rw [cells3] at f1
        change DataW.trod enc Tryd.prog W 0 (fun _ => true) true n 3 [c1] = some y1 at f1
        have f2 : DataW.trod enc Tryd.prog W 0 (fun _ => true) true n 9 (([c0, c1, c2, c3].drop 2).take (Tryd.prog.cellsOf 9)) = some y2 := hf 2 _ rfl
        rw [cells9] at f2
        change DataW.trod enc Tryd.prog W 0 (fun _ => true) true n 9 [c2] = some y2 at f2
        have f3 : DataW.trod enc Tryd.prog W 0 (fun _ => true) true n 26 (([c0, c1, c2, c3].drop 3).take (Tryd.prog.cellsOf 26)) = some y3 := hf 3 _ rfl
        rw [cells26] at f3
        change DataW.trod enc Tryd.prog W 0 (fun _ => true) true n 26 [c3] = some y3 at f3
        simp only [DataW.weights, Tryd.underlying28, List.map_cons, List.map_nil, DataW.weightsEach, List.append_nil, List.all_append, Bool.and_eq_true] at hw
        obtain ⟨n0, e0, _, _⟩ := DataW.trod_int Tryd.underlying25 f0
        obtain ⟨n1, e1, _, _⟩ := DataW.trod_int Tryd.underlying3 f1
        obtain ⟨s2, e2, hs2⟩ := trod_str Tryd.underlying9 f2 hw.2.2.1
        obtain ⟨v, φ', H', s, bs, e3, g1, g2, g3, g4, g5, _⟩ := import_slice (enc := enc) Tryd.underlying26 cells28 (by omega) SortV.ext (fun m hm cs x => ih m (by omega) cs x) f3 hw.2.2.2 h
        simp only [List.cons.injEq, and_true] at e0 e1 e2 e3
        subst e0 e1 e2 e3
        exact ⟨φ', H', [.int .i64 n0, .int .i64 n1, .string s2, Sl3.v s], (n0, n1, s2, foOf bs), g1, g2, g3, rfl, rfl, .cons (.int _ _) (.cons (.int _ _) (.cons (.string _) (.cons g4 .nil))), ⟨s, rfl, hs2, slF_of g5⟩⟩

/-- A sort that comes in. -/
theorem import_sort {φ : Inj} {H0 : AH} (h : Imp Tryd.prog φ H0 W) {v : Value} {d : DataW H} {ps : List MemPlace} {base : Nat} (hd : DataW.Trod enc Tryd.prog W 0 (fun _ => true) true 28 v d ps) (hv : Value.okWide Tryd.prog W .any base 28 v)
    (hw : (d.weights Tryd.prog 28).all (· ≤ reachBytes) = true) : ∃ φ' H' k w n s a, Imp Tryd.prog φ' H' W ∧ φ.le φ' ∧ Ext H0 H' ∧ VR φ' (.agg #[.int .i64 k, .int .i64 w, .string n, Sl3.v s]) v ∧ SlF H' s a ∧ n.size ≤ maxS := by
  obtain ⟨fuel, hf⟩ := hd
  have hvv := hv
  simp only [Value.okWide, Tryd.underlying28] at hvv
  obtain ⟨cs, rfl, hs, _⟩ := hvv
  obtain ⟨φ', H', cs', b, h1, h2, h3, h4, h5, h6, h7⟩ := import_sortv fuel _ _ hf hw φ H0 h
  obtain ⟨s, rfl, h8, h9⟩ := h7.ex
  refine ⟨φ', H', b.1, b.2.1, b.2.2.1, s, b.2.2.2, h1, h2, h3, ?_, h9, h8⟩
  have hg := get_of_forall₂ h6
  exact .agg _ _ (by have := hg.1; simpa [Value.cells] using this) fun i x y hx hy => hg.2 i x y (by simpa using hx) (by simpa [Value.cells] using hy)

end

end Go.Proofs.YtccbilfbhecdaaaDoor


namespace Go.Proofs.YtccbilfbhecdaaaDoor
open Go Go.Abs
set_option maxRecDepth 100000

theorem wrap_small {x : Int} (h0 : -1000000 ≤ x) (h1 : x ≤ 1000000) : IntKind.i64.wrap x = x := wrap_i64' (by omega) (by omega)

theorem dF_eq : ∀ (f : Fo) (m : Nat), 1 ≤ m → m ≤ 100 → dF (m : Int) f = decide (m ≤ f.dep) := by
  intro f
  induction f with
  | nil => intro m h1 h2; simp [dF, Fo.dep]; omega
  | cons k w n a r iha ihr =>
    intro m h1 h2
    have e : IntKind.i64.wrap ((m : Int) - 1) = ((m - 1 : Nat) : Int) := by rw [wrap_small (by omega) (by omega)]; omega
    simp only [dF, e, Fo.dep]
    rw [ihr m h1 h2]
    by_cases hm : m = 1
    · subst hm
      have : 1 ≤ max (a.dep + 1) r.dep := by omega
      simp [this]
    · rw [if_neg (show ¬ (((m - 1 : Nat) : Int) = 0) by omega), iha (m - 1) (by omega) (by omega)]
      by_cases h3 : m - 1 ≤ a.dep
      · have : m ≤ max (a.dep + 1) r.dep := by omega
        simp [h3, this]
      · by_cases h4 : m ≤ r.dep
        · have : m ≤ max (a.dep + 1) r.dep := by omega
          simp [h4, this]
        · have : ¬ m ≤ max (a.dep + 1) r.dep := by omega
          simp [h3, h4, this]

theorem qF_eq : ∀ (f : Fo) (n : Nat), n ≤ 257 → qF f (n : Int) = ((min (n + f.size) 257 : Nat) : Int) := by
  intro f
  induction f with
  | nil => intro n h; simp only [qF, Fo.size]; omega
  | cons k w nm a r iha ihr =>
    intro n h
    simp only [qF, Fo.size]
    by_cases hn : (n : Int) ≤ 256
    · rw [if_pos hn]
      have e1 := iha 1 (by omega)
      rw [show ((1 : Nat) : Int) = 1 from rfl] at e1
      rw [e1, wrap_small (by omega) (by omega)]
      have : (min ((n : Int) + ((min (1 + a.size) 257 : Nat) : Int)) 257) = ((min (n + min (1 + a.size) 257) 257 : Nat) : Int) := by omega
      rw [this, ihr _ (by omega)]
      omega
    · rw [if_neg hn]; omega

theorem pF_eq : ∀ (f : Fo) (d n : Nat), 1 ≤ d → d ≤ 16 → n ≤ 256 →
    (pF (d : Int) f (n : Int)).2 = decide (d + f.dep ≤ 16 ∧ n + f.size ≤ 256) ∧ ((pF (d : Int) f (n : Int)).2 = true → (pF (d : Int) f (n : Int)).1 = ((n + f.size : Nat) : Int)) := by
  intro f
  induction f with
  | nil =>
    intro d n h1 h2 h3
    simp only [pF, Fo.dep, Fo.size]
    exact ⟨(decide_eq_true (show d + 0 ≤ 16 ∧ n + 0 ≤ 256 by omega)).symm, fun _ => by simp⟩
  | cons k w nm a r iha ihr =>
    intro d n h1 h2 h3
    have e : IntKind.i64.wrap ((d : Int) + 1) = ((d + 1 : Nat) : Int) := by rw [wrap_small (by omega) (by omega)]; omega
    have hp : pF (d : Int) (.cons k w nm a r) (n : Int) = if (!(pS (IntKind.i64.wrap ((d : Int) + 1)) a).2 || decide (IntKind.i64.wrap ((n : Int) + (pS (IntKind.i64.wrap ((d : Int) + 1)) a).1) > 256)) = true then (IntKind.i64.wrap ((n : Int) + (pS (IntKind.i64.wrap ((d : Int) + 1)) a).1), false) else pF (d : Int) r (IntKind.i64.wrap ((n : Int) + (pS (IntKind.i64.wrap ((d : Int) + 1)) a).1)) := rfl
    rw [hp, e]
    have hq : (pS ((d + 1 : Nat) : Int) a).2 = decide (d + 1 + a.dep ≤ 16 ∧ 1 + a.size ≤ 256) ∧ ((pS ((d + 1 : Nat) : Int) a).2 = true → (pS ((d + 1 : Nat) : Int) a).1 = ((1 + a.size : Nat) : Int)) := by
      unfold pS
      by_cases hd : d + 1 ≤ 16
      · rw [if_neg (show ¬ (((d + 1 : Nat) : Int) > 16) by omega)]
        exact iha (d + 1) 1 (by omega) hd (by omega)
      · rw [if_pos (show (((d + 1 : Nat) : Int) > 16) by omega)]
        exact ⟨(decide_eq_false (by omega)).symm, fun h => by cases h⟩
    generalize pS ((d + 1 : Nat) : Int) a = q at hq ⊢
    obtain ⟨q1, q2⟩ := hq
    simp only [Fo.dep, Fo.size]
    by_cases hc : d + 1 + a.dep ≤ 16 ∧ 1 + a.size ≤ 256
    · have q1' : q.2 = true := by rw [q1]; exact decide_eq_true hc
      have q2' := q2 q1'
      have e2 : IntKind.i64.wrap ((n : Int) + q.1) = ((n + (1 + a.size) : Nat) : Int) := by rw [q2', wrap_small (by omega) (by omega)]; omega
      rw [e2, q1']
      by_cases h5 : n + (1 + a.size) ≤ 256
      · have : ¬ (((n + (1 + a.size) : Nat) : Int) > 256) := by omega
        simp only [Bool.not_true, decide_eq_false this, Bool.or_self, Bool.false_eq_true, if_false]
        obtain ⟨p1, p2⟩ := ihr d (n + (1 + a.size)) h1 h2 h5
        refine ⟨?_, fun hh => ?_⟩
        · rw [p1]
          congr 1
          apply propext
          constructor <;> intro hh <;> omega
        · rw [p2 hh]; omega
      · have : ((n + (1 + a.size) : Nat) : Int) > 256 := by omega
        simp only [decide_eq_true this, Bool.or_true, if_true]
        exact ⟨(decide_eq_false (by omega)).symm, fun h => by cases h⟩
    · have q1' : q.2 = false := by rw [q1]; exact decide_eq_false hc
      rw [q1']
      simp only [Bool.not_false, Bool.true_or, if_true]
      exact ⟨(decide_eq_false (by omega)).symm, fun h => by cases h⟩

/-- Neither too deep nor of too many parts. -/
def fewS (a : Fo) : Bool := decide (1 + a.dep ≤ 16 ∧ 1 + a.size ≤ 256)

theorem pS_few (a : Fo) : (pS 1 a).2 = fewS a := by
  unfold pS fewS
  rw [if_neg (by omega)]
  exact (pF_eq a 1 1 (by omega) (by omega) (by omega)).1

def emptyT : ByteArray := ⟨#[]⟩

def headS (k w : Int) (n : ByteArray) (l : Nat) : Bool :=
  if k = 1 ∨ k = 2 then decide (w = 0) && (n.toList == emptyT.toList) && decide (l = 0)
  else if k = 3 then decide (w ≥ 1) && decide (w ≤ 4096) && (n.toList == emptyT.toList) && decide (l = 0)
  else if k = 4 then decide (w = 0) && (n.toList == emptyT.toList) && decide (l = 2)
  else if k = 5 ∨ k = 6 then decide (w = 0) && nameS n && decide (l = 0)
  else false

def shF : Fo → Bool
  | .nil => true
  | .cons k w n a r => headS k w n a.len && shF a && shF r

def shS (k w : Int) (n : ByteArray) (a : Fo) : Bool := headS k w n a.len && shF a

theorem name_maxN {n : ByteArray} (h : n.size ≤ maxS) : n.size ≤ maxN := by rw [maxN_eq]; unfold maxS at h; omega

theorem shaped_loop (c : Nat) {H : AH} : ∀ (f : Fo), (∀ (fuel : Nat) (k w : Int) (n : ByteArray) (s : Sl3) (a : Fo), SlF H s a → n.size ≤ maxS → a.dep ≤ fuel → a.dep < f.dep → fam_sort_shaped (LCo c) (fuel + 1) H k w n s = some (shS k w n a)) →
    ∀ (s : Sl3) (i : Nat) (b : Bool) (fuel : Nat) (x0 x1 : Int) (x2 : ByteArray), FoA H s.p i f → s.n = i + f.len → s.n ≤ maxN → f.dep ≤ fuel →
    ∃ j, loopO (sort_shaped_b0 (LCo c) (fam_sort_shaped (LCo c) fuel) H x0 x1 x2 s) (b, (i : Int)) = some (.inl (b && shF f, j)) := by
  intro f
  induction f with
  | nil =>
    intro hrec s i b fuel x0 x1 x2 h hn hm hd
    refine ⟨(i : Int), loopO_brk (s' := (b && shF .nil, (i : Int))) ?_⟩
    simp only [Fo.len, Nat.add_zero] at hn
    unfold sort_shaped_b0
    simp only [if_neg (show ¬ ((i : Int) < (s.n : Int)) by omega), shF, Bool.and_true]
  | cons k' w' n' a r iha ihr =>
    intro hrec s i b fuel x0 x1 x2 h hn hm hd
    simp only [Fo.len] at hn
    simp only [Fo.dep] at hd hrec
    obtain ⟨q, s', r1, r2, r3, r4, r5, r6, r8, r7⟩ := h.rd (by omega)
    obtain ⟨g, rfl⟩ : ∃ g, fuel = g + 1 := ⟨fuel - 1, by omega⟩
    have hr := hrec g k' w' n' s' a r6 r8 (by omega) (by omega)
    have hb : sort_shaped_b0 (LCo c) (fam_sort_shaped (LCo c) (g + 1)) H x0 x1 x2 s (b, (i : Int)) = some (.next (b && shS k' w' n' a, IntKind.i64.wrap ((i : Int) + 1))) := by
      unfold sort_shaped_b0
      simp only [if_pos (show (i : Int) < (s.n : Int) by omega), r1, r2, r3, r4, r5, Option.bind_some, hr]
      cases b <;> rfl
    obtain ⟨j, hj⟩ := ihr (fun fuel k w n s a h1 h2 h3 h4 => hrec fuel k w n s a h1 h2 h3 (by omega)) s (i + 1) (b && shS k' w' n' a) (g + 1) x0 x1 x2 r7 (by omega) hm (by omega)
    refine ⟨j, ?_⟩
    rw [loopO_next hb, wrap_next (n := s.n) (by omega) hm, hj]
    simp only [shF, shS, Bool.and_assoc]

/-- The head as the program asks for it. -/
theorem shaped_head (c : Nat) {k w : Int} {n : ByteArray} {l : Nat} (hn : n.size ≤ maxS) :
    (Option.bind (α := Bool) (if k = 1 then some true else some (decide (k = 2))) fun v8_2 =>
    if v8_2 = true then
      if w = 0 then if (n.toList == (⟨#[]⟩ : ByteArray).toList) = true then some (decide ((l : Int) = 0)) else some false else some false
    else
      if k = 3 then
        if w ≥ 1 then if w ≤ 4096 then if (n.toList == (⟨#[]⟩ : ByteArray).toList) = true then some (decide ((l : Int) = 0)) else some false else some false else some false
      else
        if k = 4 then
          if w = 0 then if (n.toList == (⟨#[]⟩ : ByteArray).toList) = true then some (decide ((l : Int) = 2)) else some false else some false
        else
          Option.bind (α := Bool) (if k = 5 then some true else some (decide (k = 6))) fun v62_3 =>
          if v62_3 = true then
            if w = 0 then Option.bind (sort_Name (LCo c) n) fun x4 => if x4 = true then some (decide ((l : Int) = 0)) else some false else some false
          else some false) = some (headS k w n l) := by
  have hN := Name_spec c (name_maxN hn)
  have e0 : decide ((l : Int) = 0) = decide (l = 0) := by congr 1; apply propext; omega
  have e2 : decide ((l : Int) = 2) = decide (l = 2) := by congr 1; apply propext; omega
  rw [e0, e2]
  unfold headS emptyT
  generalize (n.toList == (⟨#[]⟩ : ByteArray).toList) = bn
  by_cases h1 : k = 1
  · subst h1
    by_cases hw : w = 0 <;> cases bn <;> simp [hw]
  · by_cases h2 : k = 2
    · subst h2
      by_cases hw : w = 0 <;> cases bn <;> simp [hw]
    · by_cases h3 : k = 3
      · subst h3
        by_cases hw : w ≥ 1 <;> by_cases hw2 : w ≤ 4096 <;> cases bn <;> simp [hw, hw2]
      · by_cases h4 : k = 4
        · subst h4
          by_cases hw : w = 0 <;> cases bn <;> simp [hw]
        · by_cases h5 : k = 5
          · subst h5
            by_cases hw : w = 0
            · simp only [hw, hN, Option.bind_some]
              cases nameS n <;> simp
            · simp [hw]
          · by_cases h6 : k = 6
            · subst h6
              by_cases hw : w = 0
              · simp only [hw, hN, Option.bind_some]
                cases nameS n <;> simp
              · simp [hw]
            · simp [h1, h2, h3, h4, h5, h6]

theorem shaped_spec (c : Nat) {H : AH} : ∀ (d : Nat) (fuel : Nat) (k w : Int) (n : ByteArray) (s : Sl3) (a : Fo), SlF H s a → n.size ≤ maxS → a.dep ≤ fuel → a.dep < d → fam_sort_shaped (LCo c) (fuel + 1) H k w n s = some (shS k w n a) := by
  intro d
  induction d with
  | zero => intro fuel k w n s a _ _ _ h; omega
  | succ d ih =>
    intro fuel k w n s a h hn hd hlt
    show sort_shaped_body (LCo c) (fam_sort_shaped (LCo c) fuel) H k w n s = _
    unfold sort_shaped_body
    have hh := shaped_head c (k := k) (w := w) (n := n) (l := s.n) hn
    obtain ⟨j, hj⟩ := shaped_loop c a (fun fuel k w n s a' h1 h2 h3 h4 => ih fuel k w n s a' h1 h2 h3 (by omega)) s 0 (headS k w n s.n) fuel k w n h.2.2 (by rw [h.1]; omega) h.2.1 hd
    rw [hh]
    simp only [Option.bind_some]
    show Option.bind (loopO (sort_shaped_b0 (LCo c) (fam_sort_shaped (LCo c) fuel) H k w n s) (headS k w n s.n, ((0 : Nat) : Int))) _ = _
    rw [hj, h.1]
    rfl

theorem refShape_spec (c : Nat) {H : AH} : ∀ (d : Nat) (fuel : Nat) (k w : Int) (n : ByteArray) (s : Sl3) (a : Fo), SlF H s a → n.size ≤ maxS → a.dep ≤ fuel → a.dep < d → fam_ref04_shape (LCo c) (fuel + 1) H k w n s = some (shS k w n a) := by
  intro d
  induction d with
  | zero => intro fuel k w n s a _ _ _ h; omega
  | succ d ih =>
    intro fuel k w n s a h hn hd hlt
    show ref04_shape_body (LCo c) (fam_ref04_shape (LCo c) fuel) H k w n s = _
    unfold ref04_shape_body
    have hN := refName_spec c (name_maxN hn)
    have e0 : decide ((s.n : Int) = 0) = decide (s.n = 0) := by congr 1; apply propext; omega
    rw [e0]
    have nil0 : s.n = 0 → shF a = true := by
      intro h0
      have := h.1
      cases a with
      | nil => rfl
      | cons => simp only [Fo.len] at this; omega
    have fin : ∀ b : Bool, (b && decide (s.n = 0)) = (b && decide (a.len = 0) && shF a) := by
      intro b
      rw [← h.1]
      by_cases h0 : s.n = 0
      · rw [nil0 h0]; simp
      · simp [h0]
    unfold shS headS emptyT
    generalize hbn : (n.toList == (⟨#[]⟩ : ByteArray).toList) = bn
    by_cases h1 : k = 1
    · subst h1
      have := fin (decide (w = 0) && bn)
      by_cases hw : w = 0 <;> cases bn <;> simp [hw] at this ⊢
      exact this
    · by_cases h2 : k = 2
      · subst h2
        have := fin (decide (w = 0) && bn)
        by_cases hw : w = 0 <;> cases bn <;> simp [hw] at this ⊢
        exact this
      · by_cases h3 : k = 3
        · subst h3
          have := fin (decide (w ≥ 1) && decide (w ≤ 4096) && bn)
          by_cases hw : w ≥ 1 <;> by_cases hw2 : w ≤ 4096 <;> cases bn <;> simp [hw, hw2] at this ⊢
          exact this
        · by_cases h4 : k = 4
          · subst h4
            by_cases hw : w = 0
            · cases bn with
              | false => simp [hw]
              | true =>
                by_cases hl : s.n = 2
                · have hl' : (s.n : Int) = 2 := by omega
                  have hal := h.1
                  rw [hl] at hal
                  cases a with
                  | nil => simp [Fo.len] at hal
                  | cons k1 w1 n1 a1 r1 =>
                    cases r1 with
                    | nil => simp [Fo.len] at hal
                    | cons k2 w2 n2 a2 r2 =>
                      have hr2 : r2 = .nil := by
                        cases r2 with
                        | nil => rfl
                        | cons => simp [Fo.len] at hal
                      subst hr2
                      simp only [Fo.dep] at hd hlt
                      obtain ⟨q1, s1, p1, p2, p3, p4, p5, p6, p7, p8⟩ := h.2.2.rd (by omega)
                      obtain ⟨q2, s2, t1, t2, t3, t4, t5, t6, t7, t8⟩ := p8.rd (by omega)
                      obtain ⟨g, rfl⟩ : ∃ g, fuel = g + 1 := ⟨fuel - 1, by omega⟩
                      have c1 := ih g k1 w1 n1 s1 a1 p6 p7 (by omega) (by omega)
                      have c2 := ih g k2 w2 n2 s2 a2 t6 t7 (by omega) (by omega)
                      have z0 : idxA 4 s 0 = some q1 := p1
                      have z1 : idxA 4 s 1 = some q2 := t1
                      have hF : shF (.cons k1 w1 n1 a1 (.cons k2 w2 n2 a2 .nil)) = (shS k1 w1 n1 a1 && shS k2 w2 n2 a2) := by simp only [shF, shS, Bool.and_true]
                      rw [hF]
                      simp only [hw, hl', z0, p2, p3, p4, p5, Option.bind_some, c1, z1, t2, t3, t4, t5, c2]
                      cases shS k1 w1 n1 a1 <;> cases shS k2 w2 n2 a2 <;> simp [Fo.len]
                · have hl' : ¬ ((s.n : Int) = 2) := by omega
                  have : ¬ (a.len = 2) := by rw [← h.1]; exact hl
                  simp [hw, hl', this]
            · simp [hw]
          · by_cases h56 : k = 5 ∨ k = 6
            · have e : (if k = 5 then some true else some (decide (k = 6))) = some true := by
                rcases h56 with rfl | rfl <;> rfl
              simp only [h1, h2, h3, h4, h56, e, if_false, Option.bind_some, decide_false, Bool.false_eq_true, if_true, or_self]
              have := fin (decide (w = 0) && nameS n)
              by_cases hw : w = 0
              · by_cases h0 : s.n = 0
                · have h0' : (s.n : Int) = 0 := by omega
                  simp only [hw, if_true, h0', hN, Option.bind_some] at this ⊢
                  rw [h0] at this
                  simp at this ⊢
                  cases hb : nameS n <;> simp [hb] at this ⊢
                  exact this
                · have h0' : ¬ ((s.n : Int) = 0) := by omega
                  have : ¬ (a.len = 0) := by rw [← h.1]; exact h0
                  simp [hw, h0, this]
              · simp [hw]
            · have h5 : ¬ k = 5 := fun h => h56 (.inl h)
              have h6 : ¬ k = 6 := fun h => h56 (.inr h)
              simp [h1, h2, h3, h4, h5, h6]

def wrongS (k w : Int) (n : ByteArray) (a : Fo) : Int := if fewS a = true then if shS k w n a = true then 0 else 40 else 3

theorem wrong_spec (L0 fuel : Nat) (hF : L0 = fuel + 1) {H : AH} {k w : Int} {n : ByteArray} {s : Sl3} {a : Fo} (h : SlF H s a) (hn : n.size ≤ maxS) (hd : a.dep ≤ fuel) : sort_wrong (LCo L0) H k w n s = some (wrongS k w n a) := by
  subst hF
  unfold sort_wrong sort_parts sort_shaped wrongS
  have e1 : (LCo (fuel + 1)).fuel = fuel + 1 := rfl
  rw [e1, parts_spec (fuel + 1) fuel h hd k w n 1, shaped_spec (fuel + 1) (a.dep + 1) fuel k w n s a h hn hd (by omega)]
  simp only [Option.bind_some]
  have := pS_few a
  generalize pS 1 a = q at this
  obtain ⟨x, b⟩ := q
  simp only at this
  subst this
  simp only
  cases fewS a <;> cases shS k w n a <;> rfl

theorem fits_spec (L0 fuel : Nat) (hF : L0 = fuel + 1) {H : AH} {k w : Int} {n : ByteArray} {s : Sl3} {a : Fo} (h : SlF H s a) (hn : n.size ≤ maxS) (hd : a.dep ≤ fuel) : ref04_fits (LCo L0) H k w n s = some (wrongS k w n a) := by
  subst hF
  unfold ref04_fits ref04_Deep ref04_Parts ref04_shape wrongS
  have e1 : (LCo (fuel + 1)).fuel = fuel + 1 := rfl
  rw [e1, deep_spec (fuel + 1) fuel h hd k w n 16, refParts_spec (fuel + 1) fuel h hd k w n, refShape_spec (fuel + 1) (a.dep + 1) fuel k w n s a h hn hd (by omega)]
  simp only [Option.bind_some]
  have d1 : dS 16 a = decide (16 ≤ a.dep) := by
    unfold dS
    rw [if_neg (by omega)]
    exact dF_eq a 16 (by omega) (by omega)
  have q1 : qF a 1 = ((min (1 + a.size) 257 : Nat) : Int) := qF_eq a 1 (by omega)
  rw [d1, q1]
  unfold fewS
  by_cases h1 : 16 ≤ a.dep
  · have : ¬ (1 + a.dep ≤ 16 ∧ 1 + a.size ≤ 256) := by omega
    simp [h1, this]
  · by_cases h2 : 1 + a.size ≤ 256
    · have h3 : 1 + a.dep ≤ 16 ∧ 1 + a.size ≤ 256 := by omega
      have h4 : ¬ (((min (1 + a.size) 257 : Nat) : Int) > 256) := by omega
      simp only [decide_eq_false h1, Bool.false_eq_true, if_false, Option.bind_some, decide_eq_false h4, decide_eq_true h3, if_true]
      cases shS k w n a <;> rfl
    · have h3 : ¬ (1 + a.dep ≤ 16 ∧ 1 + a.size ≤ 256) := by omega
      have h4 : (((min (1 + a.size) 257 : Nat) : Int) > 256) := by omega
      simp only [decide_eq_false h1, Bool.false_eq_true, if_false, Option.bind_some, decide_eq_true h4, decide_eq_false h3, if_true]

theorem shS_cases {k w : Int} {n : ByteArray} {a : Fo} (h : shS k w n a = true) :
    (a = .nil ∧ (k = 1 ∨ k = 2 ∨ (k = 3 ∧ 1 ≤ w ∧ w ≤ 4096) ∨ ((k = 5 ∨ k = 6) ∧ nameS n = true))) ∨
    (k = 4 ∧ ∃ k1 w1 n1 a1 k2 w2 n2 a2, a = .cons k1 w1 n1 a1 (.cons k2 w2 n2 a2 .nil) ∧ shS k1 w1 n1 a1 = true ∧ shS k2 w2 n2 a2 = true) := by
  simp only [shS, Bool.and_eq_true] at h
  obtain ⟨h1, h2⟩ := h
  have nil0 : a.len = 0 → a = .nil := by
    intro h0
    cases a with
    | nil => rfl
    | cons => simp [Fo.len] at h0
  unfold headS at h1
  split at h1
  · rename_i hk
    simp only [Bool.and_eq_true, decide_eq_true_eq] at h1
    refine .inl ⟨nil0 h1.2, ?_⟩
    omega
  · split at h1
    · rename_i hk
      simp only [Bool.and_eq_true, decide_eq_true_eq] at h1
      refine .inl ⟨nil0 h1.2, ?_⟩
      omega
    · split at h1
      · rename_i hk
        simp only [Bool.and_eq_true, decide_eq_true_eq] at h1
        refine .inr ⟨hk, ?_⟩
        have hl := h1.2
        cases a with
        | nil => simp [Fo.len] at hl
        | cons k1 w1 n1 a1 r1 =>
          cases r1 with
          | nil => simp [Fo.len] at hl
          | cons k2 w2 n2 a2 r2 =>
            have hr2 : r2 = .nil := by
              cases r2 with
              | nil => rfl
              | cons => simp [Fo.len] at hl
            subst hr2
            simp only [shF, Bool.and_eq_true] at h2
            refine ⟨_, _, _, _, _, _, _, _, rfl, ?_, ?_⟩
            · simp only [shS, Bool.and_eq_true]; exact h2.1
            · simp only [shS, Bool.and_eq_true]; exact h2.2.1
      · split at h1
        · rename_i hk
          simp only [Bool.and_eq_true, decide_eq_true_eq] at h1
          refine .inl ⟨nil0 h1.2, ?_⟩
          have := h1.1.2
          rcases hk with rfl | rfl <;> simp [this]
        · cases h1

theorem wrong_zero {k w : Int} {n : ByteArray} {a : Fo} (h : wrongS k w n a = 0) : shS k w n a = true ∧ 1 + a.dep ≤ 16 ∧ 1 + a.size ≤ 256 := by
  unfold wrongS fewS at h
  split at h
  · rename_i h1
    split at h
    · rename_i h2
      exact ⟨h2, of_decide_eq_true h1⟩
    · cases h
  · cases h

end Go.Proofs.YtccbilfbhecdaaaDoor


namespace Go.Proofs.YtccbilfbhecdaaaDoor
open Go Go.Abs
set_option maxRecDepth 100000

def sort_written_enc : (ByteArray × AH) → Value
  | (r0, _) => (Value.string r0)

def sort_written_hp (_ : AH) : (ByteArray × AH) → AH := fun r => r.2

noncomputable def B58 : Code := (Tryd.f58.body).getD .skip

noncomputable def sort_written_body (L : LC) (rec_sort_written : Nat → AH → Int → Int → ByteArray → Sl3 → Option (ByteArray × AH)) (m : Nat) (H : AH) (a0_0 : Int) (a0_1 : Int) (a0_2 : ByteArray) (a0_3 : Sl3) : Option (ByteArray × AH) :=
  if a0_0 = 1 then
    some ((⟨#[66, 111, 111, 108]⟩ : ByteArray), H)
  else
    if a0_0 = 2 then
      some ((⟨#[73, 110, 116]⟩ : ByteArray), H)
    else
      if a0_0 = 3 then
        Option.bind (strconv_Itoa L H a0_1) fun x1 =>
        Option.bind (strcat (⟨#[40, 95, 32, 66, 105, 116, 86, 101, 99, 32]⟩ : ByteArray) x1) fun s2 =>
        Option.bind (strcat s2 (⟨#[41]⟩ : ByteArray)) fun s3 =>
        some (s3, H)
      else
        if a0_0 = 4 then
          Option.bind (idxA 4 a0_3 0) fun p4 =>
          Option.bind (rd (deI .i64) H (Addr.add p4 0)) fun x5_0 =>
          Option.bind (rd (deI .i64) H (Addr.add p4 1)) fun x5_1 =>
          Option.bind (rd deS H (Addr.add p4 2)) fun x5_2 =>
          Option.bind (rd deSl H (Addr.add p4 3)) fun x5_3 =>
          Option.bind (idxA 4 a0_3 1) fun p6 =>
          Option.bind (rd (deI .i64) H (Addr.add p6 0)) fun x7_0 =>
          Option.bind (rd (deI .i64) H (Addr.add p6 1)) fun x7_1 =>
          Option.bind (rd deS H (Addr.add p6 2)) fun x7_2 =>
          Option.bind (rd deSl H (Addr.add p6 3)) fun x7_3 =>
          Option.bind (rec_sort_written (Nat.max m H.next) H x5_0 x5_1 x5_2 x5_3) fun (x8, H9) =>
          Option.bind (strcat (⟨#[40, 65, 114, 114, 97, 121, 32]⟩ : ByteArray) x8) fun s10 =>
          Option.bind (strcat s10 (⟨#[32]⟩ : ByteArray)) fun s11 =>
          Option.bind (rec_sort_written (Nat.max m H9.next) H9 x7_0 x7_1 x7_2 x7_3) fun (x12, H13) =>
          Option.bind (strcat s11 x12) fun s14 =>
          Option.bind (strcat s14 (⟨#[41]⟩ : ByteArray)) fun s15 =>
          some (s15, H13)
        else
          Option.bind (sort_Quote L m H a0_2) fun (x16, H17) =>
          some (x16, H17)

noncomputable def fam_sort_written (L : LC) (n : Nat) : (Nat → AH → Int → Int → ByteArray → Sl3 → Option (ByteArray × AH)) := Nat.rec (motive := fun _ => (Nat → AH → Int → Int → ByteArray → Sl3 → Option (ByteArray × AH))) (fun _ _ _ _ _ _ => none) (fun _ p => sort_written_body L p) n

noncomputable def sort_written (L : LC) (m : Nat) (H : AH) (a0_0 : Int) (a0_1 : Int) (a0_2 : ByteArray) (a0_3 : Sl3) : Option (ByteArray × AH) := (fam_sort_written L L.fuel) m H a0_0 a0_1 a0_2 a0_3

theorem sort_written_body_ok {L : LC} {rec_sort_written : Nat → AH → Int → Int → ByteArray → Sl3 → Option (ByteArray × AH)} (hrec_sort_written : ∀ (m : Nat) (H : AH) (a0_0 : Int) (a0_1 : Int) (a0_2 : ByteArray) (a0_3 : Sl3) (r : (ByteArray × AH)), rec_sort_written m H a0_0 a0_1 a0_2 a0_3 = some r → CallS Tryd.prog (NE.plain 1000) m 58 #[(Value.agg #[(Value.int .i64 a0_0), (Value.int .i64 a0_1), (Value.string a0_2), (Sl3.v a0_3)])] H (sort_written_enc r) (sort_written_hp H r)) {m : Nat} {H : AH} {a0_0 : Int} {a0_1 : Int} {a0_2 : ByteArray} {a0_3 : Sl3} {r : (ByteArray × AH)} (h : sort_written_body L rec_sort_written m H a0_0 a0_1 a0_2 a0_3 = some r) :
    CallS Tryd.prog (NE.plain 1000) m 58 #[(Value.agg #[(Value.int .i64 a0_0), (Value.int .i64 a0_1), (Value.string a0_2), (Sl3.v a0_3)])] H (sort_written_enc r) (sort_written_hp H r) := by
  refine CallS.mk (args := [(Value.agg #[(Value.int .i64 a0_0), (Value.int .i64 a0_1), (Value.string a0_2), (Sl3.v a0_3)])]) Tryd.func58 (B := B58) (by kernel_rfl) (fun E _ => ?_)
  unfold sort_written_body at h
  refine WS.sq (WS.rg (RS.mL 2 [(2, .val (Value.string (⟨#[]⟩ : ByteArray))), (1, .loc 0 0)] ([some (28, [(Value.int .i64 a0_0), (Value.int .i64 a0_1), (Value.string a0_2), (Sl3.v a0_3)])]) (RS.dn (WS.nxt (WS.sq (WS.sq (WS.rg (RS.mS 2 [(4, .val (Value.int .i64 a0_0)), (3, .loc 0 0)] (RS.dn ?_)))))))))
  refine WS.nxt (WS.bk 0 (WS.sq (WS.rg (RS.mS 2 [(5, .val (Value.bool (decide (a0_0 = 1)))), (6, .val (Value.bool (decide (a0_0 = 1))))] (RS.dn (WS.nxt ?_))))))
  rcases ite_some h with ⟨hp, h⟩ | ⟨hp, h⟩
  · refine WS.fx 5 true (decide_eq_true hp) (WS.cT (WS.sq (WS.rg (RS.mS 1 [(2, .val (Value.string (⟨#[66, 111, 111, 108]⟩ : ByteArray)))] (RS.dn (WS.nxt (WS.rt ?_)))))))
    cases h
    exact fun a w hs => bkR (sqR (rtR (rS hs)))
  · refine WS.fx 5 false (decide_eq_false hp) (WS.cF (WS.sq (WS.rg (RS.mS 2 [(7, .val (Value.bool (decide (a0_0 = 2)))), (8, .val (Value.bool (decide (a0_0 = 2))))] (RS.dn (WS.nxt ?_))))))
    rcases ite_some h with ⟨hp, h⟩ | ⟨hp, h⟩
    · refine WS.fx 7 true (decide_eq_true hp) (WS.cT (WS.sq (WS.rg (RS.mS 1 [(2, .val (Value.string (⟨#[73, 110, 116]⟩ : ByteArray)))] (RS.dn (WS.nxt (WS.rt ?_)))))))
      cases h
      exact fun a w hs => bkR (sqR (rtR (rS hs)))
    · refine WS.fx 7 false (decide_eq_false hp) (WS.cF (WS.sq (WS.rg (RS.mS 2 [(9, .val (Value.bool (decide (a0_0 = 3)))), (10, .val (Value.bool (decide (a0_0 = 3))))] (RS.dn (WS.nxt ?_))))))
      rcases ite_some h with ⟨hp, h⟩ | ⟨hp, h⟩
      · refine WS.fx 9 true (decide_eq_true hp) (WS.cT (WS.sq (WS.rg (RS.mS 2 [(12, .val (Value.int .i64 a0_1)), (11, .loc 0 1)] ?_))))
        obtain ⟨x1, hx, h⟩ := bind_some h
        refine RS.cl (some 13) (v := (Value.string x1)) 92 #[(Value.int .i64 a0_1)] (strconv_Itoa_ok hx) ?_
        obtain ⟨s2, hx, h⟩ := bind_some h
        refine RS.o (H' := H) (some 14) (Value.string s2) (Abs.run_strcat (t := 9) (u := 9) (x := .const (Value.string (⟨#[40, 95, 32, 66, 105, 116, 86, 101, 99, 32]⟩ : ByteArray))) (y := .tmp 13) (a := (⟨#[40, 95, 32, 66, 105, 116, 86, 101, 99, 32]⟩ : ByteArray)) (b := x1) (by kernel_rfl) (by kernel_rfl) (by kernel_rfl) hx) ?_
        obtain ⟨s3, hx, h⟩ := bind_some h
        refine RS.o (H' := H) (some 15) (Value.string s3) (Abs.run_strcat (t := 9) (u := 9) (x := .tmp 14) (y := .const (Value.string (⟨#[41]⟩ : ByteArray))) (a := s2) (b := (⟨#[41]⟩ : ByteArray)) (by kernel_rfl) (by kernel_rfl) (by kernel_rfl) hx) (RS.mS 1 [(2, .val (Value.string s3))] (RS.dn (WS.nxt (WS.rt ?_))))
        cases h
        exact fun a w hs => bkR (sqR (rtR (rS hs)))
      · refine WS.fx 9 false (decide_eq_false hp) (WS.cF (WS.sq (WS.rg (RS.mS 2 [(16, .val (Value.bool (decide (a0_0 = 4)))), (17, .val (Value.bool (decide (a0_0 = 4))))] (RS.dn (WS.nxt ?_))))))
        rcases ite_some h with ⟨hp, h⟩ | ⟨hp, h⟩
        · refine WS.fx 16 true (decide_eq_true hp) (WS.cT (WS.sq ?_))
          refine WS.dr [0, 1, 2, 3, 7, 8, 9, 10] [0, 1, 3, 7, 15, 31, 63, 0, 128, 384, 896, 1951, 4095, 8191, 16383] 15 (fun hcl => ?_)
          refine DA.tL 0 (some 18) (.loc 0 3) (DA.tL 1 (some 19) (.val (Sl3.v a0_3)) ?_)
          obtain ⟨p4, hx, h⟩ := bind_some h
          refine DA.tD 2 (some 20) (Value.pointer (some p4)) (Abs.det_idx (s := a0_3) (k := .i64) (t := 26) (e := 28) (x := .tmp 19) (y := .const (Value.int .i64 0)) (by kernel_rfl) (by kernel_rfl) (by kernel_rfl) (by kernel_rfl) (by kernel_rfl) hx) ?_
          obtain ⟨x5_0, hx0, h⟩ := bind_some h
          obtain ⟨x5_1, hx1, h⟩ := bind_some h
          obtain ⟨x5_2, hx2, h⟩ := bind_some h
          obtain ⟨x5_3, hx3, h⟩ := bind_some h
          refine DA.tD 3 (some 21) (Value.agg #[(Value.int .i64 x5_0), (Value.int .i64 x5_1), (Value.string x5_2), (Sl3.v x5_3)]) (Abs.det_loadA (t := 28) (x := .tmp 20) (a := p4) (k := 4) (by kernel_rfl) (by kernel_rfl) (by kernel_rfl) (by kernel_rfl) (rdc_cons (rd_cell hx0 deI_inv) (rdc_cons (rd_cell hx1 deI_inv) (rdc_cons (rd_cell hx2 deS_inv) (rdc_cons (rd_cell hx3 deSl_inv) rdc_nil))))) (DA.tL 7 (some 25) (.loc 0 3) (DA.tL 8 (some 26) (.val (Sl3.v a0_3)) ?_))
          obtain ⟨p6, hx, h⟩ := bind_some h
          refine DA.tD 9 (some 27) (Value.pointer (some p6)) (Abs.det_idx (s := a0_3) (k := .i64) (t := 26) (e := 28) (x := .tmp 26) (y := .const (Value.int .i64 1)) (by kernel_rfl) (by kernel_rfl) (by kernel_rfl) (by kernel_rfl) (by kernel_rfl) hx) ?_
          obtain ⟨x7_0, hx0, h⟩ := bind_some h
          obtain ⟨x7_1, hx1, h⟩ := bind_some h
          obtain ⟨x7_2, hx2, h⟩ := bind_some h
          obtain ⟨x7_3, hx3, h⟩ := bind_some h
          refine DA.tD 10 (some 28) (Value.agg #[(Value.int .i64 x7_0), (Value.int .i64 x7_1), (Value.string x7_2), (Sl3.v x7_3)]) (Abs.det_loadA (t := 28) (x := .tmp 27) (a := p6) (k := 4) (by kernel_rfl) (by kernel_rfl) (by kernel_rfl) (by kernel_rfl) (rdc_cons (rd_cell hx0 deI_inv) (rdc_cons (rd_cell hx1 deI_inv) (rdc_cons (rd_cell hx2 deS_inv) (rdc_cons (rd_cell hx3 deSl_inv) rdc_nil))))) ?_
          obtain ⟨⟨x8, H9⟩, hx, h⟩ := bind_some h
          try dsimp only at h
          refine DA.on 4 (DA.aCk 4 (some 22) true (v := (Value.string x8)) 58 #[(Value.agg #[(Value.int .i64 x5_0), (Value.int .i64 x5_1), (Value.string x5_2), (Sl3.v x5_3)])] (hrec_sort_written _ _ _ _ _ _ _ hx) (DA.restart [0, 1, 2, 3, 5, 7, 8, 9, 10] (by kernel_rfl) ?_))
          obtain ⟨s10, hx, h⟩ := bind_some h
          refine DA.tD 5 (some 23) (Value.string s10) (Abs.det_strcat (t := 9) (u := 9) (x := .const (Value.string (⟨#[40, 65, 114, 114, 97, 121, 32]⟩ : ByteArray))) (y := .tmp 22) (a := (⟨#[40, 65, 114, 114, 97, 121, 32]⟩ : ByteArray)) (b := x8) (by kernel_rfl) (by kernel_rfl) (by kernel_rfl) hx) (DA.restart [0, 1, 2, 3, 5, 6, 7, 8, 9, 10] (by kernel_rfl) ?_)
          obtain ⟨s11, hx, h⟩ := bind_some h
          refine DA.tD 6 (some 24) (Value.string s11) (Abs.det_strcat (t := 9) (u := 9) (x := .tmp 23) (y := .const (Value.string (⟨#[32]⟩ : ByteArray))) (a := s10) (b := (⟨#[32]⟩ : ByteArray)) (by kernel_rfl) (by kernel_rfl) (by kernel_rfl) hx) ?_
          obtain ⟨⟨x12, H13⟩, hx, h⟩ := bind_some h
          try dsimp only at h
          refine DA.on 11 (DA.aCk 11 (some 29) false (v := (Value.string x12)) 58 #[(Value.agg #[(Value.int .i64 x7_0), (Value.int .i64 x7_1), (Value.string x7_2), (Sl3.v x7_3)])] (hrec_sort_written _ _ _ _ _ _ _ hx) ?_)
          obtain ⟨s14, hx, h⟩ := bind_some h
          refine DA.tPx 12 (some 30) (Value.string s14) (Abs.det_strcat (t := 9) (u := 9) (x := .tmp 24) (y := .tmp 29) (a := s11) (b := x12) (by kernel_rfl) (by kernel_rfl) (by kernel_rfl) hx) ?_
          obtain ⟨s15, hx, h⟩ := bind_some h
          refine DA.tPx 13 (some 31) (Value.string s15) (Abs.det_strcat (t := 9) (u := 9) (x := .tmp 30) (y := .const (Value.string (⟨#[41]⟩ : ByteArray))) (a := s14) (b := (⟨#[41]⟩ : ByteArray)) (by kernel_rfl) (by kernel_rfl) (by kernel_rfl) hx) (DA.tP 14 (some 2) (Value.string s15) (DA.dn (WS.nxt (WS.rt ?_))))
          cases h
          exact fun a w hs => bkR (sqR (rtR (rS hs)))
        · refine WS.fx 16 false (decide_eq_false hp) (WS.cF (WS.sk ?_))
          refine fun a w hs => bkN ((WS.nxt ?_ a w hs))
          refine WS.sq (WS.rg (RS.mS 2 [(33, .val (Value.string a0_2)), (32, .loc 0 2)] ?_))
          obtain ⟨⟨x16, H17⟩, hx, h⟩ := bind_some h
          try dsimp only at h
          refine RS.cl (some 34) (v := (Value.string x16)) 15 #[(Value.string a0_2)] (sort_Quote_ok hx) (RS.mS 1 [(2, .val (Value.string x16))] (RS.dn (WS.nxt (WS.rt ?_))))
          cases h
          exact fun a w hs => rtR (rS hs)

theorem fam_sort_written_ok {L : LC} : ∀ n, (∀ (m : Nat) (H : AH) (a0_0 : Int) (a0_1 : Int) (a0_2 : ByteArray) (a0_3 : Sl3) (r : (ByteArray × AH)), ((fam_sort_written L n)) m H a0_0 a0_1 a0_2 a0_3 = some r → CallS Tryd.prog (NE.plain 1000) m 58 #[(Value.agg #[(Value.int .i64 a0_0), (Value.int .i64 a0_1), (Value.string a0_2), (Sl3.v a0_3)])] H (sort_written_enc r) (sort_written_hp H r)) := by
  intro n
  induction n with
  | zero => exact (fun _ _ _ _ _ _ _ h => (Option.some_ne_none _ h.symm).elim)
  | succ n ih => exact (fun _ _ _ _ _ _ _ h => sort_written_body_ok (L := L) ih h)

theorem sort_written_ok {L : LC} {m : Nat} {H : AH} {a0_0 : Int} {a0_1 : Int} {a0_2 : ByteArray} {a0_3 : Sl3} {r : (ByteArray × AH)} (h : sort_written L m H a0_0 a0_1 a0_2 a0_3 = some r) :
    CallS Tryd.prog (NE.plain 1000) m 58 #[(Value.agg #[(Value.int .i64 a0_0), (Value.int .i64 a0_1), (Value.string a0_2), (Sl3.v a0_3)])] H (sort_written_enc r) (sort_written_hp H r) :=
  (fam_sort_written_ok _) _ _ _ _ _ _ _ h

def sort_Text_enc : (ByteArray × Int × AH) → Value
  | (r0, r1, _) => (Value.tuple #[(Value.string r0), (Value.int .i64 r1)])

def sort_Text_hp (_ : AH) : (ByteArray × Int × AH) → AH := fun r => r.2.2

noncomputable def B28 : Code := (Tryd.f28.body).getD .skip

noncomputable def sort_Text (L : LC) (m : Nat) (H : AH) (a0_0 : Int) (a0_1 : Int) (a0_2 : ByteArray) (a0_3 : Sl3) : Option (ByteArray × Int × AH) :=
  Option.bind (sort_wrong L H a0_0 a0_1 a0_2 a0_3) fun x1 =>
  if x1 = 0 then
    Option.bind (sort_written L m H a0_0 a0_1 a0_2 a0_3) fun (x2, H3) =>
    some (x2, 0, H3)
  else
    some ((⟨#[]⟩ : ByteArray), x1, H)

theorem sort_Text_ok {L : LC} {m : Nat} {H : AH} {a0_0 : Int} {a0_1 : Int} {a0_2 : ByteArray} {a0_3 : Sl3} {r : (ByteArray × Int × AH)} (h : sort_Text L m H a0_0 a0_1 a0_2 a0_3 = some r) :
    CallS Tryd.prog (NE.plain 1000) m 28 #[(Value.agg #[(Value.int .i64 a0_0), (Value.int .i64 a0_1), (Value.string a0_2), (Sl3.v a0_3)])] H (sort_Text_enc r) (sort_Text_hp H r) := by
  refine CallS.mk (args := [(Value.agg #[(Value.int .i64 a0_0), (Value.int .i64 a0_1), (Value.string a0_2), (Sl3.v a0_3)])]) Tryd.func28 (B := B28) (by kernel_rfl) (fun E _ => ?_)
  unfold sort_Text at h
  refine WS.sq (WS.rg (RS.mL 3 [(3, .val (Value.int .i64 0)), (2, .val (Value.string (⟨#[]⟩ : ByteArray))), (1, .loc 0 0)] ([some (28, [(Value.int .i64 a0_0), (Value.int .i64 a0_1), (Value.string a0_2), (Sl3.v a0_3)])]) (RS.dn (WS.nxt (WS.sq (WS.sq (WS.rg (RS.mS 1 [(5, .val (Value.agg #[(Value.int .i64 a0_0), (Value.int .i64 a0_1), (Value.string a0_2), (Sl3.v a0_3)]))] ?_))))))))
  obtain ⟨x1, hx, h⟩ := bind_some h
  refine RS.cl (some 6) (v := (Value.int .i64 x1)) 57 #[(Value.agg #[(Value.int .i64 a0_0), (Value.int .i64 a0_1), (Value.string a0_2), (Sl3.v a0_3)])] (sort_wrong_ok hx) (RS.mS 1 [(4, .val (Value.int .i64 x1))] (RS.dn (WS.nxt (WS.sq (WS.rg (RS.mS 2 [(8, .val (Value.bool (!decide (x1 = 0)))), (7, .val (Value.int .i64 x1))] (RS.dn (WS.nxt ?_))))))))
  rcases ite_some h with ⟨hp, h⟩ | ⟨hp, h⟩
  · refine WS.fx 8 false (dec_not hp) (WS.cF (WS.sk (WS.nxt (WS.sq (WS.rg (RS.mS 1 [(10, .val (Value.agg #[(Value.int .i64 a0_0), (Value.int .i64 a0_1), (Value.string a0_2), (Sl3.v a0_3)]))] ?_))))))
    obtain ⟨⟨x2, H3⟩, hx, h⟩ := bind_some h
    try dsimp only at h
    refine RS.cl (some 11) (v := (Value.string x2)) 58 #[(Value.agg #[(Value.int .i64 a0_0), (Value.int .i64 a0_1), (Value.string a0_2), (Sl3.v a0_3)])] (sort_written_ok hx) (RS.mS 2 [(3, .val (Value.int .i64 0)), (2, .val (Value.string x2))] (RS.dn (WS.nxt (WS.rt ?_))))
    cases h
    exact fun a w hs => rtR (rS hs)
  · refine WS.fx 8 true (dec_not' hp) (WS.cT (WS.sq (WS.rg (RS.mS 3 [(3, .val (Value.int .i64 x1)), (2, .val (Value.string (⟨#[]⟩ : ByteArray))), (9, .val (Value.int .i64 x1))] (RS.dn (WS.nxt (WS.rt ?_)))))))
    cases h
    exact fun a w hs => sqR (rtR (rS hs))

end Go.Proofs.YtccbilfbhecdaaaDoor


namespace Go.Proofs.YtccbilfbhecdaaaDoor
open Go Go.Abs
set_option maxRecDepth 100000

def ref04_write_enc : (ByteArray × AH) → Value
  | (r0, _) => (Value.string r0)

def ref04_write_hp (_ : AH) : (ByteArray × AH) → AH := fun r => r.2

noncomputable def B59 : Code := (Tryd.f59.body).getD .skip

noncomputable def ref04_write_body (L : LC) (rec_ref04_write : Nat → AH → Int → Int → ByteArray → Sl3 → Option (ByteArray × AH)) (m : Nat) (H : AH) (a0_0 : Int) (a0_1 : Int) (a0_2 : ByteArray) (a0_3 : Sl3) : Option (ByteArray × AH) :=
  if a0_0 = 1 then
    some ((⟨#[66, 111, 111, 108]⟩ : ByteArray), H)
  else
    if a0_0 = 2 then
      some ((⟨#[73, 110, 116]⟩ : ByteArray), H)
    else
      if a0_0 = 3 then
        Option.bind (strconv_Itoa L H a0_1) fun x1 =>
        Option.bind (strcat (⟨#[40, 95, 32, 66, 105, 116, 86, 101, 99, 32]⟩ : ByteArray) x1) fun s2 =>
        Option.bind (strcat s2 (⟨#[41]⟩ : ByteArray)) fun s3 =>
        some (s3, H)
      else
        if a0_0 = 4 then
          Option.bind (idxA 4 a0_3 0) fun p4 =>
          Option.bind (rd (deI .i64) H (Addr.add p4 0)) fun x5_0 =>
          Option.bind (rd (deI .i64) H (Addr.add p4 1)) fun x5_1 =>
          Option.bind (rd deS H (Addr.add p4 2)) fun x5_2 =>
          Option.bind (rd deSl H (Addr.add p4 3)) fun x5_3 =>
          Option.bind (idxA 4 a0_3 1) fun p6 =>
          Option.bind (rd (deI .i64) H (Addr.add p6 0)) fun x7_0 =>
          Option.bind (rd (deI .i64) H (Addr.add p6 1)) fun x7_1 =>
          Option.bind (rd deS H (Addr.add p6 2)) fun x7_2 =>
          Option.bind (rd deSl H (Addr.add p6 3)) fun x7_3 =>
          Option.bind (rec_ref04_write (Nat.max m H.next) H x5_0 x5_1 x5_2 x5_3) fun (x8, H9) =>
          Option.bind (strcat (⟨#[40, 65, 114, 114, 97, 121, 32]⟩ : ByteArray) x8) fun s10 =>
          Option.bind (strcat s10 (⟨#[32]⟩ : ByteArray)) fun s11 =>
          Option.bind (rec_ref04_write (Nat.max m H9.next) H9 x7_0 x7_1 x7_2 x7_3) fun (x12, H13) =>
          Option.bind (strcat s11 x12) fun s14 =>
          Option.bind (strcat s14 (⟨#[41]⟩ : ByteArray)) fun s15 =>
          some (s15, H13)
        else
          Option.bind (ref04_Quote L m H a0_2) fun (x16, H17) =>
          some (x16, H17)

noncomputable def fam_ref04_write (L : LC) (n : Nat) : (Nat → AH → Int → Int → ByteArray → Sl3 → Option (ByteArray × AH)) := Nat.rec (motive := fun _ => (Nat → AH → Int → Int → ByteArray → Sl3 → Option (ByteArray × AH))) (fun _ _ _ _ _ _ => none) (fun _ p => ref04_write_body L p) n

noncomputable def ref04_write (L : LC) (m : Nat) (H : AH) (a0_0 : Int) (a0_1 : Int) (a0_2 : ByteArray) (a0_3 : Sl3) : Option (ByteArray × AH) := (fam_ref04_write L L.fuel) m H a0_0 a0_1 a0_2 a0_3

theorem ref04_write_body_ok {L : LC} {rec_ref04_write : Nat → AH → Int → Int → ByteArray → Sl3 → Option (ByteArray × AH)} (hrec_ref04_write : ∀ (m : Nat) (H : AH) (a0_0 : Int) (a0_1 : Int) (a0_2 : ByteArray) (a0_3 : Sl3) (r : (ByteArray × AH)), rec_ref04_write m H a0_0 a0_1 a0_2 a0_3 = some r → CallS Tryd.prog (NE.plain 1000) m 59 #[(Value.agg #[(Value.int .i64 a0_0), (Value.int .i64 a0_1), (Value.string a0_2), (Sl3.v a0_3)])] H (ref04_write_enc r) (ref04_write_hp H r)) {m : Nat} {H : AH} {a0_0 : Int} {a0_1 : Int} {a0_2 : ByteArray} {a0_3 : Sl3} {r : (ByteArray × AH)} (h : ref04_write_body L rec_ref04_write m H a0_0 a0_1 a0_2 a0_3 = some r) :
    CallS Tryd.prog (NE.plain 1000) m 59 #[(Value.agg #[(Value.int .i64 a0_0), (Value.int .i64 a0_1), (Value.string a0_2), (Sl3.v a0_3)])] H (ref04_write_enc r) (ref04_write_hp H r) := by
  refine CallS.mk (args := [(Value.agg #[(Value.int .i64 a0_0), (Value.int .i64 a0_1), (Value.string a0_2), (Sl3.v a0_3)])]) Tryd.func59 (B := B59) (by kernel_rfl) (fun E _ => ?_)
  unfold ref04_write_body at h
  refine WS.sq (WS.rg (RS.mL 2 [(2, .val (Value.string (⟨#[]⟩ : ByteArray))), (1, .loc 0 0)] ([some (28, [(Value.int .i64 a0_0), (Value.int .i64 a0_1), (Value.string a0_2), (Sl3.v a0_3)])]) (RS.dn (WS.nxt (WS.sq (WS.sq (WS.rg (RS.mS 2 [(4, .val (Value.int .i64 a0_0)), (3, .loc 0 0)] (RS.dn ?_)))))))))
  refine WS.nxt (WS.bk 0 (WS.sq (WS.rg (RS.mS 2 [(5, .val (Value.bool (decide (a0_0 = 1)))), (6, .val (Value.bool (decide (a0_0 = 1))))] (RS.dn (WS.nxt ?_))))))
  rcases ite_some h with ⟨hp, h⟩ | ⟨hp, h⟩
  · refine WS.fx 5 true (decide_eq_true hp) (WS.cT (WS.sq (WS.rg (RS.mS 1 [(2, .val (Value.string (⟨#[66, 111, 111, 108]⟩ : ByteArray)))] (RS.dn (WS.nxt (WS.rt ?_)))))))
    cases h
    exact fun a w hs => bkR (sqR (rtR (rS hs)))
  · refine WS.fx 5 false (decide_eq_false hp) (WS.cF (WS.sq (WS.rg (RS.mS 2 [(7, .val (Value.bool (decide (a0_0 = 2)))), (8, .val (Value.bool (decide (a0_0 = 2))))] (RS.dn (WS.nxt ?_))))))
    rcases ite_some h with ⟨hp, h⟩ | ⟨hp, h⟩
    · refine WS.fx 7 true (decide_eq_true hp) (WS.cT (WS.sq (WS.rg (RS.mS 1 [(2, .val (Value.string (⟨#[73, 110, 116]⟩ : ByteArray)))] (RS.dn (WS.nxt (WS.rt ?_)))))))
      cases h
      exact fun a w hs => bkR (sqR (rtR (rS hs)))
    · refine WS.fx 7 false (decide_eq_false hp) (WS.cF (WS.sq (WS.rg (RS.mS 2 [(9, .val (Value.bool (decide (a0_0 = 3)))), (10, .val (Value.bool (decide (a0_0 = 3))))] (RS.dn (WS.nxt ?_))))))
      rcases ite_some h with ⟨hp, h⟩ | ⟨hp, h⟩
      · refine WS.fx 9 true (decide_eq_true hp) (WS.cT (WS.sq (WS.rg (RS.mS 2 [(12, .val (Value.int .i64 a0_1)), (11, .loc 0 1)] ?_))))
        obtain ⟨x1, hx, h⟩ := bind_some h
        refine RS.cl (some 13) (v := (Value.string x1)) 92 #[(Value.int .i64 a0_1)] (strconv_Itoa_ok hx) ?_
        obtain ⟨s2, hx, h⟩ := bind_some h
        refine RS.o (H' := H) (some 14) (Value.string s2) (Abs.run_strcat (t := 9) (u := 9) (x := .const (Value.string (⟨#[40, 95, 32, 66, 105, 116, 86, 101, 99, 32]⟩ : ByteArray))) (y := .tmp 13) (a := (⟨#[40, 95, 32, 66, 105, 116, 86, 101, 99, 32]⟩ : ByteArray)) (b := x1) (by kernel_rfl) (by kernel_rfl) (by kernel_rfl) hx) ?_
        obtain ⟨s3, hx, h⟩ := bind_some h
        refine RS.o (H' := H) (some 15) (Value.string s3) (Abs.run_strcat (t := 9) (u := 9) (x := .tmp 14) (y := .const (Value.string (⟨#[41]⟩ : ByteArray))) (a := s2) (b := (⟨#[41]⟩ : ByteArray)) (by kernel_rfl) (by kernel_rfl) (by kernel_rfl) hx) (RS.mS 1 [(2, .val (Value.string s3))] (RS.dn (WS.nxt (WS.rt ?_))))
        cases h
        exact fun a w hs => bkR (sqR (rtR (rS hs)))
      · refine WS.fx 9 false (decide_eq_false hp) (WS.cF (WS.sq (WS.rg (RS.mS 2 [(16, .val (Value.bool (decide (a0_0 = 4)))), (17, .val (Value.bool (decide (a0_0 = 4))))] (RS.dn (WS.nxt ?_))))))
        rcases ite_some h with ⟨hp, h⟩ | ⟨hp, h⟩
        · refine WS.fx 16 true (decide_eq_true hp) (WS.cT (WS.sq ?_))
          refine WS.dr [0, 1, 2, 3, 7, 8, 9, 10] [0, 1, 3, 7, 15, 31, 63, 0, 128, 384, 896, 1951, 4095, 8191, 16383] 15 (fun hcl => ?_)
          refine DA.tL 0 (some 18) (.loc 0 3) (DA.tL 1 (some 19) (.val (Sl3.v a0_3)) ?_)
          obtain ⟨p4, hx, h⟩ := bind_some h
          refine DA.tD 2 (some 20) (Value.pointer (some p4)) (Abs.det_idx (s := a0_3) (k := .i64) (t := 26) (e := 28) (x := .tmp 19) (y := .const (Value.int .i64 0)) (by kernel_rfl) (by kernel_rfl) (by kernel_rfl) (by kernel_rfl) (by kernel_rfl) hx) ?_
          obtain ⟨x5_0, hx0, h⟩ := bind_some h
          obtain ⟨x5_1, hx1, h⟩ := bind_some h
          obtain ⟨x5_2, hx2, h⟩ := bind_some h
          obtain ⟨x5_3, hx3, h⟩ := bind_some h
          refine DA.tD 3 (some 21) (Value.agg #[(Value.int .i64 x5_0), (Value.int .i64 x5_1), (Value.string x5_2), (Sl3.v x5_3)]) (Abs.det_loadA (t := 28) (x := .tmp 20) (a := p4) (k := 4) (by kernel_rfl) (by kernel_rfl) (by kernel_rfl) (by kernel_rfl) (rdc_cons (rd_cell hx0 deI_inv) (rdc_cons (rd_cell hx1 deI_inv) (rdc_cons (rd_cell hx2 deS_inv) (rdc_cons (rd_cell hx3 deSl_inv) rdc_nil))))) (DA.tL 7 (some 25) (.loc 0 3) (DA.tL 8 (some 26) (.val (Sl3.v a0_3)) ?_))
          obtain ⟨p6, hx, h⟩ := bind_some h
          refine DA.tD 9 (some 27) (Value.pointer (some p6)) (Abs.det_idx (s := a0_3) (k := .i64) (t := 26) (e := 28) (x := .tmp 26) (y := .const (Value.int .i64 1)) (by kernel_rfl) (by kernel_rfl) (by kernel_rfl) (by kernel_rfl) (by kernel_rfl) hx) ?_
          obtain ⟨x7_0, hx0, h⟩ := bind_some h
          obtain ⟨x7_1, hx1, h⟩ := bind_some h
          obtain ⟨x7_2, hx2, h⟩ := bind_some h
          obtain ⟨x7_3, hx3, h⟩ := bind_some h
          refine DA.tD 10 (some 28) (Value.agg #[(Value.int .i64 x7_0), (Value.int .i64 x7_1), (Value.string x7_2), (Sl3.v x7_3)]) (Abs.det_loadA (t := 28) (x := .tmp 27) (a := p6) (k := 4) (by kernel_rfl) (by kernel_rfl) (by kernel_rfl) (by kernel_rfl) (rdc_cons (rd_cell hx0 deI_inv) (rdc_cons (rd_cell hx1 deI_inv) (rdc_cons (rd_cell hx2 deS_inv) (rdc_cons (rd_cell hx3 deSl_inv) rdc_nil))))) ?_
          obtain ⟨⟨x8, H9⟩, hx, h⟩ := bind_some h
          try dsimp only at h
          refine DA.on 4 (DA.aCk 4 (some 22) true (v := (Value.string x8)) 59 #[(Value.agg #[(Value.int .i64 x5_0), (Value.int .i64 x5_1), (Value.string x5_2), (Sl3.v x5_3)])] (hrec_ref04_write _ _ _ _ _ _ _ hx) (DA.restart [0, 1, 2, 3, 5, 7, 8, 9, 10] (by kernel_rfl) ?_))
          obtain ⟨s10, hx, h⟩ := bind_some h
          refine DA.tD 5 (some 23) (Value.string s10) (Abs.det_strcat (t := 9) (u := 9) (x := .const (Value.string (⟨#[40, 65, 114, 114, 97, 121, 32]⟩ : ByteArray))) (y := .tmp 22) (a := (⟨#[40, 65, 114, 114, 97, 121, 32]⟩ : ByteArray)) (b := x8) (by kernel_rfl) (by kernel_rfl) (by kernel_rfl) hx) (DA.restart [0, 1, 2, 3, 5, 6, 7, 8, 9, 10] (by kernel_rfl) ?_)
          obtain ⟨s11, hx, h⟩ := bind_some h
          refine DA.tD 6 (some 24) (Value.string s11) (Abs.det_strcat (t := 9) (u := 9) (x := .tmp 23) (y := .const (Value.string (⟨#[32]⟩ : ByteArray))) (a := s10) (b := (⟨#[32]⟩ : ByteArray)) (by kernel_rfl) (by kernel_rfl) (by kernel_rfl) hx) ?_
          obtain ⟨⟨x12, H13⟩, hx, h⟩ := bind_some h
          try dsimp only at h
          refine DA.on 11 (DA.aCk 11 (some 29) false (v := (Value.string x12)) 59 #[(Value.agg #[(Value.int .i64 x7_0), (Value.int .i64 x7_1), (Value.string x7_2), (Sl3.v x7_3)])] (hrec_ref04_write _ _ _ _ _ _ _ hx) ?_)
          obtain ⟨s14, hx, h⟩ := bind_some h
          refine DA.tPx 12 (some 30) (Value.string s14) (Abs.det_strcat (t := 9) (u := 9) (x := .tmp 24) (y := .tmp 29) (a := s11) (b := x12) (by kernel_rfl) (by kernel_rfl) (by kernel_rfl) hx) ?_
          obtain ⟨s15, hx, h⟩ := bind_some h
          refine DA.tPx 13 (some 31) (Value.string s15) (Abs.det_strcat (t := 9) (u := 9) (x := .tmp 30) (y := .const (Value.string (⟨#[41]⟩ : ByteArray))) (a := s14) (b := (⟨#[41]⟩ : ByteArray)) (by kernel_rfl) (by kernel_rfl) (by kernel_rfl) hx) (DA.tP 14 (some 2) (Value.string s15) (DA.dn (WS.nxt (WS.rt ?_))))
          cases h
          exact fun a w hs => bkR (sqR (rtR (rS hs)))
        · refine WS.fx 16 false (decide_eq_false hp) (WS.cF (WS.sk ?_))
          refine fun a w hs => bkN ((WS.nxt ?_ a w hs))
          refine WS.sq (WS.rg (RS.mS 2 [(33, .val (Value.string a0_2)), (32, .loc 0 2)] ?_))
          obtain ⟨⟨x16, H17⟩, hx, h⟩ := bind_some h
          try dsimp only at h
          refine RS.cl (some 34) (v := (Value.string x16)) 16 #[(Value.string a0_2)] (ref04_Quote_ok hx) (RS.mS 1 [(2, .val (Value.string x16))] (RS.dn (WS.nxt (WS.rt ?_))))
          cases h
          exact fun a w hs => rtR (rS hs)

theorem fam_ref04_write_ok {L : LC} : ∀ n, (∀ (m : Nat) (H : AH) (a0_0 : Int) (a0_1 : Int) (a0_2 : ByteArray) (a0_3 : Sl3) (r : (ByteArray × AH)), ((fam_ref04_write L n)) m H a0_0 a0_1 a0_2 a0_3 = some r → CallS Tryd.prog (NE.plain 1000) m 59 #[(Value.agg #[(Value.int .i64 a0_0), (Value.int .i64 a0_1), (Value.string a0_2), (Sl3.v a0_3)])] H (ref04_write_enc r) (ref04_write_hp H r)) := by
  intro n
  induction n with
  | zero => exact (fun _ _ _ _ _ _ _ h => (Option.some_ne_none _ h.symm).elim)
  | succ n ih => exact (fun _ _ _ _ _ _ _ h => ref04_write_body_ok (L := L) ih h)

theorem ref04_write_ok {L : LC} {m : Nat} {H : AH} {a0_0 : Int} {a0_1 : Int} {a0_2 : ByteArray} {a0_3 : Sl3} {r : (ByteArray × AH)} (h : ref04_write L m H a0_0 a0_1 a0_2 a0_3 = some r) :
    CallS Tryd.prog (NE.plain 1000) m 59 #[(Value.agg #[(Value.int .i64 a0_0), (Value.int .i64 a0_1), (Value.string a0_2), (Sl3.v a0_3)])] H (ref04_write_enc r) (ref04_write_hp H r) :=
  (fam_ref04_write_ok _) _ _ _ _ _ _ _ h

def ref04_Text_enc : (ByteArray × Int × AH) → Value
  | (r0, r1, _) => (Value.tuple #[(Value.string r0), (Value.int .i64 r1)])

def ref04_Text_hp (_ : AH) : (ByteArray × Int × AH) → AH := fun r => r.2.2

noncomputable def B29 : Code := (Tryd.f29.body).getD .skip

noncomputable def ref04_Text (L : LC) (m : Nat) (H : AH) (a0_0 : Int) (a0_1 : Int) (a0_2 : ByteArray) (a0_3 : Sl3) : Option (ByteArray × Int × AH) :=
  Option.bind (ref04_fits L H a0_0 a0_1 a0_2 a0_3) fun x1 =>
  if x1 = 0 then
    Option.bind (ref04_write L m H a0_0 a0_1 a0_2 a0_3) fun (x2, H3) =>
    some (x2, 0, H3)
  else
    some ((⟨#[]⟩ : ByteArray), x1, H)

theorem ref04_Text_ok {L : LC} {m : Nat} {H : AH} {a0_0 : Int} {a0_1 : Int} {a0_2 : ByteArray} {a0_3 : Sl3} {r : (ByteArray × Int × AH)} (h : ref04_Text L m H a0_0 a0_1 a0_2 a0_3 = some r) :
    CallS Tryd.prog (NE.plain 1000) m 29 #[(Value.agg #[(Value.int .i64 a0_0), (Value.int .i64 a0_1), (Value.string a0_2), (Sl3.v a0_3)])] H (ref04_Text_enc r) (ref04_Text_hp H r) := by
  refine CallS.mk (args := [(Value.agg #[(Value.int .i64 a0_0), (Value.int .i64 a0_1), (Value.string a0_2), (Sl3.v a0_3)])]) Tryd.func29 (B := B29) (by kernel_rfl) (fun E _ => ?_)
  unfold ref04_Text at h
  refine WS.sq (WS.rg (RS.mL 3 [(3, .val (Value.int .i64 0)), (2, .val (Value.string (⟨#[]⟩ : ByteArray))), (1, .loc 0 0)] ([some (28, [(Value.int .i64 a0_0), (Value.int .i64 a0_1), (Value.string a0_2), (Sl3.v a0_3)])]) (RS.dn (WS.nxt (WS.sq (WS.rg (RS.mS 1 [(5, .val (Value.agg #[(Value.int .i64 a0_0), (Value.int .i64 a0_1), (Value.string a0_2), (Sl3.v a0_3)]))] ?_)))))))
  obtain ⟨x1, hx, h⟩ := bind_some h
  refine RS.cl (some 6) (v := (Value.int .i64 x1)) 38 #[(Value.agg #[(Value.int .i64 a0_0), (Value.int .i64 a0_1), (Value.string a0_2), (Sl3.v a0_3)])] (ref04_fits_ok hx) (RS.mS 1 [(4, .val (Value.int .i64 x1))] (RS.dn (WS.nxt (WS.sq (WS.sq (WS.rg (RS.mS 2 [(8, .val (Value.bool (!decide (x1 = 0)))), (7, .val (Value.int .i64 x1))] (RS.dn (WS.nxt ?_)))))))))
  rcases ite_some h with ⟨hp, h⟩ | ⟨hp, h⟩
  · refine WS.fx 8 false (dec_not hp) (WS.cF (WS.sk (WS.nxt (WS.sq (WS.rg (RS.mS 1 [(10, .val (Value.agg #[(Value.int .i64 a0_0), (Value.int .i64 a0_1), (Value.string a0_2), (Sl3.v a0_3)]))] ?_))))))
    obtain ⟨⟨x2, H3⟩, hx, h⟩ := bind_some h
    try dsimp only at h
    refine RS.cl (some 11) (v := (Value.string x2)) 59 #[(Value.agg #[(Value.int .i64 a0_0), (Value.int .i64 a0_1), (Value.string a0_2), (Sl3.v a0_3)])] (ref04_write_ok hx) (RS.mS 2 [(3, .val (Value.int .i64 0)), (2, .val (Value.string x2))] (RS.dn (WS.nxt (WS.rt ?_))))
    cases h
    exact fun a w hs => rtR (rS hs)
  · refine WS.fx 8 true (dec_not' hp) (WS.cT (WS.sq (WS.rg (RS.mS 3 [(3, .val (Value.int .i64 x1)), (2, .val (Value.string (⟨#[]⟩ : ByteArray))), (9, .val (Value.int .i64 x1))] (RS.dn (WS.nxt (WS.rt ?_)))))))
    cases h
    exact fun a w hs => sqR (rtR (rS hs))

def sort_Same_enc : Bool → Value
  | r0 => (Value.bool r0)

def sort_Same_hp (H : AH) : Bool → AH := fun _ => H

def slices_EqualFunc__30_enc : Bool → Value
  | r0 => (Value.bool r0)

def slices_EqualFunc__30_hp (H : AH) : Bool → AH := fun _ => H

noncomputable def B30 : Code := (Tryd.f30.body).getD .skip

noncomputable def sort_Same_body (_L : LC) (rec_slices_EqualFunc__30 : AH → Sl3 → Sl3 → Option Bool) (H : AH) (a0_0 : Int) (a0_1 : Int) (a0_2 : ByteArray) (a0_3 : Sl3) (a1_0 : Int) (a1_1 : Int) (a1_2 : ByteArray) (a1_3 : Sl3) : Option Bool :=
  if a0_0 = a1_0 then
    if a0_1 = a1_1 then
      if (a0_2.toList == a1_2.toList) = true then
        Option.bind (rec_slices_EqualFunc__30 H a0_3 a1_3) fun x1 =>
        some x1
      else
        some false
    else
      some false
  else
    some false

noncomputable def B60 : Code := (Tryd.f60.body).getD .skip

noncomputable def slices_EqualFunc__30_b0 (_L : LC) (rec_sort_Same : AH → Int → Int → ByteArray → Sl3 → Int → Int → ByteArray → Sl3 → Option Bool) (H : AH) (a0 : Sl3) (a1 : Sl3) : Int → Option (Lp Int Bool) := fun v17_1 =>
  if v17_1 < (a0.n : Int) then
    Option.bind (idxA 4 a0 v17_1) fun p2 =>
    Option.bind (rd (deI .i64) H (Addr.add p2 0)) fun x3_0 =>
    Option.bind (rd (deI .i64) H (Addr.add p2 1)) fun x3_1 =>
    Option.bind (rd deS H (Addr.add p2 2)) fun x3_2 =>
    Option.bind (rd deSl H (Addr.add p2 3)) fun x3_3 =>
    Option.bind (idxA 4 a1 v17_1) fun p4 =>
    Option.bind (rd (deI .i64) H (Addr.add p4 0)) fun x5_0 =>
    Option.bind (rd (deI .i64) H (Addr.add p4 1)) fun x5_1 =>
    Option.bind (rd deS H (Addr.add p4 2)) fun x5_2 =>
    Option.bind (rd deSl H (Addr.add p4 3)) fun x5_3 =>
    Option.bind (rec_sort_Same H x3_0 x3_1 x3_2 x3_3 x5_0 x5_1 x5_2 x5_3) fun x6 =>
    if x6 = true then
      some (.next (IntKind.i64.wrap (v17_1 + 1)))
    else
      some (.ret false)
  else
    some (.brk v17_1)

def slices_EqualFunc__30_b0_kn (_L : LC) (_rec_sort_Same : AH → Int → Int → ByteArray → Sl3 → Int → Int → ByteArray → Sl3 → Option Bool) (_H : AH) (a0 : Sl3) (a1 : Sl3) : Int → KN := fun v17_1 => [(17, .val (Value.int .i64 v17_1)), (1, .val (Sl3.v a1)), (2, .val (Value.func (.func 30) #[] #[])), (15, .val (Sl3.v a0)), (16, .val (Value.int .i64 (a0.n : Int)))]

def slices_EqualFunc__30_b0_ls (_L : LC) (_rec_sort_Same : AH → Int → Int → ByteArray → Sl3 → Int → Int → ByteArray → Sl3 → Option Bool) (_H : AH) (_a0 : Sl3) (_a1 : Sl3) : Int → Lcs := fun _ => []

noncomputable def slices_EqualFunc__30_body (L : LC) (rec_sort_Same : AH → Int → Int → ByteArray → Sl3 → Int → Int → ByteArray → Sl3 → Option Bool) (H : AH) (a0 : Sl3) (a1 : Sl3) : Option Bool :=
  if (a0.n : Int) = (a1.n : Int) then
    Option.bind (L.run (slices_EqualFunc__30_b0 L rec_sort_Same H a0 a1) 0) fun o => match o with
    | .inl _ =>
      some true
    | .inr r => some r
  else
    some false

noncomputable def fam_sort_Same (L : LC) (n : Nat) : (AH → Int → Int → ByteArray → Sl3 → Int → Int → ByteArray → Sl3 → Option Bool) × (AH → Sl3 → Sl3 → Option Bool) := Nat.rec (motive := fun _ => (AH → Int → Int → ByteArray → Sl3 → Int → Int → ByteArray → Sl3 → Option Bool) × (AH → Sl3 → Sl3 → Option Bool)) ((fun _ _ _ _ _ _ _ _ _ => none), (fun _ _ _ => none)) (fun _ p => (sort_Same_body L p.2, slices_EqualFunc__30_body L p.1)) n

noncomputable def sort_Same (L : LC) (H : AH) (a0_0 : Int) (a0_1 : Int) (a0_2 : ByteArray) (a0_3 : Sl3) (a1_0 : Int) (a1_1 : Int) (a1_2 : ByteArray) (a1_3 : Sl3) : Option Bool := ((fam_sort_Same L L.fuel).1) H a0_0 a0_1 a0_2 a0_3 a1_0 a1_1 a1_2 a1_3

theorem sort_Same_body_ok {L : LC} {rec_slices_EqualFunc__30 : AH → Sl3 → Sl3 → Option Bool} (hrec_slices_EqualFunc__30 : ∀ (m : Nat) (H : AH) (a0 : Sl3) (a1 : Sl3) (r : Bool), rec_slices_EqualFunc__30 H a0 a1 = some r → CallS Tryd.prog (NE.plain 1000) m 60 #[(Sl3.v a0), (Sl3.v a1), (Value.func (.func 30) #[] #[])] H (slices_EqualFunc__30_enc r) (slices_EqualFunc__30_hp H r)) {m : Nat} {H : AH} {a0_0 : Int} {a0_1 : Int} {a0_2 : ByteArray} {a0_3 : Sl3} {a1_0 : Int} {a1_1 : Int} {a1_2 : ByteArray} {a1_3 : Sl3} {r : Bool} (h : sort_Same_body L rec_slices_EqualFunc__30 H a0_0 a0_1 a0_2 a0_3 a1_0 a1_1 a1_2 a1_3 = some r) :
    CallS Tryd.prog (NE.plain 1000) m 30 #[(Value.agg #[(Value.int .i64 a0_0), (Value.int .i64 a0_1), (Value.string a0_2), (Sl3.v a0_3)]), (Value.agg #[(Value.int .i64 a1_0), (Value.int .i64 a1_1), (Value.string a1_2), (Sl3.v a1_3)])] H (sort_Same_enc r) (sort_Same_hp H r) := by
  refine CallS.mk (args := [(Value.agg #[(Value.int .i64 a0_0), (Value.int .i64 a0_1), (Value.string a0_2), (Sl3.v a0_3)]), (Value.agg #[(Value.int .i64 a1_0), (Value.int .i64 a1_1), (Value.string a1_2), (Sl3.v a1_3)])]) Tryd.func30 (B := B30) (by kernel_rfl) (fun E _ => ?_)
  unfold sort_Same_body at h
  refine WS.sq (WS.rg (RS.mL 3 [(4, .val (Value.bool false)), (3, .loc 1 0), (2, .loc 0 0)] ([some (28, [(Value.int .i64 a0_0), (Value.int .i64 a0_1), (Value.string a0_2), (Sl3.v a0_3)]), some (28, [(Value.int .i64 a1_0), (Value.int .i64 a1_1), (Value.string a1_2), (Sl3.v a1_3)])]) (RS.dn (WS.nxt (WS.sq (WS.rg (RS.mS 6 [(10, .val (Value.bool (decide (a0_0 = a1_0)))), (9, .val (Value.bool (decide (a0_0 = a1_0)))), (8, .val (Value.int .i64 a1_0)), (7, .loc 1 0), (6, .val (Value.int .i64 a0_0)), (5, .loc 0 0)] ?_)))))))
  rcases ite_some h with ⟨hp, h⟩ | ⟨hp, h⟩
  · refine RS.fx 10 true (decide_eq_true hp) (RS.mS 7 [(17, .val (Value.bool (decide (a0_1 = a1_1)))), (16, .val (Value.bool (decide (a0_1 = a1_1)))), (15, .val (Value.bool (decide (a0_1 = a1_1)))), (14, .val (Value.int .i64 a1_1)), (13, .loc 1 1), (12, .val (Value.int .i64 a0_1)), (11, .loc 0 1)] ?_)
    rcases ite_some h with ⟨hp, h⟩ | ⟨hp, h⟩
    · refine RS.fx 17 true (decide_eq_true hp) (RS.mS 7 [(24, .val (Value.bool (a0_2.toList == a1_2.toList))), (23, .val (Value.bool (a0_2.toList == a1_2.toList))), (22, .val (Value.bool (a0_2.toList == a1_2.toList))), (21, .val (Value.string a1_2)), (20, .loc 1 2), (19, .val (Value.string a0_2)), (18, .loc 0 2)] ?_)
      rcases ite_some h with ⟨hp, h⟩ | ⟨hp, h⟩
      · refine RS.fx 24 true hp (RS.mS 4 [(28, .val (Sl3.v a1_3)), (27, .loc 1 3), (26, .val (Sl3.v a0_3)), (25, .loc 0 3)] ?_)
        obtain ⟨x1, hx, h⟩ := bind_some h
        refine RS.cl (some 29) (v := (Value.bool x1)) 60 #[(Sl3.v a0_3), (Sl3.v a1_3), (Value.func (.func 30) #[] #[])] (hrec_slices_EqualFunc__30 _ _ _ _ _ hx) (RS.mS 2 [(4, .val (Value.bool x1)), (30, .val (Value.bool x1))] (RS.dn (WS.nxt (WS.rt ?_))))
        cases h
        exact fun a w hs => rtR (rS hs)
      · refine RS.fx 24 false (b_not hp) (RS.mS 7 [(4, .val (Value.bool false)), (30, .val (Value.bool false)), (29, .val undef), (28, .val undef), (27, .val undef), (26, .val undef), (25, .val undef)] (RS.dn (WS.nxt (WS.rt ?_))))
        cases h
        exact fun a w hs => rtR (rS hs)
    · refine RS.fx 17 false (decide_eq_false hp) (RS.mS 14 [(4, .val (Value.bool false)), (30, .val (Value.bool false)), (29, .val undef), (28, .val undef), (27, .val undef), (26, .val undef), (25, .val undef), (24, .val (Value.bool false)), (23, .val (Value.bool false)), (22, .val undef), (21, .val undef), (20, .val undef), (19, .val undef), (18, .val undef)] (RS.dn (WS.nxt (WS.rt ?_))))
      cases h
      exact fun a w hs => rtR (rS hs)
  · refine RS.fx 10 false (decide_eq_false hp) (RS.mS 21 [(4, .val (Value.bool false)), (30, .val (Value.bool false)), (29, .val undef), (28, .val undef), (27, .val undef), (26, .val undef), (25, .val undef), (24, .val (Value.bool false)), (23, .val (Value.bool false)), (22, .val undef), (21, .val undef), (20, .val undef), (19, .val undef), (18, .val undef), (17, .val (Value.bool false)), (16, .val (Value.bool false)), (15, .val undef), (14, .val undef), (13, .val undef), (12, .val undef), (11, .val undef)] (RS.dn (WS.nxt (WS.rt ?_))))
    cases h
    exact fun a w hs => rtR (rS hs)

theorem slices_EqualFunc__30_b0_ok {E : Ent} {m : Nat} {L : LC} {rec_sort_Same : AH → Int → Int → ByteArray → Sl3 → Int → Int → ByteArray → Sl3 → Option Bool} {H : AH} {a0 : Sl3} {a1 : Sl3} (hrec_sort_Same : ∀ (m : Nat) (H : AH) (a0_0 : Int) (a0_1 : Int) (a0_2 : ByteArray) (a0_3 : Sl3) (a1_0 : Int) (a1_1 : Int) (a1_2 : ByteArray) (a1_3 : Sl3) (r : Bool), rec_sort_Same H a0_0 a0_1 a0_2 a0_3 a1_0 a1_1 a1_2 a1_3 = some r → CallS Tryd.prog (NE.plain 1000) m 30 #[(Value.agg #[(Value.int .i64 a0_0), (Value.int .i64 a0_1), (Value.string a0_2), (Sl3.v a0_3)]), (Value.agg #[(Value.int .i64 a1_0), (Value.int .i64 a1_1), (Value.string a1_2), (Sl3.v a1_3)])] H (sort_Same_enc r) (sort_Same_hp H r)) : ∀ s o, slices_EqualFunc__30_b0 L rec_sort_Same H a0 a1 s = some o →
    WS Tryd.prog (NE.plain 1000) m E Tryd.f60.ntmps (cfst (cfst (csnd (cfst (csnd (csnd B60)))))) (slices_EqualFunc__30_b0_kn L rec_sort_Same H a0 a1 s) (slices_EqualFunc__30_b0_ls L rec_sort_Same H a0 a1 s) ((fun _ => H) s) (lpS Tryd.prog (NE.plain 1000) m E Tryd.f60.ntmps (slices_EqualFunc__30_b0_kn L rec_sort_Same H a0 a1) (slices_EqualFunc__30_b0_ls L rec_sort_Same H a0 a1) (fun _ => H) 0 (fun r => RT Tryd.prog (NE.plain 1000) m E Tryd.f60 (slices_EqualFunc__30_enc r) (slices_EqualFunc__30_hp H r)) o) := by
  rintro v17_1 o h
  unfold slices_EqualFunc__30_b0 at h
  try dsimp only at h
  refine WS.sq (WS.rg (RS.mS 1 [(18, .val (Value.bool (decide (v17_1 < (a0.n : Int)))))] (RS.dn (WS.nxt (WS.sq ?_)))))
  rcases ite_some h with ⟨hp, h⟩ | ⟨hp, h⟩
  · refine WS.fx 18 true (decide_eq_true hp) (WS.cT (WS.sk (WS.nxt (WS.sq (WS.bk 1 (WS.sq (WS.rg (RS.mS 1 [(19, .val (Value.int .i64 v17_1))] ?_))))))))
    obtain ⟨p2, hx, h⟩ := bind_some h
    refine RS.o (H' := H) (some 20) (Value.pointer (some p2)) (Abs.run_idx (s := a0) (k := .i64) (t := 26) (e := 28) (x := .tmp 15) (y := .tmp 17) (by kernel_rfl) (by kernel_rfl) (by kernel_rfl) (by kernel_rfl) (by kernel_rfl) hx) ?_
    obtain ⟨x3_0, hx0, h⟩ := bind_some h
    obtain ⟨x3_1, hx1, h⟩ := bind_some h
    obtain ⟨x3_2, hx2, h⟩ := bind_some h
    obtain ⟨x3_3, hx3, h⟩ := bind_some h
    refine RS.o (H' := H) (some 21) (Value.agg #[(Value.int .i64 x3_0), (Value.int .i64 x3_1), (Value.string x3_2), (Sl3.v x3_3)]) (Abs.run_loadAg (t := 28) (x := .tmp 20) (a := p2) (k := 4) (by kernel_rfl) (by kernel_rfl) (by kernel_rfl) (by kernel_rfl) (rdc_cons (rd_cell hx0 deI_inv) (rdc_cons (rd_cell hx1 deI_inv) (rdc_cons (rd_cell hx2 deS_inv) (rdc_cons (rd_cell hx3 deSl_inv) rdc_nil))))) (RS.mL 3 [(7, .val (Value.int .i64 v17_1)), (8, .loc 0 0)] ([some (28, [(Value.int .i64 x3_0), (Value.int .i64 x3_1), (Value.string x3_2), (Sl3.v x3_3)])]) (RS.dn (WS.nxt (WS.sq (WS.rg (RS.mS 2 [(23, .val (Value.int .i64 v17_1)), (22, .val (Sl3.v a1))] ?_))))))
    obtain ⟨p4, hx, h⟩ := bind_some h
    refine RS.o (H' := H) (some 24) (Value.pointer (some p4)) (Abs.run_idx (s := a1) (k := .i64) (t := 26) (e := 28) (x := .tmp 22) (y := .tmp 23) (by kernel_rfl) (by kernel_rfl) (by kernel_rfl) (by kernel_rfl) (by kernel_rfl) hx) ?_
    obtain ⟨x5_0, hx0, h⟩ := bind_some h
    obtain ⟨x5_1, hx1, h⟩ := bind_some h
    obtain ⟨x5_2, hx2, h⟩ := bind_some h
    obtain ⟨x5_3, hx3, h⟩ := bind_some h
    refine RS.o (H' := H) (some 25) (Value.agg #[(Value.int .i64 x5_0), (Value.int .i64 x5_1), (Value.string x5_2), (Sl3.v x5_3)]) (Abs.run_loadAg (t := 28) (x := .tmp 24) (a := p4) (k := 4) (by kernel_rfl) (by kernel_rfl) (by kernel_rfl) (by kernel_rfl) (rdc_cons (rd_cell hx0 deI_inv) (rdc_cons (rd_cell hx1 deI_inv) (rdc_cons (rd_cell hx2 deS_inv) (rdc_cons (rd_cell hx3 deSl_inv) rdc_nil))))) (RS.mL 2 [(9, .loc 1 0)] ([some (28, [(Value.int .i64 x3_0), (Value.int .i64 x3_1), (Value.string x3_2), (Sl3.v x3_3)]), some (28, [(Value.int .i64 x5_0), (Value.int .i64 x5_1), (Value.string x5_2), (Sl3.v x5_3)])]) (RS.dn (WS.nxt (WS.sq (WS.rg (RS.mS 3 [(28, .val (Value.agg #[(Value.int .i64 x5_0), (Value.int .i64 x5_1), (Value.string x5_2), (Sl3.v x5_3)])), (27, .val (Value.agg #[(Value.int .i64 x3_0), (Value.int .i64 x3_1), (Value.string x3_2), (Sl3.v x3_3)])), (26, .val (Value.func (.func 30) #[] #[]))] ?_))))))
    obtain ⟨x6, hx, h⟩ := bind_some h
    refine RS.cl (some 29) (v := (Value.bool x6)) 30 #[(Value.agg #[(Value.int .i64 x3_0), (Value.int .i64 x3_1), (Value.string x3_2), (Sl3.v x3_3)]), (Value.agg #[(Value.int .i64 x5_0), (Value.int .i64 x5_1), (Value.string x5_2), (Sl3.v x5_3)])] (hrec_sort_Same _ _ _ _ _ _ _ _ _ _ _ hx) (RS.mS 1 [(30, .val (Value.bool (!x6)))] (RS.dn (WS.nxt ?_)))
    rcases ite_some h with ⟨hp, h⟩ | ⟨hp, h⟩
    · refine WS.fx 30 false (nb_not hp) (WS.cF (WS.sk ?_))
      refine fun a w hs => bkN ((WS.nxt ?_ a w hs))
      refine WS.rg (RS.mS 2 [(17, .val (Value.int .i64 (IntKind.i64.wrap (v17_1 + 1)))), (31, .val (Value.int .i64 (IntKind.i64.wrap (v17_1 + 1))))] (RS.dn ?_))
      cases h
      exact fun a w hs => lsN rfl (hs.sb 0)
    · refine WS.fx 30 true (nb_not' hp) (WS.cT (WS.sq (WS.rg (RS.mS 1 [(6, .val (Value.bool false))] (RS.dn (WS.nxt (WS.rt ?_)))))))
      cases h
      exact fun a w hs => bkR (sqR (lsR rfl (rS hs)))
  · refine WS.fx 18 false (decide_eq_false hp) (WS.cF (WS.ex 0 ?_))
    cases h
    exact fun a w hs => sqE (lsB rfl (hs.sb 0))

theorem slices_EqualFunc__30_body_ok {L : LC} {rec_sort_Same : AH → Int → Int → ByteArray → Sl3 → Int → Int → ByteArray → Sl3 → Option Bool} (hrec_sort_Same : ∀ (m : Nat) (H : AH) (a0_0 : Int) (a0_1 : Int) (a0_2 : ByteArray) (a0_3 : Sl3) (a1_0 : Int) (a1_1 : Int) (a1_2 : ByteArray) (a1_3 : Sl3) (r : Bool), rec_sort_Same H a0_0 a0_1 a0_2 a0_3 a1_0 a1_1 a1_2 a1_3 = some r → CallS Tryd.prog (NE.plain 1000) m 30 #[(Value.agg #[(Value.int .i64 a0_0), (Value.int .i64 a0_1), (Value.string a0_2), (Sl3.v a0_3)]), (Value.agg #[(Value.int .i64 a1_0), (Value.int .i64 a1_1), (Value.string a1_2), (Sl3.v a1_3)])] H (sort_Same_enc r) (sort_Same_hp H r)) {m : Nat} {H : AH} {a0 : Sl3} {a1 : Sl3} {r : Bool} (h : slices_EqualFunc__30_body L rec_sort_Same H a0 a1 = some r) :
    CallS Tryd.prog (NE.plain 1000) m 60 #[(Sl3.v a0), (Sl3.v a1), (Value.func (.func 30) #[] #[])] H (slices_EqualFunc__30_enc r) (slices_EqualFunc__30_hp H r) := by
  refine CallS.mk (args := [(Sl3.v a0), (Sl3.v a1), (Value.func (.func 30) #[] #[])]) Tryd.func60 (B := B60) (by kernel_rfl) (fun E _ => ?_)
  unfold slices_EqualFunc__30_body at h
  refine WS.sq (WS.rg (RS.mS 1 [(6, .val (Value.bool false))] (RS.dn (WS.nxt (WS.sq (WS.sq (WS.rg (RS.mS 5 [(14, .val (Value.bool (!decide ((a0.n : Int) = (a1.n : Int))))), (13, .val (Value.int .i64 (a1.n : Int))), (12, .val (Sl3.v a1)), (11, .val (Value.int .i64 (a0.n : Int))), (10, .val (Sl3.v a0))] (RS.dn ?_)))))))))
  refine WS.nxt ?_
  rcases ite_some h with ⟨hp, h⟩ | ⟨hp, h⟩
  · refine WS.fx 14 false (dec_not hp) (WS.cF (WS.sk (WS.nxt (WS.sq (WS.sq (WS.rg (RS.mS 3 [(17, .val (Value.int .i64 0)), (16, .val (Value.int .i64 (a0.n : Int))), (15, .val (Sl3.v a0))] (RS.dn (WS.nxt ?_)))))))))
    refine WS.bk 0 ?_
    obtain ⟨o, hl, h⟩ := bind_some h
    rcases o with v17_7 | r
    · try dsimp only at h
      refine WS.lI (slices_EqualFunc__30_b0_ok (L := L) (E := E) (m := m) (H := H) hrec_sort_Same) (L.ok hl) 0 ?_
      clear hl
      refine fun a w hs => bkE ((WS.nxt ?_ a w hs))
      refine WS.sq (WS.rg (RS.mS 1 [(6, .val (Value.bool true))] (RS.dn (WS.nxt (WS.rt ?_)))))
      cases h
      exact fun a w hs => rtR (rS hs)
    · try dsimp only at h
      refine WS.lR (slices_EqualFunc__30_b0_ok (L := L) (E := E) (m := m) (H := H) hrec_sort_Same) (L.ok hl) 0 ?_
      cases h
      exact fun a w hq => bkR (sqR (rtR hq))
  · refine WS.fx 14 true (dec_not' hp) (WS.cT (WS.sq (WS.rg (RS.mS 1 [(6, .val (Value.bool false))] (RS.dn (WS.nxt (WS.rt ?_)))))))
    cases h
    exact fun a w hs => sqR (rtR (rS hs))

theorem fam_sort_Same_ok {L : LC} : ∀ n, (∀ (m : Nat) (H : AH) (a0_0 : Int) (a0_1 : Int) (a0_2 : ByteArray) (a0_3 : Sl3) (a1_0 : Int) (a1_1 : Int) (a1_2 : ByteArray) (a1_3 : Sl3) (r : Bool), ((fam_sort_Same L n).1) H a0_0 a0_1 a0_2 a0_3 a1_0 a1_1 a1_2 a1_3 = some r → CallS Tryd.prog (NE.plain 1000) m 30 #[(Value.agg #[(Value.int .i64 a0_0), (Value.int .i64 a0_1), (Value.string a0_2), (Sl3.v a0_3)]), (Value.agg #[(Value.int .i64 a1_0), (Value.int .i64 a1_1), (Value.string a1_2), (Sl3.v a1_3)])] H (sort_Same_enc r) (sort_Same_hp H r)) ∧ (∀ (m : Nat) (H : AH) (a0 : Sl3) (a1 : Sl3) (r : Bool), ((fam_sort_Same L n).2) H a0 a1 = some r → CallS Tryd.prog (NE.plain 1000) m 60 #[(Sl3.v a0), (Sl3.v a1), (Value.func (.func 30) #[] #[])] H (slices_EqualFunc__30_enc r) (slices_EqualFunc__30_hp H r)) := by
  intro n
  induction n with
  | zero => exact ⟨(fun _ _ _ _ _ _ _ _ _ _ _ h => (Option.some_ne_none _ h.symm).elim), (fun _ _ _ _ _ h => (Option.some_ne_none _ h.symm).elim)⟩
  | succ n ih => exact ⟨(fun _ _ _ _ _ _ _ _ _ _ _ h => sort_Same_body_ok (L := L) ih.2 h), (fun _ _ _ _ _ h => slices_EqualFunc__30_body_ok (L := L) ih.1 h)⟩

theorem sort_Same_ok {L : LC} {m : Nat} {H : AH} {a0_0 : Int} {a0_1 : Int} {a0_2 : ByteArray} {a0_3 : Sl3} {a1_0 : Int} {a1_1 : Int} {a1_2 : ByteArray} {a1_3 : Sl3} {r : Bool} (h : sort_Same L H a0_0 a0_1 a0_2 a0_3 a1_0 a1_1 a1_2 a1_3 = some r) :
    CallS Tryd.prog (NE.plain 1000) m 30 #[(Value.agg #[(Value.int .i64 a0_0), (Value.int .i64 a0_1), (Value.string a0_2), (Sl3.v a0_3)]), (Value.agg #[(Value.int .i64 a1_0), (Value.int .i64 a1_1), (Value.string a1_2), (Sl3.v a1_3)])] H (sort_Same_enc r) (sort_Same_hp H r) :=
  ((fam_sort_Same_ok _).1) _ _ _ _ _ _ _ _ _ _ _ h

def ref04_Same_enc : Bool → Value
  | r0 => (Value.bool r0)

def ref04_Same_hp (H : AH) : Bool → AH := fun _ => H

noncomputable def B31 : Code := (Tryd.f31.body).getD .skip

noncomputable def ref04_Same_b0 (_L : LC) (rec_ref04_Same : AH → Int → Int → ByteArray → Sl3 → Int → Int → ByteArray → Sl3 → Option Bool) (H : AH) (_a0_0 : Int) (_a0_1 : Int) (_a0_2 : ByteArray) (a0_3 : Sl3) (_a1_0 : Int) (_a1_1 : Int) (_a1_2 : ByteArray) (a1_3 : Sl3) : Int → Option (Lp Int Bool) := fun v5_2 =>
  if v5_2 < (a0_3.n : Int) then
    Option.bind (idxA 4 a0_3 v5_2) fun p3 =>
    Option.bind (rd (deI .i64) H (Addr.add p3 0)) fun x4_0 =>
    Option.bind (rd (deI .i64) H (Addr.add p3 1)) fun x4_1 =>
    Option.bind (rd deS H (Addr.add p3 2)) fun x4_2 =>
    Option.bind (rd deSl H (Addr.add p3 3)) fun x4_3 =>
    Option.bind (idxA 4 a1_3 v5_2) fun p5 =>
    Option.bind (rd (deI .i64) H (Addr.add p5 0)) fun x6_0 =>
    Option.bind (rd (deI .i64) H (Addr.add p5 1)) fun x6_1 =>
    Option.bind (rd deS H (Addr.add p5 2)) fun x6_2 =>
    Option.bind (rd deSl H (Addr.add p5 3)) fun x6_3 =>
    Option.bind (rec_ref04_Same H x4_0 x4_1 x4_2 x4_3 x6_0 x6_1 x6_2 x6_3) fun x7 =>
    if x7 = true then
      some (.next (IntKind.i64.wrap (v5_2 + 1)))
    else
      some (.ret false)
  else
    some (.brk v5_2)

def ref04_Same_b0_kn (_L : LC) (_rec_ref04_Same : AH → Int → Int → ByteArray → Sl3 → Int → Int → ByteArray → Sl3 → Option Bool) (_H : AH) (_a0_0 : Int) (_a0_1 : Int) (_a0_2 : ByteArray) (_a0_3 : Sl3) (_a1_0 : Int) (_a1_1 : Int) (_a1_2 : ByteArray) (_a1_3 : Sl3) : Int → KN := fun v5_2 => [(5, .val (Value.int .i64 v5_2)), (2, .loc 0 0), (3, .loc 1 0)]

def ref04_Same_b0_ls (_L : LC) (_rec_ref04_Same : AH → Int → Int → ByteArray → Sl3 → Int → Int → ByteArray → Sl3 → Option Bool) (_H : AH) (a0_0 : Int) (a0_1 : Int) (a0_2 : ByteArray) (a0_3 : Sl3) (a1_0 : Int) (a1_1 : Int) (a1_2 : ByteArray) (a1_3 : Sl3) : Int → Lcs := fun _ => [some (28, [(Value.int .i64 a0_0), (Value.int .i64 a0_1), (Value.string a0_2), (Sl3.v a0_3)]), some (28, [(Value.int .i64 a1_0), (Value.int .i64 a1_1), (Value.string a1_2), (Sl3.v a1_3)])]

noncomputable def ref04_Same_body (L : LC) (rec_ref04_Same : AH → Int → Int → ByteArray → Sl3 → Int → Int → ByteArray → Sl3 → Option Bool) (H : AH) (a0_0 : Int) (a0_1 : Int) (a0_2 : ByteArray) (a0_3 : Sl3) (a1_0 : Int) (a1_1 : Int) (a1_2 : ByteArray) (a1_3 : Sl3) : Option Bool :=
  Option.bind (α := Bool) (
    if a0_0 = a1_0 then
      if a0_1 = a1_1 then
        if (a0_2.toList == a1_2.toList) = true then
          some (!decide ((a0_3.n : Int) = (a1_3.n : Int)))
        else
          some true
      else
        some true
    else
      some true) fun v33_1 =>
  if v33_1 = true then
    some false
  else
    Option.bind (L.run (ref04_Same_b0 L rec_ref04_Same H a0_0 a0_1 a0_2 a0_3 a1_0 a1_1 a1_2 a1_3) 0) fun o => match o with
    | .inl _ =>
      some true
    | .inr r => some r

noncomputable def fam_ref04_Same (L : LC) (n : Nat) : (AH → Int → Int → ByteArray → Sl3 → Int → Int → ByteArray → Sl3 → Option Bool) := Nat.rec (motive := fun _ => (AH → Int → Int → ByteArray → Sl3 → Int → Int → ByteArray → Sl3 → Option Bool)) (fun _ _ _ _ _ _ _ _ _ => none) (fun _ p => ref04_Same_body L p) n

noncomputable def ref04_Same (L : LC) (H : AH) (a0_0 : Int) (a0_1 : Int) (a0_2 : ByteArray) (a0_3 : Sl3) (a1_0 : Int) (a1_1 : Int) (a1_2 : ByteArray) (a1_3 : Sl3) : Option Bool := (fam_ref04_Same L L.fuel) H a0_0 a0_1 a0_2 a0_3 a1_0 a1_1 a1_2 a1_3

theorem ref04_Same_b0_ok {E : Ent} {m : Nat} {L : LC} {rec_ref04_Same : AH → Int → Int → ByteArray → Sl3 → Int → Int → ByteArray → Sl3 → Option Bool} {H : AH} {a0_0 : Int} {a0_1 : Int} {a0_2 : ByteArray} {a0_3 : Sl3} {a1_0 : Int} {a1_1 : Int} {a1_2 : ByteArray} {a1_3 : Sl3} (hrec_ref04_Same : ∀ (m : Nat) (H : AH) (a0_0 : Int) (a0_1 : Int) (a0_2 : ByteArray) (a0_3 : Sl3) (a1_0 : Int) (a1_1 : Int) (a1_2 : ByteArray) (a1_3 : Sl3) (r : Bool), rec_ref04_Same H a0_0 a0_1 a0_2 a0_3 a1_0 a1_1 a1_2 a1_3 = some r → CallS Tryd.prog (NE.plain 1000) m 31 #[(Value.agg #[(Value.int .i64 a0_0), (Value.int .i64 a0_1), (Value.string a0_2), (Sl3.v a0_3)]), (Value.agg #[(Value.int .i64 a1_0), (Value.int .i64 a1_1), (Value.string a1_2), (Sl3.v a1_3)])] H (ref04_Same_enc r) (ref04_Same_hp H r)) : ∀ s o, ref04_Same_b0 L rec_ref04_Same H a0_0 a0_1 a0_2 a0_3 a1_0 a1_1 a1_2 a1_3 s = some o →
    WS Tryd.prog (NE.plain 1000) m E Tryd.f31.ntmps (cfst (cfst (csnd (cfst (csnd (csnd B31)))))) (ref04_Same_b0_kn L rec_ref04_Same H a0_0 a0_1 a0_2 a0_3 a1_0 a1_1 a1_2 a1_3 s) (ref04_Same_b0_ls L rec_ref04_Same H a0_0 a0_1 a0_2 a0_3 a1_0 a1_1 a1_2 a1_3 s) ((fun _ => H) s) (lpS Tryd.prog (NE.plain 1000) m E Tryd.f31.ntmps (ref04_Same_b0_kn L rec_ref04_Same H a0_0 a0_1 a0_2 a0_3 a1_0 a1_1 a1_2 a1_3) (ref04_Same_b0_ls L rec_ref04_Same H a0_0 a0_1 a0_2 a0_3 a1_0 a1_1 a1_2 a1_3) (fun _ => H) 0 (fun r => RT Tryd.prog (NE.plain 1000) m E Tryd.f31 (ref04_Same_enc r) (ref04_Same_hp H r)) o) := by
  rintro v5_2 o h
  unfold ref04_Same_b0 at h
  try dsimp only at h
  refine WS.sq (WS.sq (WS.rg (RS.mS 5 [(38, .val (Value.bool (decide (v5_2 < (a0_3.n : Int))))), (37, .val (Value.int .i64 (a0_3.n : Int))), (36, .val (Sl3.v a0_3)), (35, .loc 0 3), (34, .val (Value.int .i64 v5_2))] (RS.dn (WS.nxt ?_)))))
  rcases ite_some h with ⟨hp, h⟩ | ⟨hp, h⟩
  · refine WS.fx 38 true (decide_eq_true hp) (WS.cT (WS.sk (WS.nxt (WS.sq (WS.bk 1 (WS.sq ?_))))))
    refine WS.dr [0, 1, 2, 3, 4, 5, 6, 7, 8, 9] [0, 1, 0, 7, 15, 0, 32, 0, 224, 480, 1023, 2047] 12 (fun hcl => ?_)
    refine DA.tL 0 (some 41) (.loc 0 3) (DA.tL 1 (some 42) (.val (Sl3.v a0_3)) (DA.tK 2 (some 43) (Value.int .i64 v5_2) ?_))
    obtain ⟨p3, hx, h⟩ := bind_some h
    refine DA.tD 3 (some 44) (Value.pointer (some p3)) (Abs.det_idx (s := a0_3) (k := .i64) (t := 26) (e := 28) (x := .tmp 42) (y := .tmp 43) (by kernel_rfl) (by kernel_rfl) (by kernel_rfl) (by kernel_rfl) (by kernel_rfl) hx) ?_
    obtain ⟨x4_0, hx0, h⟩ := bind_some h
    obtain ⟨x4_1, hx1, h⟩ := bind_some h
    obtain ⟨x4_2, hx2, h⟩ := bind_some h
    obtain ⟨x4_3, hx3, h⟩ := bind_some h
    refine DA.tD 4 (some 45) (Value.agg #[(Value.int .i64 x4_0), (Value.int .i64 x4_1), (Value.string x4_2), (Sl3.v x4_3)]) (Abs.det_loadA (t := 28) (x := .tmp 44) (a := p3) (k := 4) (by kernel_rfl) (by kernel_rfl) (by kernel_rfl) (by kernel_rfl) (rdc_cons (rd_cell hx0 deI_inv) (rdc_cons (rd_cell hx1 deI_inv) (rdc_cons (rd_cell hx2 deS_inv) (rdc_cons (rd_cell hx3 deSl_inv) rdc_nil))))) (DA.tL 5 (some 46) (.loc 1 3) (DA.tL 6 (some 47) (.val (Sl3.v a1_3)) (DA.tK 7 (some 48) (Value.int .i64 v5_2) ?_)))
    obtain ⟨p5, hx, h⟩ := bind_some h
    refine DA.tD 8 (some 49) (Value.pointer (some p5)) (Abs.det_idx (s := a1_3) (k := .i64) (t := 26) (e := 28) (x := .tmp 47) (y := .tmp 48) (by kernel_rfl) (by kernel_rfl) (by kernel_rfl) (by kernel_rfl) (by kernel_rfl) hx) ?_
    obtain ⟨x6_0, hx0, h⟩ := bind_some h
    obtain ⟨x6_1, hx1, h⟩ := bind_some h
    obtain ⟨x6_2, hx2, h⟩ := bind_some h
    obtain ⟨x6_3, hx3, h⟩ := bind_some h
    refine DA.tD 9 (some 50) (Value.agg #[(Value.int .i64 x6_0), (Value.int .i64 x6_1), (Value.string x6_2), (Sl3.v x6_3)]) (Abs.det_loadA (t := 28) (x := .tmp 49) (a := p5) (k := 4) (by kernel_rfl) (by kernel_rfl) (by kernel_rfl) (by kernel_rfl) (rdc_cons (rd_cell hx0 deI_inv) (rdc_cons (rd_cell hx1 deI_inv) (rdc_cons (rd_cell hx2 deS_inv) (rdc_cons (rd_cell hx3 deSl_inv) rdc_nil))))) ?_
    obtain ⟨x7, hx, h⟩ := bind_some h
    refine DA.on 10 (DA.aC 10 (some 51) (v := (Value.bool x7)) 31 #[(Value.agg #[(Value.int .i64 x4_0), (Value.int .i64 x4_1), (Value.string x4_2), (Sl3.v x4_3)]), (Value.agg #[(Value.int .i64 x6_0), (Value.int .i64 x6_1), (Value.string x6_2), (Sl3.v x6_3)])] (hrec_ref04_Same _ _ _ _ _ _ _ _ _ _ _ hx) (DA.tP 11 (some 52) (Value.bool (!x7)) (DA.dn (WS.nxt ?_))))
    rcases ite_some h with ⟨hp, h⟩ | ⟨hp, h⟩
    · refine WS.fx 52 false (nb_not hp) (WS.cF (WS.sk ?_))
      refine fun a w hs => bkN ((WS.nxt ?_ a w hs))
      refine WS.rg (RS.mS 3 [(5, .val (Value.int .i64 (IntKind.i64.wrap (v5_2 + 1)))), (40, .val (Value.int .i64 (IntKind.i64.wrap (v5_2 + 1)))), (39, .val (Value.int .i64 v5_2))] (RS.dn ?_))
      cases h
      exact fun a w hs => lsN rfl (hs.sb 2)
    · refine WS.fx 52 true (nb_not' hp) (WS.cT (WS.sq (WS.rg (RS.mS 1 [(4, .val (Value.bool false))] (RS.dn (WS.nxt (WS.rt ?_)))))))
      cases h
      exact fun a w hs => bkR (sqR (lsR rfl (rS hs)))
  · refine WS.fx 38 false (decide_eq_false hp) (WS.cF (WS.ex 0 ?_))
    cases h
    exact fun a w hs => sqE (lsB rfl (hs.sb 2))

theorem ref04_Same_body_ok {L : LC} {rec_ref04_Same : AH → Int → Int → ByteArray → Sl3 → Int → Int → ByteArray → Sl3 → Option Bool} (hrec_ref04_Same : ∀ (m : Nat) (H : AH) (a0_0 : Int) (a0_1 : Int) (a0_2 : ByteArray) (a0_3 : Sl3) (a1_0 : Int) (a1_1 : Int) (a1_2 : ByteArray) (a1_3 : Sl3) (r : Bool), rec_ref04_Same H a0_0 a0_1 a0_2 a0_3 a1_0 a1_1 a1_2 a1_3 = some r → CallS Tryd.prog (NE.plain 1000) m 31 #[(Value.agg #[(Value.int .i64 a0_0), (Value.int .i64 a0_1), (Value.string a0_2), (Sl3.v a0_3)]), (Value.agg #[(Value.int .i64 a1_0), (Value.int .i64 a1_1), (Value.string a1_2), (Sl3.v a1_3)])] H (ref04_Same_enc r) (ref04_Same_hp H r)) {m : Nat} {H : AH} {a0_0 : Int} {a0_1 : Int} {a0_2 : ByteArray} {a0_3 : Sl3} {a1_0 : Int} {a1_1 : Int} {a1_2 : ByteArray} {a1_3 : Sl3} {r : Bool} (h : ref04_Same_body L rec_ref04_Same H a0_0 a0_1 a0_2 a0_3 a1_0 a1_1 a1_2 a1_3 = some r) :
    CallS Tryd.prog (NE.plain 1000) m 31 #[(Value.agg #[(Value.int .i64 a0_0), (Value.int .i64 a0_1), (Value.string a0_2), (Sl3.v a0_3)]), (Value.agg #[(Value.int .i64 a1_0), (Value.int .i64 a1_1), (Value.string a1_2), (Sl3.v a1_3)])] H (ref04_Same_enc r) (ref04_Same_hp H r) := by
  refine CallS.mk (args := [(Value.agg #[(Value.int .i64 a0_0), (Value.int .i64 a0_1), (Value.string a0_2), (Sl3.v a0_3)]), (Value.agg #[(Value.int .i64 a1_0), (Value.int .i64 a1_1), (Value.string a1_2), (Sl3.v a1_3)])]) Tryd.func31 (B := B31) (by kernel_rfl) (fun E _ => ?_)
  unfold ref04_Same_body at h
  refine WS.sq (WS.rg (RS.mL 3 [(4, .val (Value.bool false)), (3, .loc 1 0), (2, .loc 0 0)] ([some (28, [(Value.int .i64 a0_0), (Value.int .i64 a0_1), (Value.string a0_2), (Sl3.v a0_3)]), some (28, [(Value.int .i64 a1_0), (Value.int .i64 a1_1), (Value.string a1_2), (Sl3.v a1_3)])]) (RS.dn (WS.nxt (WS.sq ?_)))))
  obtain ⟨v33_1, hx, h⟩ := bind_some h
  refine WS.sq ?_
  refine WS.join ([(33, .val (Value.bool v33_1)), (2, .loc 0 0), (3, .loc 1 0)]) ([some (28, [(Value.int .i64 a0_0), (Value.int .i64 a0_1), (Value.string a0_2), (Sl3.v a0_3)]), some (28, [(Value.int .i64 a1_0), (Value.int .i64 a1_1), (Value.string a1_2), (Sl3.v a1_3)])]) H ?_ (fun a w hs => WS.nxt ?_ a w hs)
  · clear h; rename _ => h
    refine WS.rg (RS.mS 6 [(11, .val (Value.bool (!decide (a0_0 = a1_0)))), (10, .val (Value.bool (!decide (a0_0 = a1_0)))), (9, .val (Value.int .i64 a1_0)), (8, .loc 1 0), (7, .val (Value.int .i64 a0_0)), (6, .loc 0 0)] ?_)
    rcases ite_some h with ⟨hp, h⟩ | ⟨hp, h⟩
    · refine RS.fx 11 false (dec_not hp) (RS.mS 7 [(18, .val (Value.bool (!decide (a0_1 = a1_1)))), (17, .val (Value.bool (!decide (a0_1 = a1_1)))), (16, .val (Value.bool (!decide (a0_1 = a1_1)))), (15, .val (Value.int .i64 a1_1)), (14, .loc 1 1), (13, .val (Value.int .i64 a0_1)), (12, .loc 0 1)] ?_)
      rcases ite_some h with ⟨hp, h⟩ | ⟨hp, h⟩
      · refine RS.fx 18 false (dec_not hp) (RS.mS 7 [(25, .val (Value.bool (!(a0_2.toList == a1_2.toList)))), (24, .val (Value.bool (!(a0_2.toList == a1_2.toList)))), (23, .val (Value.bool (!(a0_2.toList == a1_2.toList)))), (22, .val (Value.string a1_2)), (21, .loc 1 2), (20, .val (Value.string a0_2)), (19, .loc 0 2)] ?_)
        rcases ite_some h with ⟨hp, h⟩ | ⟨hp, h⟩
        · refine RS.fx 25 false (nb_not hp) (RS.mS 8 [(33, .val (Value.bool (!decide ((a0_3.n : Int) = (a1_3.n : Int))))), (32, .val (Value.bool (!decide ((a0_3.n : Int) = (a1_3.n : Int))))), (31, .val (Value.int .i64 (a1_3.n : Int))), (30, .val (Sl3.v a1_3)), (29, .loc 1 3), (28, .val (Value.int .i64 (a0_3.n : Int))), (27, .val (Sl3.v a0_3)), (26, .loc 0 3)] (RS.dn ?_))
          cases h
          exact fun a w hs => (jsN (hs.sb 2))
        · refine RS.fx 25 true (nb_not' hp) (RS.mS 8 [(33, .val (Value.bool true)), (32, .val undef), (31, .val undef), (30, .val undef), (29, .val undef), (28, .val undef), (27, .val undef), (26, .val undef)] (RS.dn ?_))
          cases h
          exact fun a w hs => (jsN (hs.sb 2))
      · refine RS.fx 18 true (dec_not' hp) (RS.mS 15 [(33, .val (Value.bool true)), (32, .val undef), (31, .val undef), (30, .val undef), (29, .val undef), (28, .val undef), (27, .val undef), (26, .val undef), (25, .val (Value.bool true)), (24, .val (Value.bool true)), (23, .val undef), (22, .val undef), (21, .val undef), (20, .val undef), (19, .val undef)] (RS.dn ?_))
        cases h
        exact fun a w hs => (jsN (hs.sb 2))
    · refine RS.fx 11 true (dec_not' hp) (RS.mS 22 [(33, .val (Value.bool true)), (32, .val undef), (31, .val undef), (30, .val undef), (29, .val undef), (28, .val undef), (27, .val undef), (26, .val undef), (25, .val (Value.bool true)), (24, .val (Value.bool true)), (23, .val undef), (22, .val undef), (21, .val undef), (20, .val undef), (19, .val undef), (18, .val (Value.bool true)), (17, .val (Value.bool true)), (16, .val undef), (15, .val undef), (14, .val undef), (13, .val undef), (12, .val undef)] (RS.dn ?_))
      cases h
      exact fun a w hs => (jsN (hs.sb 2))
  · clear hx
    rcases ite_some h with ⟨hp, h⟩ | ⟨hp, h⟩
    · refine WS.fx 33 true hp (WS.cT (WS.sq (WS.rg (RS.mS 1 [(4, .val (Value.bool false))] (RS.dn (WS.nxt (WS.rt ?_)))))))
      cases h
      exact fun a w hs => sqR (rtR (rS hs))
    · refine WS.fx 33 false (b_not hp) (WS.cF (WS.sk (WS.nxt (WS.sq (WS.sq (WS.rg (RS.mS 1 [(5, .val (Value.int .i64 0))] (RS.dn (WS.nxt ?_)))))))))
      refine WS.bk 0 ?_
      obtain ⟨o, hl, h⟩ := bind_some h
      rcases o with v5_8 | r
      · try dsimp only at h
        refine WS.lI (ref04_Same_b0_ok (L := L) (E := E) (m := m) (H := H) hrec_ref04_Same) (L.ok hl) 2 ?_
        clear hl
        refine fun a w hs => bkE ((WS.nxt ?_ a w hs))
        refine WS.sq (WS.rg (RS.mS 1 [(4, .val (Value.bool true))] (RS.dn (WS.nxt (WS.rt ?_)))))
        cases h
        exact fun a w hs => rtR (rS hs)
      · try dsimp only at h
        refine WS.lR (ref04_Same_b0_ok (L := L) (E := E) (m := m) (H := H) hrec_ref04_Same) (L.ok hl) 2 ?_
        cases h
        exact fun a w hq => bkR (sqR (rtR hq))

theorem fam_ref04_Same_ok {L : LC} : ∀ n, (∀ (m : Nat) (H : AH) (a0_0 : Int) (a0_1 : Int) (a0_2 : ByteArray) (a0_3 : Sl3) (a1_0 : Int) (a1_1 : Int) (a1_2 : ByteArray) (a1_3 : Sl3) (r : Bool), ((fam_ref04_Same L n)) H a0_0 a0_1 a0_2 a0_3 a1_0 a1_1 a1_2 a1_3 = some r → CallS Tryd.prog (NE.plain 1000) m 31 #[(Value.agg #[(Value.int .i64 a0_0), (Value.int .i64 a0_1), (Value.string a0_2), (Sl3.v a0_3)]), (Value.agg #[(Value.int .i64 a1_0), (Value.int .i64 a1_1), (Value.string a1_2), (Sl3.v a1_3)])] H (ref04_Same_enc r) (ref04_Same_hp H r)) := by
  intro n
  induction n with
  | zero => exact (fun _ _ _ _ _ _ _ _ _ _ _ h => (Option.some_ne_none _ h.symm).elim)
  | succ n ih => exact (fun _ _ _ _ _ _ _ _ _ _ _ h => ref04_Same_body_ok (L := L) ih h)

theorem ref04_Same_ok {L : LC} {m : Nat} {H : AH} {a0_0 : Int} {a0_1 : Int} {a0_2 : ByteArray} {a0_3 : Sl3} {a1_0 : Int} {a1_1 : Int} {a1_2 : ByteArray} {a1_3 : Sl3} {r : Bool} (h : ref04_Same L H a0_0 a0_1 a0_2 a0_3 a1_0 a1_1 a1_2 a1_3 = some r) :
    CallS Tryd.prog (NE.plain 1000) m 31 #[(Value.agg #[(Value.int .i64 a0_0), (Value.int .i64 a0_1), (Value.string a0_2), (Sl3.v a0_3)]), (Value.agg #[(Value.int .i64 a1_0), (Value.int .i64 a1_1), (Value.string a1_2), (Sl3.v a1_3)])] H (ref04_Same_enc r) (ref04_Same_hp H r) :=
  (fam_ref04_Same_ok _) _ _ _ _ _ _ _ _ _ _ _ h

end Go.Proofs.YtccbilfbhecdaaaDoor


namespace Go.Proofs.YtccbilfbhecdaaaDoor
open Go Go.Abs
set_option maxRecDepth 100000

def law04_SortTexts_enc : (Bool × AH) → Value
  | (r0, _) => (Value.bool r0)

def law04_SortTexts_hp (_ : AH) : (Bool × AH) → AH := fun r => r.2

noncomputable def B11 : Code := (Tryd.f11.body).getD .skip

noncomputable def law04_SortTexts (L : LC) (m : Nat) (H : AH) (a0_0 : Int) (a0_1 : Int) (a0_2 : ByteArray) (a0_3 : Sl3) (a1_0 : Int) (a1_1 : Int) (a1_2 : ByteArray) (a1_3 : Sl3) : Option (Bool × AH) :=
  Option.bind (sort_Text L m H a0_0 a0_1 a0_2 a0_3) fun (x1, x2, H3) =>
  Option.bind (ref04_Text L m H3 a0_0 a0_1 a0_2 a0_3) fun (x4, x5, H6) =>
  if (x1.toList == x4.toList) = true then
    if x2 = x5 then
      Option.bind (sort_Same L H6 a0_0 a0_1 a0_2 a0_3 a1_0 a1_1 a1_2 a1_3) fun x7 =>
      Option.bind (ref04_Same L H6 a0_0 a0_1 a0_2 a0_3 a1_0 a1_1 a1_2 a1_3) fun x8 =>
      if (x7 == x8) = true then
        Option.bind (law04_awake L H6) fun x9 =>
        some (x9, H6)
      else
        some (false, H6)
    else
      some (false, H6)
  else
    some (false, H6)

theorem law04_SortTexts_ok {L : LC} {m : Nat} {H : AH} {a0_0 : Int} {a0_1 : Int} {a0_2 : ByteArray} {a0_3 : Sl3} {a1_0 : Int} {a1_1 : Int} {a1_2 : ByteArray} {a1_3 : Sl3} {r : (Bool × AH)} (h : law04_SortTexts L m H a0_0 a0_1 a0_2 a0_3 a1_0 a1_1 a1_2 a1_3 = some r) :
    CallS Tryd.prog (NE.plain 1000) m 11 #[(Value.agg #[(Value.int .i64 a0_0), (Value.int .i64 a0_1), (Value.string a0_2), (Sl3.v a0_3)]), (Value.agg #[(Value.int .i64 a1_0), (Value.int .i64 a1_1), (Value.string a1_2), (Sl3.v a1_3)])] H (law04_SortTexts_enc r) (law04_SortTexts_hp H r) := by
  refine CallS.mk (args := [(Value.agg #[(Value.int .i64 a0_0), (Value.int .i64 a0_1), (Value.string a0_2), (Sl3.v a0_3)]), (Value.agg #[(Value.int .i64 a1_0), (Value.int .i64 a1_1), (Value.string a1_2), (Sl3.v a1_3)])]) Tryd.func11 (B := B11) (by kernel_rfl) (fun E _ => ?_)
  unfold law04_SortTexts at h
  refine WS.sq (WS.rg (RS.mL 3 [(4, .val (Value.bool false)), (3, .loc 1 0), (2, .loc 0 0)] ([some (28, [(Value.int .i64 a0_0), (Value.int .i64 a0_1), (Value.string a0_2), (Sl3.v a0_3)]), some (28, [(Value.int .i64 a1_0), (Value.int .i64 a1_1), (Value.string a1_2), (Sl3.v a1_3)])]) (RS.dn (WS.nxt (WS.sq (WS.rg (RS.mS 1 [(10, .val (Value.agg #[(Value.int .i64 a0_0), (Value.int .i64 a0_1), (Value.string a0_2), (Sl3.v a0_3)]))] ?_)))))))
  obtain ⟨⟨x1, x2, H3⟩, hx, h⟩ := bind_some h
  try dsimp only at h
  refine RS.cl (some 11) (v := (Value.tuple #[(Value.string x1), (Value.int .i64 x2)])) 28 #[(Value.agg #[(Value.int .i64 a0_0), (Value.int .i64 a0_1), (Value.string a0_2), (Sl3.v a0_3)])] (sort_Text_ok hx) (RS.mS 5 [(6, .val (Value.int .i64 x2)), (5, .val (Value.string x1)), (13, .val (Value.int .i64 x2)), (12, .val (Value.string x1)), (9, .val (Value.tuple #[(Value.string x1), (Value.int .i64 x2)]))] (RS.dn (WS.nxt (WS.sq (WS.rg (RS.mS 1 [(15, .val (Value.agg #[(Value.int .i64 a0_0), (Value.int .i64 a0_1), (Value.string a0_2), (Sl3.v a0_3)]))] ?_))))))
  obtain ⟨⟨x4, x5, H6⟩, hx, h⟩ := bind_some h
  try dsimp only at h
  refine RS.cl (some 16) (v := (Value.tuple #[(Value.string x4), (Value.int .i64 x5)])) 29 #[(Value.agg #[(Value.int .i64 a0_0), (Value.int .i64 a0_1), (Value.string a0_2), (Sl3.v a0_3)])] (ref04_Text_ok hx) (RS.mS 5 [(8, .val (Value.int .i64 x5)), (7, .val (Value.string x4)), (18, .val (Value.int .i64 x5)), (17, .val (Value.string x4)), (14, .val (Value.tuple #[(Value.string x4), (Value.int .i64 x5)]))] (RS.dn (WS.nxt (WS.sq ?_))))
  refine WS.dr [0, 1, 2, 3, 4, 5, 6, 7, 8, 9, 10, 12, 13] [0, 0, 3, 7, 15, 15, 63, 127, 255, 511, 511, 2047, 511, 511, 16383, 32767, 65535, 131071, 262143, 524287, 1048575] 21 (fun hcl => ?_)
  refine DA.tK 0 (some 19) (Value.string x1) (DA.tK 1 (some 20) (Value.string x4) (DA.tK 2 (some 21) (Value.bool (x1.toList == x4.toList)) (DA.tK 3 (some 22) (Value.bool (x1.toList == x4.toList)) ?_)))
  rcases ite_some h with ⟨hp, h⟩ | ⟨hp, h⟩
  · refine DA.fx 22 true hp (DA.tK 4 (some 23) (Value.int .i64 x2) (DA.tK 5 (some 24) (Value.int .i64 x5) (DA.tK 6 (some 25) (Value.bool (decide (x2 = x5))) (DA.tK 7 (some 26) (Value.bool (decide (x2 = x5))) (DA.tK 8 (some 27) (Value.bool (decide (x2 = x5))) ?_)))))
    rcases ite_some h with ⟨hp, h⟩ | ⟨hp, h⟩
    · refine DA.fx 27 true (decide_eq_true hp) (DA.tL 9 (some 28) (.val (Value.agg #[(Value.int .i64 a0_0), (Value.int .i64 a0_1), (Value.string a0_2), (Sl3.v a0_3)])) (DA.tL 10 (some 29) (.val (Value.agg #[(Value.int .i64 a1_0), (Value.int .i64 a1_1), (Value.string a1_2), (Sl3.v a1_3)])) (DA.tL 12 (some 31) (.val (Value.agg #[(Value.int .i64 a0_0), (Value.int .i64 a0_1), (Value.string a0_2), (Sl3.v a0_3)])) (DA.tL 13 (some 32) (.val (Value.agg #[(Value.int .i64 a1_0), (Value.int .i64 a1_1), (Value.string a1_2), (Sl3.v a1_3)])) ?_))))
      obtain ⟨x7, hx, h⟩ := bind_some h
      refine DA.on 11 (DA.aCk 11 (some 30) false (v := (Value.bool x7)) 30 #[(Value.agg #[(Value.int .i64 a0_0), (Value.int .i64 a0_1), (Value.string a0_2), (Sl3.v a0_3)]), (Value.agg #[(Value.int .i64 a1_0), (Value.int .i64 a1_1), (Value.string a1_2), (Sl3.v a1_3)])] (sort_Same_ok hx) ?_)
      obtain ⟨x8, hx, h⟩ := bind_some h
      refine DA.on 14 (DA.aC 14 (some 33) (v := (Value.bool x8)) 31 #[(Value.agg #[(Value.int .i64 a0_0), (Value.int .i64 a0_1), (Value.string a0_2), (Sl3.v a0_3)]), (Value.agg #[(Value.int .i64 a1_0), (Value.int .i64 a1_1), (Value.string a1_2), (Sl3.v a1_3)])] (ref04_Same_ok hx) (DA.tP 15 (some 34) (Value.bool (x7 == x8)) (DA.tP 16 (some 35) (Value.bool (x7 == x8)) (DA.tP 17 (some 36) (Value.bool (x7 == x8)) ?_))))
      rcases ite_some h with ⟨hp, h⟩ | ⟨hp, h⟩
      · refine DA.fx 36 true hp ?_
        obtain ⟨x9, hx, h⟩ := bind_some h
        refine DA.on 18 (DA.aC 18 (some 37) (v := (Value.bool x9)) 17 #[] (law04_awake_ok hx) (DA.tP 19 (some 38) (Value.bool x9) (DA.tP 20 (some 4) (Value.bool x9) (DA.dn (WS.nxt (WS.rt ?_))))))
        cases h
        exact fun a w hs => rtR (rS hs)
      · refine DA.fx 36 false (b_not hp) ?_
        refine DA.tskipP 18 (some 37) (by kernel_rfl) (by kernel_rfl) (by kernel_rfl) hcl (fun _ _ _ h => h) (by kernel_rfl) ?_
        refine DA.tP 19 (some 38) (Value.bool false) (DA.tP 20 (some 4) (Value.bool false) (DA.dn (WS.nxt (WS.rt ?_))))
        cases h
        exact fun a w hs => rtR (rS hs)
    · refine DA.fx 27 false (decide_eq_false hp) ?_
      refine DA.tskipD 9 (some 28) (by kernel_rfl) (by kernel_rfl) (by kernel_rfl) hcl (fun _ _ _ h => h) (by kernel_rfl) ?_
      refine DA.tskipD 10 (some 29) (by kernel_rfl) (by kernel_rfl) (by kernel_rfl) hcl (fun _ _ _ h => h) (by kernel_rfl) ?_
      refine DA.tskipD 12 (some 31) (by kernel_rfl) (by kernel_rfl) (by kernel_rfl) hcl (fun _ _ _ h => h) (by kernel_rfl) ?_
      refine DA.tskipD 13 (some 32) (by kernel_rfl) (by kernel_rfl) (by kernel_rfl) hcl (fun _ _ _ h => h) (by kernel_rfl) ?_
      refine DA.on 11 (DA.askipD 11 (some 30) (by kernel_rfl) (by kernel_rfl) (by kernel_rfl) hcl (by kernel_rfl) (by kernel_rfl) ?_)
      refine DA.tskipP 14 (some 33) (by kernel_rfl) (by kernel_rfl) (by kernel_rfl) hcl (fun _ _ _ h => h) (by kernel_rfl) ?_
      refine DA.tskipP 15 (some 34) (by kernel_rfl) (by kernel_rfl) (by kernel_rfl) hcl (fun _ _ _ h => h) (by kernel_rfl) ?_
      refine DA.tP 16 (some 35) (Value.bool false) (DA.tP 17 (some 36) (Value.bool false) ?_)
      refine DA.tskipP 18 (some 37) (by kernel_rfl) (by kernel_rfl) (by kernel_rfl) hcl (fun _ _ _ h => h) (by kernel_rfl) ?_
      refine DA.tP 19 (some 38) (Value.bool false) (DA.tP 20 (some 4) (Value.bool false) (DA.dn (WS.nxt (WS.rt ?_))))
      cases h
      exact fun a w hs => rtR (rS hs)
  · refine DA.fx 22 false (b_not hp) ?_
    refine DA.tskipD 4 (some 23) (by kernel_rfl) (by kernel_rfl) (by kernel_rfl) hcl (fun _ _ _ h => h) (by kernel_rfl) ?_
    refine DA.tskipD 5 (some 24) (by kernel_rfl) (by kernel_rfl) (by kernel_rfl) hcl (fun _ _ _ h => h) (by kernel_rfl) ?_
    refine DA.tskipD 6 (some 25) (by kernel_rfl) (by kernel_rfl) (by kernel_rfl) hcl (fun _ _ _ h => h) (by kernel_rfl) ?_
    refine DA.tK 7 (some 26) (Value.bool false) (DA.tK 8 (some 27) (Value.bool false) ?_)
    refine DA.tskipD 9 (some 28) (by kernel_rfl) (by kernel_rfl) (by kernel_rfl) hcl (fun _ _ _ h => h) (by kernel_rfl) ?_
    refine DA.tskipD 10 (some 29) (by kernel_rfl) (by kernel_rfl) (by kernel_rfl) hcl (fun _ _ _ h => h) (by kernel_rfl) ?_
    refine DA.tskipD 12 (some 31) (by kernel_rfl) (by kernel_rfl) (by kernel_rfl) hcl (fun _ _ _ h => h) (by kernel_rfl) ?_
    refine DA.tskipD 13 (some 32) (by kernel_rfl) (by kernel_rfl) (by kernel_rfl) hcl (fun _ _ _ h => h) (by kernel_rfl) ?_
    refine DA.on 11 (DA.askipD 11 (some 30) (by kernel_rfl) (by kernel_rfl) (by kernel_rfl) hcl (by kernel_rfl) (by kernel_rfl) ?_)
    refine DA.tskipP 14 (some 33) (by kernel_rfl) (by kernel_rfl) (by kernel_rfl) hcl (fun _ _ _ h => h) (by kernel_rfl) ?_
    refine DA.tskipP 15 (some 34) (by kernel_rfl) (by kernel_rfl) (by kernel_rfl) hcl (fun _ _ _ h => h) (by kernel_rfl) ?_
    refine DA.tP 16 (some 35) (Value.bool false) (DA.tP 17 (some 36) (Value.bool false) ?_)
    refine DA.tskipP 18 (some 37) (by kernel_rfl) (by kernel_rfl) (by kernel_rfl) hcl (fun _ _ _ h => h) (by kernel_rfl) ?_
    refine DA.tP 19 (some 38) (Value.bool false) (DA.tP 20 (some 4) (Value.bool false) (DA.dn (WS.nxt (WS.rt ?_))))
    cases h
    exact fun a w hs => rtR (rS hs)

end Go.Proofs.YtccbilfbhecdaaaDoor


namespace Go.Proofs.YtccbilfbhecdaaaDoor
open Go Go.Abs
set_option maxRecDepth 100000

/-- Whether so many widths, from one on, have their digits. -/
noncomputable def itoaC (b : Nat) : Bool := (List.range 512).all fun i => match itoaR ((b + i + 1 : Nat) : Int) with | some s => decide (s.size ≤ 4) | none => false

set_option maxHeartbeats 0 in
theorem itoc_0 : itoaC 0 = true := by kernel_rfl

set_option maxHeartbeats 0 in
theorem itoc_1 : itoaC 512 = true := by kernel_rfl

set_option maxHeartbeats 0 in
theorem itoc_2 : itoaC 1024 = true := by kernel_rfl

set_option maxHeartbeats 0 in
theorem itoc_3 : itoaC 1536 = true := by kernel_rfl

set_option maxHeartbeats 0 in
theorem itoc_4 : itoaC 2048 = true := by kernel_rfl

set_option maxHeartbeats 0 in
theorem itoc_5 : itoaC 2560 = true := by kernel_rfl

set_option maxHeartbeats 0 in
theorem itoc_6 : itoaC 3072 = true := by kernel_rfl

set_option maxHeartbeats 0 in
theorem itoc_7 : itoaC 3584 = true := by kernel_rfl

theorem itoc_all : ((List.range 4096).all fun i => match itoaR ((i + 1 : Nat) : Int) with | some s => decide (s.size ≤ 4) | none => false) = true := by
  rw [List.all_eq_true]
  intro i hi
  have hi := List.mem_range.1 hi
  have key : ∀ b, itoaC b = true → b ≤ i → i < b + 512 → (match itoaR ((i + 1 : Nat) : Int) with | some s => decide (s.size ≤ 4) | none => false) = true := by
    intro b hb h1 h2
    unfold itoaC at hb
    rw [List.all_eq_true] at hb
    have := hb (i - b) (List.mem_range.2 (by omega))
    rw [show b + (i - b) + 1 = i + 1 by omega] at this
    exact this
  rcases (show i < 512 ∨ (512 ≤ i ∧ i < 1024) ∨ (1024 ≤ i ∧ i < 1536) ∨ (1536 ≤ i ∧ i < 2048) ∨ (2048 ≤ i ∧ i < 2560) ∨ (2560 ≤ i ∧ i < 3072) ∨ (3072 ≤ i ∧ i < 3584) ∨ (3584 ≤ i ∧ i < 4096) by omega) with h | h | h | h | h | h | h | h
  · exact key 0 itoc_0 (by omega) (by omega)
  · exact key 512 itoc_1 (by omega) (by omega)
  · exact key 1024 itoc_2 (by omega) (by omega)
  · exact key 1536 itoc_3 (by omega) (by omega)
  · exact key 2048 itoc_4 (by omega) (by omega)
  · exact key 2560 itoc_5 (by omega) (by omega)
  · exact key 3072 itoc_6 (by omega) (by omega)
  · exact key 3584 itoc_7 (by omega) (by omega)

end Go.Proofs.YtccbilfbhecdaaaDoor


namespace Go.Proofs.YtccbilfbhecdaaaDoor
open Go Go.Abs
set_option maxRecDepth 100000

/-- A sort's text. -/
noncomputable def wrS (k w : Int) (n : ByteArray) : Fo → ByteArray
  | .nil => if k = 1 then ⟨#[66, 111, 111, 108]⟩ else if k = 2 then ⟨#[73, 110, 116]⟩ else if k = 3 then (⟨#[40, 95, 32, 66, 105, 116, 86, 101, 99, 32]⟩ ++ (itoaR w).getD emptyT) ++ ⟨#[41]⟩ else quoteS n
  | .cons k1 w1 n1 a1 r => match r with
    | .nil => emptyT
    | .cons k2 w2 n2 a2 _ => (((⟨#[40, 65, 114, 114, 97, 121, 32]⟩ ++ wrS k1 w1 n1 a1) ++ ⟨#[32]⟩) ++ wrS k2 w2 n2 a2) ++ ⟨#[41]⟩

/-- What the digits of a width are. -/
theorem itoa_some {w : Int} (h1 : 1 ≤ w) (h2 : w ≤ 4096) : ∃ s, itoaR w = some s ∧ s.size ≤ 4 := by
  have h := itoc_all
  rw [List.all_eq_true] at h
  have hm := h (w - 1).toNat (List.mem_range.2 (by omega))
  have e : (((w - 1).toNat + 1 : Nat) : Int) = w := by omega
  rw [e] at hm
  cases hq : itoaR w with
  | none => rw [hq] at hm; cases hm
  | some s => rw [hq] at hm; exact ⟨s, rfl, of_decide_eq_true hm⟩

theorem quote_size (n : ByteArray) : (quoteS n).size ≤ n.size + 2 := by
  unfold quoteS
  split
  · omega
  · rw [ByteArray.size_append, ByteArray.size_append]
    have h1 : (⟨#[124]⟩ : ByteArray).size = 1 := rfl
    rw [h1]; omega

def big : Nat := 281474976710656

/-- All names are of a length that comes in. -/
def nmF : Fo → Prop
  | .nil => True
  | .cons _ _ n a r => n.size ≤ maxS ∧ nmF a ∧ nmF r

theorem FoA.nm {H : AH} : ∀ {f : Fo} {p : Option Addr} {i : Nat}, FoA H p i f → nmF f
  | .nil, _, _, _ => trivial
  | .cons _ _ _ _ _, _, _, h => by
    obtain ⟨⟨q, s, h1, h2, h3, h4, h5⟩, h6⟩ := h
    exact ⟨h2.hn, FoA.nm h5, FoA.nm h6⟩

theorem wr_size : ∀ (d : Nat) (a : Fo) (k w : Int) (n : ByteArray), a.dep < d → n.size ≤ maxS → nmF a → shS k w n a = true → (wrS k w n a).size ≤ (1 + a.size) * big := by
  intro d
  induction d with
  | zero => intro a k w n h; omega
  | succ d ih =>
    intro a k w n hd hn hm hs
    have hb : big = 281474976710656 := rfl
    rcases shS_cases hs with ⟨rfl, hk⟩ | ⟨rfl, k1, w1, n1, a1, k2, w2, n2, a2, rfl, h1, h2⟩
    · simp only [wrS, Fo.size]
      unfold maxS at hn
      split
      · have : (⟨#[66, 111, 111, 108]⟩ : ByteArray).size = 4 := rfl
        rw [this]; omega
      · split
        · have : (⟨#[73, 110, 116]⟩ : ByteArray).size = 3 := rfl
          rw [this]; omega
        · split
          · rename_i h1 h2 h3
            subst h3
            obtain ⟨s, h5, h6⟩ := itoa_some (w := w) (by omega) (by omega)
            rw [h5, ByteArray.size_append, ByteArray.size_append]
            have e1 : (⟨#[40, 95, 32, 66, 105, 116, 86, 101, 99, 32]⟩ : ByteArray).size = 10 := rfl
            have e2 : (⟨#[41]⟩ : ByteArray).size = 1 := rfl
            rw [e1, e2]
            simp only [Option.getD_some]
            omega
          · have := quote_size n
            omega
    · simp only [Fo.dep] at hd
      have i1 := ih a1 k1 w1 n1 (by omega) hm.1 hm.2.1 h1
      have i2 := ih a2 k2 w2 n2 (by omega) hm.2.2.1 hm.2.2.2.1 h2
      simp only [wrS, ByteArray.size_append, Fo.size]
      have e1 : (⟨#[40, 65, 114, 114, 97, 121, 32]⟩ : ByteArray).size = 7 := rfl
      have e2 : (⟨#[32]⟩ : ByteArray).size = 1 := rfl
      have e3 : (⟨#[41]⟩ : ByteArray).size = 1 := rfl
      rw [e1, e2, e3]
      unfold big at i1 i2 ⊢
      omega

theorem four_cats {x y : ByteArray} (h : x.size + y.size ≤ 4611686018427387904) {R : Type} (f : ByteArray → Option R) :
    (Option.bind (strcat (⟨#[40, 65, 114, 114, 97, 121, 32]⟩ : ByteArray) x) fun s10 => Option.bind (strcat s10 (⟨#[32]⟩ : ByteArray)) fun s11 => Option.bind (strcat s11 y) fun s14 => Option.bind (strcat s14 (⟨#[41]⟩ : ByteArray)) f) =
      f ((((⟨#[40, 65, 114, 114, 97, 121, 32]⟩ ++ x) ++ ⟨#[32]⟩) ++ y) ++ ⟨#[41]⟩) := by
  have e1 : (⟨#[40, 65, 114, 114, 97, 121, 32]⟩ : ByteArray).size = 7 := rfl
  have e2 : (⟨#[32]⟩ : ByteArray).size = 1 := rfl
  have e3 : (⟨#[41]⟩ : ByteArray).size = 1 := rfl
  rw [strcat_ok (by rw [maxN_eq, e1]; omega)]
  simp only [Option.bind_some]
  rw [strcat_ok (by rw [ByteArray.size_append, maxN_eq, e1, e2]; omega)]
  simp only [Option.bind_some]
  rw [strcat_ok (by rw [ByteArray.size_append, ByteArray.size_append, maxN_eq, e1, e2]; omega)]
  simp only [Option.bind_some]
  rw [strcat_ok (by rw [ByteArray.size_append, ByteArray.size_append, ByteArray.size_append, maxN_eq, e1, e2, e3]; omega)]
  rfl

theorem two_cats {x : ByteArray} (h : x.size ≤ 4) : (Option.bind (strcat (⟨#[40, 95, 32, 66, 105, 116, 86, 101, 99, 32]⟩ : ByteArray) x) fun s2 => strcat s2 (⟨#[41]⟩ : ByteArray)) = some ((⟨#[40, 95, 32, 66, 105, 116, 86, 101, 99, 32]⟩ ++ x) ++ ⟨#[41]⟩) := by
  have e1 : (⟨#[40, 95, 32, 66, 105, 116, 86, 101, 99, 32]⟩ : ByteArray).size = 10 := rfl
  have e3 : (⟨#[41]⟩ : ByteArray).size = 1 := rfl
  rw [strcat_ok (by rw [maxN_eq, e1]; omega)]
  simp only [Option.bind_some]
  rw [strcat_ok (by rw [ByteArray.size_append, maxN_eq, e1, e3]; omega)]

theorem itoa_run (L : LC) {H : AH} (hT : HasT H) (w : Int) : strconv_Itoa L H w = itoaR w := by
  unfold strconv_Itoa
  rw [if_pos hT]

theorem written_spec (c : Nat) : ∀ (d : Nat) (fuel m : Nat) (H : AH) (k w : Int) (n : ByteArray) (s : Sl3) (a : Fo), HasT H → SlF H s a → n.size ≤ maxS → a.dep ≤ fuel → a.dep < d → 1 + a.size ≤ 256 → shS k w n a = true →
    ∃ H', fam_sort_written (LCo c) (fuel + 1) m H k w n s = some (wrS k w n a, H') ∧ Ext H H' := by
  intro d
  induction d with
  | zero => intro fuel m H k w n s a _ _ _ _ h; omega
  | succ d ih =>
    intro fuel m H k w n s a hT h hn hd hlt hsz hs
    show ∃ H', sort_written_body (LCo c) (fam_sort_written (LCo c) fuel) m H k w n s = _ ∧ _
    unfold sort_written_body
    have hs0 := hs
    rcases shS_cases hs with ⟨rfl, hk⟩ | ⟨rfl, k1, w1, n1, a1, k2, w2, n2, a2, rfl, h1, h2⟩
    · simp only [wrS]
      by_cases e1 : k = 1
      · rw [if_pos e1, if_pos e1]; exact ⟨H, rfl, Fm.refl _ _⟩
      · rw [if_neg e1, if_neg e1]
        by_cases e2 : k = 2
        · rw [if_pos e2, if_pos e2]; exact ⟨H, rfl, Fm.refl _ _⟩
        · rw [if_neg e2, if_neg e2]
          by_cases e3 : k = 3
          · rw [if_pos e3, if_pos e3]
            obtain ⟨x, h5, h6⟩ := itoa_some (w := w) (by omega) (by omega)
            rw [itoa_run _ hT, h5]
            have := two_cats h6
            simp only [Option.bind_some, Option.getD_some]
            cases h7 : strcat (⟨#[40, 95, 32, 66, 105, 116, 86, 101, 99, 32]⟩ : ByteArray) x with
            | none => rw [h7] at this; cases this
            | some y =>
              rw [h7] at this
              simp only [Option.bind_some] at this ⊢
              rw [this]
              exact ⟨H, rfl, Fm.refl _ _⟩
          · rw [if_neg e3, if_neg e3, if_neg (by omega)]
            obtain ⟨H', h8, h9⟩ := Quote_spec c m hT (s := n) (by unfold maxS at hn; omega)
            rw [h8]
            exact ⟨H', rfl, h9⟩
    · have hl := h.1
      simp only [Fo.len] at hl
      simp only [Fo.dep] at hd hlt
      simp only [Fo.size] at hsz
      obtain ⟨q1, s1, p1, p2, p3, p4, p5, p6, p7, p8⟩ := h.2.2.rd (by omega)
      obtain ⟨q2, s2, t1, t2, t3, t4, t5, t6, t7, t8⟩ := p8.rd (by omega)
      obtain ⟨g, rfl⟩ : ∃ g, fuel = g + 1 := ⟨fuel - 1, by omega⟩
      obtain ⟨H1, c1, x1⟩ := ih g (Nat.max m H.next) H k1 w1 n1 s1 a1 hT p6 p7 (by omega) (by omega) (by omega) h1
      obtain ⟨H2, c2, x2⟩ := ih g (Nat.max m H1.next) H1 k2 w2 n2 s2 a2 (hT.ext x1) (t6.ext x1) t7 (by omega) (by omega) (by omega) h2
      have z0 : idxA 4 s 0 = some q1 := p1
      have z1 : idxA 4 s 1 = some q2 := t1
      refine ⟨H2, ?_, x1.trans x2⟩
      rw [if_neg (by omega), if_neg (by omega), if_neg (by omega), if_pos rfl]
      have hnm := h.2.2.nm
      have b1 := wr_size d a1 k1 w1 n1 (by omega) p7 hnm.2.1 h1
      have b2 := wr_size d a2 k2 w2 n2 (by omega) t7 hnm.2.2.2.1 h2
      have hbig : (wrS k1 w1 n1 a1).size + (wrS k2 w2 n2 a2).size ≤ 4611686018427387904 := by
        unfold big at b1 b2
        have : (1 + a1.size) + (1 + a2.size) ≤ 256 := by omega
        omega
      simp only [z0, p2, p3, p4, p5, z1, t2, t3, t4, t5, Option.bind_some, c1, c2]
      have := four_cats hbig (fun s15 => some (s15, H2))
      exact this

theorem refWrite_spec (c : Nat) : ∀ (d : Nat) (fuel m : Nat) (H : AH) (k w : Int) (n : ByteArray) (s : Sl3) (a : Fo), HasT H → SlF H s a → n.size ≤ maxS → a.dep ≤ fuel → a.dep < d → 1 + a.size ≤ 256 → shS k w n a = true →
    ∃ H', fam_ref04_write (LCo c) (fuel + 1) m H k w n s = some (wrS k w n a, H') ∧ Ext H H' := by
  intro d
  induction d with
  | zero => intro fuel m H k w n s a _ _ _ _ h; omega
  | succ d ih =>
    intro fuel m H k w n s a hT h hn hd hlt hsz hs
    show ∃ H', ref04_write_body (LCo c) (fam_ref04_write (LCo c) fuel) m H k w n s = _ ∧ _
    unfold ref04_write_body
    rcases shS_cases hs with ⟨rfl, hk⟩ | ⟨rfl, k1, w1, n1, a1, k2, w2, n2, a2, rfl, h1, h2⟩
    · simp only [wrS]
      by_cases e1 : k = 1
      · rw [if_pos e1, if_pos e1]; exact ⟨H, rfl, Fm.refl _ _⟩
      · rw [if_neg e1, if_neg e1]
        by_cases e2 : k = 2
        · rw [if_pos e2, if_pos e2]; exact ⟨H, rfl, Fm.refl _ _⟩
        · rw [if_neg e2, if_neg e2]
          by_cases e3 : k = 3
          · rw [if_pos e3, if_pos e3]
            obtain ⟨x, h5, h6⟩ := itoa_some (w := w) (by omega) (by omega)
            rw [itoa_run _ hT, h5]
            have := two_cats h6
            simp only [Option.bind_some, Option.getD_some]
            cases h7 : strcat (⟨#[40, 95, 32, 66, 105, 116, 86, 101, 99, 32]⟩ : ByteArray) x with
            | none => rw [h7] at this; cases this
            | some y =>
              rw [h7] at this
              simp only [Option.bind_some] at this ⊢
              rw [this]
              exact ⟨H, rfl, Fm.refl _ _⟩
          · rw [if_neg e3, if_neg e3, if_neg (by omega)]
            obtain ⟨H', h8, h9⟩ := refQuote_spec c m (H := H) (s := n) (by unfold maxS at hn; omega)
            rw [h8]
            exact ⟨H', rfl, h9⟩
    · have hl := h.1
      simp only [Fo.len] at hl
      simp only [Fo.dep] at hd hlt
      simp only [Fo.size] at hsz
      obtain ⟨q1, s1, p1, p2, p3, p4, p5, p6, p7, p8⟩ := h.2.2.rd (by omega)
      obtain ⟨q2, s2, t1, t2, t3, t4, t5, t6, t7, t8⟩ := p8.rd (by omega)
      obtain ⟨g, rfl⟩ : ∃ g, fuel = g + 1 := ⟨fuel - 1, by omega⟩
      obtain ⟨H1, c1, x1⟩ := ih g (Nat.max m H.next) H k1 w1 n1 s1 a1 hT p6 p7 (by omega) (by omega) (by omega) h1
      obtain ⟨H2, c2, x2⟩ := ih g (Nat.max m H1.next) H1 k2 w2 n2 s2 a2 (hT.ext x1) (t6.ext x1) t7 (by omega) (by omega) (by omega) h2
      have z0 : idxA 4 s 0 = some q1 := p1
      have z1 : idxA 4 s 1 = some q2 := t1
      refine ⟨H2, ?_, x1.trans x2⟩
      rw [if_neg (by omega), if_neg (by omega), if_neg (by omega), if_pos rfl]
      have hnm := h.2.2.nm
      have b1 := wr_size d a1 k1 w1 n1 (by omega) p7 hnm.2.1 h1
      have b2 := wr_size d a2 k2 w2 n2 (by omega) t7 hnm.2.2.2.1 h2
      have hbig : (wrS k1 w1 n1 a1).size + (wrS k2 w2 n2 a2).size ≤ 4611686018427387904 := by
        unfold big at b1 b2
        have : (1 + a1.size) + (1 + a2.size) ≤ 256 := by omega
        omega
      simp only [z0, p2, p3, p4, p5, z1, t2, t3, t4, t5, Option.bind_some, c1, c2]
      have := four_cats hbig (fun s15 => some (s15, H2))
      exact this

noncomputable def textS (k w : Int) (n : ByteArray) (a : Fo) : ByteArray × Int := if wrongS k w n a = 0 then (wrS k w n a, 0) else (emptyT, wrongS k w n a)

theorem Text_spec (L0 fuel : Nat) (hF : L0 = fuel + 1) (m : Nat) {H : AH} (hT : HasT H) {k w : Int} {n : ByteArray} {s : Sl3} {a : Fo} (h : SlF H s a) (hn : n.size ≤ maxS) (hd : a.dep ≤ fuel) :
    ∃ H', sort_Text (LCo L0) m H k w n s = some ((textS k w n a).1, (textS k w n a).2, H') ∧ Ext H H' := by
  unfold sort_Text textS
  rw [wrong_spec L0 fuel hF h hn hd]
  simp only [Option.bind_some]
  by_cases hw : wrongS k w n a = 0
  · obtain ⟨w1, w2, w3⟩ := wrong_zero hw
    obtain ⟨H', h1, h2⟩ := written_spec L0 (a.dep + 1) fuel m H k w n s a hT h hn hd (by omega) w3 w1
    rw [if_pos hw, if_pos hw]
    unfold sort_written
    have e1 : (LCo L0).fuel = fuel + 1 := hF
    rw [e1, h1]
    exact ⟨H', rfl, h2⟩
  · rw [if_neg hw, if_neg hw]
    exact ⟨H, rfl, Fm.refl _ _⟩

theorem refText_spec (L0 fuel : Nat) (hF : L0 = fuel + 1) (m : Nat) {H : AH} (hT : HasT H) {k w : Int} {n : ByteArray} {s : Sl3} {a : Fo} (h : SlF H s a) (hn : n.size ≤ maxS) (hd : a.dep ≤ fuel) :
    ∃ H', ref04_Text (LCo L0) m H k w n s = some ((textS k w n a).1, (textS k w n a).2, H') ∧ Ext H H' := by
  unfold ref04_Text textS
  rw [fits_spec L0 fuel hF h hn hd]
  simp only [Option.bind_some]
  by_cases hw : wrongS k w n a = 0
  · obtain ⟨w1, w2, w3⟩ := wrong_zero hw
    obtain ⟨H', h1, h2⟩ := refWrite_spec L0 (a.dep + 1) fuel m H k w n s a hT h hn hd (by omega) w3 w1
    rw [if_pos hw, if_pos hw]
    unfold ref04_write
    have e1 : (LCo L0).fuel = fuel + 1 := hF
    rw [e1, h1]
    exact ⟨H', rfl, h2⟩
  · rw [if_neg hw, if_neg hw]
    exact ⟨H, rfl, Fm.refl _ _⟩

def smF : Fo → Fo → Bool
  | .nil, .nil => true
  | .cons k w n a r, .cons k' w' n' a' r' => (decide (k = k') && (decide (w = w') && ((n.toList == n'.toList) && smF a a'))) && smF r r'
  | _, _ => false

def smS (k w : Int) (n : ByteArray) (a : Fo) (k' w' : Int) (n' : ByteArray) (a' : Fo) : Bool := decide (k = k') && (decide (w = w') && ((n.toList == n'.toList) && smF a a'))

theorem smF_len : ∀ {a b : Fo}, smF a b = true → a.len = b.len
  | .nil, .nil, _ => rfl
  | .nil, .cons .., h => by simp [smF] at h
  | .cons .., .nil, h => by simp [smF] at h
  | .cons k w n a r, .cons k' w' n' a' r', h => by
    simp only [smF, Bool.and_eq_true] at h
    simp only [Fo.len]
    rw [smF_len h.2]

theorem same_loop (c : Nat) {H : AH} {body : Int → Option (Lp Int Bool)} : ∀ (f g : Fo) (s t : Sl3) (i : Nat), FoA H s.p i f → FoA H t.p i g → s.n = i + f.len → t.n = i + g.len → f.len = g.len → s.n ≤ maxN →
    (∀ (j : Nat), j < s.n → ∀ k w n a r k' w' n' a' r', FoA H s.p j (.cons k w n a r) → FoA H t.p j (.cons k' w' n' a' r') → a.dep < f.dep →
      body (j : Int) = some (if smS k w n a k' w' n' a' = true then .next (IntKind.i64.wrap ((j : Int) + 1)) else .ret false)) →
    (body (s.n : Int) = some (.brk (s.n : Int))) → loopO body (i : Int) = some (if smF f g = true then .inl (s.n : Int) else .inr false) := by
  intro f
  induction f with
  | nil =>
    intro g s t i h1 h2 hn ht hl hm hb he
    cases g with
    | cons => simp [Fo.len] at hl
    | nil =>
      simp only [Fo.len, Nat.add_zero] at hn
      subst hn
      exact loopO_brk he
  | cons k w n a r iha ihr =>
    intro g s t i h1 h2 hn ht hl hm hb he
    cases g with
    | nil => simp [Fo.len] at hl
    | cons k' w' n' a' r' =>
      simp only [Fo.len] at hn ht hl
      have hbi := hb i (by omega) k w n a r k' w' n' a' r' h1 h2 (by simp only [Fo.dep]; omega)
      have hp : smF (.cons k w n a r) (.cons k' w' n' a' r') = (smS k w n a k' w' n' a' && smF r r') := rfl
      rw [hp]
      cases hq : smS k w n a k' w' n' a' with
      | false => rw [hq] at hbi; exact loopO_ret hbi
      | true =>
        rw [hq] at hbi
        simp only [if_true] at hbi
        rw [loopO_next hbi, wrap_next (n := s.n) (by omega) hm, Bool.true_and]
        refine ihr r' s t (i + 1) h1.2 h2.2 (by omega) (by omega) (by omega) hm (fun j hj k w n a r2 k' w' n' a' r2' g1 g2 g3 => hb j hj k w n a r2 k' w' n' a' r2' g1 g2 (by simp only [Fo.dep]; omega)) he

theorem Same_spec (c : Nat) {H : AH} : ∀ (d fuel : Nat) (k w : Int) (n : ByteArray) (s : Sl3) (a : Fo) (k' w' : Int) (n' : ByteArray) (s' : Sl3) (a' : Fo), SlF H s a → SlF H s' a' → 2 * a.dep + 1 ≤ fuel → a.dep < d →
    (fam_sort_Same (LCo c) (fuel + 1)).1 H k w n s k' w' n' s' = some (smS k w n a k' w' n' a') := by
  intro d
  induction d with
  | zero => intro fuel k w n s a k' w' n' s' a' _ _ _ h; omega
  | succ d ih =>
    intro fuel k w n s a k' w' n' s' a' h h' hf hd
    obtain ⟨g, rfl⟩ : ∃ g, fuel = g + 1 := ⟨fuel - 1, by omega⟩
    show sort_Same_body (LCo c) (fam_sort_Same (LCo c) (g + 1)).2 H k w n s k' w' n' s' = _
    have hE : (fam_sort_Same (LCo c) (g + 1)).2 H s s' = some (smF a a') := by
      show slices_EqualFunc__30_body (LCo c) (fam_sort_Same (LCo c) g).1 H s s' = _
      unfold slices_EqualFunc__30_body
      by_cases hl : a.len = a'.len
      · rw [if_pos (by rw [h.1, h'.1, hl])]
        show Option.bind (loopO (slices_EqualFunc__30_b0 (LCo c) (fam_sort_Same (LCo c) g).1 H s s') ((0 : Nat) : Int)) _ = _
        rw [same_loop c a a' s s' 0 h.2.2 h'.2.2 (by rw [h.1]; omega) (by rw [h'.1]; omega) hl h.2.1 ?_ ?_]
        · cases smF a a' <;> rfl
        · intro j hj k w n a1 r k' w' n' a1' r' f1 f2 f3
          unfold slices_EqualFunc__30_b0
          obtain ⟨q1, s1, p1, p2, p3, p4, p5, p6, p7, p8⟩ := f1.rd hj
          obtain ⟨q2, s2, t1, t2, t3, t4, t5, t6, t7, t8⟩ := f2.rd (s := s') (by rw [h'.1, ← hl, ← h.1]; exact hj)
          obtain ⟨g', rfl⟩ : ∃ g', g = g' + 1 := ⟨g - 1, by omega⟩
          have hr := ih g' k w n s1 a1 k' w' n' s2 a1' p6 t6 (by omega) (by omega)
          simp only [if_pos (show (j : Int) < (s.n : Int) by omega), p1, p2, p3, p4, p5, t1, t2, t3, t4, t5, Option.bind_some, hr]
          cases smS k w n a1 k' w' n' a1' <;> rfl
        · unfold slices_EqualFunc__30_b0
          rw [if_neg (by omega)]
      · rw [if_neg (by rw [h.1, h'.1]; omega)]
        cases hq : smF a a' with
        | false => rfl
        | true => exact absurd (smF_len hq) hl
    unfold sort_Same_body smS
    rw [hE]
    by_cases e1 : k = k' <;> by_cases e2 : w = w' <;> cases (n.toList == n'.toList) <;> cases smF a a' <;> simp [e1, e2]

theorem refSame_spec (c : Nat) {H : AH} : ∀ (d fuel : Nat) (k w : Int) (n : ByteArray) (s : Sl3) (a : Fo) (k' w' : Int) (n' : ByteArray) (s' : Sl3) (a' : Fo), SlF H s a → SlF H s' a' → a.dep ≤ fuel → a.dep < d →
    fam_ref04_Same (LCo c) (fuel + 1) H k w n s k' w' n' s' = some (smS k w n a k' w' n' a') := by
  intro d
  induction d with
  | zero => intro fuel k w n s a k' w' n' s' a' _ _ _ h; omega
  | succ d ih =>
    intro fuel k w n s a k' w' n' s' a' h h' hf hd
    show ref04_Same_body (LCo c) (fam_ref04_Same (LCo c) fuel) H k w n s k' w' n' s' = _
    have hE : a.len = a'.len → (Option.bind ((LCo c).run (ref04_Same_b0 (LCo c) (fam_ref04_Same (LCo c) fuel) H k w n s k' w' n' s') 0) fun o => match o with | .inl _ => some true | .inr r => some r) = some (smF a a') := by
      intro hl
      show Option.bind (loopO (ref04_Same_b0 (LCo c) (fam_ref04_Same (LCo c) fuel) H k w n s k' w' n' s') ((0 : Nat) : Int)) _ = _
      rw [same_loop c a a' s s' 0 h.2.2 h'.2.2 (by rw [h.1]; omega) (by rw [h'.1]; omega) hl h.2.1 ?_ ?_]
      · cases smF a a' <;> rfl
      · intro j hj k1 w1 n1 a1 r k1' w1' n1' a1' r' f1 f2 f3
        unfold ref04_Same_b0
        obtain ⟨q1, s1, p1, p2, p3, p4, p5, p6, p7, p8⟩ := f1.rd hj
        obtain ⟨q2, s2, t1, t2, t3, t4, t5, t6, t7, t8⟩ := f2.rd (s := s') (by rw [h'.1, ← hl, ← h.1]; exact hj)
        obtain ⟨g', rfl⟩ : ∃ g', fuel = g' + 1 := ⟨fuel - 1, by omega⟩
        have hr := ih g' k1 w1 n1 s1 a1 k1' w1' n1' s2 a1' p6 t6 (by omega) (by omega)
        simp only [if_pos (show (j : Int) < (s.n : Int) by omega), p1, p2, p3, p4, p5, t1, t2, t3, t4, t5, Option.bind_some, hr]
        cases smS k1 w1 n1 a1 k1' w1' n1' a1' <;> rfl
      · unfold ref04_Same_b0
        rw [if_neg (by omega)]
    unfold ref04_Same_body smS
    by_cases e1 : k = k'
    · rw [if_pos e1]
      by_cases e2 : w = w'
      · rw [if_pos e2]
        cases e3 : (n.toList == n'.toList) with
        | false => simp [e1]
        | true =>
          by_cases hl : a.len = a'.len
          · have hl' : (s.n : Int) = (s'.n : Int) := by rw [h.1, h'.1, hl]
            have := hE hl
            simp only [if_true, decide_eq_true hl', Bool.not_true, Option.bind_some, Bool.false_eq_true, if_false]
            refine this.trans ?_
            simp [e1, e2]
          · have hl' : ¬ ((s.n : Int) = (s'.n : Int)) := by rw [h.1, h'.1]; omega
            have : smF a a' = false := by
              cases hq : smF a a' with
              | false => rfl
              | true => exact absurd (smF_len hq) hl
            simp only [if_true, decide_eq_false hl', Bool.not_false, Option.bind_some, this, Bool.and_false]
      · rw [if_neg e2]
        simp [e2]
    · rw [if_neg e1]
      simp [e1]

theorem Texts_true (L0 fuel : Nat) (hF : L0 = 2 * fuel + 2) (m : Nat) {H : AH} (hT : HasT H) {k w : Int} {n : ByteArray} {s : Sl3} {a : Fo} (h : SlF H s a) (hn : n.size ≤ maxS) (hd : a.dep ≤ fuel)
    {k' w' : Int} {n' : ByteArray} {s' : Sl3} {a' : Fo} (h' : SlF H s' a') : ∃ H', law04_SortTexts (LCo L0) m H k w n s k' w' n' s' = some (true, H') := by
  unfold law04_SortTexts
  obtain ⟨H1, t1, x1⟩ := Text_spec L0 (2 * fuel + 1) hF m hT h hn (by omega) (k := k) (w := w)
  rw [t1]
  simp only [Option.bind_some]
  obtain ⟨H2, t2, x2⟩ := refText_spec L0 (2 * fuel + 1) hF m (hT.ext x1) (h.ext x1) hn (by omega) (k := k) (w := w)
  rw [t2]
  simp only [Option.bind_some, beq_self_eq_true, if_true]
  have hx := x1.trans x2
  unfold sort_Same ref04_Same
  have e1 : (LCo L0).fuel = 2 * fuel + 1 + 1 := hF
  rw [e1, Same_spec L0 (a.dep + 1) (2 * fuel + 1) k w n s a k' w' n' s' a' (h.ext hx) (h'.ext hx) (by omega) (by omega),
    refSame_spec L0 (a.dep + 1) (2 * fuel + 1) k w n s a k' w' n' s' a' (h.ext hx) (h'.ext hx) (by omega) (by omega)]
  simp only [Option.bind_some, beq_self_eq_true, if_true]
  rw [awake_run _ (hT.ext hx)]
  exact ⟨H2, rfl⟩

end Go.Proofs.YtccbilfbhecdaaaDoor


namespace Go.Proofs.YtccbilfbhecdaaaDoor
open Go Go.Abs Go.ChangeShapes Go.WideShapes
set_option maxRecDepth 100000

theorem texts_calls {H : Type} {enc : TypeId × Value → H} {W : World} {base : Nat} {args : Array Value} {ds : List (DataW H)} {ps : List MemPlace} (hg : Tryd.prog.globals.size ≤ W.heap.size)
    (hval : ∀ (j : Nat) t v, Tryd.f11.params[j]? = some t → args[j]? = some v → Value.okWide Tryd.prog W .any base t v)
    (hA : DataW.TrodAll enc Tryd.prog W 0 (fun _ => true) true Tryd.f11.params.toList args.toList ds ps) (hk : Rows.uptoSmall H ds = true) (hL : laidMet Tryd.prog Rows.sortTextsUptoRow.laid W) (hsh : W.ShapedOpen Tryd.prog)
    (hwt : (DataW.weightsEach Tryd.prog (Tryd.f11.params.toList ++ []) ds).all (· ≤ reachBytes) = true) :
    Calls Tryd.prog 11 args W fun e W' => e = .returned (.bool true) ∧ RowKit.Below W.heap.size W W' := by
  rw [Tryd.params11] at hA hval hwt
  obtain ⟨v0, vs0, d0, ds0, p0, q0, hargs, rfl, rfl, h0, r0⟩ := trodAll_cons hA
  obtain ⟨v1, vs1, d1, ds1, p1, q1, rfl, rfl, rfl, h1, r1⟩ := trodAll_cons r0
  obtain ⟨rfl, rfl, rfl⟩ := trodAll_nil r1
  obtain rfl : args = #[v0, v1] := by cases args; simp_all
  have hb := bulks.bound hk
  simp only [Rows.uptoBulkAll] at hb
  simp only [List.append_nil, DataW.weightsEach, List.all_append, Bool.and_eq_true] at hwt
  obtain ⟨φ0, H0x, k0, w0, n0, s0, a0, i0, le0, e0, vr0, sl0, hn0⟩ := import_sort (start_at hg hL hsh) h0 (hval 0 28 v0 rfl rfl) hwt.1
  obtain ⟨φ1, H1x, k1, w1, n1, s1, a1, i1, le1, e1, vr1, sl1, hn1⟩ := import_sort i0 h1 (hval 1 28 v1 rfl rfl) hwt.2
  obtain ⟨H', hr⟩ := Texts_true (2 * a0.dep + 2) a0.dep rfl H1x.next (hasT_start.ext (e0.trans e1)) (sl0.ext e1) hn0 (Nat.le_refl _) sl1 (k := k0) (w := w0) (k' := k1) (w' := w1) (n' := n1)
  exact true_of_callI (ne := NE.plain 1000) sane (law04_SortTexts_ok hr) i1 (ar2 (vr0.mono le1) vr1)

theorem texts_reads (os : Os) {H : Type} (enc : TypeId × Value → H) : ∃ x, DataW.whole enc Tryd.prog ((laidW2 Tryd.prog Rows.sortTextsUptoRow.laid os).forCall (fun _ _ => 0) ⟨#[], #[.agg #[.int .i64 0, .int .i64 0, .string ⟨#[]⟩, .slice none 0 0], .agg #[.int .i64 0, .int .i64 0, .string ⟨#[]⟩, .slice none 0 0]], []⟩).memory Tryd.f11.params.toList Rows.sortTextsSpec.vars false (#[.agg #[.int .i64 0, .int .i64 0, .string ⟨#[]⟩, .slice none 0 0], .agg #[.int .i64 0, .int .i64 0, .string ⟨#[]⟩, .slice none 0 0]] : Array Value).toList 8 = some ([.agg [.lit (.int .i64 0), .lit (.int .i64 0), .lit (.string []), .nil], .agg [.lit (.int .i64 0), .lit (.int .i64 0), .lit (.string []), .nil]], [], x) :=
  ⟨[], by kernel_rfl⟩

theorem texts_lifted (os : Os) (started : os.Started) (H : Type) (enc : TypeId × Value → H) (F : Stop.Interp) :
    ReturnsInHanded {} Tryd.checked os 11 .any ((Rows.OpenSpec.upto Rows.sortTextsSpec).preRow enc Tryd.prog Tryd.f11 Rows.sortTextsUptoRow.domain false Rows.sortTextsUptoRow.laid) (((Rows.OpenSpec.upto Rows.sortTextsSpec).at F).post enc Tryd.prog Tryd.f11 false true false false) := by
  obtain ⟨x, hx⟩ := texts_reads os enc
  exact lifted_row_tabs (C := Tryd.checked) (s := Rows.OpenSpec.upto Rows.sortTextsSpec) (k := Rows.uptoSmall) rfl own started (by kernel_rfl) Tryd.func11 globals_ok laidOut (by kernel_rfl) rfl (by kernel_rfl)
    (fun ds hds => by
      have h1 : ds.length = 2 := hds
      match ds, h1 with
      | [d0, d1], _ => exact ⟨rfl, rfl, rfl⟩)
    rfl (by kernel_rfl)
    (witness_row_atRef (enc := enc) (C := Tryd.checked) false (laidW2 Tryd.prog Rows.sortTextsUptoRow.laid os) #[.agg #[.int .i64 0, .int .i64 0, .string ⟨#[]⟩, .slice none 0 0], .agg #[.int .i64 0, .int .i64 0, .string ⟨#[]⟩, .slice none 0 0]] rfl (by kernel_rfl) (by kernel_rfl) (by kernel_rfl)
      (OpenSpec.preRow_of_cond 8 hx (by kernel_rfl) (fun k hk => by cases hk; kernel_rfl) (by kernel_rfl) (laid_met os _)))
    (fun W base args ds ps hg hval hA hk hL hsh hwt => texts_calls hg hval hA hk hL hsh hwt)

theorem texts_said : Rows.SortTextsUptoSaid :=
  OpenClaim.holds_of_cond 11 Tryd.f11 rfl rfl rfl rfl rfl rfl rfl ⟨rfl, rfl, rfl, rfl, rfl⟩ rfl rfl rfl rfl rfl (by kernel_rfl) Tryd.func11 (by kernel_rfl)
    (of_decide_eq_true (by kernel_rfl)) (by unfold Func.isWrapper; first | (rw [if_pos (by decide +kernel)]; kernel_rfl) | (rw [if_neg (by decide +kernel)]; exact ⟨rfl, rfl⟩))
    (fun os started H enc _ F => by rw [OpenClaim.pre_eq_preRow]; exact texts_lifted os started H enc F)

theorem texts_plain (f : FuncId) (fn : Func) (hf : Tryd.pinned.checked.prog.funcNamed "tribunal/tribunallaw04.SortTexts" = some f) (hfn : Tryd.pinned.checked.prog.funcs[f]? = some fn) :
    false = Tryd.pinned.checked.prog.looks [] ∧ ∀ (j : Nat) t, fn.params[j]? = some t → Tryd.pinned.checked.prog.wantsStandIn t = false := by
  obtain rfl : f = 11 := Option.some.inj ((show Tryd.prog.funcNamed "tribunal/tribunallaw04.SortTexts" = some 11 by kernel_rfl).symm.trans hf) |>.symm
  obtain rfl : fn = Tryd.f11 := (Option.some.inj (Tryd.func11.symm.trans hfn)).symm
  exact ⟨by kernel_rfl, fun j t ht => by
    have hall : (Tryd.f11.params.toList.all fun u => !Tryd.prog.wantsStandIn u) = true := by kernel_rfl
    have hm : t ∈ Tryd.f11.params.toList := by simpa using Array.mem_of_getElem? ht
    exact (show Tryd.prog.wantsStandIn t = false by simpa using List.all_eq_true.1 hall t hm)⟩

theorem sortTexts_holds : Rows.SortTextsUptoCardSaid :=
  Claim7.holds_tied_plain_at .later [] _ _ _ _ texts_said (fun _ h => by cases h) (by kernel_rfl) (fun _ h => by cases h) sortTextsUpto_row_tie rfl ⟨rfl, rfl⟩ (by kernel_rfl) rfl texts_plain (by kernel_rfl)

#print axioms sortTexts_holds
end Go.Proofs.YtccbilfbhecdaaaDoor

