/- The engine, part 11 of 35: pieces of the interpreter and of its soundness. No condition. -/
import Derived.Test.YtiggbefjndkkmaaGreatDoorE10
namespace Go.Abs

variable {P : Program} {m : Nat}

theorem one_eq' (v : Value) : v.oneCell' = one v := by cases v <;> rfl

theorem addr_add_add (a : Addr) (i j : Nat) : (a.add i).add j = a.add (i + j) := by
  unfold Addr.add
  by_cases hi : i = 0
  · subst hi; simp
  · by_cases hj : j = 0
    · subst hj; simp
    · simp [hi, hj, Nat.add_assoc]

theorem LR.length {φ : Inj} {l l' : List Value} (h : LR φ l l') : l.length = l'.length := F2.length h

theorem rd_run {φ : Inj} {H : AH} {w : World} (hi : Inv φ H w) {a a' : Addr} (ha : AddrR φ a a') : ∀ (n i : Nat) (l : List Value), rdCells H a i n = some l →
    l.length = n ∧ ∃ l', LR φ l l' ∧ ∀ j v, l'[j]? = some v → w.cell? (a'.add (i + j)) = some v := by
  intro n
  induction n with
  | zero => intro i l h; simp only [rdCells, Option.some.injEq] at h; subst h; exact ⟨rfl, [], .nil, fun j v hv => by simp at hv⟩
  | succ n ih =>
    intro i l h
    simp only [rdCells] at h
    split at h
    · rename_i v l1 h1 h2
      simp only [Option.some.injEq] at h
      subst h
      obtain ⟨hl, l', hr, hc⟩ := ih (i + 1) l1 h2
      obtain ⟨v', hv1, hv2⟩ := hi.cell h1 (ha.add i)
      refine ⟨by simp [hl], v' :: l', .cons hv2 hr, fun j u hu => ?_⟩
      cases j with
      | zero => simp only [List.getElem?_cons_zero, Option.some.injEq] at hu; subst hu; exact hv1
      | succ j =>
        have := hc j u (by simpa using hu)
        rw [show i + (j + 1) = i + 1 + j by omega]; exact this
    · cases h

theorem lr_one {φ : Inj} {l l' : List Value} (h : LR φ l l') (h1 : l.all one = true) : ∀ u ∈ l', u.oneCell' = true := by
  induction h with
  | nil => intro u hu; cases hu
  | cons hab _ ih =>
    simp only [List.all_cons, Bool.and_eq_true] at h1
    intro u hu
    rcases List.mem_cons.1 hu with rfl | hu
    · rw [one_eq', one_eq hab]; exact h1.1
    · exact ih h1.2 u hu

theorem lr_refl_flat {φ : Inj} {l : List Value} (h : ∀ x ∈ l, VR φ x x) : LR φ l l := by
  induction l with
  | nil => exact .nil
  | cons a l ih => exact .cons (h a (by simp)) (ih fun x hx => h x (by simp [hx]))

/-- 'make' behind an append. -/
structure ZSrc (P : Program) (i : TypeInfo) (tx : TypeId) (x : Value) (n : Nat) (z : Value) (news : List Value) : Prop where
  kind : ∃ k, P.underlying tx = some (.int k)
  val : ∃ k, x = .int k (n : Int)
  fits : n * i.bytes ≤ 281474976710656
  bytes : 1 ≤ i.bytes
  zero : i.zero = some z
  cells : news = (Builtin.zeroCells z.cells n).toList
  size : z.cells.size = i.size

theorem ZSrc.wrap {i : TypeInfo} {tx : TypeId} {x z : Value} {n : Nat} {news : List Value} (h : ZSrc P i tx x n z news) : IntKind.i64.wrap (n : Int) = (n : Int) := by
  have h1 : n ≤ n * i.bytes := Nat.le_mul_of_pos_right _ h.bytes
  have h2 := h.fits
  have : n ≤ 281474976710656 := by omega
  unfold IntKind.wrap IntKind.bits IntKind.signed
  simp only [Bool.true_and]
  rw [Int.emod_eq_of_lt (by omega) (by omega)]
  rw [if_neg (by simp; omega)]

/-- What is appended. -/
inductive ASrc (P : Program) (i : TypeInfo) (tx : TypeId) (x : Value) (n : Nat) (news : List Value) (w : World) : Prop
  | src (h : Src P i.size tx x n news w)
  | zer (z : Value) (h : ZSrc P i tx x n z news)

theorem zeroCells_length (z : Array Value) (n : Nat) : (Builtin.zeroCells z n).toList.length = n * z.size := by
  simp [Builtin.zeroCells]

theorem ASrc.len {i : TypeInfo} {tx : TypeId} {x : Value} {n : Nat} {news : List Value} {w : World} (h : ASrc P i tx x n news w) : news.length = n * i.size := by
  cases h with
  | src h => exact h.newsLen
  | zer z h => rw [h.cells, zeroCells_length, h.size]

theorem fits_int {n b : Nat} (h : n * b ≤ 281474976710656) : ¬ ((281474976710656 : Int) < (n : Int) * (b : Int)) := by
  rw [← Int.natCast_mul]
  generalize n * b = q at *
  omega

theorem run_asInt_int (k : IntKind) (n : Int) (w : World) : (asInt (.int k n)).run P w = .ok n w := by simp [asInt, asIntOf]

theorem run_append0 {t tx ty e : TypeId} {i : TypeInfo} (ht : P.underlying t = some (.slice e)) (hi : P.info? e = some i) (base : Option Addr) (sLen sCap : Nat) (hle : sLen ≤ sCap) {x : Value} {w : World} (hs : ASrc P i tx x 0 [] w) :
    (Builtin.append_ #[t, tx] ty #[.slice base sLen sCap, x]).run P w = .ok (.slice base sLen sCap) w := by
  cases hs with
  | src h => exact run_append_nothing w t tx ty e i ht hi base sLen sCap hle x h
  | zer z h =>
    obtain ⟨k, hk⟩ := h.kind
    obtain ⟨k', rfl⟩ := h.val
    have hw : IntKind.i64.wrap 0 = 0 := by decide
    cases base <;> simp [Builtin.append_, run_underlying ht, run_underlying hk, sizeOf, typeInfo, hi, hle, run_asInt_int, hw, storeCells]

theorem run_append_room_st {t tx ty e : TypeId} {i : TypeInfo} (ht : P.underlying t = some (.slice e)) (hi : P.info? e = some i) (a : Addr) (sLen sCap : Nat) {x : Value} {n : Nat} {news : List Value} {w w' : World} (hs : ASrc P i tx x n news w)
    (hn : n * i.size ≠ 0) (hroom : sLen + n ≤ sCap) (hst : (storeCells (a.add (sLen * i.size)) news).run P w = .ok () w') :
    (Builtin.append_ #[t, tx] ty #[.slice (some a) sLen sCap, x]).run P w = .ok (.slice (some a) (sLen + n) sCap) w' := by
  cases hs with
  | src hs =>
    rcases hs.kind with ⟨e', hk⟩ | hk <;> simp [Builtin.append_, run_underlying ht, run_underlying hk, sizeOf, typeInfo, hi, hs.len, hroom, hs.cells, hst]
  | zer z h =>
    obtain ⟨k, hk⟩ := h.kind
    obtain ⟨k', rfl⟩ := h.val
    have hw := h.wrap
    have hf := h.fits
    have h0 : ¬ ((n : Int) < 0) := by omega
    have h1 : ¬ ((281474976710656 : Int) < (n : Int) * (i.bytes : Int)) := fits_int hf
    rw [h.cells] at hst
    simp [Builtin.append_, run_underlying ht, run_underlying hk, sizeOf, typeInfo, zeroValue, hi, h.zero, run_asInt_int, hw, h0, h1, hroom, hn, hst]

theorem run_append_grow {t tx ty e : TypeId} {i : TypeInfo} {z : Value} (ht : P.underlying t = some (.slice e)) (hi : P.info? e = some i) (hz : i.zero = some z) (base : Option Addr) (sLen sCap : Nat) (olds : List Value) {w : World}
    (hold : (Builtin.firstCells i.size sLen (.slice base sLen sCap)).run P w.drew = .ok olds.toArray w.drew) {x : Value} {n : Nat} {news : List Value} (hs : ASrc P i tx x n news w)
    (hn : n * i.size ≠ 0) (hg : sCap < sLen + n) (h63 : ((sLen + n : Nat) : Int) ≤ 9223372036854775807) (hfit : Builtin.nextslicecap (sLen + n) sCap * i.bytes ≤ 281474976710656) :
    (Builtin.append_ #[t, tx] ty #[.slice base sLen sCap, x]).run P w =
      .ok (.slice (some ⟨w.heap.size, 0, none⟩) (sLen + n) (grownCap w (sLen + n) sCap e))
        (w.drew.alloc (.cells ((olds ++ news).toArray ++ Builtin.zeroCells z.cells (grownCap w (sLen + n) sCap e - (sLen + n))) e)) := by
  cases hs with
  | src hs => exact run_append_grow_src w t tx ty e i z ht hi hz base sLen sCap olds hold x n news hs hg h63 hfit
  | zer z' h =>
    obtain ⟨k, hk⟩ := h.kind
    obtain ⟨k', rfl⟩ := h.val
    have hzz := h.zero
    rw [hz] at hzz; cases hzz
    have hw := h.wrap
    have hf := h.fits
    have h0 : ¬ ((n : Int) < 0) := by omega
    have h1 : ¬ ((281474976710656 : Int) < (n : Int) * (i.bytes : Int)) := fits_int hf
    have hr : ¬ (sLen + n ≤ sCap) := by omega
    have h63' : ¬ (9223372036854775807 < ((sLen : Int) + (n : Int))) := by omega
    have h48' : ¬ (281474976710656 < Builtin.nextslicecap (sLen + n) sCap * i.bytes) := by omega
    rw [h.cells]
    simp [Builtin.append_, run_underlying ht, run_underlying hk, sizeOf, typeInfo, zeroValue, hi, hz, run_asInt_int, hw, h0, h1, hr, h63', h48', hn, Question.forced, hold, newRow, grownCap]
    congr 2
    apply Array.ext'
    simp [List.append_assoc]

theorem aSrc_ok {φ : Inj} {H : AH} {w : World} {xt e : TypeId} {i : TypeInfo} {x x' : Value} {k : Nat} {new : List Value} (hi0 : Inv φ H w) (h : aSrc P xt e i x H = some (k, new)) (hx : VR φ x x') (he : P.info? e = some i) :
    ∃ new', LR φ new new' ∧ ASrc P i xt x' k new' w := by
  unfold aSrc at h
  split at h
  · rename_i d b n c hu
    cases hr : rdCells H b 0 (n * i.size) with
    | none => rw [hr] at h; cases h
    | some l =>
      rw [hr] at h
      simp only at h
      cases ha : l.all one with
      | false => rw [ha] at h; cases h
      | true =>
        rw [ha] at h
        simp only [cond_true, Option.some.injEq, Prod.mk.injEq] at h
        obtain ⟨rfl, rfl⟩ := h
        have go : ∀ a' c', AddrR φ b a' → x' = .slice (some a') n c' → ∃ new', LR φ l new' ∧ ASrc P i xt x' n new' w := by
          intro a' c' haa hx'
          obtain ⟨hl, l', hr1, hr2⟩ := rd_run hi0 haa _ 0 l hr
          refine ⟨l', hr1, ?_⟩
          rw [hx']
          exact .src (Src.ofSlice w hu a' n c' l' (by rw [← LR.length hr1, hl]) (fun j u hu => by have := hr2 j u hu; rwa [Nat.zero_add] at this) (lr_one hr1 ha))
        have nul : ∀ a' c', n = 0 → x' = .slice (some a') 0 c' → ∃ new', LR φ l new' ∧ ASrc P i xt x' n new' w := by
          intro a' c' hn hx'
          subst hn
          simp only [Nat.zero_mul, rdCells, Option.some.injEq] at hr
          subst hr
          refine ⟨[], .nil, ?_⟩
          rw [hx']
          exact .src (Src.ofSlice w hu a' 0 c' [] (by simp) (fun j u hu => by simp at hu) (fun u hu => by cases hu))
        cases hx with
        | slice b o n c l1 hl hc => exact go _ c ⟨rfl, l1, hl, rfl⟩ rfl
        | sliceOpen b o n c l1 hl hn hc => exact go _ c ⟨rfl, l1, hl, rfl⟩ rfl
        | sliceEnd b o l1 a hl => exact nul a 0 rfl rfl
        | sliceZero b o l1 a hl => exact nul a 0 rfl rfl
  · rename_i d n c hu
    cases hn : Nat.beq n 0 with
    | false => rw [hn] at h; cases h
    | true =>
      have hn := Nat.eq_of_beq_eq_true hn
      subst hn
      simp only [Nat.beq, cond_true, Option.some.injEq, Prod.mk.injEq] at h
      obtain ⟨rfl, rfl⟩ := h
      cases hx
      exact ⟨[], .nil, .src (Src.ofNil w hu c)⟩
  · rename_i s hu
    cases hn : Nat.beq i.size 1 with
    | false => rw [hn] at h; cases h
    | true =>
      rw [hn] at h
      simp only [cond_true, Option.some.injEq, Prod.mk.injEq] at h
      obtain ⟨rfl, rfl⟩ := h
      have hs := Nat.eq_of_beq_eq_true hn
      cases hx
      refine ⟨byteCells s, ?_, .src (by rw [hs]; exact Src.ofString w hu s)⟩
      exact lr_refl_flat fun x hx => by
        obtain ⟨_, _, rfl⟩ := List.mem_map.1 hx
        exact .int _ _
  · rename_i k1 k2 n hu
    cases hb : (Nat.ble (n * i.bytes) 281474976710656 && zflat P e && Nat.ble 1 i.bytes) with
    | false => rw [hb] at h; cases h
    | true =>
      rw [hb] at h
      simp only [Bool.and_eq_true] at hb
      obtain ⟨⟨hb1, hb2⟩, hb3⟩ := hb
      simp only [cond_true] at h
      cases hz : i.zero with
      | none => rw [hz] at h; cases h
      | some z =>
        rw [hz] at h
        simp only at h
        cases hq : Nat.beq z.cells.size i.size with
        | false => rw [hq] at h; cases h
        | true =>
          rw [hq] at h
          simp only [cond_true, Option.some.injEq, Prod.mk.injEq] at h
          obtain ⟨rfl, rfl⟩ := h
          have hzf : flat depth z = true := by unfold zflat at hb2; rw [he] at hb2; simp only [hz] at hb2; exact hb2
          cases hx
          refine ⟨_, ?_, .zer z ⟨⟨_, hu⟩, ⟨_, rfl⟩, Nat.le_of_ble_eq_true hb1, Nat.le_of_ble_eq_true hb3, hz, rfl, Nat.eq_of_beq_eq_true hq⟩⟩
          exact AR_iff.1 (ar_zeros (flat_cells_refl hzf) _)
  · cases h

end Go.Abs
