/- NatQuos is proved: at every input of bulk at most 1048576 the call returns true and its arguments read as before, part 1. No condition. -/
import Derived.Test.YtoadagekdnkciaaQuosG2
import Derived.KernelRfl
import Derived.Laws.Strings
import Derived.Test.YtoadagekdnkciaaRows
namespace Go.Proofs.Ytoadagekdnkciaa
open Go Go.Abs

abbrev W64 : Nat := 18446744073709551616
abbrev W16 : Nat := 65536
theorem two64 : 2 ≤ W64 := by decide
theorem two16 : 2 ≤ W16 := by decide

/-- A number as limbs. -/
structure Nm (H : AH) (s : Sl3) (xs : List Nat) : Prop where
  ro : Ro .u64 H s xs
  lt : ∀ x ∈ xs, x < W64
  sm : xs.length ≤ 1099511627776

theorem Nm.ext {H H' : AH} {s : Sl3} {xs : List Nat} (h : Nm H s xs) (hf : Ext H H') : Nm H' s xs := ⟨h.ro.ext hf, h.lt, h.sm⟩

/-- A number's limbs, no 0 on top. -/

theorem D64_len {xs : List Nat} (h : ∀ x ∈ xs, x < W64) : (dig W64 (val W64 xs)).length ≤ xs.length := (dig_len two64 _ _).2 (val_lt two64 xs h)

theorem trim_spec {H : AH} {s : Sl3} {xs : List Nat} (h : Nm H s xs) : ∃ s', nat_trim H s = some s' ∧ Nm H s' (dig W64 (val W64 xs)) ∧ s'.p = s.p ∧ s'.c = (dig W64 (val W64 xs)).length := by
  have hsm := h.sm
  -- the loop
  have hloop : ∀ (n : Nat), n ≤ xs.length → (∀ (i : Nat) (hi : i < xs.length), n ≤ i → xs[i] = 0) →
      ∃ m : Nat, loopO (nat_trim_b0 H s) (n : Int) = some (.inl (m : Int)) ∧ m ≤ xs.length ∧ (∀ (i : Nat) (hi : i < xs.length), m ≤ i → xs[i] = 0) ∧ (∀ (hm : 0 < m) (hl : m - 1 < xs.length), xs[m - 1] ≠ 0) := by
    intro n
    induction n with
    | zero =>
      intro _ hz
      refine ⟨0, loopO_brk ?_, Nat.zero_le _, hz, fun hm => by omega⟩
      unfold nat_trim_b0
      rw [if_neg (by omega)]
    | succ n ih =>
      intro hn hz
      have hw : IntKind.i64.wrap (((n + 1 : Nat) : Int) - 1) = n := by
        rw [show (((n + 1 : Nat) : Int) - 1) = n by omega]; exact wrap_nat rfl (by omega)
      obtain ⟨p, g1, g2, _⟩ := h.ro.get (i := n) (by omega) (v := (n : Int)) rfl
      by_cases h0 : xs[n] = 0
      · obtain ⟨m, h1, h2, h3, h4⟩ := ih (by omega) fun i hi hni => by
          rcases Nat.lt_or_ge n i with hlt | hge
          · exact hz i hi (by omega)
          · have : i = n := by omega
            subst this; exact h0
        refine ⟨m, ?_, h2, h3, h4⟩
        rw [loopO_next (s' := (n : Int)), h1]
        unfold nat_trim_b0
        rw [if_pos (by omega), hw, g1]
        simp only [Option.bind_some]
        rw [g2]
        simp only [Option.bind_some, h0]
        rfl
      · refine ⟨n + 1, loopO_brk ?_, hn, hz, fun _ _ => by simpa using h0⟩
        unfold nat_trim_b0
        rw [if_pos (by omega), hw, g1]
        simp only [Option.bind_some]
        rw [g2]
        simp only [Option.bind_some]
        rw [if_neg (by omega)]
  obtain ⟨m, h1, h2, h3, h4⟩ := hloop xs.length (Nat.le_refl _) fun i hi hni => by omega
  obtain ⟨s', c1, c2, c3, c4⟩ := slc_take h.ro h2 rfl (by unfold OPEN; omega)
  have e : xs.take m = dig W64 (val W64 xs) := take_dig two64 h.lt h2 (fun i hi hm => h3 i hi hm) fun hm => h4 hm (by omega)
  refine ⟨s', ?_, ⟨by rw [← e]; exact c2, dig_lt two64 _, Nat.le_trans (D64_len h.lt) hsm⟩, c3, by rw [← e, c4]; simp; omega⟩
  unfold nat_trim
  rw [h.ro.len, h1]
  simp only [Option.bind_some, c1]

end Go.Proofs.Ytoadagekdnkciaa


namespace Go.Proofs.Ytoadagekdnkciaa
open Go Go.Abs

/-- A slice of numbers. -/
def LNm (H : AH) (s : Sl3) (xss : List (List Nat)) : Prop := ∃ ss, RoS H s ss ∧ ss.length = xss.length ∧ ∀ (i : Nat) (h : i < ss.length) (h' : i < xss.length), Nm H ss[i] xss[i]

theorem LNm.ext {H H' : AH} {s : Sl3} {xss : List (List Nat)} (h : LNm H s xss) (hf : Ext H H') : LNm H' s xss :=
  let ⟨ss, h1, h2, h3⟩ := h; ⟨ss, h1.ext hf, h2, fun i a b => (h3 i a b).ext hf⟩

theorem LNm.get {H : AH} {s : Sl3} {xss : List (List Nat)} (h : LNm H s xss) {i : Nat} (hi : i < xss.length) {v : Int} (hv : v = i) : ∃ p x, idxA 1 s v = some p ∧ rd deSl H p = some x ∧ Nm H x xss[i] := by
  obtain ⟨ss, h1, h2, h3⟩ := h
  obtain ⟨p, g1, g2⟩ := h1.get (i := i) (by omega) hv
  exact ⟨p, ss[i], g1, g2, h3 i (by omega) hi⟩

theorem LNm.len {H : AH} {s : Sl3} {xss : List (List Nat)} (h : LNm H s xss) : s.n = xss.length := let ⟨_, h1, h2, _⟩ := h; h1.len.trans h2

theorem LNm.one {H : AH} {s : Sl3} {xs : List Nat} (h : Nm H s xs) : ∃ z H', newR 24 1 #[Sl3.v s] H = some (z, H') ∧ LNm H' z [xs] ∧ Ext H H' ∧ H'.next = H.next + 1 := by
  obtain ⟨z, H', h1, h2, h3, h4⟩ := newR_ros (e := 24) (H := H) [s]
  refine ⟨z, H', h1, ⟨[s], h2, rfl, fun i hi hi' => ?_⟩, h3, h4⟩
  have : i = 0 := by simp at hi; omega
  subst this
  exact h.ext h3

theorem LNm.two {H : AH} {s t : Sl3} {xs ys : List Nat} (h : Nm H s xs) (h' : Nm H t ys) : ∃ z H', newR 24 2 #[Sl3.v s, Sl3.v t] H = some (z, H') ∧ LNm H' z [xs, ys] ∧ Ext H H' ∧ H'.next = H.next + 1 := by
  obtain ⟨z, H', h1, h2, h3, h4⟩ := newR_ros (e := 24) (H := H) [s, t]
  refine ⟨z, H', h1, ⟨[s, t], h2, rfl, fun i hi hi' => ?_⟩, h3, h4⟩
  match i, hi with
  | 0, _ => exact h.ext h3
  | 1, _ => exact h'.ext h3

/-- 2^(64 MaxLimbs). -/
theorem top_is : ∃ t : Nat, ∀ n : Nat, (dig W64 n).length ≤ 4096 ↔ n < t := ⟨W64 ^ 4096, fun n => dig_len two64 n 4096⟩
noncomputable def TOP : Nat := Classical.choose top_is

theorem D64_top {n : Nat} : (dig W64 n).length ≤ 4096 ↔ n < TOP := Classical.choose_spec top_is n

theorem wrap_next {i : Nat} {v : Int} (hv : v = i) (hi : i < 9223372036854775807) : IntKind.i64.wrap (v + 1) = ((i + 1 : Nat) : Int) := wrap_nat (by omega) (by omega)

theorem long_spec {H : AH} {s : Sl3} {xss : List (List Nat)} (h : LNm H s xss) (hl : xss.length ≤ 1099511627776) : nat_long H s = some (xss.any fun xs => decide (TOP ≤ val W64 xs)) := by
  obtain ⟨o, h1, h2⟩ := loopO_count (body := nat_long_b0 H s) xss.length (fun i v => v = (i : Int) ∧ ∀ (j : Nat) (hj : j < xss.length), j < i → ¬ TOP ≤ val W64 xss[j])
    (fun o => match o with | .inl _ => ∀ (j : Nat) (hj : j < xss.length), ¬ TOP ≤ val W64 xss[j] | .inr r => r = true ∧ ∃ (j : Nat) (hj : j < xss.length), TOP ≤ val W64 xss[j])
    (fun i hi v hv => by
      obtain ⟨rfl, hno⟩ := hv
      obtain ⟨p, x, g1, g2, g3⟩ := h.get hi rfl
      obtain ⟨s', t1, t2, t3, t4⟩ := trim_spec g3
      have hb : nat_long_b0 H s (i : Int) = if (s'.n : Int) > 4096 then some (.ret true) else some (.next ((i + 1 : Nat) : Int)) := by
        unfold nat_long_b0
        rw [if_pos (by rw [h.len]; omega), g1]
        simp only [Option.bind_some]
        rw [g2]
        simp only [Option.bind_some]
        rw [t1]
        simp only [Option.bind_some]
        rw [wrap_next rfl (by omega)]
      rw [hb, t2.ro.len]
      by_cases hlong : TOP ≤ val W64 xss[i]
      · right
        refine ⟨true, ?_, rfl, i, hi, hlong⟩
        rw [if_pos]
        have : ¬ (dig W64 (val W64 xss[i])).length ≤ 4096 := fun hh => by have := D64_top.1 hh; omega
        omega
      · left
        refine ⟨_, ?_, rfl, fun j hj hji => ?_⟩
        · rw [if_neg]
          have : (dig W64 (val W64 xss[i])).length ≤ 4096 := D64_top.2 (by omega)
          omega
        · by_cases e : j = i
          · subst e; exact hlong
          · exact hno j hj (by omega))
    (fun v hv => by
      obtain ⟨rfl, hno⟩ := hv
      refine ⟨(xss.length : Int), ?_, fun j hj => hno j hj hj⟩
      unfold nat_long_b0
      rw [if_neg (by rw [h.len]; omega)])
    (s := (0 : Int)) ⟨rfl, fun j _ hj => by omega⟩
  unfold nat_long
  rw [h1]
  simp only [Option.bind_some]
  cases o with
  | inl v =>
    simp only at h2 ⊢
    congr 1
    symm
    rw [List.any_eq_false]
    intro xs hx
    obtain ⟨j, hj, rfl⟩ := List.getElem_of_mem hx
    simpa using h2 j hj
  | inr r =>
    simp only at h2 ⊢
    obtain ⟨rfl, j, hj, h3⟩ := h2
    congr 1
    symm
    rw [List.any_eq_true]
    exact ⟨xss[j], List.getElem_mem hj, by simpa using h3⟩

theorem D64_nil {n : Nat} : (dig W64 n).length = 0 ↔ n = 0 := by rw [List.length_eq_zero_iff]; exact dig_nil_iff two64

theorem Mul1_spec {H : AH} {s : Sl3} {xs : List Nat} (h : Nm H s xs) : nat_Mul_1 H s = some (decide (val W64 xs = 0)) := by
  obtain ⟨s', t1, t2, t3, t4⟩ := trim_spec h
  unfold nat_Mul_1
  rw [t1]
  simp only [Option.bind_some, t2.ro.len]
  congr 1
  rw [decide_eq_decide]
  rw [← D64_nil]
  omega

theorem Contains_spec {H : AH} {s : Sl3} {xss : List (List Nat)} (h : LNm H s xss) (hl : xss.length ≤ 1099511627776) : slices_ContainsFunc__43 H s = some (xss.any fun xs => decide (val W64 xs = 0)) := by
  obtain ⟨o, h1, h2⟩ := loopO_count (body := slices_IndexFunc__43_b0 H s) xss.length (fun i v => v = (i : Int) ∧ ∀ (j : Nat) (hj : j < xss.length), j < i → ¬ val W64 xss[j] = 0)
    (fun o => match o with | .inl _ => ∀ (j : Nat) (hj : j < xss.length), ¬ val W64 xss[j] = 0 | .inr r => r ≥ 0 ∧ ∃ (j : Nat) (hj : j < xss.length), val W64 xss[j] = 0)
    (fun i hi v hv => by
      obtain ⟨rfl, hno⟩ := hv
      obtain ⟨p, x, g1, g2, g3⟩ := h.get hi rfl
      have hb : slices_IndexFunc__43_b0 H s (i : Int) = if decide (val W64 xss[i] = 0) = true then some (.ret (i : Int)) else some (.next ((i + 1 : Nat) : Int)) := by
        unfold slices_IndexFunc__43_b0
        rw [if_pos (by rw [h.len]; omega), g1]
        simp only [Option.bind_some]
        rw [g2]
        simp only [Option.bind_some]
        rw [Mul1_spec g3]
        simp only [Option.bind_some]
        rw [wrap_next rfl (by omega)]
      rw [hb]
      by_cases hlong : val W64 xss[i] = 0
      · right
        exact ⟨_, by rw [if_pos (by simpa using hlong)], by omega, i, hi, hlong⟩
      · left
        refine ⟨_, by rw [if_neg (by simpa using hlong)], rfl, fun j hj hji => ?_⟩
        by_cases e : j = i
        · subst e; exact hlong
        · exact hno j hj (by omega))
    (fun v hv => by
      obtain ⟨rfl, hno⟩ := hv
      refine ⟨(xss.length : Int), ?_, fun j hj => hno j hj hj⟩
      unfold slices_IndexFunc__43_b0
      rw [if_neg (by rw [h.len]; omega)])
    (s := (0 : Int)) ⟨rfl, fun j _ hj => by omega⟩
  unfold slices_ContainsFunc__43 slices_IndexFunc__43
  rw [h1]
  simp only [Option.bind_some]
  cases o with
  | inl v =>
    simp only [Option.bind_some] at h2 ⊢
    congr 1
    symm
    rw [show decide ((-1 : Int) ≥ 0) = false from rfl, List.any_eq_false]
    intro xs hx
    obtain ⟨j, hj, rfl⟩ := List.getElem_of_mem hx
    simpa using h2 j hj
  | inr r =>
    simp only [Option.bind_some] at h2 ⊢
    obtain ⟨h0, j, hj, h3⟩ := h2
    rw [decide_eq_true h0]
    congr 1
    symm
    rw [List.any_eq_true]
    exact ⟨xss[j], List.getElem_mem hj, by simpa using h3⟩

theorem ish32 (x : Nat) : ishr .u64 (x : Int) 32 = ((x / 4294967296 : Nat) : Int) := ishr_nat (n := 32) rfl rfl (by decide)
theorem ian32 (x : Nat) (hx : x < 18446744073709551616) : iand .u64 (x : Int) 4294967295 = ((x % 4294967296 : Nat) : Int) := iand_u64 (n := 32) rfl hx rfl (by decide)

theorem Mul64_spec {x y : Nat} (hx : x < W64) (hy : y < W64) : bits_Mul64 (x : Int) (y : Int) = some (((x * y / W64 : Nat) : Int), ((x * y % W64 : Nat) : Int)) := by
  obtain ⟨e, b1, b2, b3, b4⟩ := mul64_hi x y hx hy
  have sx : ishr .u64 (x : Int) 32 = ((x / 4294967296 : Nat) : Int) := ishr_nat (n := 32) rfl rfl (by decide)
  have sy : ishr .u64 (y : Int) 32 = ((y / 4294967296 : Nat) : Int) := ishr_nat (n := 32) rfl rfl (by decide)
  have ax : iand .u64 (x : Int) 4294967295 = ((x % 4294967296 : Nat) : Int) := iand_u64 (n := 32) rfl hx rfl (by decide)
  have ay : iand .u64 (y : Int) 4294967295 = ((y % 4294967296 : Nat) : Int) := iand_u64 (n := 32) rfl hy rfl (by decide)
  unfold bits_Mul64
  rw [sx, sy, ax, ay]
  have w00 := wrap_u64n (x := ((x % 4294967296 : Nat) : Int) * ((y % 4294967296 : Nat) : Int)) (n := x % 4294967296 * (y % 4294967296)) (by rw [Int.natCast_mul]) (by omega)
  have w10 := wrap_u64n (x := ((x / 4294967296 : Nat) : Int) * ((y % 4294967296 : Nat) : Int)) (n := x / 4294967296 * (y % 4294967296)) (by rw [Int.natCast_mul]) (by omega)
  have w01 := wrap_u64n (x := ((x % 4294967296 : Nat) : Int) * ((y / 4294967296 : Nat) : Int)) (n := x % 4294967296 * (y / 4294967296)) (by rw [Int.natCast_mul]) (by omega)
  have w11 := wrap_u64n (x := ((x / 4294967296 : Nat) : Int) * ((y / 4294967296 : Nat) : Int)) (n := x / 4294967296 * (y / 4294967296)) (by rw [Int.natCast_mul]) (by omega)
  rw [w00, w10, w01, w11]
  rw [ish32 (x % 4294967296 * (y % 4294967296))]
  have wt := wrap_u64n (x := ((x / 4294967296 * (y % 4294967296) : Nat) : Int) + ((x % 4294967296 * (y % 4294967296) / 4294967296 : Nat) : Int)) (n := x / 4294967296 * (y % 4294967296) + x % 4294967296 * (y % 4294967296) / 4294967296) (by rw [Int.natCast_add]) (by omega)
  rw [wt, ish32 (x / 4294967296 * (y % 4294967296) + x % 4294967296 * (y % 4294967296) / 4294967296)]
  rw [ian32 (x / 4294967296 * (y % 4294967296) + x % 4294967296 * (y % 4294967296) / 4294967296) (by omega)]
  have wu := wrap_u64n (x := (((x / 4294967296 * (y % 4294967296) + x % 4294967296 * (y % 4294967296) / 4294967296) % 4294967296 : Nat) : Int) + ((x % 4294967296 * (y / 4294967296) : Nat) : Int)) (n := (x / 4294967296 * (y % 4294967296) + x % 4294967296 * (y % 4294967296) / 4294967296) % 4294967296 + x % 4294967296 * (y / 4294967296)) (by rw [Int.natCast_add]) (by omega)
  rw [wu, ish32 ((x / 4294967296 * (y % 4294967296) + x % 4294967296 * (y % 4294967296) / 4294967296) % 4294967296 + x % 4294967296 * (y / 4294967296))]
  have hlt : x * y / W64 < W64 := by
    rw [Nat.div_lt_iff_lt_mul (by decide)]
    exact Nat.mul_lt_mul'' hx hy
  have ws := wrap_u64n (x := ((x / 4294967296 * (y / 4294967296) : Nat) : Int) + (((x / 4294967296 * (y % 4294967296) + x % 4294967296 * (y % 4294967296) / 4294967296) / 4294967296 : Nat) : Int)) (n := x / 4294967296 * (y / 4294967296) + (x / 4294967296 * (y % 4294967296) + x % 4294967296 * (y % 4294967296) / 4294967296) / 4294967296) (by rw [Int.natCast_add]) (by omega)
  rw [ws]
  have wz := wrap_u64n (x := ((x / 4294967296 * (y / 4294967296) + (x / 4294967296 * (y % 4294967296) + x % 4294967296 * (y % 4294967296) / 4294967296) / 4294967296 : Nat) : Int) + ((((x / 4294967296 * (y % 4294967296) + x % 4294967296 * (y % 4294967296) / 4294967296) % 4294967296 + x % 4294967296 * (y / 4294967296)) / 4294967296 : Nat) : Int)) (n := x * y / W64) (by show _ = ((x * y / 18446744073709551616 : Nat) : Int); rw [← e]; exact (Int.natCast_add _ _).symm) hlt
  rw [wz, ← Int.natCast_mul, wrap_u64m]

end Go.Proofs.Ytoadagekdnkciaa


namespace Go.Proofs.Ytoadagekdnkciaa
open Go Go.Abs

abbrev M0 : Nat := 4294967296

/-- The product into a slice of one's own, one limb of the first factor. -/
theorem mul_inner {Hs : AH} {a0 a1 s1 : Sl3} {ys : List Nat} (hb : Nm Hs a1 ys) (hs1 : ∀ id, blkIs s1 id → Hs.next ≤ id) {i x N : Nat} (hN : N ≤ 2199023255552) (hx : x < W64) (hi : i + ys.length < N)
    {H : AH} {cs0 : List Nat} (hv : Vec .u64 38 M0 H cs0 s1) (hlen : cs0.length = N) (hlt : ∀ c ∈ cs0, c < W64) (hE : Ext Hs H) (hz : ∀ (j : Nat) (h : j < cs0.length), i + ys.length ≤ j → cs0[j] = 0) :
    ∃ (H' : AH) (c : Nat) (cs : List Nat), loopO (nat_mul_b1 a0 a1 s1 (i : Int) (x : Int)) (H, 0, 0) = some (.inl (H', (c : Int), (ys.length : Int))) ∧ c < W64 ∧ Vec .u64 38 M0 H' cs s1 ∧ cs.length = N ∧ (∀ d ∈ cs, d < W64) ∧ Ext Hs H' ∧
      (∀ (j : Nat) (h : j < cs.length), i + ys.length ≤ j → cs[j] = 0) ∧ val W64 cs + c * W64 ^ (i + ys.length) = val W64 cs0 + x * val W64 ys * W64 ^ i := by
  obtain ⟨s', h1, h2⟩ := loopO_to (body := nat_mul_b1 a0 a1 s1 (i : Int) (x : Int)) ys.length
    (fun k (s : AH × Int × Int) => ∃ c cs, s.2.1 = ((c : Nat) : Int) ∧ s.2.2 = (k : Int) ∧ c < W64 ∧ Vec .u64 38 M0 s.1 cs s1 ∧ cs.length = N ∧ (∀ d ∈ cs, d < W64) ∧ Ext Hs s.1 ∧
      (∀ (j : Nat) (h : j < cs.length), i + ys.length ≤ j → cs[j] = 0) ∧ val W64 cs + c * W64 ^ (i + k) = val W64 cs0 + x * val W64 (ys.take k) * W64 ^ i)
    (Q := fun s => ∃ c cs, s.2.1 = ((c : Nat) : Int) ∧ s.2.2 = (ys.length : Int) ∧ c < W64 ∧ Vec .u64 38 M0 s.1 cs s1 ∧ cs.length = N ∧ (∀ d ∈ cs, d < W64) ∧ Ext Hs s.1 ∧
      (∀ (j : Nat) (h : j < cs.length), i + ys.length ≤ j → cs[j] = 0) ∧ val W64 cs + c * W64 ^ (i + ys.length) = val W64 cs0 + x * val W64 ys * W64 ^ i)
    (fun k hk s hs => by
      obtain ⟨H1, v8, v29⟩ := s
      obtain ⟨c, cs, rfl, rfl, hc, hv1, hl1, hlt1, hE1, hz1, heq⟩ := hs
      simp only at hv1 hE1 ⊢
      obtain ⟨p10, g1, g2, _⟩ := (hb.ext hE1).ro.get hk rfl
      have hy : ys[k] < W64 := hb.lt _ (List.getElem_mem hk)
      have hik : i + k < cs.length := by omega
      have hcik : cs[i + k] < W64 := hlt1 _ (List.getElem_mem hik)
      have hwi : IntKind.i64.wrap ((i : Int) + (k : Int)) = ((i + k : Nat) : Int) := wrap_nat (by omega) (by omega)
      obtain ⟨p14, r1, r2, _⟩ := (hv1.ro (by unfold OPEN; omega)).get hik hwi
      obtain ⟨m1, m2, m3, m4⟩ := mul_step W64 x ys[k] c cs[i + k] rfl hx hy hc hcik
      have ha := add64_nat (vc := 0) (x := x * ys[k] % W64) (y := cs[i + k]) (c := 0) rfl rfl rfl (by omega)
      have ha2 := add64_nat (vc := 0) (x := (x * ys[k] % W64 + cs[i + k] + 0) % W64) (y := c) (c := 0) rfl rfl rfl (by omega)
      obtain ⟨p20, H21, w1, w2, w3, w4, _⟩ := hv1.set hik (((x * ys[k] % W64 + cs[i + k] + 0) % W64 + c + 0) % W64) rfl hwi
      obtain rfl : p20 = p14 := Option.some.inj (w1.symm.trans r1)
      refine ⟨(H21, ((x * ys[k] / W64 + (x * ys[k] % W64 + cs[i + k] + 0) / W64 + ((x * ys[k] % W64 + cs[i + k] + 0) % W64 + c + 0) / W64 : Nat) : Int), ((k + 1 : Nat) : Int)), ?_, _, _, rfl, rfl, m3, w3, by simpa using hl1, mem_set_lt hlt1 (Nat.mod_lt _ (by decide)),
        hE1.comp w4 (fun id hid _ hh => by have := hs1 id hh; omega), fun j hj hjk => ?_, ?_⟩
      · unfold nat_mul_b1
        simp only
        rw [if_pos (by rw [hb.ro.len]; omega), g1]
        simp only [Option.bind_some]
        rw [g2]
        simp only [Option.bind_some]
        rw [Mul64_spec hx hy]
        simp only [Option.bind_some]
        rw [r1]
        simp only [Option.bind_some]
        rw [r2]
        simp only [Option.bind_some]
        rw [ha]
        simp only [Option.bind_some]
        rw [ha2]
        simp only [Option.bind_some]
        rw [w2]
        simp only [Option.bind_some]
        rw [wrap_next rfl (by omega)]
        rw [wrap_u64n (x := ((x * ys[k] / W64 : Nat) : Int) + (((x * ys[k] % W64 + cs[i + k] + 0) / 18446744073709551616 : Nat) : Int)) (n := x * ys[k] / W64 + (x * ys[k] % W64 + cs[i + k] + 0) / W64) (Int.natCast_add _ _).symm m2]
        rw [wrap_u64n (n := x * ys[k] / W64 + (x * ys[k] % W64 + cs[i + k] + 0) / W64 + ((x * ys[k] % W64 + cs[i + k] + 0) % W64 + c + 0) / W64) (Int.natCast_add _ _).symm m3]
      · rw [List.getElem_set_ne (by omega)]
        exact hz1 j (by simpa using hj) hjk
      · have hs := val_set (B := W64) cs (i + k) (((x * ys[k] % W64 + cs[i + k] + 0) % W64 + c + 0) % W64) hik
        rw [val_take_succ ys k hk]
        generalize ((x * ys[k] % W64 + cs[i + k] + 0) % W64 + c + 0) % W64 = lo at *
        generalize x * ys[k] / W64 + (x * ys[k] % W64 + cs[i + k] + 0) / W64 + ((x * ys[k] % W64 + cs[i + k] + 0) % W64 + c + 0) / W64 = hi at *
        have e1 : W64 ^ (i + (k + 1)) = W64 * W64 ^ (i + k) := by rw [← Nat.add_assoc, Nat.pow_succ, Nat.mul_comm]
        have e2 : x * (val W64 (ys.take k) + ys[k] * W64 ^ k) * W64 ^ i = x * val W64 (ys.take k) * W64 ^ i + x * ys[k] * W64 ^ (i + k) := by
          rw [Nat.mul_add, Nat.add_mul, Nat.pow_add, Nat.mul_comm (W64 ^ i) (W64 ^ k), ← Nat.mul_assoc, ← Nat.mul_assoc]
        have e3 : (lo + hi * W64) * W64 ^ (i + k) = (x * ys[k] + cs[i + k] + c) * W64 ^ (i + k) := by rw [m4]
        rw [Nat.add_mul, Nat.add_mul, Nat.add_mul] at e3
        have e4 : hi * (W64 * W64 ^ (i + k)) = hi * W64 * W64 ^ (i + k) := by rw [Nat.mul_assoc]
        rw [e1, e2, e4]
        generalize W64 ^ (i + k) = P at *
        generalize hi * W64 * P = q1 at *
        generalize lo * P = q2 at *
        generalize x * ys[k] * P = q3 at *
        generalize cs[i + k] * P = q4 at *
        generalize c * P = q5 at *
        generalize x * val W64 (ys.take k) * W64 ^ i = q6 at *
        show val W64 (cs.set (i + k) lo) + q1 = val W64 cs0 + (q6 + q3)
        have heq' : val W64 cs + q5 = val W64 cs0 + q6 := heq
        omega)
    (fun s hs => by
      obtain ⟨H1, v8, v29⟩ := s
      obtain ⟨c, cs, rfl, rfl, hc, hv1, hl1, hlt1, hE1, hz1, heq⟩ := hs
      refine ⟨(H1, (c : Int), (ys.length : Int)), ?_, c, cs, rfl, rfl, hc, hv1, hl1, hlt1, hE1, hz1, by rw [List.take_length] at heq; exact heq⟩
      unfold nat_mul_b1
      simp only
      rw [if_neg (by rw [hb.ro.len]; omega)])
    (s := (H, 0, 0)) ⟨0, cs0, rfl, rfl, by decide, hv, hlen, hlt, hE, hz, by simp [val]⟩
  obtain ⟨H', v, w⟩ := s'
  obtain ⟨c, cs, rfl, rfl, q1, q2, q3, q4, q5, q6, q7⟩ := h2
  exact ⟨H', c, cs, h1, q1, q2, q3, q4, q5, q6, q7⟩

end Go.Proofs.Ytoadagekdnkciaa


namespace Go.Proofs.Ytoadagekdnkciaa
open Go Go.Abs Go.ChangeShapes Go.WideShapes
set_option maxRecDepth 100000

theorem own : ownKnob Try.prog.godebug = none := by kernel_rfl
theorem laidOut : laidOutB Try.prog = true := by kernel_rfl
theorem globals_ok : globalsB Try.prog = true := by kernel_rfl
theorem sane : Sane Try.prog 1000 := sane_of (by kernel_rfl) (by kernel_rfl) (by kernel_rfl)
theorem some_globals : 0 < Try.prog.globals.size := by
  have : Try.prog.globals.size = 2 := by kernel_rfl
  omega
theorem cells38 : Try.prog.cellsOf 38 = 1 := by kernel_rfl
namespace bulks
theorem one_le {H : Type} (d : DataW H) : 1 ≤ Rows.uptoBulk d := by
  cases d with
  | lit l => cases l <;> simp [Rows.uptoBulk]
  | nil => simp [Rows.uptoBulk]
  | ptr d => simp [Rows.uptoBulk]
  | slice elems spare => simp [Rows.uptoBulk]
  | agg parts => simp [Rows.uptoBulk]
  | iface t d => simp [Rows.uptoBulk]
  | map entries => simp [Rows.uptoBulk]
  | held h => simp [Rows.uptoBulk]
theorem length_le {H : Type} (l : List (DataW H)) : l.length ≤ Rows.uptoBulkAll l := by
  induction l with
  | nil => simp [Rows.uptoBulkAll]
  | cons x r ih => have := one_le x; simp only [Rows.uptoBulkAll, List.length_cons]; omega
theorem slice_le {H : Type} (elems spare : List (DataW H)) : elems.length + spare.length + 1 ≤ Rows.uptoBulk (.slice elems spare) := by
  have h1 := length_le elems
  have h2 := length_le spare
  simp only [Rows.uptoBulk]
  omega
theorem bound {H : Type} {l : List (DataW H)} (hk : Rows.uptoSmall H l = true) : Rows.uptoBulkAll l ≤ 1048576 := of_decide_eq_true hk
end bulks

theorem wf_u64 {n : Int} (h : (Lit.int .u64 n).wf = true) : 0 ≤ n ∧ n < 18446744073709551616 := by
  have e1 : IntKind.u64.min = 0 := by decide
  have e2 : IntKind.u64.max = 18446744073709551615 := by decide
  simp only [Lit.wf, Bool.and_eq_true, decide_eq_true_eq, e1, e2] at h
  omega

theorem lits_len {H : Type} (k : IntKind) (zs : List Int) : (lits (H := H) k zs).length = zs.length := by simp [lits]

theorem map_toNat_lt {Z : List Int} (hw : ∀ n ∈ Z, (Lit.int .u64 n).wf = true) (L : Nat) : ∀ x ∈ (Z.take L).map Int.toNat, x < W64 := by
  intro x hx
  obtain ⟨n, hn, rfl⟩ := List.mem_map.1 hx
  have := wf_u64 (hw n (List.mem_of_mem_take hn))
  show n.toNat < 18446744073709551616
  omega

section
variable {H : Type} {enc : TypeId × Value → H} {W : World} {φ : Inj} {H0 : AH}

/-- A number comes in. -/
theorem import_nat (h : Imp Try.prog φ H0 W) {v : Value} {d : DataW H} {ps : List MemPlace} {base : Nat} (hd : DataW.Trod enc Try.prog W 0 (fun _ => true) true 24 v d ps) (hv : Value.okWide Try.prog W .any base 24 v) (hk : Rows.uptoBulk d ≤ 1048576) :
    ∃ φ' H' s xs, Imp Try.prog φ' H' W ∧ φ.le φ' ∧ Ext H0 H' ∧ H'.next ≤ H0.next + 1 ∧ VR φ' (Sl3.v s) v ∧ Nm H' s xs ∧ xs.length ≤ 1048576 := by
  obtain ⟨A, L, C, rfl⟩ := okWide_slice Try.underlying24 hv
  obtain ⟨fuel, hf⟩ := hd
  have one (Z : List Int) (hw : ∀ n ∈ Z, (Lit.int .u64 n).wf = true) (hL : L ≤ C) (hC : C ≤ maxLen) (hZ : Z.length = C) (hn : A = none → C = 0) (hc : ∀ a, A = some a → ∀ i, i < C → W.cell? (a.add i) = some (.int .u64 (Z.getD i 0))) (hb : L ≤ 1048576) :
      ∃ φ' H' s xs, Imp Try.prog φ' H' W ∧ φ.le φ' ∧ Ext H0 H' ∧ H'.next ≤ H0.next + 1 ∧ VR φ' (Sl3.v s) (.slice A L C) ∧ Nm H' s xs ∧ xs.length ≤ 1048576 := by
    obtain ⟨φ', H', s, h1, h2, h3, h4, h5, h6⟩ := h.row some_globals hL hC hZ (fun n hn => (wf_u64 (hw n hn)).1) hn hc
    have hlen : ((Z.take L).map Int.toNat).length ≤ 1048576 := by simp only [List.length_map, List.length_take]; omega
    exact ⟨φ', H', s, _, h1, h2, h3, h4, h5, ⟨h6, map_toNat_lt hw L, by omega⟩, hlen⟩
  rcases open_ints Try.underlying24 Try.underlying38 cells38 hf with ⟨hcs, hy⟩ | ⟨a, len, cap, zs, hcs, _, hl, hm, hz, hy, hcell, hwz⟩
  · simp only [Value.cells, List.cons.injEq, Value.slice.injEq, and_true] at hcs
    obtain ⟨rfl, rfl, rfl⟩ := hcs
    exact one [] (by simp) (Nat.le_refl _) (Nat.zero_le _) rfl (fun _ => rfl) (fun a ha => by cases ha) (Nat.zero_le _)
  · simp only [Value.cells, List.cons.injEq, Value.slice.injEq, and_true] at hcs
    obtain ⟨rfl, rfl, rfl⟩ := hcs
    simp only [if_true] at hz
    simp only [Prod.mk.injEq] at hy
    obtain ⟨rfl, _⟩ := hy
    refine one zs hwz hl hm hz (fun hh => by cases hh) (fun a' ha i hi => by cases ha; exact hcell i (by omega)) ?_
    have := bulks.slice_le (H := H) (lits .u64 (zs.take L)) (lits .u64 (zs.drop L))
    rw [lits_len, List.length_take] at this
    omega

/-- A call at what came in. -/
theorem finish {f : Nat} {fn : Func} {c : Code} (hf : Try.prog.funcs[f]? = some fn) (hb : fn.body = some c) (h : Imp Try.prog φ H0 W) (hn : H0.next ≤ 1048580) {args args' : Array Value} (ha : AR φ args args')
    (hc : ∀ H1, Ext H0 H1 → M0 ≤ H1.next → ∃ H', CallE Try.prog 1000 4294967296 f args H1 (.bool true) H') : Calls Try.prog f args' W fun e W' => e = .returned (.bool true) ∧ RowKit.Below W.heap.size W W' := by
  have hM : M0 = 4294967296 := rfl
  obtain ⟨h1, h2, h3⟩ := h.raise (M := M0) (by omega)
  obtain ⟨H', hc⟩ := hc _ h3 (Nat.le_refl _)
  exact calls_true sane hf hb hc h.glob ha h1 h2

theorem ar2 {a a' b b' : Value} (h : VR φ a a') (h2 : VR φ b b') : AR φ #[a, b] #[a', b'] := by
  refine ⟨rfl, fun i x y hx hy => ?_⟩
  match i, hx, hy with
  | 0, hx, hy => simp at hx hy; subst hx hy; exact h
  | 1, hx, hy => simp at hx hy; subst hx hy; exact h2
  | i + 2, hx, _ => simp at hx

end

end Go.Proofs.Ytoadagekdnkciaa


namespace Go.Proofs.Ytoadagekdnkciaa
open Go Go.Abs
set_option maxRecDepth 10000

theorem mul_spec {H : AH} {a0 a1 : Sl3} {xs ys : List Nat} (ha : Nm H a0 xs) (hb : Nm H a1 ys) (hl : xs.length + ys.length ≤ 1099511627776) (hM : M0 ≤ H.next) :
    ∃ s' H', nat_mul H a0 a1 = some (s', H') ∧ Ext H H' ∧ Nm H' s' (dig W64 (val W64 xs * val W64 ys)) := by
  have hw : IntKind.i64.wrap ((a0.n : Int) + (a1.n : Int)) = ((xs.length + ys.length : Nat) : Int) := by
    rw [ha.ro.len, hb.ro.len]; exact wrap_nat (Int.natCast_add _ _).symm (by omega)
  obtain ⟨s1, H2, m1, m2, m3, m4, _, _, m5⟩ := mkS_vec (k := .u64) (e := 38) (m := M0) (bytes := 8) (H := H) (xs.length + ys.length) (xs.length + ys.length) hw hw (Nat.le_refl _) (by omega) (by omega) hM
  have hs1 : ∀ id, blkIs s1 id → H.next ≤ id := fun id h => by rw [m4 id h]; exact Nat.le_refl _
  obtain ⟨s', h1, h2⟩ := loopO_to (body := nat_mul_b0 a0 a1 s1) xs.length
    (fun i (s : AH × Int) => ∃ cs : List Nat, s.2 = (i : Int) ∧ Vec .u64 38 M0 s.1 cs s1 ∧ cs.length = xs.length + ys.length ∧ (∀ d ∈ cs, d < W64) ∧ Ext H s.1 ∧
      (∀ (j : Nat) (h : j < cs.length), i + ys.length ≤ j → cs[j] = 0) ∧ val W64 cs = val W64 (xs.take i) * val W64 ys)
    (Q := fun s => ∃ cs : List Nat, Vec .u64 38 M0 s.1 cs s1 ∧ cs.length = xs.length + ys.length ∧ (∀ d ∈ cs, d < W64) ∧ Ext H s.1 ∧ val W64 cs = val W64 xs * val W64 ys)
    (fun i hi s hs => by
      obtain ⟨H3, v⟩ := s
      obtain ⟨cs, rfl, hv, hlen, hlt, hE, hz, heq⟩ := hs
      simp only at hv hE
      obtain ⟨p5, g1, g2, _⟩ := (ha.ext hE).ro.get hi rfl
      obtain ⟨H22, c, cs1, l1, l2, l3, l4, l5, l6, l7, l8⟩ := mul_inner (a0 := a0) hb hs1 (i := i) (x := xs[i]) (N := xs.length + ys.length) (by omega) (ha.lt _ (List.getElem_mem hi)) (by omega) hv hlen hlt hE hz
      have hw2 : IntKind.i64.wrap ((i : Int) + (a1.n : Int)) = ((i + ys.length : Nat) : Int) := by
        rw [hb.ro.len]; exact wrap_nat (Int.natCast_add _ _).symm (by omega)
      have hin : i + ys.length < cs1.length := by omega
      obtain ⟨p25, H26, w1, w2, w3, w4, _⟩ := l3.set hin c rfl hw2
      refine ⟨(H26, ((i + 1 : Nat) : Int)), ?_, _, rfl, w3, by simpa using l4, mem_set_lt l5 l2, l6.comp w4 (fun id hid _ hh => by have := hs1 id hh; omega), fun j hj hji => ?_, ?_⟩
      · unfold nat_mul_b0
        simp only
        rw [if_pos (by rw [ha.ro.len]; omega), g1]
        simp only [Option.bind_some]
        rw [g2]
        simp only [Option.bind_some]
        rw [l1]
        simp only [Option.bind_some]
        rw [w1]
        simp only [Option.bind_some]
        rw [w2]
        simp only [Option.bind_some]
        rw [wrap_next rfl (by omega)]
      · rw [List.getElem_set_ne (by omega)]
        exact l7 j (by simpa using hj) (by omega)
      · have hs := val_set (B := W64) cs1 (i + ys.length) c hin
        rw [l7 _ hin (Nat.le_refl _), Nat.zero_mul, Nat.add_zero] at hs
        rw [hs, l8, heq, val_take_succ xs i hi, Nat.add_mul]
        rw [Nat.mul_assoc, Nat.mul_assoc, Nat.mul_comm (val W64 ys) (W64 ^ i)])
    (fun s hs => by
      obtain ⟨H3, v⟩ := s
      obtain ⟨cs, rfl, hv, hlen, hlt, hE, hz, heq⟩ := hs
      refine ⟨(H3, (xs.length : Int)), ?_, cs, hv, hlen, hlt, hE, by rw [List.take_length] at heq; exact heq⟩
      unfold nat_mul_b0
      simp only
      rw [if_neg (by rw [ha.ro.len]; omega)])
    (s := (H2, 0)) ⟨List.replicate (xs.length + ys.length) 0, rfl, m2, by simp, fun d hd => by rw [List.eq_of_mem_replicate hd]; decide, m3, fun j hj _ => by simp, by rw [val_zeros]; simp [val]⟩
  obtain ⟨H27, v⟩ := s'
  obtain ⟨cs, q1, q2, q3, q4, q5⟩ := h2
  have hnm : Nm H27 s1 cs := ⟨q1.ro (by unfold OPEN; omega), q3, by omega⟩
  obtain ⟨s', t1, t2, _, _⟩ := trim_spec hnm
  refine ⟨s', H27, ?_, q4, by rw [← q5]; exact t2⟩
  unfold nat_mul
  rw [m1]
  simp only [Option.bind_some]
  rw [h1]
  simp only [Option.bind_some]
  rw [t1]
  simp only [Option.bind_some]

/-- A copy: one's own. -/
theorem Clone_spec {H : AH} {s : Sl3} {xs : List Nat} (h : Nm H s xs) (hM : M0 ≤ H.next) :
    ∃ s' H', slices_Clone H s = some (s', H') ∧ Ext H H' ∧ Nm H' s' xs ∧ Vec .u64 38 M0 H' xs s' ∧ ∀ id, blkIs s' id → H.next ≤ id := by
  unfold slices_Clone
  by_cases hp : isNilS s = true
  · rw [if_pos hp]
    have hn : s.p = none := by unfold isNilS at hp; cases hs : s.p with | none => rfl | some a => rw [hs] at hp; cases hp
    have := h.ro.nil hn
    have hx : xs = [] := List.length_eq_zero_iff.1 (by have := h.ro.len; omega)
    subst hx
    exact ⟨_, _, rfl, Fr.refl _ _, ⟨Ro.nil' _ _, by simp, by simp⟩, .nil rfl, fun id ⟨a, ha, _⟩ => by cases ha⟩
  · rw [if_neg hp]
    have hv : Vec .u64 38 M0 (H.push { obj := .cells #[] 38 (0, 0), opn := false, esz := 0, ro := false }) [] ⟨some ⟨H.next, 0, none⟩, 0, 0⟩ :=
      .fix H.next 0 #[] hM (by simp) (AH.get_push_same _ _) rfl (by decide) (Nat.le_refl _) fun i hi => by simp at hi
    have hE : Ext H (H.push { obj := .cells #[] 38 (0, 0), opn := false, esz := 0, ro := false }) := Fr.push _ _ _
    obtain ⟨s', H', a1, a2, a3, a4⟩ := hv.app (h.ext hE).ro (bytes := 8) (fun id hz hs => by
      obtain ⟨a, ha, rfl⟩ := hz
      obtain ⟨b, hb, hbb⟩ := hs
      cases hb
      have := h.ro.low a ha
      simp only at hbb
      omega) (by have := h.sm; simp only [List.length_nil]; omega) (by have := h.sm; simp only [List.length_nil]; omega) (by simp; omega)
    refine ⟨s', H', ?_, hE.comp a3 (fun id hid _ hh => by obtain ⟨b, hb, hbb⟩ := hh; cases hb; simp only at hbb; omega), ⟨by simpa using a2.ro (by have := h.sm; simp only [List.nil_append, OPEN]; omega), h.lt, h.sm⟩, by simpa using a2, fun id hid => ?_⟩
    · unfold newR
      simp only [Option.bind_some]
      rw [a1]
      simp only [Option.bind_some]
    · rcases a4 id hid with ⟨b, hb, hbb⟩ | hh
      · cases hb; simp only at hbb; omega
      · simp at hh; omega

theorem own_spec {H : AH} {s : Sl3} {xs : List Nat} (h : Nm H s xs) (hM : M0 ≤ H.next) :
    ∃ s' H', nat_own H s = some (s', H') ∧ Ext H H' ∧ Nm H' s' (dig W64 (val W64 xs)) ∧ Vec .u64 38 M0 H' (dig W64 (val W64 xs)) s' ∧ ∀ id, blkIs s' id → H.next ≤ id := by
  obtain ⟨t, t1, t2, _, _⟩ := trim_spec h
  unfold nat_own
  rw [t1]
  simp only [Option.bind_some, t2.ro.len]
  by_cases h0 : (dig W64 (val W64 xs)).length = 0
  · rw [if_pos (by omega), List.length_eq_zero_iff.1 h0]
    exact ⟨_, _, rfl, Fr.refl _ _, ⟨Ro.nil' _ _, by simp, by simp⟩, .nil rfl, fun id ⟨a, ha, _⟩ => by cases ha⟩
  · rw [if_neg (by omega)]
    obtain ⟨s', H', c1, c2, c3, c4, c5⟩ := Clone_spec t2 hM
    exact ⟨s', H', by rw [c1]; rfl, c2, c3, c4, c5⟩

theorem out_spec {H : AH} {s : Sl3} {xs : List Nat} (h : Nm H s xs) (hM : M0 ≤ H.next) :
    ∃ s' H', nat_out H s = some (s', (if TOP ≤ val W64 xs then 5 else 0), H') ∧ Ext H H' ∧ Nm H' s' (if TOP ≤ val W64 xs then [] else dig W64 (val W64 xs)) ∧
      Vec .u64 38 M0 H' (if TOP ≤ val W64 xs then [] else dig W64 (val W64 xs)) s' ∧ ∀ id, blkIs s' id → H.next ≤ id := by
  obtain ⟨z, H2, n1, n2, n3, n4⟩ := LNm.one h
  unfold nat_out
  rw [n1]
  simp only [Option.bind_some]
  rw [long_spec n2 (by simp)]
  simp only [Option.bind_some, List.any_cons, List.any_nil, Bool.or_false, decide_eq_true_eq]
  by_cases hT : TOP ≤ val W64 xs
  · rw [if_pos hT, if_pos hT, if_pos hT]
    exact ⟨_, _, rfl, n3, ⟨Ro.nil' _ _, by simp, by simp⟩, .nil rfl, fun id ⟨a, ha, _⟩ => by cases ha⟩
  · rw [if_neg hT, if_neg hT, if_neg hT]
    obtain ⟨s', H', o1, o2, o3, o4, o5⟩ := own_spec (h.ext n3) (by omega)
    exact ⟨s', H', by rw [o1]; rfl, n3.trans o2, o3, o4, fun id hid => by have := o5 id hid; omega⟩

theorem prod_take {l : List Nat} {i : Nat} (hi : i < l.length) : (l.take (i + 1)).foldl (· * ·) 1 = (l.take i).foldl (· * ·) 1 * l[i] := by
  rw [List.take_succ_eq_append_getElem hi, List.foldl_append]
  rfl

theorem foldl_mul (l : List Nat) (a : Nat) : l.foldl (· * ·) a = a * l.foldl (· * ·) 1 := by
  induction l generalizing a with
  | nil => simp
  | cons x l ih => rw [List.foldl_cons, List.foldl_cons, ih (a * x), ih (1 * x), Nat.one_mul, Nat.mul_assoc]

theorem prod_le (l : List Nat) (h : ∀ x ∈ l, x ≠ 0) (i : Nat) : (l.take i).foldl (· * ·) 1 ≤ l.foldl (· * ·) 1 := by
  conv => rhs; rw [← List.take_append_drop i l, List.foldl_append, foldl_mul]
  have : 0 < (l.drop i).foldl (· * ·) 1 := by
    have key : ∀ (m : List Nat), (∀ x ∈ m, x ≠ 0) → 0 < m.foldl (· * ·) 1 := by
      intro m
      induction m with
      | nil => intro _; simp
      | cons x m ih =>
        intro hm
        rw [List.foldl_cons, foldl_mul]
        have h1 := hm x (by simp)
        have h2 := ih fun y hy => hm y (by simp [hy])
        exact Nat.mul_pos (by omega) h2
    exact key _ fun x hx => h x (List.mem_of_mem_drop hx)
  exact Nat.le_mul_of_pos_right _ this

/-- What a product of many answers. -/
noncomputable def mulAns (Ns : List Nat) : List Nat × Nat :=
  if ∃ N ∈ Ns, TOP ≤ N then ([], 5) else if ∃ N ∈ Ns, N = 0 then ([], 0) else if TOP ≤ Ns.foldl (· * ·) 1 then ([], 5) else (dig W64 (Ns.foldl (· * ·) 1), 0)

theorem Mul_spec' {H : AH} {s : Sl3} {xss : List (List Nat)} (h : LNm H s xss) (hl : xss.length ≤ 1099511627776) (hsm : ∀ xs ∈ xss, xs.length ≤ 1073741824) (hM : M0 ≤ H.next) :
    ∃ s' H', nat_Mul H s = some (s', ((mulAns (xss.map (val W64))).2 : Int), H') ∧ Ext H H' ∧ Nm H' s' (mulAns (xss.map (val W64))).1 ∧ Vec .u64 38 M0 H' (mulAns (xss.map (val W64))).1 s' ∧ ∀ id, blkIs s' id → H.next ≤ id := by
  have nilF : ∀ id, blkIs Sl3.nil id → H.next ≤ id := fun id ⟨a, h, _⟩ => by cases h
  unfold nat_Mul
  rw [long_spec h hl]
  simp only [Option.bind_some, List.any_eq_true, decide_eq_true_eq]
  have hAny : (∃ x, x ∈ xss ∧ TOP ≤ val W64 x) ↔ ∃ N ∈ xss.map (val W64), TOP ≤ N :=
    ⟨fun ⟨_, hx, h⟩ => ⟨_, List.mem_map_of_mem hx, h⟩, fun ⟨_, hN, h⟩ => by obtain ⟨x, hx, rfl⟩ := List.mem_map.1 hN; exact ⟨x, hx, h⟩⟩
  have hZero : (∃ x, x ∈ xss ∧ val W64 x = 0) ↔ ∃ N ∈ xss.map (val W64), N = 0 :=
    ⟨fun ⟨_, hx, h⟩ => ⟨_, List.mem_map_of_mem hx, h⟩, fun ⟨_, hN, h⟩ => by obtain ⟨x, hx, rfl⟩ := List.mem_map.1 hN; exact ⟨x, hx, h⟩⟩
  unfold mulAns
  by_cases h1 : ∃ N ∈ xss.map (val W64), TOP ≤ N
  · rw [if_pos (hAny.2 h1), if_pos h1]
    exact ⟨_, _, rfl, Fr.refl _ _, ⟨Ro.nil' _ _, by simp, by simp⟩, .nil rfl, nilF⟩
  rw [if_neg (fun hh => h1 (hAny.1 hh)), if_neg h1, Contains_spec h hl]
  simp only [Option.bind_some, List.any_eq_true, decide_eq_true_eq]
  by_cases h2 : ∃ N ∈ xss.map (val W64), N = 0
  · rw [if_pos (hZero.2 h2), if_pos h2]
    exact ⟨_, _, rfl, Fr.refl _ _, ⟨Ro.nil' _ _, by simp, by simp⟩, .nil rfl, nilF⟩
  rw [if_neg (fun hh => h2 (hZero.1 hh)), if_neg h2]
  have hne : ∀ N ∈ xss.map (val W64), N ≠ 0 := fun N hN e => h2 ⟨N, hN, e⟩
  have hlt : ∀ N ∈ xss.map (val W64), N < TOP := fun N hN => Nat.lt_of_not_le fun hh => h1 ⟨N, hN, hh⟩
  obtain ⟨s3, H4, n1, n2, n3, n4, n5⟩ := newR_ro (k := .u64) (e := 38) (H := H) (ys := [1]) (by simp [OPEN])
  have n1' : newR 38 1 #[Value.int .u64 1] H = some (s3, H4) := n1
  obtain ⟨o, l1, l2⟩ := loopO_count (body := nat_Mul_b0 s) xss.length
    (fun i (t : AH × Sl3 × Int) => t.2.2 = (i : Int) ∧ Ext H t.1 ∧ ∃ ps, Nm t.1 t.2.1 ps ∧ ps.length ≤ 4096 ∧ val W64 ps = ((xss.map (val W64)).take i).foldl (· * ·) 1)
    (fun o => match o with
      | .inl t => Ext H t.1 ∧ ∃ ps, Nm t.1 t.2.1 ps ∧ val W64 ps = (xss.map (val W64)).foldl (· * ·) 1
      | .inr r => r.1 = Sl3.nil ∧ r.2.1 = 5 ∧ Ext H r.2.2 ∧ TOP ≤ (xss.map (val W64)).foldl (· * ·) 1)
    (fun i hi t ht => by
      obtain ⟨H5, p, v⟩ := t
      obtain ⟨rfl, hE, ps, hp, hpl, hpv⟩ := ht
      simp only at hE hp
      have hM5 : M0 ≤ H5.next := Nat.le_trans hM hE.1
      obtain ⟨p8, x9, g1, g2, g3⟩ := (h.ext hE).get hi rfl
      obtain ⟨x10, t1, t2, _, _⟩ := trim_spec g3
      have hlen := D64_len (xs := xss[i]) g3.lt
      have hbig := hsm xss[i] (List.getElem_mem hi)
      obtain ⟨x11, H12, m1, m2, m3⟩ := mul_spec hp t2 (by omega) hM5
      rw [val_dig two64] at m3
      obtain ⟨s13, H14, k1, k2, k3, k4⟩ := LNm.one m3
      have hval : val W64 ps * val W64 xss[i] = ((xss.map (val W64)).take (i + 1)).foldl (· * ·) 1 := by
        rw [prod_take (by simpa using hi), hpv]; simp
      have hb : nat_Mul_b0 s (H5, p, (i : Int)) = if TOP ≤ val W64 ps * val W64 xss[i] then some (.ret (Sl3.nil, 5, H14)) else some (.next (H14, x11, ((i + 1 : Nat) : Int))) := by
        unfold nat_Mul_b0
        simp only
        rw [if_pos (by rw [h.len]; omega), g1]
        simp only [Option.bind_some]
        rw [g2]
        simp only [Option.bind_some]
        rw [t1]
        simp only [Option.bind_some]
        rw [m1]
        simp only [Option.bind_some]
        rw [k1]
        simp only [Option.bind_some]
        rw [long_spec k2 (by simp)]
        simp only [Option.bind_some, List.any_cons, List.any_nil, Bool.or_false, decide_eq_true_eq, val_dig two64]
        rw [wrap_next rfl (by omega)]
      rw [hb]
      have hE14 : Ext H H14 := hE.trans (m2.trans k3)
      by_cases hT : TOP ≤ val W64 ps * val W64 xss[i]
      · right
        refine ⟨_, by rw [if_pos hT], rfl, rfl, hE14, ?_⟩
        rw [hval] at hT
        exact Nat.le_trans hT (prod_le _ hne _)
      · left
        refine ⟨_, by rw [if_neg hT], rfl, hE14, _, m3.ext k3, D64_top.2 (by omega), by rw [val_dig two64]; exact hval⟩)
    (fun t ht => by
      obtain ⟨H5, p, v⟩ := t
      obtain ⟨rfl, hE, ps, hp, hpl, hpv⟩ := ht
      refine ⟨(H5, p, (xss.length : Int)), ?_, hE, ps, hp, ?_⟩
      · unfold nat_Mul_b0
        simp only
        rw [if_neg (by rw [h.len]; omega)]
      · rw [hpv, List.take_of_length_le (by simp)])
    (s := (H4, s3, 0)) ⟨rfl, n3, [1], ⟨n2, fun x hx => by rw [List.mem_singleton.1 hx]; decide, by simp⟩, by simp, by simp [val]⟩
  rw [n1']
  simp only [Option.bind_some]
  rw [l1]
  simp only [Option.bind_some]
  cases o with
  | inl t =>
    obtain ⟨H16, p, v⟩ := t
    obtain ⟨hE, ps, hp, hpv⟩ := l2
    simp only at hE hp ⊢
    obtain ⟨s', H', o1, o2, o3, o4, o5⟩ := out_spec hp (Nat.le_trans hM hE.1)
    rw [hpv] at o1 o3 o4
    refine ⟨s', H', ?_, hE.trans o2, ?_, ?_, fun id hid => Nat.le_trans hE.1 (o5 id hid)⟩
    · rw [o1]
      simp only [Option.bind_some]
      split <;> rfl
    · split
      · rename_i hT; rw [if_pos hT] at o3; exact o3
      · rename_i hT; rw [if_neg hT] at o3; exact o3
    · split
      · rename_i hT; rw [if_pos hT] at o4; exact o4
      · rename_i hT; rw [if_neg hT] at o4; exact o4
  | inr r =>
    obtain ⟨rs, re, rH⟩ := r
    obtain ⟨e1, e2, hE, hT⟩ := l2
    simp only at e1 e2 hE ⊢
    subst e1
    subst e2
    rw [if_pos hT]
    exact ⟨_, _, rfl, hE, ⟨Ro.nil' _ _, by simp, by simp⟩, .nil rfl, nilF⟩

theorem Mul_spec {H : AH} {s : Sl3} {xss : List (List Nat)} (h : LNm H s xss) (hl : xss.length ≤ 1099511627776) (hsm : ∀ xs ∈ xss, xs.length ≤ 1073741824) (hM : M0 ≤ H.next) :
    ∃ s' H', nat_Mul H s = some (s', ((mulAns (xss.map (val W64))).2 : Int), H') ∧ Ext H H' ∧ Nm H' s' (mulAns (xss.map (val W64))).1 :=
  let ⟨s', H', h1, h2, h3, _⟩ := Mul_spec' h hl hsm hM; ⟨s', H', h1, h2, h3⟩

end Go.Proofs.Ytoadagekdnkciaa


namespace Go.Proofs.Ytoadagekdnkciaa
open Go Go.Abs
set_option maxRecDepth 10000

theorem loop_q1 {H : AH} {a0 a1 a2 x1 : Int} {yn un10 un32 t : Nat} (ht : t = (un32 * 4294967296 + un10 / 4294967296) / yn) (hyn : ishl .u64 a2 (IntKind.u64.wrap x1) = (yn : Int)) (hun : ishl .u64 a1 (IntKind.u64.wrap x1) = (un10 : Int)) (h1 : yn < 18446744073709551616) (h2 : 9223372036854775808 ≤ yn) (h3 : un10 < 18446744073709551616) (h4 : un32 < yn) :
    ∀ (d q rhat : Nat), q = t + d → q * (yn / 4294967296) + rhat = un32 → rhat < 4294967296 →
      ∃ r' : Nat, loopO (bits_Div64_b0 H a0 a1 a2 x1) ((q : Int), (rhat : Int)) = some (.inl ((t : Int), (r' : Int))) := by
  have hun1 : un10 / 4294967296 < 4294967296 := by omega
  have e1 : ishr .u64 (yn : Int) 32 = ((yn / 4294967296 : Nat) : Int) := ish32 yn
  have e0 : iand .u64 (yn : Int) 4294967295 = ((yn % 4294967296 : Nat) : Int) := ian32 yn h1
  have eu : ishr .u64 (un10 : Int) 32 = ((un10 / 4294967296 : Nat) : Int) := ish32 un10
  intro d
  induction d with
  | zero =>
    intro q rhat hq hr hlt
    refine ⟨rhat, ?_⟩
    obtain rfl : q = t := hq
    refine loopO_brk ?_
    have hno : ¬ (4294967296 ≤ q ∨ ¬ q * (yn % 4294967296) ≤ 4294967296 * rhat + un10 / 4294967296) := fun hc => by
      have := q_more' q q rhat yn un32 (un10 / 4294967296) 4294967296 ht (by omega) hr (by decide) h4 hun1 hc
      omega
    have hq32 : q < 4294967296 := by omega
    have hle : q * (yn % 4294967296) ≤ 4294967296 * rhat + un10 / 4294967296 := by omega
    unfold bits_Div64_b0
    simp only [hyn, hun, e1, e0, eu]
    rw [if_neg (by omega)]
    rw [wrap_u64n (x := (4294967296 : Int) * (rhat : Int)) (n := 4294967296 * rhat) (by simp) (by omega)]
    rw [wrap_u64n (n := 4294967296 * rhat + un10 / 4294967296) (Int.natCast_add _ _).symm (by omega)]
    rw [wrap_u64n (n := q * (yn % 4294967296)) (Int.natCast_mul _ _).symm (by omega)]
    rw [if_neg (by omega)]
    rfl
  | succ d ih =>
    intro q rhat hq hr hlt
    have hyes : 4294967296 ≤ q ∨ ¬ q * (yn % 4294967296) ≤ 4294967296 * rhat + un10 / 4294967296 := by
      apply Classical.byContradiction
      intro hc
      have := q_exit' t q rhat yn un32 (un10 / 4294967296) 4294967296 ht (by omega) hr (by decide) (by omega) (by omega)
      omega
    have hst := q_step q rhat (yn / 4294967296) un32 hr (by omega)
    have hwq : IntKind.u64.wrap ((q : Int) - 1) = ((q - 1 : Nat) : Int) := wrap_u64n (by omega) (by
      have : q * (yn / 4294967296) ≤ un32 := by omega
      have : q * 1 ≤ q * (yn / 4294967296) := Nat.mul_le_mul_left _ (by omega)
      omega)
    have hwr : IntKind.u64.wrap ((rhat : Int) + ((yn / 4294967296 : Nat) : Int)) = ((rhat + yn / 4294967296 : Nat) : Int) := wrap_u64n (Int.natCast_add _ _).symm (by omega)
    have hb : bits_Div64_b0 H a0 a1 a2 x1 ((q : Int), (rhat : Int)) = if (((rhat + yn / 4294967296 : Nat) : Int)) ≥ 4294967296 then some (.brk (((q - 1 : Nat) : Int), ((rhat + yn / 4294967296 : Nat) : Int))) else some (.next (((q - 1 : Nat) : Int), ((rhat + yn / 4294967296 : Nat) : Int))) := by
      unfold bits_Div64_b0
      simp only [hyn, hun, e1, e0, eu, hwq, hwr]
      by_cases hq32 : 4294967296 ≤ q
      · rw [if_pos (by omega)]
        rfl
      · rw [if_neg (by omega)]
        have hb1 : q * (yn % 4294967296) ≤ 4294967295 * 4294967295 := Nat.mul_le_mul (by omega) (by omega)
        rw [wrap_u64n (x := (4294967296 : Int) * (rhat : Int)) (n := 4294967296 * rhat) (by simp) (by omega)]
        rw [wrap_u64n (n := 4294967296 * rhat + un10 / 4294967296) (Int.natCast_add _ _).symm (by omega)]
        rw [wrap_u64n (n := q * (yn % 4294967296)) (Int.natCast_mul _ _).symm (by omega)]
        rw [if_pos (by omega)]
        rfl
    by_cases hbig : 4294967296 ≤ rhat + yn / 4294967296
    · -- the digit is right
      have hle : (q - 1) * (yn % 4294967296) ≤ 4294967296 * (rhat + yn / 4294967296) + un10 / 4294967296 := by
        have hq33 : q - 1 ≤ 4294967296 := by
          have a1 : q * (yn / 4294967296) ≤ un32 := by omega
          have a2 : un32 < 4294967296 * (yn / 4294967296) + 4294967296 := by omega
          apply Classical.byContradiction
          intro hc
          have a3 : 4294967298 * (yn / 4294967296) ≤ q * (yn / 4294967296) := Nat.mul_le_mul_right _ (by omega)
          omega
        have : (q - 1) * (yn % 4294967296) ≤ 4294967296 * 4294967295 := Nat.mul_le_mul hq33 (by omega)
        omega
      have := q_exit' t (q - 1) _ yn un32 (un10 / 4294967296) 4294967296 ht (by omega) hst (by decide) (by omega) hle
      refine ⟨rhat + yn / 4294967296, loopO_brk ?_⟩
      rw [hb, if_pos (by omega), this]
    · obtain ⟨r', h⟩ := ih (q - 1) (rhat + yn / 4294967296) (by omega) hst (by omega)
      refine ⟨r', ?_⟩
      rw [loopO_next (by rw [hb, if_neg (by omega)]), h]

end Go.Proofs.Ytoadagekdnkciaa


namespace Go.Proofs.Ytoadagekdnkciaa
open Go Go.Abs
set_option maxRecDepth 10000

def lenTab : ByteArray := ⟨#[0, 1, 2, 2, 3, 3, 3, 3, 4, 4, 4, 4, 4, 4, 4, 4, 5, 5, 5, 5, 5, 5, 5, 5, 5, 5, 5, 5, 5, 5, 5, 5, 6, 6, 6, 6, 6, 6, 6, 6, 6, 6, 6, 6, 6, 6, 6, 6, 6, 6, 6, 6, 6, 6, 6, 6, 6, 6, 6, 6, 6, 6, 6, 6, 7, 7, 7, 7, 7, 7, 7, 7, 7, 7, 7, 7, 7, 7, 7, 7, 7, 7, 7, 7, 7, 7, 7, 7, 7, 7, 7, 7, 7, 7, 7, 7, 7, 7, 7, 7, 7, 7, 7, 7, 7, 7, 7, 7, 7, 7, 7, 7, 7, 7, 7, 7, 7, 7, 7, 7, 7, 7, 7, 7, 7, 7, 7, 7, 8, 8, 8, 8, 8, 8, 8, 8, 8, 8, 8, 8, 8, 8, 8, 8, 8, 8, 8, 8, 8, 8, 8, 8, 8, 8, 8, 8, 8, 8, 8, 8, 8, 8, 8, 8, 8, 8, 8, 8, 8, 8, 8, 8, 8, 8, 8, 8, 8, 8, 8, 8, 8, 8, 8, 8, 8, 8, 8, 8, 8, 8, 8, 8, 8, 8, 8, 8, 8, 8, 8, 8, 8, 8, 8, 8, 8, 8, 8, 8, 8, 8, 8, 8, 8, 8, 8, 8, 8, 8, 8, 8, 8, 8, 8, 8, 8, 8, 8, 8, 8, 8, 8, 8, 8, 8, 8, 8, 8, 8, 8, 8, 8, 8, 8, 8, 8, 8, 8, 8, 8, 8, 8, 8, 8, 8, 8, 8]⟩

theorem lenTab_ok : ((List.range 256).all fun x => match lenTab[x]? with | some b => decide (x < 2 ^ b.toNat) && (b.toNat == 0 || decide (2 ^ (b.toNat - 1) ≤ x)) && decide (b.toNat ≤ 8) | none => false) = true := by decide +kernel

theorem len_tab {x : Nat} (hx : x < 256) : ∃ b : Nat, bytA lenTab (x : Int) = some (b : Int) ∧ Bits x b ∧ b ≤ 8 := by
  have h := List.all_eq_true.1 lenTab_ok x (List.mem_range.2 hx)
  cases hb : lenTab[x]? with
  | none => rw [hb] at h; cases h
  | some b =>
    rw [hb] at h
    simp only [Bool.and_eq_true, decide_eq_true_eq, Bool.or_eq_true, beq_iff_eq] at h
    refine ⟨b.toNat, ?_, ⟨h.1.1, h.1.2⟩, h.2⟩
    unfold bytA
    rw [if_pos (Int.natCast_nonneg x), Int.toNat_natCast, hb]
    rfl

theorem Len64_spec {x : Nat} (hx : x < 18446744073709551616) : ∃ n : Nat, bits_Len64 (x : Int) = some (n : Int) ∧ Bits x n ∧ n ≤ 64 := by
  -- three halvings
  have st : ∀ (k lim : Nat) (x : Nat) (c : Nat), lim = 2 ^ k → k ≤ 64 → c ≤ 64 → ∃ (y d : Nat), (if (x : Int) ≥ (lim : Int) then some ((ishr .u64 (x : Int) (k : Int)), IntKind.i64.wrap ((c : Int) + (k : Int))) else some ((x : Int), (c : Int))) = some ((y : Int), ((c + d : Nat) : Int)) ∧
      (∀ n, Bits y n → (1 ≤ y ∨ d = 0) → Bits x (n + d)) ∧ (lim ≤ x → y = x / lim ∧ d = k) ∧ (x < lim → y = x ∧ d = 0) := by
    intro k lim x c hlim hk hc
    by_cases h : lim ≤ x
    · refine ⟨x / lim, k, ?_, fun n hn h1 => ?_, fun _ => ⟨rfl, rfl⟩, fun hh => by omega⟩
      · rw [if_pos (by omega), ishr_nat (k := .u64) (n := k) rfl rfl hk, ← hlim, wrap_nat (n := c + k) (Int.natCast_add _ _).symm (by omega)]
      · have h1' : 1 ≤ x / lim := (Nat.le_div_iff_mul_le (by rw [hlim]; exact Nat.pow_pos (by omega))).2 (by omega)
        rw [hlim] at hn h1'
        exact hn.up h1'
    · exact ⟨x, 0, by rw [if_neg (by omega)]; rfl, fun n hn _ => by simpa using hn, fun hh => absurd hh h, fun _ => ⟨rfl, rfl⟩⟩
  obtain ⟨y1, d1, p1, q1, r1, t1⟩ := st 32 4294967296 x 0 rfl (by omega) (by omega)
  have hy1 : y1 < 4294967296 := by
    by_cases h : 4294967296 ≤ x
    · have := r1 h; omega
    · have := t1 (by omega); omega
  have hd1 : d1 = 32 ∨ d1 = 0 := by
    by_cases h : 4294967296 ≤ x
    · exact .inl (r1 h).2
    · exact .inr (t1 (by omega)).2
  obtain ⟨y2, d2, p2, q2, r2, t2⟩ := st 16 65536 y1 d1 rfl (by omega) (by omega)
  have hy2 : y2 < 65536 := by
    by_cases h : 65536 ≤ y1
    · have := r2 h; omega
    · have := t2 (by omega); omega
  have hd2 : d2 = 16 ∨ d2 = 0 := by
    by_cases h : 65536 ≤ y1
    · exact .inl (r2 h).2
    · exact .inr (t2 (by omega)).2
  obtain ⟨y3, d3, p3, q3, r3, t3⟩ := st 8 256 y2 (d1 + d2) rfl (by omega) (by omega)
  have hy3 : y3 < 256 := by
    by_cases h : 256 ≤ y2
    · have := r3 h; omega
    · have := t3 (by omega); omega
  have hd3 : d3 = 8 ∨ d3 = 0 := by
    by_cases h : 256 ≤ y2
    · exact .inl (r3 h).2
    · exact .inr (t3 (by omega)).2
  obtain ⟨b, k1, k2, k3⟩ := len_tab hy3
  have n3 : 1 ≤ y3 ∨ d3 = 0 := by
    by_cases h : 256 ≤ y2
    · left; have := r3 h; omega
    · exact .inr (t3 (by omega)).2
  have n2 : 1 ≤ y2 ∨ d2 = 0 := by
    by_cases h : 65536 ≤ y1
    · left; have := r2 h; omega
    · exact .inr (t2 (by omega)).2
  have n1 : 1 ≤ y1 ∨ d1 = 0 := by
    by_cases h : 4294967296 ≤ x
    · left; have := r1 h; omega
    · exact .inr (t1 (by omega)).2
  refine ⟨b + d3 + d2 + d1, ?_, q1 _ (q2 _ (q3 _ k2 n3) n2) n1, by omega⟩
  unfold bits_Len64
  have p1' : (if (x : Int) ≥ 4294967296 then some ((ishr .u64 (x : Int) 32), (32 : Int)) else some ((x : Int), 0)) = some ((y1 : Int), (d1 : Int)) := by
    have h := p1
    rw [Nat.zero_add] at h
    exact h
  rw [p1']
  simp only [Option.bind_some]
  have p2' : (if (y1 : Int) ≥ 65536 then some ((ishr .u64 (y1 : Int) 16), IntKind.i64.wrap ((d1 : Int) + 16)) else some ((y1 : Int), (d1 : Int))) = some ((y2 : Int), ((d1 + d2 : Nat) : Int)) := p2
  rw [p2']
  simp only [Option.bind_some]
  have p3' : (if (y2 : Int) ≥ 256 then some ((ishr .u64 (y2 : Int) 8), IntKind.i64.wrap (((d1 + d2 : Nat) : Int) + 8)) else some ((y2 : Int), ((d1 + d2 : Nat) : Int))) = some ((y3 : Int), ((d1 + d2 + d3 : Nat) : Int)) := p3
  rw [p3']
  simp only [Option.bind_some]
  have hw : IntKind.u8.wrap (y3 : Int) = y3 := by rw [IntKind.wrap_u8]; omega
  rw [hw]
  unfold lenTab at k1
  rw [k1]
  simp only [Option.bind_some]
  rw [wrap_nat (x := (b : Int)) rfl (by omega), wrap_nat (n := b + d3 + d2 + d1) (by omega) (by omega)]

theorem LZ_spec {x : Nat} (hx : x < 18446744073709551616) : ∃ n : Nat, bits_LeadingZeros64 (x : Int) = some ((64 - n : Nat) : Int) ∧ Bits x n ∧ n ≤ 64 := by
  obtain ⟨n, h1, h2, h3⟩ := Len64_spec hx
  refine ⟨n, ?_, h2, h3⟩
  unfold bits_LeadingZeros64
  rw [h1]
  simp only [Option.bind_some]
  rw [wrap_nat (n := 64 - n) (by omega) (by omega)]

end Go.Proofs.Ytoadagekdnkciaa


namespace Go.Proofs.Ytoadagekdnkciaa
open Go Go.Abs
set_option maxRecDepth 100000

theorem loop_q0 {H : AH} {a0 a1 a2 x1 v15 : Int} {yn un10 un21 t : Nat} (ht : t = (un21 * 4294967296 + un10 % 4294967296) / yn) (hyn : ishl .u64 a2 (IntKind.u64.wrap x1) = (yn : Int)) (hun : ishl .u64 a1 (IntKind.u64.wrap x1) = (un10 : Int)) (h1 : yn < 18446744073709551616) (h2 : 9223372036854775808 ≤ yn) (h3 : un10 < 18446744073709551616) (h4 : un21 < yn) :
    ∀ (d q rhat : Nat), q = t + d → q * (yn / 4294967296) + rhat = un21 → rhat < 4294967296 →
      ∃ r' : Nat, loopO (bits_Div64_b1 H a0 a1 a2 x1 v15) ((rhat : Int), (q : Int)) = some (.inl ((r' : Int), (t : Int))) := by
  have hun1 : un10 % 4294967296 < 4294967296 := by omega
  have e1 : ishr .u64 (yn : Int) 32 = ((yn / 4294967296 : Nat) : Int) := ish32 yn
  have e0 : iand .u64 (yn : Int) 4294967295 = ((yn % 4294967296 : Nat) : Int) := ian32 yn h1
  have eu : iand .u64 (un10 : Int) 4294967295 = ((un10 % 4294967296 : Nat) : Int) := ian32 un10 h3
  intro d
  induction d with
  | zero =>
    intro q rhat hq hr hlt
    refine ⟨rhat, ?_⟩
    obtain rfl : q = t := hq
    refine loopO_brk ?_
    have hno : ¬ (4294967296 ≤ q ∨ ¬ q * (yn % 4294967296) ≤ 4294967296 * rhat + un10 % 4294967296) := fun hc => by
      have := q_more' q q rhat yn un21 (un10 % 4294967296) 4294967296 ht (by omega) hr (by decide) h4 hun1 hc
      omega
    have hq32 : q < 4294967296 := by omega
    have hle : q * (yn % 4294967296) ≤ 4294967296 * rhat + un10 % 4294967296 := by omega
    unfold bits_Div64_b1
    simp only [hyn, hun, e1, e0, eu]
    rw [if_neg (by omega)]
    rw [wrap_u64n (x := (4294967296 : Int) * (rhat : Int)) (n := 4294967296 * rhat) (by simp) (by omega)]
    rw [wrap_u64n (n := 4294967296 * rhat + un10 % 4294967296) (Int.natCast_add _ _).symm (by omega)]
    rw [wrap_u64n (n := q * (yn % 4294967296)) (Int.natCast_mul _ _).symm (by omega)]
    rw [if_neg (by omega)]
    rfl
  | succ d ih =>
    intro q rhat hq hr hlt
    have hyes : 4294967296 ≤ q ∨ ¬ q * (yn % 4294967296) ≤ 4294967296 * rhat + un10 % 4294967296 := by
      apply Classical.byContradiction
      intro hc
      have := q_exit' t q rhat yn un21 (un10 % 4294967296) 4294967296 ht (by omega) hr (by decide) (by omega) (by omega)
      omega
    have hst := q_step q rhat (yn / 4294967296) un21 hr (by omega)
    have hwq : IntKind.u64.wrap ((q : Int) - 1) = ((q - 1 : Nat) : Int) := wrap_u64n (by omega) (by
      have : q * (yn / 4294967296) ≤ un21 := by omega
      have : q * 1 ≤ q * (yn / 4294967296) := Nat.mul_le_mul_left _ (by omega)
      omega)
    have hwr : IntKind.u64.wrap ((rhat : Int) + ((yn / 4294967296 : Nat) : Int)) = ((rhat + yn / 4294967296 : Nat) : Int) := wrap_u64n (Int.natCast_add _ _).symm (by omega)
    have hb : bits_Div64_b1 H a0 a1 a2 x1 v15 ((rhat : Int), (q : Int)) = if (((rhat + yn / 4294967296 : Nat) : Int)) ≥ 4294967296 then some (.brk (((rhat + yn / 4294967296 : Nat) : Int), ((q - 1 : Nat) : Int))) else some (.next (((rhat + yn / 4294967296 : Nat) : Int), ((q - 1 : Nat) : Int))) := by
      unfold bits_Div64_b1
      simp only [hyn, hun, e1, e0, eu, hwq, hwr]
      by_cases hq32 : 4294967296 ≤ q
      · rw [if_pos (by omega)]
        rfl
      · rw [if_neg (by omega)]
        have hb1 : q * (yn % 4294967296) ≤ 4294967295 * 4294967295 := Nat.mul_le_mul (by omega) (by omega)
        rw [wrap_u64n (x := (4294967296 : Int) * (rhat : Int)) (n := 4294967296 * rhat) (by simp) (by omega)]
        rw [wrap_u64n (n := 4294967296 * rhat + un10 % 4294967296) (Int.natCast_add _ _).symm (by omega)]
        rw [wrap_u64n (n := q * (yn % 4294967296)) (Int.natCast_mul _ _).symm (by omega)]
        rw [if_pos (by omega)]
        rfl
    by_cases hbig : 4294967296 ≤ rhat + yn / 4294967296
    · have hle : (q - 1) * (yn % 4294967296) ≤ 4294967296 * (rhat + yn / 4294967296) + un10 % 4294967296 := by
        have hq33 : q - 1 ≤ 4294967296 := by
          have a1 : q * (yn / 4294967296) ≤ un21 := by omega
          have a2 : un21 < 4294967296 * (yn / 4294967296) + 4294967296 := by omega
          apply Classical.byContradiction
          intro hc
          have a3 : 4294967298 * (yn / 4294967296) ≤ q * (yn / 4294967296) := Nat.mul_le_mul_right _ (by omega)
          omega
        have : (q - 1) * (yn % 4294967296) ≤ 4294967296 * 4294967295 := Nat.mul_le_mul hq33 (by omega)
        omega
      have := q_exit' t (q - 1) _ yn un21 (un10 % 4294967296) 4294967296 ht (by omega) hst (by decide) (by omega) hle
      refine ⟨rhat + yn / 4294967296, loopO_brk ?_⟩
      rw [hb, if_pos (by omega), this]
    · obtain ⟨r', h⟩ := ih (q - 1) (rhat + yn / 4294967296) (by omega) hst (by omega)
      refine ⟨r', ?_⟩
      rw [loopO_next (by rw [hb, if_neg (by omega)]), h]

theorem tdiv_nat (a b : Nat) : Int.tdiv (a : Int) (b : Int) = ((a / b : Nat) : Int) := rfl
theorem tmod_nat (a b : Nat) : Int.tmod (a : Int) (b : Int) = ((a % b : Nat) : Int) := rfl

/-- A first guess is not below the digit. -/
theorem guess_ge (un u1 yn : Nat) (h1 : u1 < 4294967296) (hy : 0 < yn / 4294967296) : (un * 4294967296 + u1) / yn ≤ un / (yn / 4294967296) := by
  have e : un / (yn / 4294967296) = (un * 4294967296 + u1) / (4294967296 * (yn / 4294967296)) := by
    rw [← Nat.div_div_eq_div_mul]
    congr 1
    omega
  rw [e]
  exact Nat.div_le_div_left (by omega) (by omega)

theorem Div64_spec {H : AH} {hi lo y : Nat} (hy : y < 18446744073709551616) (hlo : lo < 18446744073709551616) (hhi : hi < y) :
    bits_Div64 H (hi : Int) (lo : Int) (y : Int) = some ((((hi * 18446744073709551616 + lo) / y : Nat) : Int), (((hi * 18446744073709551616 + lo) % y : Nat) : Int)) := by
  unfold bits_Div64
  rw [if_neg (by omega), if_neg (by omega)]
  by_cases h0 : hi = 0
  · subst h0
    rw [if_pos (show ((0 : Nat) : Int) = 0 from rfl), if_neg (by omega), if_neg (by omega), tdiv_nat, tmod_nat, wrap_u64n (n := lo / y) rfl (by have := Nat.div_le_self lo y; omega), Nat.zero_mul, Nat.zero_add]
  rw [if_neg (by omega)]
  obtain ⟨n, z1, z2, z3⟩ := LZ_spec hy
  obtain ⟨b1, b2⟩ := z2.norm (by omega) z3
  rw [z1]
  simp only [Option.bind_some]
  generalize hs : 64 - n = s at *
  have hs64 : s ≤ 64 := by omega
  have hs63 : s ≤ 63 := by
    apply Classical.byContradiction
    intro hc
    have : s = 64 := by omega
    subst this
    have : y * 2 ^ 64 = y * 18446744073709551616 := rfl
    omega
  have hpos : 0 < 2 ^ s := Nat.pow_pos (by omega)
  have hpp : 2 ^ s * 2 ^ (64 - s) = 18446744073709551616 := by rw [← Nat.pow_add, show s + (64 - s) = 64 by omega]
  have hws : IntKind.u64.wrap (s : Int) = (s : Int) := wrap_u64n rfl (by omega)
  have hw6 : IntKind.u64.wrap (64 - (s : Int)) = ((64 - s : Nat) : Int) := wrap_u64n (by omega) (by omega)
  -- the shifted numbers
  have hyn : ishl .u64 (y : Int) (IntKind.u64.wrap (s : Int)) = ((y * 2 ^ s : Nat) : Int) := by rw [hws, ishl_nat rfl rfl hs64, Nat.mod_eq_of_lt b2]
  have hun : ishl .u64 (lo : Int) (IntKind.u64.wrap (s : Int)) = ((lo * 2 ^ s % 18446744073709551616 : Nat) : Int) := by rw [hws, ishl_nat rfl rfl hs64]
  have hhs : hi * 2 ^ s < y * 2 ^ s := Nat.mul_lt_mul_of_pos_right hhi hpos
  have hhl : ishl .u64 (hi : Int) (IntKind.u64.wrap (s : Int)) = ((hi * 2 ^ s : Nat) : Int) := by rw [hws, ishl_nat rfl rfl hs64, Nat.mod_eq_of_lt (by omega)]
  have hll : ishr .u64 (lo : Int) (IntKind.u64.wrap (64 - IntKind.u64.wrap (s : Int))) = ((lo / 2 ^ (64 - s) : Nat) : Int) := by rw [hws, hw6, ishr_nat (k := .u64) rfl rfl (by show 64 - s ≤ 64; omega)]
  have hlt : lo / 2 ^ (64 - s) < 2 ^ s := by rw [Nat.div_lt_iff_lt_mul (Nat.pow_pos (by omega)), hpp]; exact hlo
  have hor : ior .u64 (ishl .u64 (hi : Int) (IntKind.u64.wrap (s : Int))) (ishr .u64 (lo : Int) (IntKind.u64.wrap (64 - IntKind.u64.wrap (s : Int)))) = ((hi * 2 ^ s + lo / 2 ^ (64 - s) : Nat) : Int) :=
    ior_nat hhl hll (by omega) hlt hs64
  have hNs : (hi * 18446744073709551616 + lo) * 2 ^ s = (hi * 2 ^ s + lo / 2 ^ (64 - s)) * 18446744073709551616 + lo * 2 ^ s % 18446744073709551616 := by
    have e : lo * 2 ^ s = lo / 2 ^ (64 - s) * 18446744073709551616 + lo * 2 ^ s % 18446744073709551616 := by
      have h1 := Nat.div_add_mod (lo * 2 ^ s) 18446744073709551616
      have h2 : lo * 2 ^ s / 18446744073709551616 = lo / 2 ^ (64 - s) := by
        conv => lhs; rw [← hpp, Nat.mul_comm lo]
        exact Nat.mul_div_mul_left _ _ hpos
      rw [h2] at h1
      omega
    rw [Nat.add_mul, Nat.add_mul]
    have : hi * 18446744073709551616 * 2 ^ s = hi * 2 ^ s * 18446744073709551616 := by rw [Nat.mul_assoc, Nat.mul_comm 18446744073709551616, Nat.mul_assoc]
    omega
  have hu32 : hi * 2 ^ s + lo / 2 ^ (64 - s) < y * 2 ^ s := by
    have := Nat.mul_le_mul_right (2 ^ s) (show hi + 1 ≤ y by omega)
    rw [Nat.add_mul, Nat.one_mul] at this
    omega
  have hyd : (hi * 18446744073709551616 + lo) / y = ((hi * 2 ^ s + lo / 2 ^ (64 - s)) * 18446744073709551616 + lo * 2 ^ s % 18446744073709551616) / (y * 2 ^ s) := by
    rw [← hNs, Nat.mul_div_mul_right _ _ hpos]
  have hym : (hi * 18446744073709551616 + lo) % y = ((hi * 2 ^ s + lo / 2 ^ (64 - s)) * 18446744073709551616 + lo * 2 ^ s % 18446744073709551616) % (y * 2 ^ s) / 2 ^ s := by
    rw [← hNs, Nat.mul_mod_mul_right, Nat.mul_div_cancel _ hpos]
  rw [hyd, hym]
  rw [hor]
  generalize hun32 : hi * 2 ^ s + lo / 2 ^ (64 - s) = u at *
  have hl10 : lo * 2 ^ s % 18446744073709551616 < 18446744073709551616 := Nat.mod_lt _ (by omega)
  generalize lo * 2 ^ s % 18446744073709551616 = v at *
  generalize y * 2 ^ s = yn at *
  simp only [hyn, hun]
  have hyn1 : ishr .u64 (yn : Int) 32 = ((yn / 4294967296 : Nat) : Int) := ish32 yn
  have hv1 : ishr .u64 (v : Int) 32 = ((v / 4294967296 : Nat) : Int) := ish32 v
  have hv0 : iand .u64 (v : Int) 4294967295 = ((v % 4294967296 : Nat) : Int) := ian32 v hl10
  simp only [hyn1, hv1, hv0, hws, hw6]
  have hy1 : 2147483648 ≤ yn / 4294967296 := by omega
  have hy1' : yn / 4294967296 < 4294967296 := by omega
  rw [if_neg (by omega), if_neg (by omega), if_neg (by omega), if_neg (by omega)]
  -- the first digit
  have hq1 : u / (yn / 4294967296) < 18446744073709551616 := by have := Nat.div_le_self u (yn / 4294967296); omega
  have hm1 : u / (yn / 4294967296) * (yn / 4294967296) ≤ u := Nat.div_mul_le_self _ _
  have hr1 : u - u / (yn / 4294967296) * (yn / 4294967296) = u % (yn / 4294967296) := by
    have := Nat.div_add_mod u (yn / 4294967296); rw [Nat.mul_comm] at this; omega
  rw [tdiv_nat, wrap_u64n (n := u / (yn / 4294967296)) rfl hq1, wrap_u64n (n := u / (yn / 4294967296) * (yn / 4294967296)) (Int.natCast_mul _ _).symm (by omega), wrap_u64n (n := u % (yn / 4294967296)) (by omega) (by omega)]
  have hmod1 : u % (yn / 4294967296) < yn / 4294967296 := Nat.mod_lt _ (by omega)
  obtain ⟨r1, l1⟩ := loop_q1 (H := H) (a0 := (hi : Int)) (t := (u * 4294967296 + v / 4294967296) / yn) rfl hyn hun b2 b1 hl10 hu32 (u / (yn / 4294967296) - (u * 4294967296 + v / 4294967296) / yn) (u / (yn / 4294967296)) (u % (yn / 4294967296))
    (by have := guess_ge u (v / 4294967296) yn (by omega) (by omega); omega) (by rw [Nat.mul_comm]; exact Nat.div_add_mod u _) (by omega)
  rw [l1]
  simp only [Option.bind_some]
  rw [if_neg (by omega)]
  -- what is left of it
  have hd1 := Nat.div_add_mod (u * 4294967296 + v / 4294967296) yn
  have hd2 := Nat.mod_lt (u * 4294967296 + v / 4294967296) (show 0 < yn by omega)
  have hu21 : IntKind.u64.wrap (IntKind.u64.wrap (IntKind.u64.wrap ((u : Int) * 4294967296) + ((v / 4294967296 : Nat) : Int)) - IntKind.u64.wrap (((u * 4294967296 + v / 4294967296) / yn : Nat) * (yn : Int))) = (((u * 4294967296 + v / 4294967296) % yn : Nat) : Int) := by
    rw [← Int.natCast_mul, Nat.mul_comm ((u * 4294967296 + v / 4294967296) / yn) yn, wrap_u64m]
    have e1 : IntKind.u64.wrap ((u : Int) * 4294967296) = ((u * 4294967296 % 18446744073709551616 : Nat) : Int) := by
      rw [← wrap_u64m]; simp
    rw [e1, ← Int.natCast_add, wrap_u64m]
    unfold IntKind.wrap
    simp only [IntKind.bits, IntKind.signed, Bool.false_and, Bool.false_eq_true, if_false]
    obtain ⟨r, hr⟩ : ∃ r, r = (u * 4294967296 + v / 4294967296) % yn := ⟨_, rfl⟩
    rw [← hr] at hd1 hd2 ⊢
    generalize yn * ((u * 4294967296 + v / 4294967296) / yn) = p at hd1 ⊢
    clear hr
    omega
  rw [hu21]
  have hdq : ((u * 18446744073709551616 + v) / yn = (u * 4294967296 + v / 4294967296) / yn * 4294967296 + ((u * 4294967296 + v / 4294967296) % yn * 4294967296 + v % 4294967296) / yn) ∧ (u * 18446744073709551616 + v) % yn = ((u * 4294967296 + v / 4294967296) % yn * 4294967296 + v % 4294967296) % yn := by
    have e : u * 18446744073709551616 + v = yn * ((u * 4294967296 + v / 4294967296) / yn * 4294967296) + ((u * 4294967296 + v / 4294967296) % yn * 4294967296 + v % 4294967296) := by
      have : yn * ((u * 4294967296 + v / 4294967296) / yn * 4294967296) = yn * ((u * 4294967296 + v / 4294967296) / yn) * 4294967296 := by rw [Nat.mul_assoc]
      rw [this]
      obtain ⟨r, hr⟩ : ∃ r, r = (u * 4294967296 + v / 4294967296) % yn := ⟨_, rfl⟩
      rw [← hr] at hd1 hd2 ⊢
      generalize yn * ((u * 4294967296 + v / 4294967296) / yn) = p at hd1 ⊢
      clear hr
      omega
    rw [e]
    refine ⟨?_, ?_⟩
    · rw [Nat.mul_add_div (by omega)]
    · rw [Nat.mul_add_mod]
  rw [hdq.1, hdq.2]
  obtain ⟨w, hw⟩ : ∃ w, w = (u * 4294967296 + v / 4294967296) % yn := ⟨_, rfl⟩
  rw [← hw] at hd1 hd2 ⊢
  clear hw hu21 hdq
  have hq1b : (u * 4294967296 + v / 4294967296) / yn < 4294967296 := by
    rw [Nat.div_lt_iff_lt_mul (by omega)]; omega
  obtain ⟨t1, ht1⟩ : ∃ t1, t1 = (u * 4294967296 + v / 4294967296) / yn := ⟨_, rfl⟩
  rw [← ht1] at hd1 hq1b ⊢
  clear ht1 hd1 l1
  -- the second digit
  have hq2 : w / (yn / 4294967296) < 18446744073709551616 := by have := Nat.div_le_self w (yn / 4294967296); omega
  have hm2 : w / (yn / 4294967296) * (yn / 4294967296) ≤ w := Nat.div_mul_le_self _ _
  have hr2 : w - w / (yn / 4294967296) * (yn / 4294967296) = w % (yn / 4294967296) := by
    have := Nat.div_add_mod w (yn / 4294967296); rw [Nat.mul_comm] at this; omega
  rw [tdiv_nat, wrap_u64n (n := w / (yn / 4294967296)) rfl hq2, wrap_u64n (n := w / (yn / 4294967296) * (yn / 4294967296)) (Int.natCast_mul _ _).symm (by omega), wrap_u64n (n := w % (yn / 4294967296)) (by omega) (by omega)]
  have hmod2 : w % (yn / 4294967296) < yn / 4294967296 := Nat.mod_lt _ (by omega)
  obtain ⟨r2, l2⟩ := loop_q0 (H := H) (a0 := (hi : Int)) (v15 := (t1 : Int)) (t := (w * 4294967296 + v % 4294967296) / yn) rfl hyn hun b2 b1 hl10 hd2 (w / (yn / 4294967296) - (w * 4294967296 + v % 4294967296) / yn) (w / (yn / 4294967296)) (w % (yn / 4294967296))
    (by have := guess_ge w (v % 4294967296) yn (by omega) (by omega); omega) (by rw [Nat.mul_comm]; exact Nat.div_add_mod w _) (by omega)
  rw [l2]
  simp only [Option.bind_some]
  rw [if_neg (by omega)]
  have hq2b : (w * 4294967296 + v % 4294967296) / yn < 4294967296 := by
    rw [Nat.div_lt_iff_lt_mul (by omega)]; omega
  have hd3 := Nat.div_add_mod (w * 4294967296 + v % 4294967296) yn
  have hd4 := Nat.mod_lt (w * 4294967296 + v % 4294967296) (show 0 < yn by omega)
  have hrest : IntKind.u64.wrap (IntKind.u64.wrap (IntKind.u64.wrap ((w : Int) * 4294967296) + ((v % 4294967296 : Nat) : Int)) - IntKind.u64.wrap (((w * 4294967296 + v % 4294967296) / yn : Nat) * (yn : Int))) = (((w * 4294967296 + v % 4294967296) % yn : Nat) : Int) := by
    rw [← Int.natCast_mul, Nat.mul_comm ((w * 4294967296 + v % 4294967296) / yn) yn, wrap_u64m]
    have e1 : IntKind.u64.wrap ((w : Int) * 4294967296) = ((w * 4294967296 % 18446744073709551616 : Nat) : Int) := by
      rw [← wrap_u64m]; simp
    rw [e1, ← Int.natCast_add, wrap_u64m]
    unfold IntKind.wrap
    simp only [IntKind.bits, IntKind.signed, Bool.false_and, Bool.false_eq_true, if_false]
    obtain ⟨r, hr⟩ : ∃ r, r = (w * 4294967296 + v % 4294967296) % yn := ⟨_, rfl⟩
    rw [← hr] at hd3 hd4 ⊢
    generalize yn * ((w * 4294967296 + v % 4294967296) / yn) = p at hd3 ⊢
    clear hr
    omega
  rw [hrest]
  obtain ⟨r, hr⟩ : ∃ r, r = (w * 4294967296 + v % 4294967296) % yn := ⟨_, rfl⟩
  obtain ⟨t0, ht0⟩ : ∃ t0, t0 = (w * 4294967296 + v % 4294967296) / yn := ⟨_, rfl⟩
  rw [← hr, ← ht0]
  rw [← ht0] at hq2b
  rw [ishr_nat (k := .u64) (x := r) (n := s) rfl rfl hs64, wrap_u64n (x := (t1 : Int) * 4294967296) (n := t1 * 4294967296) (by simp) (by omega), wrap_u64n (n := t1 * 4294967296 + t0) (Int.natCast_add _ _).symm (by omega), if_neg (by omega)]

end Go.Proofs.Ytoadagekdnkciaa


namespace Go.Proofs.Ytoadagekdnkciaa
open Go Go.Abs
set_option maxRecDepth 10000

theorem single_spec {H : AH} {a0 : Sl3} {xs : List Nat} {d : Nat} (ha : Nm H a0 xs) (hd0 : 0 < d) (hd : d < 18446744073709551616) (hM : M0 ≤ H.next) :
    ∃ s' H', nat_single H a0 (d : Int) = some (s', ((val W64 xs % d : Nat) : Int), H') ∧ Ext H H' ∧ Nm H' s' (dig W64 (val W64 xs / d)) ∧ ∀ id, blkIs s' id → H.next ≤ id := by
  have hsm := ha.sm
  obtain ⟨s1, H2, m1, m2, m3, m4, _, _, m5⟩ := mkS_vec (k := .u64) (e := 38) (m := M0) (bytes := 8) (H := H) (vn := (a0.n : Int)) (vc := (a0.n : Int)) xs.length xs.length (by rw [ha.ro.len]) (by rw [ha.ro.len]) (Nat.le_refl _) (by omega) (by omega) hM
  have hs1 : ∀ id, blkIs s1 id → H.next ≤ id := fun id h => by rw [m4 id h]; exact Nat.le_refl _
  obtain ⟨s', h1, h2⟩ := loopO_to (body := nat_single_b0 a0 (d : Int) s1) xs.length
    (fun j (s : AH × Int × Int) => ∃ (qs : List Nat) (r : Nat), s.2.1 = (r : Int) ∧ s.2.2 = (xs.length : Int) - j - 1 ∧ r < d ∧ Vec .u64 38 M0 s.1 qs s1 ∧ qs.length = xs.length ∧ (∀ q ∈ qs, q < W64) ∧ Ext H s.1 ∧
      val W64 (qs.drop (xs.length - j)) * d + r = val W64 (xs.drop (xs.length - j)))
    (Q := fun s => ∃ (qs : List Nat) (r : Nat), s.2.1 = (r : Int) ∧ r < d ∧ Vec .u64 38 M0 s.1 qs s1 ∧ qs.length = xs.length ∧ (∀ q ∈ qs, q < W64) ∧ Ext H s.1 ∧ val W64 qs * d + r = val W64 xs)
    (fun j hj s hs => by
      obtain ⟨H3, v7, v8⟩ := s
      obtain ⟨qs, r, rfl, rfl, hr, hv, hlen, hlt, hE, heq⟩ := hs
      simp only at hv hE
      have hi : xs.length - j - 1 < xs.length := by omega
      have hvi : (xs.length : Int) - j - 1 = ((xs.length - j - 1 : Nat) : Int) := by omega
      obtain ⟨p6, g1, g2, _⟩ := (ha.ext hE).ro.get hi hvi
      have hx : xs[xs.length - j - 1] < 18446744073709551616 := ha.lt _ (List.getElem_mem hi)
      have hD := Div64_spec (H := H3) hd hx hr
      have hq : (r * 18446744073709551616 + xs[xs.length - j - 1]) / d < W64 := by
        rw [Nat.div_lt_iff_lt_mul hd0]
        have := Nat.mul_le_mul_right 18446744073709551616 (show r + 1 ≤ d by omega)
        rw [Nat.add_mul] at this
        show _ < 18446744073709551616 * d
        omega
      have hr' := Nat.mod_lt (r * 18446744073709551616 + xs[xs.length - j - 1]) hd0
      have hdm := Nat.div_add_mod (r * 18446744073709551616 + xs[xs.length - j - 1]) d
      obtain ⟨p10, H11, w1, w2, w3, w4, _⟩ := hv.set (i := xs.length - j - 1) (by omega) ((r * 18446744073709551616 + xs[xs.length - j - 1]) / d) rfl hvi
      refine ⟨(H11, (((r * 18446744073709551616 + xs[xs.length - j - 1]) % d : Nat) : Int), (xs.length : Int) - (j + 1 : Nat) - 1), ?_, _, _, rfl, rfl, hr', w3, by simpa using hlen, mem_set_lt hlt hq, hE.comp w4 (fun id hid _ hh => by have := hs1 id hh; omega), ?_⟩
      · unfold nat_single_b0
        simp only
        rw [if_pos (by omega), g1]
        simp only [Option.bind_some]
        rw [g2]
        simp only [Option.bind_some]
        rw [hD]
        simp only [Option.bind_some]
        rw [w1]
        simp only [Option.bind_some]
        rw [w2]
        simp only [Option.bind_some]
        rw [wrap_i64' (by omega) (by omega), show (xs.length : Int) - j - 1 - 1 = (xs.length : Int) - (j + 1 : Nat) - 1 by omega]
      · rw [show xs.length - (j + 1) = xs.length - j - 1 by omega, drop_set_self _ _ _ (by omega), List.drop_eq_getElem_cons hi, show xs.length - j - 1 + 1 = xs.length - j by omega, val, val, ← heq]
        rw [Nat.add_mul, Nat.mul_add, Nat.mul_assoc]
        rw [Nat.mul_comm d] at hdm
        have e : W64 * r = r * 18446744073709551616 := Nat.mul_comm _ _
        omega)
    (fun s hs => by
      obtain ⟨H3, v7, v8⟩ := s
      obtain ⟨qs, r, rfl, rfl, hr, hv, hlen, hlt, hE, heq⟩ := hs
      refine ⟨(H3, (r : Int), (xs.length : Int) - xs.length - 1), ?_, qs, r, rfl, hr, hv, hlen, hlt, hE, by rw [Nat.sub_self] at heq; exact heq⟩
      unfold nat_single_b0
      simp only
      rw [if_neg (by omega)])
    (s := (H2, 0, (xs.length : Int) - 1)) ⟨List.replicate xs.length 0, 0, rfl, by show (xs.length : Int) - 1 = (xs.length : Int) - (0 : Nat) - 1; omega, hd0, m2, by simp, fun q hq => by rw [List.eq_of_mem_replicate hq]; decide, m3, by simp [val]⟩
  obtain ⟨H12, v7, v8⟩ := s'
  obtain ⟨qs, r, rfl, hr, hv, hlen, hlt, hE, heq⟩ := h2
  have hq : val W64 qs = val W64 xs / d := by
    rw [← heq, Nat.mul_comm, Nat.mul_add_div hd0, Nat.div_eq_of_lt hr, Nat.add_zero]
  have hrr : r = val W64 xs % d := by
    rw [← heq, Nat.mul_comm, Nat.mul_add_mod, Nat.mod_eq_of_lt hr]
  have hnm : Nm H12 s1 qs := ⟨hv.ro (by unfold OPEN; omega), hlt, by omega⟩
  obtain ⟨s', t1, t2, t3, _⟩ := trim_spec hnm
  refine ⟨s', H12, ?_, hE, by rw [← hq]; exact t2, fun id ⟨a, ha', hb'⟩ => hs1 id ⟨a, by rw [← t3]; exact ha', hb'⟩⟩
  unfold nat_single
  rw [m1]
  simp only [Option.bind_some]
  rw [ha.ro.len, wrap_i64' (by omega) (by omega), h1]
  simp only [Option.bind_some]
  rw [t1]
  simp only [Option.bind_some]
  rw [hrr]

end Go.Proofs.Ytoadagekdnkciaa


namespace Go.Proofs.Ytoadagekdnkciaa
open Go Go.Abs
set_option maxRecDepth 10000

theorem Reverse_spec {H : AH} {s : Sl3} {cs : List Nat} (hv : Vec .u8 5 M0 H cs s) (hl : cs.length ≤ 1099511627776) :
    ∃ H', slices_Reverse H s = some H' ∧ Vec .u8 5 M0 H' cs.reverse s ∧ Fr (blkIs s) H H' := by
  have hn : s.n = cs.length := (hv.ro (by unfold OPEN; omega)).len
  obtain ⟨s', h1, h2⟩ := loopO_to (body := slices_Reverse_b0 s) (cs.length / 2)
    (fun i (t : AH × Int × Int) => ∃ l : List Nat, t.2.1 = (i : Int) ∧ t.2.2 = (cs.length : Int) - 1 - i ∧ Vec .u8 5 M0 t.1 l s ∧ l.length = cs.length ∧ Fr (blkIs s) H t.1 ∧
      ∀ p, p < cs.length → l[p]? = if p < i ∨ cs.length - i ≤ p then cs[cs.length - 1 - p]? else cs[p]?)
    (Q := fun t => Vec .u8 5 M0 t.1 cs.reverse s ∧ Fr (blkIs s) H t.1)
    (fun i hi t ht => by
      obtain ⟨H1, v2, v3⟩ := t
      obtain ⟨l, rfl, rfl, hv1, hlen, hF, hp⟩ := ht
      simp only at hv1 hF
      have hj : cs.length - 1 - i < l.length := by omega
      have hi2 : i < l.length := by omega
      have hvj : (cs.length : Int) - 1 - i = ((cs.length - 1 - i : Nat) : Int) := by omega
      have hr1 := hv1.ro (by unfold OPEN; omega)
      obtain ⟨p4, g1, g2, g3⟩ := hr1.get hj hvj
      obtain ⟨p6, k1, k2, k3⟩ := hr1.get hi2 rfl
      obtain ⟨p8, H9, w1, w2, w3, w4, w5⟩ := hv1.set hi2 l[cs.length - 1 - i] rfl rfl
      obtain rfl : p8 = p6 := Option.some.inj (w1.symm.trans k1)
      obtain ⟨p10, H11, y1, y2, y3, y4, y5⟩ := w3.set (i := cs.length - 1 - i) (by simpa using hj) l[i] rfl hvj
      obtain rfl : p10 = p4 := Option.some.inj (y1.symm.trans g1)
      refine ⟨(H11, ((i + 1 : Nat) : Int), (cs.length : Int) - 1 - (i + 1 : Nat)), ?_, _, rfl, rfl, y3, by simpa using hlen, (hF.comp w4 fun _ _ h => h).comp y4 (fun _ _ h => h), fun p hp' => ?_⟩
      · unfold slices_Reverse_b0
        simp only
        have hb1 : belowSN H1.next s = true := hr1.below (Nat.le_refl _)
        rw [if_pos (by omega), if_pos hb1, if_pos hb1, if_pos hb1, g1]
        simp only [Option.bind_some]
        rw [if_pos (g3 _ (Nat.le_refl _)), g2]
        simp only [Option.bind_some]
        rw [if_pos hb1, k1]
        simp only [Option.bind_some]
        rw [if_pos (k3 _ (Nat.le_refl _)), k2]
        simp only [Option.bind_some]
        rw [if_pos (k3 _ (Nat.le_refl _)), w2]
        simp only [Option.bind_some]
        rw [if_pos (by omega), if_pos (g3 _ (by omega)), y2]
        simp only [Option.bind_some]
        rw [if_pos (by omega), wrap_next rfl (by omega), wrap_i64' (by omega) (by omega), show (cs.length : Int) - 1 - i - 1 = (cs.length : Int) - 1 - (i + 1 : Nat) by omega]
      · have h1 := hp p hp'
        have hpi := hp i (by omega)
        have hpj := hp (cs.length - 1 - i) (by omega)
        rw [if_neg (by omega), List.getElem?_eq_getElem hi2] at hpi
        rw [if_neg (by omega), List.getElem?_eq_getElem hj] at hpj
        by_cases e1 : p = cs.length - 1 - i
        · subst e1
          rw [List.getElem?_set_self (by simpa using hj), if_pos (by omega), hpi]
          congr 1
          omega
        · rw [List.getElem?_set_ne (fun h => e1 h.symm)]
          by_cases e2 : p = i
          · subst e2
            rw [List.getElem?_set_self hi2, if_pos (by omega), hpj]
          · rw [List.getElem?_set_ne (fun h => e2 h.symm), h1]
            by_cases e3 : p < i ∨ cs.length - i ≤ p
            · rw [if_pos e3, if_pos (by omega)]
            · rw [if_neg e3, if_neg (by omega)])
    (fun t ht => by
      obtain ⟨H1, v2, v3⟩ := t
      obtain ⟨l, rfl, rfl, hv1, hlen, hF, hp⟩ := ht
      have e : l = cs.reverse := by
        apply List.ext_getElem?
        intro p
        by_cases hlt : p < cs.length
        · rw [hp p hlt, List.getElem?_reverse hlt]
          by_cases e : p < cs.length / 2 ∨ cs.length - cs.length / 2 ≤ p
          · rw [if_pos e]
          · rw [if_neg e]
            congr 1
            omega
        · rw [List.getElem?_eq_none (by omega), List.getElem?_eq_none (by simp; omega)]
      subst e
      refine ⟨(H1, ((cs.length / 2 : Nat) : Int), (cs.length : Int) - 1 - (cs.length / 2 : Nat)), ?_, hv1, hF⟩
      unfold slices_Reverse_b0
      simp only
      rw [if_neg (by omega)])
    (s := (H, 0, (cs.length : Int) - 1)) ⟨cs, rfl, by show (cs.length : Int) - 1 = (cs.length : Int) - 1 - (0 : Nat); omega, hv, rfl, Fr.refl _ _, fun p hp => by rw [if_neg (by omega)]⟩
  obtain ⟨H12, v2, v3⟩ := s'
  refine ⟨H12, ?_, h2.1, h2.2⟩
  unfold slices_Reverse
  rw [hn, wrap_i64' (by omega) (by omega), h1]
  simp only [Option.bind_some]

end Go.Proofs.Ytoadagekdnkciaa


namespace Go.Proofs.Ytoadagekdnkciaa
open Go Go.Abs
set_option maxRecDepth 10000

/-- The digits of a chunk: all of it when something stands above it. -/
def chunk (b c Q r : Nat) : List Nat := if Q = 0 then dig b r else pad b c r

theorem chunk_stop {b c Q r : Nat} (h : c = 0 ∨ (r = 0 ∧ Q = 0)) (hr : r < b ^ c) : chunk b c Q r = [] := by
  unfold chunk
  rcases h with h | ⟨h1, h2⟩
  · subst h
    have : r = 0 := by simpa using hr
    subst this
    split <;> rfl
  · subst h1; subst h2; rfl

theorem chunk_go {b c Q r : Nat} (hb : 2 ≤ b) (h : r ≠ 0 ∨ Q ≠ 0) : chunk b (c + 1) Q r = r % b :: chunk b c Q (r / b) := by
  unfold chunk
  by_cases hQ : Q = 0
  · rw [if_pos hQ, if_pos hQ]
    exact dig_eq hb (by omega)
  · rw [if_neg hQ, if_neg hQ]
    rfl

theorem chunk_all {b c Q r : Nat} (hb : 2 ≤ b) (hr : r < b ^ c) : dig b (Q * b ^ c + r) = chunk b c Q r ++ dig b Q := by
  unfold chunk
  by_cases hQ : Q = 0
  · subst hQ; simp [dig_zero]
  · rw [if_neg hQ, dig_pad hb Q hQ c r hr]

theorem text10 {a1 : Int} {x9 : Sl3} {Q : Nat} (hx : x9.n = (dig W64 Q).length) {Ha : AH} {sa : Sl3} : ∀ (c r : Nat) (H : AH) (s : Sl3) (cs : List Nat), c ≤ 19 → r < 10 ^ c → Vec .u8 5 M0 H cs s → cs.length + c ≤ 1000000000 → M0 ≤ H.next →
    Fr (blkIs sa) Ha H → (∀ id, blkIs s id → blkIs sa id ∨ Ha.next ≤ id) →
    ∃ H' s' r' k', loopO (nat_Text_b1 a1 x9) (H, s, (r : Int), ((19 - c : Nat) : Int)) = some (.inl (H', s', r', k')) ∧ Vec .u8 5 M0 H' (cs ++ (chunk 10 c Q r).map ch) s' ∧ Fr (blkIs sa) Ha H' ∧ (∀ id, blkIs s' id → blkIs sa id ∨ Ha.next ≤ id) ∧ H.next ≤ H'.next := by
  have hQ0 : (x9.n : Int) > 0 ↔ Q ≠ 0 := by
    rw [hx]
    have := D64_nil (n := Q)
    omega
  intro c
  induction c with
  | zero =>
    intro r H s cs hc hr hv hl hM hF hB
    refine ⟨H, s, r, ((19 - 0 : Nat) : Int), loopO_brk ?_, by rw [chunk_stop (.inl rfl) hr]; simpa using hv, hF, hB, Nat.le_refl _⟩
    unfold nat_Text_b1
    simp only
    rw [if_neg (by omega)]
    rfl
  | succ c ih =>
    intro r H s cs hc hr hv hl hM hF hB
    by_cases hgo : r ≠ 0 ∨ Q ≠ 0
    · obtain ⟨z, H1, s2, H2, n1, n2, n3, n4, n5⟩ := hv.push (bytes := 1) (ch (r % 10)) (v := ((ch (r % 10) : Nat) : Int)) rfl (by omega) (by omega) hM
      have hr2 : r / 10 < 10 ^ c := by rw [Nat.div_lt_iff_lt_mul (by omega), ← Nat.pow_succ]; exact hr
      have hF2 : Fr (blkIs sa) Ha H2 := hF.comp n4 fun id hid hn hh => by
        rcases hB id hh with h | h
        · exact hn h
        · omega
      obtain ⟨H', s', r', k', l1, l2, l3, l4, l5⟩ := ih (r / 10) H2 s2 (cs ++ [ch (r % 10)]) (by omega) hr2 n3 (by simp; omega) (Nat.le_trans hM n4.1) hF2 fun id hid => by
        rcases n5 id hid with h | h
        · exact hB id h
        · right; have := hF.1; omega
      refine ⟨H', s', r', k', ?_, by rw [chunk_go (by omega) hgo]; simpa using l2, l3, l4, Nat.le_trans n4.1 l5⟩
      have hr64 : r < 18446744073709551616 := by
        have : 10 ^ (c + 1) ≤ 10 ^ 19 := Nat.pow_le_pow_right (by omega) hc
        have e : (10 : Nat) ^ 19 = 10000000000000000000 := by decide
        omega
      rw [loopO_next (s' := (H2, s2, ((r / 10 : Nat) : Int), ((19 - c : Nat) : Int))), l1]
      have hcond : (if ((19 - (c + 1) : Nat) : Int) < 19 then (if (r : Int) > 0 then some (.inl ()) else if (x9.n : Int) > 0 then some (.inl ()) else ((some (Lp.brk (H, s, (r : Int), ((19 - (c + 1) : Nat) : Int)))).map .inr)) else ((some (Lp.brk (H, s, (r : Int), ((19 - (c + 1) : Nat) : Int)))).map .inr) : Option (Unit ⊕ (Lp (AH × Sl3 × Int × Int) (ByteArray × Int × AH)))) = some (.inl ()) := by
        rw [if_pos (by omega)]
        by_cases h0 : (r : Int) > 0
        · rw [if_pos h0]
        · rw [if_neg h0, if_pos (hQ0.2 (by omega))]
      unfold nat_Text_b1
      simp only
      rw [hcond]
      simp only [Option.bind_some]
      have ht : Int.tmod (r : Int) 10 = ((r % 10 : Nat) : Int) := rfl
      have hd : Int.tdiv (r : Int) 10 = ((r / 10 : Nat) : Int) := rfl
      have htab := hex_tab (d := r % 10) (by omega)
      unfold hexTab at htab
      rw [ht, htab]
      simp only [Option.bind_some]
      rw [n1]
      simp only [Option.bind_some]
      rw [n2]
      simp only [Option.bind_some]
      rw [hd, wrap_u64n (n := r / 10) rfl (by omega), wrap_nat (n := 19 - c) (by omega) (by omega)]
    · refine ⟨H, s, r, ((19 - (c + 1) : Nat) : Int), loopO_brk ?_, by rw [chunk_stop (.inr ⟨by omega, by omega⟩) hr]; simpa using hv, hF, hB, Nat.le_refl _⟩
      unfold nat_Text_b1
      simp only
      rw [if_pos (by omega), if_neg (by omega), if_neg (fun hh => by have := hQ0.1 hh; omega)]
      rfl

theorem bitsLen_spec {b w : Nat} (hb : (b = 2 ∧ w = 1) ∨ (b = 16 ∧ w = 4)) : bits_Len (IntKind.u64.wrap (IntKind.i64.wrap ((b : Int) - 1))) = some (w : Int) := by
  have e : IntKind.u64.wrap (IntKind.i64.wrap ((b : Int) - 1)) = ((b - 1 : Nat) : Int) := by
    rw [wrap_nat (n := b - 1) (by omega) (by omega), wrap_u64n (n := b - 1) rfl (by omega)]
  obtain ⟨n, h1, h2, h3⟩ := Len64_spec (x := b - 1) (by omega)
  unfold bits_Len
  rw [e, h1]
  simp only [Option.bind_some]
  congr 2
  rcases hb with ⟨rfl, rfl⟩ | ⟨rfl, rfl⟩
  · have a1 := pow_le_of h2 1 (by decide)
    have a2 := h2.1
    have : n ≠ 0 := by intro h0; subst h0; simp at a2
    omega
  · have a1 := pow_le_of h2 4 (by decide)
    have a2 := h2.1
    have : ¬ n ≤ 3 := by
      intro hc
      have := Nat.pow_le_pow_right (n := 2) (by omega) hc
      omega
    omega

theorem text2 {b w : Nat} (hb : (b = 2 ∧ w = 1) ∨ (b = 16 ∧ w = 4)) {x9 : Sl3} {Q : Nat} (hx : x9.n = (dig W64 Q).length) {Ha : AH} {sa : Sl3} : ∀ (c r : Nat) (H : AH) (s : Sl3) (cs : List Nat), w * c ≤ 32 → r < b ^ c → Vec .u8 5 M0 H cs s → cs.length + c ≤ 1000000000 → M0 ≤ H.next →
    Fr (blkIs sa) Ha H → (∀ id, blkIs s id → blkIs sa id ∨ Ha.next ≤ id) →
    ∃ H' s' r' k', loopO (nat_Text_b2 (b : Int) x9) (H, s, (r : Int), ((32 - w * c : Nat) : Int)) = some (.inl (H', s', r', k')) ∧ Vec .u8 5 M0 H' (cs ++ (chunk b c Q r).map ch) s' ∧ Fr (blkIs sa) Ha H' ∧ (∀ id, blkIs s' id → blkIs sa id ∨ Ha.next ≤ id) ∧ H.next ≤ H'.next := by
  have hb2 : 2 ≤ b ∧ b ≤ 16 := by omega
  have hw : 1 ≤ w ∧ w ≤ 4 := by omega
  have hQ0 : (x9.n : Int) > 0 ↔ Q ≠ 0 := by
    rw [hx]
    have := D64_nil (n := Q)
    omega
  have hwb : IntKind.u64.wrap (b : Int) = (b : Int) := wrap_u64n rfl (by omega)
  intro c
  induction c with
  | zero =>
    intro r H s cs hc hr hv hl hM hF hB
    refine ⟨H, s, r, ((32 - w * 0 : Nat) : Int), loopO_brk ?_, by rw [chunk_stop (.inl rfl) hr]; simpa using hv, hF, hB, Nat.le_refl _⟩
    unfold nat_Text_b2
    simp only
    rw [if_neg (by omega)]
    rfl
  | succ c ih =>
    intro r H s cs hc hr hv hl hM hF hB
    rw [Nat.mul_add, Nat.mul_one] at hc
    by_cases hgo : r ≠ 0 ∨ Q ≠ 0
    · have hrb : r % b < 16 := by have := Nat.mod_lt r (show 0 < b by omega); omega
      obtain ⟨z, H1, s2, H2, n1, n2, n3, n4, n5⟩ := hv.push (bytes := 1) (ch (r % b)) (v := ((ch (r % b) : Nat) : Int)) rfl (by omega) (by omega) hM
      have hr2 : r / b < b ^ c := by rw [Nat.div_lt_iff_lt_mul (by omega), ← Nat.pow_succ]; exact hr
      have hF2 : Fr (blkIs sa) Ha H2 := hF.comp n4 fun id hid hn hh => by
        rcases hB id hh with h | h
        · exact hn h
        · omega
      obtain ⟨H', s', r', k', l1, l2, l3, l4, l5⟩ := ih (r / b) H2 s2 (cs ++ [ch (r % b)]) (by omega) hr2 n3 (by simp; omega) (Nat.le_trans hM n4.1) hF2 fun id hid => by
        rcases n5 id hid with h | h
        · exact hB id h
        · right; have := hF.1; omega
      refine ⟨H', s', r', k', ?_, by rw [chunk_go hb2.1 hgo]; simpa using l2, l3, l4, Nat.le_trans n4.1 l5⟩
      have hr64 : r < 18446744073709551616 := by
        have h1 : b ^ (c + 1) ≤ 4294967296 := by
          rcases hb with ⟨rfl, rfl⟩ | ⟨rfl, rfl⟩
          · have := Nat.pow_le_pow_right (n := 2) (by omega) (show c + 1 ≤ 32 by omega)
            exact this
          · have := Nat.pow_le_pow_right (n := 16) (by omega) (show c + 1 ≤ 8 by omega)
            exact this
        omega
      have hdl : r / b ≤ r := Nat.div_le_self _ _
      rw [loopO_next (s' := (H2, s2, ((r / b : Nat) : Int), ((32 - w * c : Nat) : Int))), l1]
      rw [Nat.mul_add, Nat.mul_one]
      have hcond : (if ((32 - (w * c + w) : Nat) : Int) < 32 then (if (r : Int) > 0 then some (.inl ()) else if (x9.n : Int) > 0 then some (.inl ()) else ((some (Lp.brk (H, s, (r : Int), ((32 - (w * c + w) : Nat) : Int)))).map .inr)) else ((some (Lp.brk (H, s, (r : Int), ((32 - (w * c + w) : Nat) : Int)))).map .inr) : Option (Unit ⊕ (Lp (AH × Sl3 × Int × Int) (ByteArray × Int × AH)))) = some (.inl ()) := by
        rw [if_pos (by omega)]
        by_cases h0 : (r : Int) > 0
        · rw [if_pos h0]
        · rw [if_neg h0, if_pos (hQ0.2 (by omega))]
      unfold nat_Text_b2
      simp only
      rw [hcond]
      simp only [Option.bind_some, hwb]
      have htab := hex_tab (d := r % b) hrb
      unfold hexTab at htab
      rw [if_neg (by omega), tmod_nat, htab]
      simp only [Option.bind_some]
      rw [n1]
      simp only [Option.bind_some]
      rw [n2]
      simp only [Option.bind_some]
      rw [if_neg (by omega), bitsLen_spec hb]
      simp only [Option.bind_some]
      rw [tdiv_nat, wrap_u64n (n := r / b) rfl (by omega), wrap_nat (n := 32 - w * c) (by omega) (by omega)]
    · refine ⟨H, s, r, ((32 - w * (c + 1) : Nat) : Int), loopO_brk ?_, by rw [chunk_stop (.inr ⟨by omega, by omega⟩) hr]; simpa using hv, hF, hB, Nat.le_refl _⟩
      unfold nat_Text_b2
      simp only
      rw [if_pos (by rw [Nat.mul_add]; omega), if_neg (by omega), if_neg (fun hh => by have := hQ0.1 hh; omega)]
      rfl

end Go.Proofs.Ytoadagekdnkciaa


namespace Go.Proofs.Ytoadagekdnkciaa
open Go Go.Abs
set_option maxRecDepth 10000

theorem Nm.fr {W : Nat → Prop} {H H' : AH} {s : Sl3} {xs : List Nat} (h : Nm H s xs) (hf : Fr W H H') (hw : ∀ id, blkIs s id → ¬ W id) : Nm H' s xs := ⟨h.ro.fr hf fun a ha => hw _ ⟨a, ha, rfl⟩, h.lt, h.sm⟩

theorem text_loop {b : Nat} (hb : b = 10 ∨ b = 2 ∨ b = 16) {H0 : AH} : ∀ (N : Nat) (H : AH) (a out : Sl3) (cs : List Nat), Nm H a (dig W64 N) → Vec .u8 5 M0 H cs out → cs.length + (dig b N).length ≤ 300000 → M0 ≤ H.next → Ext H0 H → (∀ id, blkIs out id → H0.next ≤ id) →
    ∃ H' a' out', loopO (nat_Text_b0 (b : Int)) (H, a, out) = some (.inl (H', a', out')) ∧ Vec .u8 5 M0 H' (cs ++ (dig b N).map ch) out' ∧ Ext H0 H' ∧ M0 ≤ H'.next ∧ ∀ id, blkIs out' id → H0.next ≤ id := by
  intro N
  induction N using Nat.strongRecOn with
  | _ N ih =>
    intro H a out cs ha hv hl hM hE hB
    by_cases hN : N = 0
    · subst hN
      refine ⟨H, a, out, loopO_brk ?_, by simpa [dig_zero] using hv, hE, hM, hB⟩
      unfold nat_Text_b0
      simp only
      rw [if_neg (by rw [ha.ro.len]; simp [dig_zero])]
    · have hpos : (a.n : Int) > 0 := by
        rw [ha.ro.len]
        have := mt D64_nil.1 hN
        omega
      -- the step, whatever the chunk
      have step : ∀ (B c : Nat), B = b ^ c → 2 ≤ B → B < 18446744073709551616 → c ≤ 32 →
          (∀ (x9 : Sl3) (Q r : Nat) (Ha : AH), x9.n = (dig W64 Q).length → r < b ^ c → Vec .u8 5 M0 Ha cs out → M0 ≤ Ha.next →
            nat_single H a (B : Int) = some (x9, (r : Int), Ha) →
            ∃ H' s', nat_Text_b0 (b : Int) (H, a, out) = some (.next (H', x9, s')) ∧ Vec .u8 5 M0 H' (cs ++ (chunk b c Q r).map ch) s' ∧ Fr (blkIs out) Ha H' ∧ (∀ id, blkIs s' id → blkIs out id ∨ Ha.next ≤ id) ∧ Ha.next ≤ H'.next) →
          ∃ H' a' out', loopO (nat_Text_b0 (b : Int)) (H, a, out) = some (.inl (H', a', out')) ∧ Vec .u8 5 M0 H' (cs ++ (dig b N).map ch) out' ∧ Ext H0 H' ∧ M0 ≤ H'.next ∧ ∀ id, blkIs out' id → H0.next ≤ id := by
        intro B c hBe hB2 hB64 hc hstep
        obtain ⟨x9, Ha, t1, t2, t3, t4⟩ := single_spec ha (d := B) (by omega) hB64 hM
        rw [val_dig two64] at t1 t3
        have hva : Vec .u8 5 M0 Ha cs out := hv.fr t2 fun _ _ h => h
        obtain ⟨H2, s2, u1, u2, u3, u4, u5⟩ := hstep x9 (N / B) (N % B) Ha t3.ro.len (by rw [← hBe]; exact Nat.mod_lt _ (by omega)) hva (Nat.le_trans hM t2.1) t1
        have hlt : N / B < N := Nat.div_lt_self (by omega) hB2
        have hdig : dig b N = chunk b c (N / B) (N % B) ++ dig b (N / B) := by
          rw [← chunk_all (by omega) (by rw [← hBe]; exact Nat.mod_lt _ (by omega)), ← hBe, Nat.mul_comm, Nat.div_add_mod]
        have ha2 : Nm H2 x9 (dig W64 (N / B)) := t3.fr u3 fun id hid hh => by
          have h1 := t4 id hid
          have h2 := hv.low id hh
          omega
        obtain ⟨H', a', out', v1, v2, v3, v4, v5⟩ := ih (N / B) hlt H2 x9 s2 (cs ++ (chunk b c (N / B) (N % B)).map ch) ha2 u2 (by rw [hdig] at hl; simp only [List.length_append, List.length_map] at hl ⊢; omega) (by have := t2.1; omega)
          ((hE.trans t2).comp u3 fun id hid _ hh => by have := hB id hh; omega) (fun id hid => by
            rcases u4 id hid with h | h
            · exact hB id h
            · have := hE.1; have := t2.1; omega)
        refine ⟨H', a', out', by rw [loopO_next u1]; exact v1, ?_, v3, v4, v5⟩
        rw [hdig, List.map_append, ← List.append_assoc]
        exact v2
      rcases hb with rfl | hb
      · refine step 10000000000000000000 19 (by decide) (by omega) (by omega) (by omega) fun x9 Q r Ha hx hr hva hMa hs => ?_
        obtain ⟨H', s', r', k', l1, l2, l3, l4, l5⟩ := text10 (a1 := ((10 : Nat) : Int)) hx (Ha := Ha) (sa := out) 19 r Ha out cs (by omega) hr hva (by omega) hMa (Fr.refl _ _) (fun id h => .inl h)
        refine ⟨H', s', ?_, l2, l3, l4, l5⟩
        unfold nat_Text_b0
        simp only
        rw [if_pos hpos, if_pos (by omega)]
        rw [show nat_single H a 10000000000000000000 = some (x9, (r : Int), Ha) from hs]
        simp only [Option.bind_some]
        rw [show loopO (nat_Text_b1 ((10 : Nat) : Int) x9) (Ha, out, (r : Int), 0) = _ from l1]
        simp only [Option.bind_some]
      · obtain ⟨w, c, hbw, hwc, hpw⟩ : ∃ w c : Nat, ((b = 2 ∧ w = 1) ∨ (b = 16 ∧ w = 4)) ∧ w * c = 32 ∧ 4294967296 = b ^ c := by
          rcases hb with rfl | rfl
          · exact ⟨1, 32, .inl ⟨rfl, rfl⟩, rfl, by decide⟩
          · exact ⟨4, 8, .inr ⟨rfl, rfl⟩, rfl, by decide⟩
        have hc32 : c ≤ 32 := by
          rcases hbw with ⟨_, rfl⟩ | ⟨_, rfl⟩ <;> omega
        refine step 4294967296 c hpw (by omega) (by omega) hc32 fun x9 Q r Ha hx hr hva hMa hs => ?_
        obtain ⟨H', s', r', k', l1, l2, l3, l4, l5⟩ := text2 hbw hx (Ha := Ha) (sa := out) c r Ha out cs (by omega) hr hva (by omega) hMa (Fr.refl _ _) (fun id h => .inl h)
        refine ⟨H', s', ?_, l2, l3, l4, l5⟩
        unfold nat_Text_b0
        simp only
        rw [if_pos hpos, if_neg (by omega)]
        rw [show nat_single H a 4294967296 = some (x9, (r : Int), Ha) from hs]
        simp only [Option.bind_some]
        rw [hwc] at l1
        rw [show loopO (nat_Text_b2 (b : Int) x9) (Ha, out, (r : Int), 0) = _ from l1]
        simp only [Option.bind_some]

/-- A number's text. -/
def txt (b N : Nat) : ByteArray := bytesOf (if N = 0 then [48] else ((dig b N).map ch).reverse)

/-- What Text answers. -/
noncomputable def textAns (v : Int) (N : Nat) : ByteArray × Int :=
  if v = 2 ∨ v = 10 ∨ v = 16 then (if TOP ≤ N then (⟨#[]⟩, 5) else (txt v.toNat N, 0)) else (⟨#[]⟩, 12)

theorem Text_spec {H : AH} {a : Sl3} {xs : List Nat} (ha : Nm H a xs) (v : Int) (hM : M0 ≤ H.next) : ∃ H', nat_Text H a v = some ((textAns v (val W64 xs)).1, (textAns v (val W64 xs)).2, H') ∧ Ext H H' := by
  unfold nat_Text textAns
  by_cases hv : v = 2 ∨ v = 10 ∨ v = 16
  · have hcond : (if v = 2 then some (.inl ()) else if v = 10 then some (.inl ()) else if v = 16 then some (.inl ()) else ((some ((⟨#[]⟩ : ByteArray), (12 : Int), H)).map .inr) : Option (Unit ⊕ (ByteArray × Int × AH))) = some (.inl ()) := by
      rcases hv with h | h | h
      · rw [if_pos h]
      · rw [if_neg (by omega), if_pos h]
      · rw [if_neg (by omega), if_neg (by omega), if_pos h]
    rw [hcond]
    simp only [Option.bind_some]
    rw [if_pos hv]
    obtain ⟨z, H2, n1, n2, n3, n4⟩ := LNm.one ha
    rw [n1]
    simp only [Option.bind_some]
    rw [long_spec n2 (by simp)]
    simp only [Option.bind_some, List.any_cons, List.any_nil, Bool.or_false, decide_eq_true_eq]
    by_cases hT : TOP ≤ val W64 xs
    · rw [if_pos hT, if_pos hT]
      exact ⟨H2, rfl, n3⟩
    · rw [if_neg hT, if_neg hT]
      obtain ⟨x4, H5, o1, o2, o3, o4, o5⟩ := own_spec (ha.ext n3) (by omega)
      rw [o1]
      simp only [Option.bind_some]
      obtain ⟨b, hb, rfl⟩ : ∃ b : Nat, (b = 10 ∨ b = 2 ∨ b = 16) ∧ v = (b : Int) := ⟨v.toNat, by omega, by omega⟩
      have hlen : (dig b (val W64 xs)).length ≤ 262144 := by
        have h1 := dig_len_le (b := b) (by omega) (val W64 xs)
        have h2 : (dig W64 (val W64 xs)).length ≤ 4096 := D64_top.2 (by omega)
        have h3 : (dig 18446744073709551616 (val W64 xs)).length ≤ 4096 := h2
        omega
      obtain ⟨H', a', out', l1, l2, l3, l4, l5⟩ := text_loop hb (H0 := H) (val W64 xs) H5 x4 Sl3.nil [] o3 (.nil rfl) (by simp only [List.length_nil]; omega) (by have := o2.1; omega) (n3.trans o2) (fun id ⟨_, h, _⟩ => by cases h)
      rw [l1]
      simp only [Option.bind_some]
      rw [List.nil_append] at l2
      have hro := l2.ro (by simp only [List.length_map]; unfold OPEN; omega)
      have hn := hro.len
      rw [List.length_map] at hn
      by_cases h0 : val W64 xs = 0
      · rw [if_pos (by rw [hn, h0]; rfl)]
        refine ⟨H', ?_, l3⟩
        rw [h0]
        rfl
      · have hne : (dig b (val W64 xs)).length ≠ 0 := fun h => h0 ((dig_nil_iff (by omega)).1 (List.length_eq_zero_iff.1 h))
        rw [if_neg (by omega)]
        obtain ⟨H45, r1, r2, r3⟩ := Reverse_spec l2 (by simp only [List.length_map]; omega)
        rw [r1]
        simp only [Option.bind_some]
        rw [bts_ro (r2.ro (by simp only [List.length_reverse, List.length_map]; unfold OPEN; omega))]
        simp only [Option.bind_some]
        refine ⟨H45, ?_, l3.comp r3 fun id hid _ hh => ?_⟩
        · unfold txt
          rw [if_neg h0, Int.toNat_natCast]
        · have := l5 id hh; omega
  · have hcond : (if v = 2 then some (.inl ()) else if v = 10 then some (.inl ()) else if v = 16 then some (.inl ()) else ((some ((⟨#[]⟩ : ByteArray), (12 : Int), H)).map .inr) : Option (Unit ⊕ (ByteArray × Int × AH))) = some (.inr ((⟨#[]⟩ : ByteArray), (12 : Int), H)) := by
      rw [if_neg (by omega), if_neg (by omega), if_neg (by omega)]
      rfl
    rw [hcond]
    simp only [Option.bind_some]
    rw [if_neg hv]
    exact ⟨H, rfl, Fr.refl _ _⟩

end Go.Proofs.Ytoadagekdnkciaa


namespace Go.Proofs.Ytoadagekdnkciaa
open Go Go.Abs
set_option maxRecDepth 10000

theorem Of_spec {H : AH} {n : Nat} (hn : n < 18446744073709551616) (hM : M0 ≤ H.next) : ∃ s' H', nat_Of H (n : Int) = some (s', H') ∧ Ext H H' ∧ Nm H' s' (dig W64 n) := by
  obtain ⟨z, H2, n1, n2, n3, n4, n5⟩ := newR_ro (k := .u64) (e := 38) (H := H) (ys := [n]) (by simp [OPEN])
  have n1' : newR 38 1 #[Value.int .u64 (n : Int)] H = some (z, H2) := n1
  have hz : Nm H2 z [n] := ⟨n2, fun x hx => by rw [List.mem_singleton.1 hx]; exact hn, by simp⟩
  obtain ⟨s', H', o1, o2, o3, _, _⟩ := own_spec hz (by omega)
  unfold nat_Of
  rw [n1']
  simp only [Option.bind_some]
  rw [o1]
  simp only [Option.bind_some]
  have e : val W64 [n] = n := by simp [val]
  rw [e] at o3
  exact ⟨s', H', rfl, n3.trans o2, o3⟩

theorem alive_txt : txt 16 36893488147419103230 = ⟨#[49, 102, 102, 102, 102, 102, 102, 102, 102, 102, 102, 102, 102, 102, 102, 102, 101]⟩ := by kernel_rfl
theorem dig_max : dig W64 18446744073709551615 = [18446744073709551615] := by kernel_rfl
theorem dig_two : dig W64 2 = [2] := by kernel_rfl
theorem dig_prod : dig W64 36893488147419103230 = [18446744073709551614, 1] := by kernel_rfl

theorem alive_spec {H : AH} (hM : M0 ≤ H.next) : ∃ H', law01_alive H = some (true, H') ∧ Ext H H' := by
  obtain ⟨x1, H2, a1, a2, a3⟩ := Of_spec (H := H) (n := 18446744073709551615) (by omega) hM
  have hM2 : M0 ≤ H2.next := Nat.le_trans hM a2.1
  obtain ⟨x3, H4, b1, b2, b3⟩ := Of_spec (H := H2) (n := 2) (by omega) hM2
  have hM4 : M0 ≤ H4.next := Nat.le_trans hM2 b2.1
  obtain ⟨s5, H6, c1, c2, c3, c4⟩ := LNm.two (a3.ext b2) b3
  obtain ⟨x7, H9, d1, d2, d3⟩ := Mul_spec c2 (by simp) (by rw [dig_max, dig_two]; simp) (by omega)
  have htop : ∀ n : Nat, (dig W64 n).length ≤ 4096 → ¬ TOP ≤ n := fun n h => by have := D64_top.1 h; omega
  have hmul : mulAns ([dig W64 18446744073709551615, dig W64 2].map (val W64)) = (dig W64 36893488147419103230, 0) := by
    rw [dig_max, dig_two]
    have e : [[18446744073709551615], [2]].map (val W64) = [18446744073709551615, 2] := rfl
    rw [e]
    unfold mulAns
    rw [if_neg, if_neg, if_neg]
    · rfl
    · exact htop 36893488147419103230 (by rw [dig_prod]; simp)
    · rintro ⟨N, hN, h0⟩
      subst h0
      simp at hN
    · rintro ⟨N, hN, h0⟩
      rw [List.mem_cons, List.mem_singleton] at hN
      rcases hN with rfl | rfl
      · exact htop _ (by rw [dig_max]; simp) h0
      · exact htop _ (by rw [dig_two]; simp) h0
  rw [hmul] at d1 d3
  have hM9 : M0 ≤ H9.next := by have := d2.1; omega
  obtain ⟨H12, e1, e2⟩ := Text_spec d3 16 hM9
  rw [val_dig two64] at e1
  have htx : textAns 16 36893488147419103230 = (txt 16 36893488147419103230, 0) := by
    unfold textAns
    rw [if_pos (by omega), if_neg (htop 36893488147419103230 (by rw [dig_prod]; simp))]
    rfl
  rw [htx, alive_txt] at e1
  refine ⟨H12, ?_, (a2.trans b2).trans ((c3.trans d2).trans e2)⟩
  unfold law01_alive
  rw [show nat_Of H 18446744073709551615 = some (x1, H2) from a1]
  simp only [Option.bind_some]
  rw [show nat_Of H2 2 = some (x3, H4) from b1]
  simp only [Option.bind_some]
  rw [c1]
  simp only [Option.bind_some]
  rw [d1]
  simp only [Option.bind_some]
  rw [e1]
  simp only [Option.bind_some]
  rw [if_pos (by rfl), if_pos trivial]
  rw [beq_self_eq_true]

end Go.Proofs.Ytoadagekdnkciaa


namespace Go.Proofs.Ytoadagekdnkciaa
open Go Go.Abs
set_option maxRecDepth 10000

/-- A number as halves. -/
structure Nh (H : AH) (s : Sl3) (xs : List Nat) : Prop where
  ro : Ro .u32 H s xs
  lt : ∀ x ∈ xs, x < W16
  sm : xs.length ≤ 4398046511104

theorem Nh.ext {H H' : AH} {s : Sl3} {xs : List Nat} (h : Nh H s xs) (hf : Ext H H') : Nh H' s xs := ⟨h.ro.ext hf, h.lt, h.sm⟩

theorem dig16_len {xs : List Nat} (h : ∀ x ∈ xs, x < W16) : (dig W16 (val W16 xs)).length ≤ xs.length := (dig_len two16 _ _).2 (val_lt two16 xs h)

theorem trimH_spec {H : AH} {s : Sl3} {xs : List Nat} (h : Nh H s xs) : ∃ s', ref01_trim H s = some s' ∧ Nh H s' (dig W16 (val W16 xs)) ∧ s'.p = s.p := by
  have hsm := h.sm
  have hloop : ∀ (n : Nat) (t : Sl3), n ≤ xs.length → Ro .u32 H t (xs.take n) → t.p = s.p → (∀ (i : Nat) (hi : i < xs.length), n ≤ i → xs[i] = 0) →
      ∃ (m : Nat) (t' : Sl3), loopO (ref01_trim_b0 H) t = some (.inl t') ∧ m ≤ xs.length ∧ Ro .u32 H t' (xs.take m) ∧ t'.p = s.p ∧ (∀ (i : Nat) (hi : i < xs.length), m ≤ i → xs[i] = 0) ∧ (∀ (hm : 0 < m) (hl : m - 1 < xs.length), xs[m - 1] ≠ 0) := by
    intro n
    induction n with
    | zero =>
      intro t _ ht hp hz
      refine ⟨0, t, loopO_brk ?_, Nat.zero_le _, ht, hp, hz, fun hm => by omega⟩
      unfold ref01_trim_b0
      rw [if_neg (by rw [ht.len]; simp)]
    | succ n ih =>
      intro t hn ht hp hz
      have htn : t.n = n + 1 := by rw [ht.len, List.length_take]; omega
      have hw : IntKind.i64.wrap ((t.n : Int) - 1) = n := by
        rw [htn, show (((n + 1 : Nat) : Int) - 1) = n by omega]; exact wrap_nat rfl (by omega)
      have hln : n < (xs.take (n + 1)).length := by rw [List.length_take]; omega
      obtain ⟨p, g1, g2, _⟩ := ht.get (i := n) hln (v := (n : Int)) rfl
      rw [List.getElem_take] at g2
      by_cases h0 : xs[n] = 0
      · obtain ⟨t2, c1, c2, c3⟩ := slc_head ht (n := n) (by omega) (v := (n : Int)) rfl
        rw [List.take_take, Nat.min_eq_left (by omega)] at c2
        obtain ⟨m, t', h1, h2⟩ := ih t2 (by omega) c2 (c3.trans hp) fun i hi hni => by
          rcases Nat.lt_or_ge n i with hlt | hge
          · exact hz i hi (by omega)
          · have : i = n := by omega
            subst this; exact h0
        refine ⟨m, t', ?_, h2⟩
        rw [loopO_next (s' := t2), h1]
        unfold ref01_trim_b0
        rw [if_pos (by omega), hw, g1]
        simp only [Option.bind_some]
        rw [g2]
        simp only [Option.bind_some, h0]
        rw [if_pos (show ((0 : Nat) : Int) = 0 from rfl), c1]
        simp only [Option.bind_some]
      · refine ⟨n + 1, t, loopO_brk ?_, hn, ht, hp, hz, fun _ _ => by simpa using h0⟩
        unfold ref01_trim_b0
        rw [if_pos (by omega), hw, g1]
        simp only [Option.bind_some]
        rw [g2]
        simp only [Option.bind_some]
        rw [if_neg (by omega)]
  obtain ⟨m, t', h1, h2, h3, h4, h5, h6⟩ := hloop xs.length s (Nat.le_refl _) (by rw [List.take_length]; exact h.ro) rfl fun i hi hni => by omega
  have e : xs.take m = dig W16 (val W16 xs) := take_dig two16 h.lt h2 (fun i hi hm => h5 i hi hm) fun hm => h6 hm (by omega)
  refine ⟨t', ?_, ⟨by rw [← e]; exact h3, dig_lt two16 _, Nat.le_trans (dig16_len h.lt) hsm⟩, h4⟩
  unfold ref01_trim
  rw [h1]
  simp only [Option.bind_some]

theorem iand16 (x : Nat) (hx : x < 4294967296) : iand .u32 (x : Int) 65535 = ((x % 65536 : Nat) : Int) := iand_u32 (n := 16) rfl hx rfl (by omega)

/-- One limb's halves appended. -/
theorem From_inner {a0 : Sl3} {xs : List Nat} {H0 : AH} (ha : Nm H0 a0 xs) {i : Nat} (hi : i < xs.length) {H : AH} {s : Sl3} {hs : List Nat} (hv : Vec .u32 65 M0 H hs s) (hl : hs.length + 4 ≤ 4398046511104) (hM : M0 ≤ H.next) (hE : Ext H0 H) (hB : ∀ id, blkIs s id → H0.next ≤ id) :
    ∃ H' s', loopO (ref01_From_b1 a0 (i : Int)) (H, s, 0) = some (.inl (H', s', 4)) ∧ Vec .u32 65 M0 H' (hs ++ hv4 xs[i]) s' ∧ Ext H0 H' ∧ (∀ id, blkIs s' id → H0.next ≤ id) ∧ M0 ≤ H'.next := by
  have hx : xs[i] < 18446744073709551616 := ha.lt _ (List.getElem_mem hi)
  obtain ⟨t, h1, h2⟩ := loopO_to (body := ref01_From_b1 a0 (i : Int)) 4
    (fun k (t : AH × Sl3 × Int) => t.2.2 = (k : Int) ∧ Vec .u32 65 M0 t.1 (hs ++ (hv4 xs[i]).take k) t.2.1 ∧ Ext H0 t.1 ∧ (∀ id, blkIs t.2.1 id → H0.next ≤ id) ∧ M0 ≤ t.1.next)
    (Q := fun t => t.2.2 = 4 ∧ Vec .u32 65 M0 t.1 (hs ++ hv4 xs[i]) t.2.1 ∧ Ext H0 t.1 ∧ (∀ id, blkIs t.2.1 id → H0.next ≤ id) ∧ M0 ≤ t.1.next)
    (fun k hk t ht => by
      obtain ⟨H4, s4, v⟩ := t
      obtain ⟨rfl, hv4', hE4, hB4, hM4⟩ := ht
      simp only at hv4' hE4 hB4 hM4
      obtain ⟨p7, g1, g2, _⟩ := (ha.ext hE4).ro.get hi rfl
      have hw : IntKind.u64.wrap (16 * IntKind.u64.wrap (k : Int)) = ((16 * k : Nat) : Int) := by
        rw [wrap_u64n (x := (k : Int)) rfl (by omega), wrap_u64n (n := 16 * k) (by omega) (by omega)]
      have hkl : k < (hv4 xs[i]).length := by simp [hv4]; omega
      have hval : iand .u32 (IntKind.u32.wrap (ishr .u64 ((xs[i] : Nat) : Int) ((16 * k : Nat) : Int))) 65535 = (((hv4 xs[i])[k] : Nat) : Int) := by
        rw [ishr_nat (k := .u64) (x := xs[i]) (n := 16 * k) rfl rfl (by show 16 * k ≤ 64; omega), wrap_u32m, iand16 _ (Nat.mod_lt _ (by omega))]
        congr 1
        match k, hk with
        | 0, _ => simp [hv4]
        | 1, _ => simp [hv4]
        | 2, _ => simp [hv4]
        | 3, _ => simp [hv4]
      obtain ⟨z, H1, s', H', n1, n2, n3, n4, n5⟩ := hv4'.push (bytes := 4) ((hv4 xs[i])[k]) hval (by simp only [List.length_append, List.length_take]; omega) (by simp only [List.length_append, List.length_take]; omega) hM4
      refine ⟨(H', s', ((k + 1 : Nat) : Int)), ?_, rfl, ?_, hE4.comp n4 (fun id hid _ hh => by have := hB4 id hh; omega), fun id hid => ?_, Nat.le_trans hM4 n4.1⟩
      · unfold ref01_From_b1
        simp only
        rw [if_pos (by omega), g1]
        simp only [Option.bind_some]
        rw [g2]
        simp only [Option.bind_some]
        rw [hw, if_neg (by omega), n1]
        simp only [Option.bind_some]
        rw [n2]
        simp only [Option.bind_some]
        rw [wrap_next rfl (by omega)]
      · simp only
        rw [List.take_succ_eq_append_getElem hkl, ← List.append_assoc]
        exact n3
      · rcases n5 id hid with h | h
        · exact hB4 id h
        · have := hE4.1; omega)
    (fun t ht => by
      obtain ⟨H4, s4, v⟩ := t
      obtain ⟨rfl, hv4', hE4, hB4, hM4⟩ := ht
      refine ⟨(H4, s4, 4), ?_, rfl, by simpa [hv4] using hv4', hE4, hB4, hM4⟩
      unfold ref01_From_b1
      simp only
      rw [if_neg (by omega)]
      rfl)
    (s := (H, s, 0)) ⟨rfl, by simpa using hv, hE, hB, hM⟩
  obtain ⟨H', s', v⟩ := t
  obtain ⟨rfl, q⟩ := h2
  exact ⟨H', s', h1, q⟩

theorem From_spec {H : AH} {a : Sl3} {xs : List Nat} (ha : Nm H a xs) (hM : M0 ≤ H.next) : ∃ s' H', ref01_From H a = some (s', H') ∧ Ext H H' ∧ Nh H' s' (dig W16 (val W64 xs)) := by
  have hsm := ha.sm
  obtain ⟨t, h1, h2⟩ := loopO_to (body := ref01_From_b0 a) xs.length
    (fun i (t : AH × Sl3 × Int) => t.2.2 = (i : Int) ∧ Vec .u32 65 M0 t.1 (halves (xs.take i)) t.2.1 ∧ Ext H t.1 ∧ (∀ id, blkIs t.2.1 id → H.next ≤ id) ∧ M0 ≤ t.1.next)
    (Q := fun t => Vec .u32 65 M0 t.1 (halves xs) t.2.1 ∧ Ext H t.1)
    (fun i hi t ht => by
      obtain ⟨H1, s1, v⟩ := t
      obtain ⟨rfl, hv, hE, hB, hM1⟩ := ht
      simp only at hv hE hB hM1
      obtain ⟨H', s', l1, l2, l3, l4, l5⟩ := From_inner ha hi hv (by rw [halves_len, List.length_take]; omega) hM1 hE hB
      refine ⟨(H', s', ((i + 1 : Nat) : Int)), ?_, rfl, ?_, l3, l4, l5⟩
      · unfold ref01_From_b0
        simp only
        rw [if_pos (by rw [ha.ro.len]; omega), l1]
        simp only [Option.bind_some]
        rw [wrap_next rfl (by omega)]
      · simp only
        rw [List.take_succ_eq_append_getElem hi, halves_app]
        exact l2)
    (fun t ht => by
      obtain ⟨H1, s1, v⟩ := t
      obtain ⟨rfl, hv, hE, hB, hM1⟩ := ht
      refine ⟨(H1, s1, (xs.length : Int)), ?_, by rw [List.take_length] at hv; exact hv, hE⟩
      unfold ref01_From_b0
      simp only
      rw [if_neg (by rw [ha.ro.len]; omega)])
    (s := (H, Sl3.nil, 0)) ⟨rfl, .nil rfl, Fr.refl _ _, (fun id ⟨_, h, _⟩ => by cases h), hM⟩
  obtain ⟨H', s', v⟩ := t
  obtain ⟨hv, hE⟩ := h2
  simp only at hv hE
  have hnh : Nh H' s' (halves xs) := ⟨hv.ro (by rw [halves_len]; unfold OPEN; omega), halves_lt xs, by rw [halves_len]; omega⟩
  obtain ⟨s2, t1, t2, _⟩ := trimH_spec hnh
  rw [val_halves xs ha.lt] at t2
  refine ⟨s2, H', ?_, hE, t2⟩
  unfold ref01_From
  rw [h1]
  simp only [Option.bind_some]
  rw [t1]
  simp only [Option.bind_some]

theorem pow16 (m : Nat) : W16 ^ (4 * m) = W64 ^ m := by rw [Nat.pow_mul, show W16 ^ 4 = W64 by decide]

theorem dig16_iff (m n : Nat) : (dig W16 n).length ≤ 4 * m ↔ (dig W64 n).length ≤ m := by rw [dig_len two16, dig_len two64, pow16]

theorem dig16_top {n : Nat} : (dig W16 n).length ≤ 16384 ↔ n < TOP := (dig16_iff 4096 n).trans D64_top

theorem Long_spec {H : AH} {s : Sl3} {N : Nat} (h : Nh H s (dig W16 N)) : ref01_Long s = some (decide (TOP ≤ N)) := by
  unfold ref01_Long
  rw [h.ro.len]
  congr 1
  rw [decide_eq_decide]
  have := dig16_top (n := N)
  omega

theorem longR_spec {H : AH} {s : Sl3} {xss : List (List Nat)} (h : LNm H s xss) (hl : xss.length ≤ 1099511627776) (hM : M0 ≤ H.next) : ∃ H', ref01_long H s = some (xss.any fun xs => decide (TOP ≤ val W64 xs), H') ∧ Ext H H' := by
  obtain ⟨o, h1, h2⟩ := loopO_count (body := ref01_long_b0 s) xss.length (fun i (t : AH × Int) => t.2 = (i : Int) ∧ Ext H t.1 ∧ ∀ (j : Nat) (hj : j < xss.length), j < i → ¬ TOP ≤ val W64 xss[j])
    (fun o => match o with | .inl t => Ext H t.1 ∧ ∀ (j : Nat) (hj : j < xss.length), ¬ TOP ≤ val W64 xss[j] | .inr r => r.1 = true ∧ Ext H r.2 ∧ ∃ (j : Nat) (hj : j < xss.length), TOP ≤ val W64 xss[j])
    (fun i hi t ht => by
      obtain ⟨H1, v⟩ := t
      obtain ⟨rfl, hE, hno⟩ := ht
      simp only at hE
      obtain ⟨p, x, g1, g2, g3⟩ := (h.ext hE).get hi rfl
      obtain ⟨x5, H6, t1, t2, t3⟩ := From_spec g3 (Nat.le_trans hM hE.1)
      have hb : ref01_long_b0 s (H1, (i : Int)) = if TOP ≤ val W64 xss[i] then some (.ret (true, H6)) else some (.next (H6, ((i + 1 : Nat) : Int))) := by
        unfold ref01_long_b0
        simp only
        rw [if_pos (by rw [h.len]; omega), g1]
        simp only [Option.bind_some]
        rw [g2]
        simp only [Option.bind_some]
        rw [t1]
        simp only [Option.bind_some]
        rw [Long_spec t3]
        simp only [Option.bind_some, decide_eq_true_eq]
        rw [wrap_next rfl (by omega)]
      rw [hb]
      by_cases hlong : TOP ≤ val W64 xss[i]
      · right
        exact ⟨_, by rw [if_pos hlong], rfl, hE.trans t2, i, hi, hlong⟩
      · left
        refine ⟨_, by rw [if_neg hlong], rfl, hE.trans t2, fun j hj hji => ?_⟩
        by_cases e : j = i
        · subst e; exact hlong
        · exact hno j hj (by omega))
    (fun t ht => by
      obtain ⟨H1, v⟩ := t
      obtain ⟨rfl, hE, hno⟩ := ht
      refine ⟨(H1, (xss.length : Int)), ?_, hE, fun j hj => hno j hj hj⟩
      unfold ref01_long_b0
      simp only
      rw [if_neg (by rw [h.len]; omega)])
    (s := (H, (0 : Int))) ⟨rfl, Fr.refl _ _, fun j _ hj => by omega⟩
  unfold ref01_long
  rw [h1]
  simp only [Option.bind_some]
  cases o with
  | inl t =>
    obtain ⟨H1, v⟩ := t
    obtain ⟨hE, h2⟩ := h2
    simp only at hE ⊢
    refine ⟨H1, ?_, hE⟩
    congr 2
    symm
    rw [List.any_eq_false]
    intro xs hx
    obtain ⟨j, hj, rfl⟩ := List.getElem_of_mem hx
    simpa using h2 j hj
  | inr r =>
    obtain ⟨b, H1⟩ := r
    obtain ⟨rfl, hE, j, hj, h3⟩ := h2
    simp only at hE ⊢
    refine ⟨H1, ?_, hE⟩
    congr 2
    symm
    rw [List.any_eq_true]
    exact ⟨xss[j], List.getElem_mem hj, by simpa using h3⟩

end Go.Proofs.Ytoadagekdnkciaa


namespace Go.Proofs.Ytoadagekdnkciaa
open Go Go.Abs
set_option maxRecDepth 10000

theorem ishl32 {x s : Nat} (hx : x * 2 ^ s < 4294967296) (hs : s ≤ 32) : ishl .u32 (x : Int) (s : Int) = ((x * 2 ^ s : Nat) : Int) := by
  unfold ishl
  rw [Int.toNat_natCast, show min s IntKind.u32.bits = s from Nat.min_eq_left hs]
  exact wrap_u32n (by simp) hx

end Go.Proofs.Ytoadagekdnkciaa


namespace Go.Proofs.Ytoadagekdnkciaa
open Go Go.Abs
set_option maxRecDepth 10000

/-- A list is the same ls itself. -/
theorem Same_self {H : AH} {a b : Sl3} {xs : List Nat} (ha : Nm H a xs) (hb : Nm H b xs) : ref01_Same H a b = some true := by
  have hsm := ha.sm
  obtain ⟨t, h1, _⟩ := loopO_to (body := ref01_Same_b0 H a b) xs.length (fun i (v : Int) => v = (i : Int)) (Q := fun _ => True)
    (fun i hi v hv => by
      subst hv
      obtain ⟨p, g1, g2, g3⟩ := ha.ro.get hi rfl
      obtain ⟨p', g1', g2', g3'⟩ := hb.ro.get hi rfl
      refine ⟨((i + 1 : Nat) : Int), ?_, rfl⟩
      unfold ref01_Same_b0
      rw [if_pos (by rw [ha.ro.len]; omega), if_pos ha.ro.belowS, g1]
      simp only [Option.bind_some]
      rw [if_pos (show below H p = true from g3 _ (Nat.le_refl _)), g2]
      simp only [Option.bind_some]
      rw [if_pos hb.ro.belowS, g1']
      simp only [Option.bind_some]
      rw [if_pos (show below H p' = true from g3' _ (Nat.le_refl _)), g2']
      simp only [Option.bind_some]
      rw [if_pos trivial, wrap_nat (n := i + 1) (by omega) (by omega)])
    (fun v hv => by
      subst hv
      refine ⟨(xs.length : Int), ?_, trivial⟩
      unfold ref01_Same_b0
      rw [if_neg (by rw [ha.ro.len]; omega)]) (s := 0) rfl
  unfold ref01_Same
  rw [if_pos (by rw [ha.ro.len, hb.ro.len]), h1]
  simp only [Option.bind_some]

/-- Limbs put together out of halves. -/
theorem To_spec' {H : AH} {a : Sl3} {hs : List Nat} (ha : Nh H a hs) (hM : M0 ≤ H.next) : ∃ s' H', ref01_To H a = some (s', H') ∧ Ext H H' ∧ Nm H' s' (dig W64 (val W16 hs)) ∧ ∀ id, blkIs s' id → H.next ≤ id := by
  obtain ⟨t, t1, t2, _⟩ := trimH_spec ha
  generalize hN : val W16 hs = N at *
  have hsm := t2.sm
  have hval : val W16 (dig W16 N) = N := val_dig two16 N
  generalize hgs : dig W16 N = gs at *
  obtain ⟨s', h1, h2⟩ := loopO_to (body := ref01_To_b0 t) gs.length
    (fun i (s : AH × Sl3 × Int) => s.2.2 = (i : Int) ∧ ∃ ls : List Nat, Vec .u64 38 M0 s.1 ls s.2.1 ∧ Ext H s.1 ∧ (∀ id, blkIs s.2.1 id → H.next ≤ id) ∧ M0 ≤ s.1.next ∧ ls.length = (i + 3) / 4 ∧ (∀ x ∈ ls, x < W64) ∧
      val W64 ls = val W16 (gs.take i) ∧ ∀ (h : i / 4 < ls.length), ls[i / 4] < 2 ^ (16 * (i % 4)))
    (Q := fun s => ∃ ls : List Nat, Vec .u64 38 M0 s.1 ls s.2.1 ∧ Ext H s.1 ∧ ls.length = (gs.length + 3) / 4 ∧ (∀ x ∈ ls, x < W64) ∧ val W64 ls = val W16 gs ∧ ∀ id, blkIs s.2.1 id → H.next ≤ id)
    (fun i hi s hs => by
      obtain ⟨H2, s1, v⟩ := s
      obtain ⟨rfl, ls, hv, hE, hB, hM1, hlen, hlt, hvl, htop⟩ := hs
      simp only at hv hE hB hM1
      have hgi : gs[i] < 65536 := t2.lt _ (List.getElem_mem hi)
      -- the list, a 0 behind it where a limb begins
      have hpush : ∃ (H5 : AH) (s5 : Sl3) (ls5 : List Nat), (if Int.tmod (i : Int) 4 = 0 then
            Option.bind (newR 38 1 #[(Value.int .u64 0)] H2) fun (s7, H8) => Option.bind (appS 4294967296 38 1 8 H8 s1 s7) fun (s9, H10) => some (H10, s9)
          else some (H2, s1)) = some (H5, s5) ∧ Vec .u64 38 M0 H5 ls5 s5 ∧ Ext H H5 ∧ (∀ id, blkIs s5 id → H.next ≤ id) ∧ M0 ≤ H5.next ∧ ls5.length = i / 4 + 1 ∧ (∀ x ∈ ls5, x < W64) ∧ val W64 ls5 = val W16 (gs.take i) ∧
          ∀ (h : i / 4 < ls5.length), ls5[i / 4] < 2 ^ (16 * (i % 4)) := by
        have hm4 : Int.tmod (i : Int) 4 = ((i % 4 : Nat) : Int) := (Int.ofNat_tmod i 4).symm
        by_cases h4 : i % 4 = 0
        · rw [hm4, if_pos (by omega)]
          obtain ⟨z, H8, s9, H10, p1, p2, p3, p4, p5⟩ := hv.push (bytes := 8) 0 (v := 0) rfl (by omega) (by omega) hM1
          refine ⟨H10, s9, ls ++ [0], ?_, p3, hE.comp p4 (fun id hid _ hh => by have := hB id hh; omega), fun id hh => ?_, Nat.le_trans hM1 p4.1, by simp; omega, ?_, ?_, ?_⟩
          · rw [p1]
            simp only [Option.bind_some]
            rw [show appS 4294967296 38 1 8 H8 s1 z = some (s9, H10) from p2]
            simp only [Option.bind_some]
          · rcases p5 id hh with h | h
            · exact hB id h
            · exact Nat.le_trans hE.1 h
          · intro x hx
            rcases List.mem_append.1 hx with h | h
            · exact hlt x h
            · simp only [List.mem_singleton] at h; subst h; decide
          · rw [val_append, hvl]; simp [val]
          · intro h
            have e : i / 4 = ls.length := by omega
            simp only [e]
            rw [List.getElem_append_right (Nat.le_refl _)]
            simp only [Nat.sub_self, List.getElem_cons_zero]
            exact Nat.pow_pos (by omega)
        · rw [hm4, if_neg (by omega)]
          exact ⟨H2, s1, ls, rfl, hv, hE, hB, hM1, by omega, hlt, hvl, htop⟩
      obtain ⟨H5, s5, ls5, q1, q2, q3, q4, q5, q6, q7, q8, q9⟩ := hpush
      have hi4 : i / 4 < ls5.length := by omega
      have q9 := q9 hi4
      have hro := q2.ro (by have : OPEN = 9223372036854775808 := rfl; omega)
      have hdiv : IntKind.i64.wrap (Int.tdiv (i : Int) 4) = ((i / 4 : Nat) : Int) := by
        rw [show Int.tdiv (i : Int) 4 = ((i / 4 : Nat) : Int) from (Int.ofNat_tdiv i 4).symm]
        exact wrap_nat rfl (by omega)
      have hmod : IntKind.u64.wrap (16 * IntKind.u64.wrap (Int.tmod (i : Int) 4)) = ((16 * (i % 4) : Nat) : Int) := by
        rw [show Int.tmod (i : Int) 4 = ((i % 4 : Nat) : Int) from (Int.ofNat_tmod i 4).symm, wrap_u64n (n := i % 4) rfl (by omega)]
        exact wrap_u64n (by omega) (by omega)
      obtain ⟨p11, g1, g2, g3⟩ := hro.get hi4 (v := ((i / 4 : Nat) : Int)) rfl
      obtain ⟨p13, g1', g2', g3'⟩ := (t2.ext q3).ro.get hi (v := (i : Int)) rfl
      have hpw : 2 ^ (16 * (i % 4)) ≤ 281474976710656 := by
        have : 2 ^ (16 * (i % 4)) ≤ 2 ^ 48 := Nat.pow_le_pow_right (by omega) (by omega)
        simpa using this
      have hbig : gs[i] * 2 ^ (16 * (i % 4)) + 2 ^ (16 * (i % 4)) ≤ 18446744073709551616 := by
        have := Nat.mul_le_mul (show gs[i] + 1 ≤ 65536 by omega) hpw
        rw [Nat.add_mul] at this
        omega
      have hpos : 0 < 2 ^ (16 * (i % 4)) := Nat.pow_pos (by omega)
      have hor : ior .u64 ((ls5[i / 4] : Nat) : Int) (ishl .u64 (IntKind.u64.wrap ((gs[i] : Nat) : Int)) ((16 * (i % 4) : Nat) : Int)) = ((ls5[i / 4] + gs[i] * 2 ^ (16 * (i % 4)) : Nat) : Int) := by
        rw [wrap_u64n (n := gs[i]) rfl (by omega), ishl_nat rfl rfl (by omega), Nat.mod_eq_of_lt (by omega)]
        have := ior_nat (x := gs[i]) (y := ls5[i / 4]) (s := 16 * (i % 4)) rfl rfl (by omega) q9 (by omega)
        rw [Nat.add_comm, ← this]
        unfold ior
        rw [BitVec.or_comm]
      obtain ⟨p15, H16, w1, w2, w3, w4, w5⟩ := q2.set hi4 (ls5[i / 4] + gs[i] * 2 ^ (16 * (i % 4))) (v := ((ls5[i / 4] + gs[i] * 2 ^ (16 * (i % 4)) : Nat) : Int)) rfl (w := ((i / 4 : Nat) : Int)) rfl
      have hpp : p15 = p11 := Option.some.inj (w1.symm.trans g1)
      subst hpp
      have hnew : ls5[i / 4] + gs[i] * 2 ^ (16 * (i % 4)) < 65536 * 2 ^ (16 * (i % 4)) := by
        have := Nat.mul_le_mul_right (2 ^ (16 * (i % 4))) (show gs[i] + 1 ≤ 65536 by omega)
        rw [Nat.add_mul] at this
        omega
      refine ⟨(H16, s5, ((i + 1 : Nat) : Int)), ?_, rfl, _, w3, q3.comp w4 (fun id hid _ hh => by have := q4 id hh; omega), q4, by show M0 ≤ H16.next; omega, ?_, mem_set_lt q7 ?_, ?_, ?_⟩
      · unfold ref01_To_b0
        simp only
        rw [if_pos (by rw [t2.ro.len]; omega), q1]
        simp only [Option.bind_some]
        rw [if_pos (hro.below (Nat.le_refl _)), if_pos (hro.below (Nat.le_refl _)), hdiv, g1]
        simp only [Option.bind_some]
        rw [if_pos (g3 _ (Nat.le_refl _)), g2]
        simp only [Option.bind_some]
        rw [if_pos ((t2.ext q3).ro.below (Nat.le_refl _)), g1']
        simp only [Option.bind_some]
        rw [if_pos (g3' _ (Nat.le_refl _)), g2']
        simp only [Option.bind_some]
        rw [hmod, if_neg (by omega), if_pos (g3 _ (Nat.le_refl _)), hor, show H5.setCell 4294967296 p15 _ = some H16 from w2]
        simp only [Option.bind_some]
        rw [if_pos (by omega), wrap_nat (n := i + 1) (by omega) (by omega)]
      · rw [List.length_set]; omega
      · show _ < 18446744073709551616
        omega
      · have e1 := val_set (B := W64) ls5 (i / 4) (ls5[i / 4] + gs[i] * 2 ^ (16 * (i % 4))) hi4
        rw [val_take_succ gs i hi, ← q8]
        have e2 : W64 ^ (i / 4) * 2 ^ (16 * (i % 4)) = W16 ^ i := by
          rw [show W64 = W16 ^ 4 by decide, show (2 : Nat) ^ (16 * (i % 4)) = W16 ^ (i % 4) by rw [Nat.pow_mul], ← Nat.pow_mul, ← Nat.pow_add]
          congr 1
          omega
        rw [Nat.add_mul, Nat.mul_assoc, Nat.mul_comm (2 ^ (16 * (i % 4))), e2] at e1
        omega
      · intro h
        rw [List.length_set] at h
        have e : (i + 1) / 4 = i / 4 := by omega
        have e3 : (i + 1) % 4 = i % 4 + 1 := by omega
        simp only [e]
        rw [List.getElem_set_self, e3, Nat.mul_add, Nat.mul_one, Nat.pow_add, Nat.mul_comm _ (2 ^ 16)]
        exact hnew)
    (fun s hs => by
      obtain ⟨H2, s1, v⟩ := s
      obtain ⟨rfl, ls, hv, hE, hB, hM1, hlen, hlt, hvl, htop⟩ := hs
      refine ⟨_, ?_, ls, hv, hE, hlen, hlt, by rw [hvl, List.take_length], hB⟩
      unfold ref01_To_b0
      simp only
      rw [if_neg (by rw [t2.ro.len]; omega)])
    (s := (H, Sl3.nil, 0)) ⟨rfl, [], Vec.nil rfl, Fr.refl _ _, (fun id hh => by obtain ⟨a, h, _⟩ := hh; cases h), hM, rfl, (by simp), (by simp [val]), fun h => by simp at h⟩
  obtain ⟨H17, s17, v17⟩ := s'
  obtain ⟨ls, hv, hE, hlen, hlt, hvl, hB⟩ := h2
  refine ⟨s17, H17, ?_, hE, ?_, hB⟩
  · unfold ref01_To
    rw [t1]
    simp only [Option.bind_some]
    rw [h1]
    simp only [Option.bind_some]
  · have hd : dig W64 N = ls := by
      rw [← hval, ← hvl]
      refine dig_val two64 ls hlt fun hne hz => ?_
      have hpos : 0 < ls.length := List.length_pos_iff.2 hne
      -- below one limb less
      have hlast : ls = ls.dropLast ++ [0] := by rw [← hz]; exact (List.dropLast_concat_getLast hne).symm
      have hlow : val W64 ls < W64 ^ (ls.length - 1) := by
        have := val_lt two64 ls.dropLast fun x hx => hlt x ((List.dropLast_sublist ls).subset hx)
        rw [List.length_dropLast] at this
        rw [hlast, val_append]
        simpa [val] using this
      have h1 : (dig W16 N).length ≤ 4 * (ls.length - 1) := by
        rw [dig_len two16, ← hval, ← hvl, Nat.pow_mul, show W16 ^ 4 = W64 by decide]
        exact hlow
      rw [hgs] at h1
      omega
    rw [hd]
    exact ⟨hv.ro (by have : OPEN = 9223372036854775808 := rfl; omega), hlt, by omega⟩

theorem To_spec {H : AH} {a : Sl3} {hs : List Nat} (ha : Nh H a hs) (hM : M0 ≤ H.next) : ∃ s' H', ref01_To H a = some (s', H') ∧ Ext H H' ∧ Nm H' s' (dig W64 (val W16 hs)) :=
  let ⟨s', H', h1, h2, h3, _⟩ := To_spec' ha hM; ⟨s', H', h1, h2, h3⟩

end Go.Proofs.Ytoadagekdnkciaa


namespace Go.Proofs.Ytoadagekdnkciaa
open Go Go.Abs
set_option maxRecDepth 10000

theorem Nh.nil_ (H : AH) : Nh H Sl3.nil [] := ⟨Ro.nil' _ _, by simp, by simp⟩

theorem limb_spec {H : AH} {a : Sl3} {xs : List Nat} (ha : Nh H a xs) (i : Nat) : ref01_limb H a (i : Int) = some ((xs.getD i 0 : Nat) : Int) := by
  unfold ref01_limb
  by_cases h : i < xs.length
  · obtain ⟨p, g1, g2, _⟩ := ha.ro.get h rfl
    rw [if_pos (by rw [ha.ro.len]; omega), g1]
    simp only [Option.bind_some]
    rw [g2]
    simp only [Option.bind_some, List.getD, List.getElem?_eq_getElem h, Option.getD_some]
  · rw [if_neg (by rw [ha.ro.len]; omega)]
    simp only [List.getD, List.getElem?_eq_none (show xs.length ≤ i by omega), Option.getD_none]
    rfl

theorem getD_lt {xs : List Nat} {B : Nat} (hB : 0 < B) (h : ∀ x ∈ xs, x < B) (i : Nat) : xs.getD i 0 < B := by
  by_cases hi : i < xs.length
  · simp only [List.getD, List.getElem?_eq_getElem hi, Option.getD_some]
    exact h _ (List.getElem_mem hi)
  · simp only [List.getD, List.getElem?_eq_none (show xs.length ≤ i by omega), Option.getD_none]
    exact hB

theorem val_take_getD {B : Nat} (l : List Nat) (i : Nat) : val B (l.take (i + 1)) = val B (l.take i) + l.getD i 0 * B ^ i := by
  by_cases hi : i < l.length
  · rw [val_take_succ l i hi]
    simp only [List.getD, List.getElem?_eq_getElem hi, Option.getD_some]
  · rw [List.take_of_length_le (by omega), List.take_of_length_le (by omega)]
    simp only [List.getD, List.getElem?_eq_none (show l.length ≤ i by omega), Option.getD_none]
    omega

end Go.Proofs.Ytoadagekdnkciaa


namespace Go.Proofs.Ytoadagekdnkciaa
open Go Go.Abs
set_option maxRecDepth 10000

/-- A new half. -/
theorem newH {H : AH} {n : Nat} {v : Int} (hv : v = n) (hn : n < 65536) : ∃ z H', newR 65 1 #[Value.int .u32 v] H = some (z, H') ∧ Nh H' z [n] ∧ Ext H H' ∧ H'.next = H.next + 1 := by
  subst hv
  obtain ⟨z, H', n1, n2, n3, _, n5⟩ := newR_ro (k := .u32) (e := 65) (H := H) (ys := [n]) (by simp [OPEN])
  exact ⟨z, H', n1, ⟨n2, fun x hx => by rw [List.mem_singleton.1 hx]; exact hn, by simp⟩, n3, n5⟩

end Go.Proofs.Ytoadagekdnkciaa


namespace Go.Proofs.Ytoadagekdnkciaa
open Go Go.Abs
set_option maxRecDepth 10000

theorem val_snoc {B : Nat} (l : List Nat) (x : Nat) : val B (l ++ [x]) = val B l + x * B ^ l.length := by
  rw [val_append, Nat.mul_comm]
  simp [val]

/-- Halves added. -/
theorem AddH_spec {H : AH} {a b : Sl3} {xs ys : List Nat} (ha : Nh H a xs) (hb : Nh H b ys) (hla : xs.length < 4398046511104) (hlb : ys.length < 4398046511104) (hM : M0 ≤ H.next) :
    ∃ s' H', ref01_AddH H a b = some (s', H') ∧ Ext H H' ∧ Nh H' s' (dig W16 (val W16 xs + val W16 ys)) := by
  obtain ⟨o, h1, h2⟩ := loopO_inv (R := Sl3 × AH) (body := ref01_AddH_b0 a b)
    (fun s => ∃ (i c : Nat) (out : List Nat), s.2.2.1 = (c : Int) ∧ s.2.2.2 = (i : Int) ∧ Vec .u32 65 M0 s.1 out s.2.1 ∧ out.length = i ∧ (∀ x ∈ out, x < W16) ∧
      (i ≤ max xs.length ys.length ∧ c ≤ 1 ∨ i = max xs.length ys.length + 1 ∧ c = 0) ∧ Ext H s.1 ∧ (∀ id, blkIs s.2.1 id → H.next ≤ id) ∧ val W16 out + c * W16 ^ i = val W16 (xs.take i) + val W16 (ys.take i))
    (fun s => 2 * (max xs.length ys.length - s.2.2.2.toNat) + min 1 s.2.2.1.toNat)
    (fun o => ∃ (H' : AH) (s' : Sl3) (u v : Int) (out : List Nat), o = .inl (H', s', u, v) ∧ Vec .u32 65 M0 H' out s' ∧ out.length ≤ max xs.length ys.length + 1 ∧ (∀ x ∈ out, x < W16) ∧ Ext H H' ∧ val W16 out = val W16 xs + val W16 ys)
    (fun s hs => by
      obtain ⟨H1, s1, cv, iv⟩ := s
      obtain ⟨i, c, out, rfl, rfl, hv, hol, hlt, hic, hE, hB, heq⟩ := hs
      simp only at hv hE hB
      by_cases hgo : i < max xs.length ys.length ∨ 0 < c
      · left
        have hc : c ≤ 1 := by omega
        have hl1 := limb_spec (ha.ext hE) i
        have hl2 := limb_spec (hb.ext hE) i
        have hx : xs.getD i 0 < 65536 := getD_lt (by decide) ha.lt i
        have hy : ys.getD i 0 < 65536 := getD_lt (by decide) hb.lt i
        have e1 := val_take_getD (B := W16) xs i
        have e2 := val_take_getD (B := W16) ys i
        have hlast : i = max xs.length ys.length → xs.getD i 0 = 0 ∧ ys.getD i 0 = 0 := fun e =>
          ⟨by simp only [List.getD, List.getElem?_eq_none (show xs.length ≤ i by omega), Option.getD_none], by simp only [List.getD, List.getElem?_eq_none (show ys.length ≤ i by omega), Option.getD_none]⟩
        generalize xs.getD i 0 = x at *
        generalize ys.getD i 0 = y at *
        generalize hS : x + y + c = S
        have hwrap : IntKind.u32.wrap (IntKind.u32.wrap ((x : Int) + (y : Int)) + (c : Int)) = (S : Int) := by
          rw [wrap_u32n (x := (x : Int) + (y : Int)) (n := x + y) (by simp) (by omega)]
          exact wrap_u32n (by omega) (by omega)
        have hand : iand .u32 (S : Int) 65535 = ((S % 65536 : Nat) : Int) := iand_u32 (n := 16) rfl (by omega) (by decide) (by omega)
        have hshr : ishr .u32 (S : Int) 16 = ((S / 65536 : Nat) : Int) := ishr_nat (n := 16) rfl rfl (by decide)
        obtain ⟨z, H8, s9, H10, p1, p2, p3, p4, p5⟩ := hv.push (bytes := 4) (S % 65536) (v := ((S % 65536 : Nat) : Int)) rfl (by omega) (by omega) (Nat.le_trans hM hE.1)
        refine ⟨(H10, s9, ((S / 65536 : Nat) : Int), ((i + 1 : Nat) : Int)), ?_, ⟨i + 1, S / 65536, _, rfl, rfl, p3, by simp [hol], ?_, ?_, hE.comp p4 (fun id hid _ hh => by have := hB id hh; omega), ?_, ?_⟩, ?_⟩
        · unfold ref01_AddH_b0
          simp only
          have hcond : (if (i : Int) < (a.n : Int) then (some (.inl ()) : Option (Unit ⊕ Lp (AH × Sl3 × Int × Int) (Sl3 × AH))) else if (i : Int) < (b.n : Int) then some (.inl ()) else if (c : Int) > 0 then some (.inl ()) else (some (Lp.brk (H1, s1, (c : Int), (i : Int)))).map .inr) = some (.inl ()) := by
            rw [ha.ro.len, hb.ro.len]
            by_cases q1 : (i : Int) < (xs.length : Int)
            · rw [if_pos q1]
            · rw [if_neg q1]
              by_cases q2 : (i : Int) < (ys.length : Int)
              · rw [if_pos q2]
              · rw [if_neg q2, if_pos (by omega)]
          rw [hcond]
          simp only [Option.bind_some]
          rw [hl1]
          simp only [Option.bind_some]
          rw [hl2]
          simp only [Option.bind_some]
          rw [hwrap, hand, hshr, p1]
          simp only [Option.bind_some]
          rw [show appS 4294967296 65 1 4 H8 s1 z = some (s9, H10) from p2]
          simp only [Option.bind_some]
          rw [wrap_next rfl (by omega)]
        · intro x hx
          rcases List.mem_append.1 hx with h | h
          · exact hlt x h
          · rw [List.mem_singleton.1 h]; exact Nat.mod_lt _ (by decide)
        · by_cases e : i = max xs.length ys.length
          · obtain ⟨e3, e4⟩ := hlast e
            exact .inr ⟨by omega, by omega⟩
          · exact .inl ⟨by omega, by omega⟩
        · intro id hh
          rcases p5 id hh with h | h
          · exact hB id h
          · exact Nat.le_trans hE.1 h
        · rw [val_snoc, hol, e1, e2]
          have hdm : S / 65536 * W16 + S % 65536 = S := Nat.div_add_mod' _ _
          have e4 : S / 65536 * W16 ^ (i + 1) + S % 65536 * W16 ^ i = x * W16 ^ i + y * W16 ^ i + c * W16 ^ i := by
            rw [Nat.pow_succ, Nat.mul_comm (W16 ^ i) W16, ← Nat.mul_assoc, ← Nat.add_mul, hdm, ← hS, Nat.add_mul, Nat.add_mul]
          omega
        · show 2 * (max xs.length ys.length - (((i + 1 : Nat) : Int)).toNat) + min 1 (((S / 65536 : Nat) : Int)).toNat < 2 * (max xs.length ys.length - ((i : Int)).toNat) + min 1 ((c : Int)).toNat
          simp only [Int.toNat_natCast]
          by_cases e : i = max xs.length ys.length
          · obtain ⟨e3, e4⟩ := hlast e
            omega
          · omega
      · right; left
        have hc : c = 0 := by omega
        subst hc
        refine ⟨(H1, s1, 0, (i : Int)), ?_, H1, s1, 0, (i : Int), out, rfl, hv, by omega, hlt, hE, ?_⟩
        · unfold ref01_AddH_b0
          simp only
          rw [if_neg (by rw [ha.ro.len]; omega), if_neg (by rw [hb.ro.len]; omega), if_neg (by decide)]
          rfl
        · rw [List.take_of_length_le (by omega), List.take_of_length_le (by omega)] at heq
          omega)
    (H, Sl3.nil, 0, 0) ⟨0, 0, [], rfl, rfl, Vec.nil rfl, rfl, by simp, .inl ⟨Nat.zero_le _, by omega⟩, Fr.refl _ _, (fun id hh => by obtain ⟨a, h, _⟩ := hh; cases h), by simp [val]⟩
  obtain ⟨H11, s12, u, v, out, rfl, hv, hlen, hlt, hE, heq⟩ := h2
  have hN : Nh H11 s12 out := ⟨hv.ro (by have : OPEN = 9223372036854775808 := rfl; omega), hlt, by omega⟩
  obtain ⟨x15, t1, t2, _⟩ := trimH_spec hN
  rw [heq] at t2
  refine ⟨x15, H11, ?_, hE, t2⟩
  unfold ref01_AddH
  rw [h1]
  simp only [Option.bind_some]
  rw [t1]
  simp only [Option.bind_some]

end Go.Proofs.Ytoadagekdnkciaa


namespace Go.Proofs.Ytoadagekdnkciaa
open Go Go.Abs
set_option maxRecDepth 10000

theorem Nm.nil_ (H : AH) : Nm H Sl3.nil [] := ⟨Ro.nil' _ _, by simp, by simp⟩

end Go.Proofs.Ytoadagekdnkciaa


namespace Go.Proofs.Ytoadagekdnkciaa
open Go Go.Abs
set_option maxRecDepth 10000

/-- Which is above. -/
def cmpAns (N M : Nat) : Int := if N < M then -1 else if M < N then 1 else 0

theorem val_split {B : Nat} (l : List Nat) (i : Nat) (hi : i < l.length) : val B l = val B (l.take i) + B ^ i * (l[i] + B * val B (l.drop (i + 1))) := by
  conv => lhs; rw [← List.take_append_drop i l, val_append, List.drop_eq_getElem_cons hi]
  rw [List.length_take, Nat.min_eq_left (by omega)]
  rfl

theorem cmp_lt {B : Nat} (hB : 2 ≤ B) {xs ys : List Nat} (hx : ∀ x ∈ xs, x < B) {i : Nat} (hi : i < xs.length) (hi' : i < ys.length) (hd : xs.drop (i + 1) = ys.drop (i + 1)) (h : xs[i] < ys[i]) : val B xs < val B ys := by
  rw [val_split xs i hi, val_split ys i hi', hd]
  have h1 : val B (xs.take i) < B ^ i := by
    have := val_lt hB (xs.take i) fun x hm => hx x (List.mem_of_mem_take hm)
    rwa [List.length_take, Nat.min_eq_left (by omega)] at this
  have h2 : B ^ i * (xs[i] + B * val B (ys.drop (i + 1)) + 1) ≤ B ^ i * (ys[i] + B * val B (ys.drop (i + 1))) := Nat.mul_le_mul_left _ (by omega)
  rw [Nat.mul_add, Nat.mul_one] at h2
  omega

theorem dig_len_lt {B : Nat} (hB : 2 ≤ B) {N M : Nat} (h : (dig B N).length < (dig B M).length) : N < M := by
  have h1 := (dig_len hB N (dig B N).length).1 (Nat.le_refl _)
  have h2 : ¬ M < B ^ (dig B N).length := fun hh => by
    have := (dig_len hB M _).2 hh
    omega
  omega

/-- Numbers compared from the top. -/
theorem Cmp_spec {H : AH} {a b : Sl3} {xs ys : List Nat} (ha : Nm H a xs) (hb : Nm H b ys) : nat_Cmp H a b = some (cmpAns (val W64 xs) (val W64 ys)) := by
  obtain ⟨s, t1, t2, _, _⟩ := trim_spec ha
  obtain ⟨s', t1', t2', _, _⟩ := trim_spec hb
  generalize hN : val W64 xs = N at *
  generalize hM : val W64 ys = M at *
  unfold nat_Cmp
  rw [t1]
  simp only [Option.bind_some]
  rw [t1']
  simp only [Option.bind_some]
  rw [t2.ro.len, t2'.ro.len]
  have hvN := val_dig two64 N
  have hvM := val_dig two64 M
  have hlt1 := @dig_len_lt W64 two64 N M
  have hlt2 := @dig_len_lt W64 two64 M N
  generalize hus : dig W64 N = us at *
  generalize hvs : dig W64 M = vs at *
  have hsm := t2.sm
  by_cases hl : us.length = vs.length
  · rw [if_pos (by omega)]
    have key : ∀ (n : Nat), n ≤ us.length → us.drop n = vs.drop n → ∃ o, loopO (nat_Cmp_b0 H s s') ((n : Int) - 1) = some o ∧ (match o with | .inl _ => us = vs | .inr r => r = cmpAns N M) := by
      intro n
      induction n with
      | zero =>
        intro _ hd
        refine ⟨.inl (-1), loopO_brk ?_, by simpa using hd⟩
        unfold nat_Cmp_b0
        rw [if_neg (by omega)]
        rfl
      | succ n ih =>
        intro hn hd
        obtain ⟨p, g1, g2, g3⟩ := t2.ro.get (i := n) (by omega) (v := (n : Int)) rfl
        obtain ⟨p', g1', g2', g3'⟩ := t2'.ro.get (i := n) (by omega) (v := (n : Int)) rfl
        have hb0 : nat_Cmp_b0 H s s' ((n : Int)) = if us[n] < vs[n] then some (.ret (-1)) else if vs[n] < us[n] then some (.ret 1) else some (.next ((n : Int) - 1)) := by
          unfold nat_Cmp_b0
          rw [if_pos (by omega), if_pos t2.ro.belowS, g1]
          simp only [Option.bind_some]
          rw [if_pos (show below H p = true from g3 _ (Nat.le_refl _)), g2]
          simp only [Option.bind_some]
          rw [if_pos t2'.ro.belowS, g1']
          simp only [Option.bind_some]
          rw [if_pos (show below H p' = true from g3' _ (Nat.le_refl _)), g2']
          simp only [Option.bind_some]
          by_cases q1 : us[n] < vs[n]
          · rw [if_pos (by omega), if_pos q1]
          · rw [if_neg (by omega), if_neg q1]
            simp only [t2.ro.belowS, t2'.ro.belowS, show below H p = true from g3 _ (Nat.le_refl _), show below H p' = true from g3' _ (Nat.le_refl _), if_true]
            by_cases q2 : vs[n] < us[n]
            · rw [if_pos (by omega), if_pos q2]
            · rw [if_neg (by omega), if_neg q2, wrap_i64' (by omega) (by omega)]
        rw [show ((n + 1 : Nat) : Int) - 1 = (n : Int) by omega]
        by_cases q1 : us[n] < vs[n]
        · rw [if_pos q1] at hb0
          refine ⟨_, loopO_ret hb0, ?_⟩
          have := cmp_lt two64 t2.lt (i := n) (by omega) (by omega) hd q1
          rw [hvN, hvM] at this
          show _ = cmpAns N M
          unfold cmpAns
          rw [if_pos this]
        · rw [if_neg q1] at hb0
          by_cases q2 : vs[n] < us[n]
          · rw [if_pos q2] at hb0
            refine ⟨_, loopO_ret hb0, ?_⟩
            have := cmp_lt two64 t2'.lt (i := n) (by omega) (by omega) hd.symm q2
            rw [hvN, hvM] at this
            show _ = cmpAns N M
            unfold cmpAns
            rw [if_neg (by omega), if_pos this]
          · rw [if_neg q2] at hb0
            rw [loopO_next hb0]
            refine ih (by omega) ?_
            rw [List.drop_eq_getElem_cons (show n < us.length by omega), List.drop_eq_getElem_cons (show n < vs.length by omega), hd, show us[n] = vs[n] by omega]
    obtain ⟨o, h1, h2⟩ := key us.length (Nat.le_refl _) (by rw [List.drop_length, hl, List.drop_length])
    rw [wrap_i64' (by omega) (by omega), h1]
    simp only [Option.bind_some]
    cases o with
    | inl v =>
      have e : us = vs := h2
      have : N = M := by rw [← hvN, ← hvM, e]
      show some (0 : Int) = _
      unfold cmpAns
      rw [if_neg (by omega), if_neg (by omega)]
    | inr r =>
      have e : r = cmpAns N M := h2
      rw [e]
  · rw [if_neg (by omega)]
    unfold cmpAns
    by_cases hl2 : us.length < vs.length
    · rw [if_pos (by omega), if_pos (hlt1 hl2)]
    · have := hlt2 (by omega)
      rw [if_neg (by omega), if_neg (by omega), if_pos this]

end Go.Proofs.Ytoadagekdnkciaa


namespace Go.Proofs.Ytoadagekdnkciaa
open Go Go.Abs
set_option maxRecDepth 10000

/-- Halves compared from the top. -/
theorem CmpH_spec {H : AH} {a b : Sl3} {xs ys : List Nat} (ha : Nh H a xs) (hb : Nh H b ys) : ref01_CmpH H a b = some (cmpAns (val W16 xs) (val W16 ys)) := by
  obtain ⟨s, t1, t2, _⟩ := trimH_spec ha
  obtain ⟨s', t1', t2', _⟩ := trimH_spec hb
  generalize hN : val W16 xs = N at *
  generalize hM : val W16 ys = M at *
  unfold ref01_CmpH
  rw [t1]
  simp only [Option.bind_some]
  rw [t1']
  simp only [Option.bind_some]
  rw [t2.ro.len, t2'.ro.len]
  have hvN := val_dig two16 N
  have hvM := val_dig two16 M
  have hlt1 := @dig_len_lt W16 two16 N M
  have hlt2 := @dig_len_lt W16 two16 M N
  generalize hus : dig W16 N = us at *
  generalize hvs : dig W16 M = vs at *
  have hsm := t2.sm
  by_cases hl : us.length = vs.length
  · rw [if_neg (by omega), if_neg (by omega)]
    have key : ∀ (n : Nat), n ≤ us.length → us.drop n = vs.drop n → ∃ o, loopO (ref01_CmpH_b0 H s s') ((n : Int) - 1) = some o ∧ (match o with | .inl _ => us = vs | .inr r => r = cmpAns N M) := by
      intro n
      induction n with
      | zero =>
        intro _ hd
        refine ⟨.inl (-1), loopO_brk ?_, by simpa using hd⟩
        unfold ref01_CmpH_b0
        rw [if_neg (by omega)]
        rfl
      | succ n ih =>
        intro hn hd
        obtain ⟨p, g1, g2, g3⟩ := t2.ro.get (i := n) (by omega) (v := (n : Int)) rfl
        obtain ⟨p', g1', g2', g3'⟩ := t2'.ro.get (i := n) (by omega) (v := (n : Int)) rfl
        have hb0 : ref01_CmpH_b0 H s s' ((n : Int)) = if us[n] < vs[n] then some (.ret (-1)) else if vs[n] < us[n] then some (.ret 1) else some (.next ((n : Int) - 1)) := by
          unfold ref01_CmpH_b0
          rw [if_pos (by omega), if_pos t2.ro.belowS, g1]
          simp only [Option.bind_some]
          rw [if_pos (show below H p = true from g3 _ (Nat.le_refl _)), g2]
          simp only [Option.bind_some]
          rw [if_pos t2'.ro.belowS, g1']
          simp only [Option.bind_some]
          rw [if_pos (show below H p' = true from g3' _ (Nat.le_refl _)), g2']
          simp only [Option.bind_some]
          by_cases q1 : us[n] < vs[n]
          · rw [if_pos (by omega), if_pos q1]
          · rw [if_neg (by omega), if_neg q1]
            simp only [t2.ro.belowS, t2'.ro.belowS, show below H p = true from g3 _ (Nat.le_refl _), show below H p' = true from g3' _ (Nat.le_refl _), if_true]
            by_cases q2 : vs[n] < us[n]
            · rw [if_pos (by omega), if_pos q2]
            · rw [if_neg (by omega), if_neg q2, wrap_i64' (by omega) (by omega)]
        rw [show ((n + 1 : Nat) : Int) - 1 = (n : Int) by omega]
        by_cases q1 : us[n] < vs[n]
        · rw [if_pos q1] at hb0
          refine ⟨_, loopO_ret hb0, ?_⟩
          have := cmp_lt two16 t2.lt (i := n) (by omega) (by omega) hd q1
          rw [hvN, hvM] at this
          show _ = cmpAns N M
          unfold cmpAns
          rw [if_pos this]
        · rw [if_neg q1] at hb0
          by_cases q2 : vs[n] < us[n]
          · rw [if_pos q2] at hb0
            refine ⟨_, loopO_ret hb0, ?_⟩
            have := cmp_lt two16 t2'.lt (i := n) (by omega) (by omega) hd.symm q2
            rw [hvN, hvM] at this
            show _ = cmpAns N M
            unfold cmpAns
            rw [if_neg (by omega), if_pos this]
          · rw [if_neg q2] at hb0
            rw [loopO_next hb0]
            refine ih (by omega) ?_
            rw [List.drop_eq_getElem_cons (show n < us.length by omega), List.drop_eq_getElem_cons (show n < vs.length by omega), hd, show us[n] = vs[n] by omega]
    obtain ⟨o, h1, h2⟩ := key us.length (Nat.le_refl _) (by rw [List.drop_length, hl, List.drop_length])
    rw [wrap_i64' (by omega) (by omega), h1]
    simp only [Option.bind_some]
    cases o with
    | inl v =>
      have e : us = vs := h2
      have : N = M := by rw [← hvN, ← hvM, e]
      show some (0 : Int) = _
      unfold cmpAns
      rw [if_neg (by omega), if_neg (by omega)]
    | inr r =>
      have e : r = cmpAns N M := h2
      rw [e]
  · unfold cmpAns
    by_cases hl2 : us.length < vs.length
    · rw [if_pos (by omega), if_pos (hlt1 hl2)]
    · have := hlt2 (by omega)
      rw [if_neg (by omega), if_pos (by omega), if_neg (by omega), if_pos this]

/-! ### A bit -/

/-! ### How many bits -/

theorem Bits.uniq {x n m : Nat} (h : Bits x n) (h' : Bits x m) : n = m := by
  have key : ∀ {x n m : Nat}, Bits x n → Bits x m → ¬ n < m := by
    intro x n m h h' hlt
    rcases h'.2 with e | e
    · omega
    · have := Nat.pow_le_pow_right (show 0 < 2 by decide) (show n ≤ m - 1 by omega)
      have := h.1
      omega
  have h1 := key h h'
  have h2 := key h' h
  omega

/-- The digit on top is what is left of the number. -/
theorem top_digit {B : Nat} (hB : 2 ≤ B) {N : Nat} (h : 0 < (dig B N).length) : N / B ^ ((dig B N).length - 1) = (dig B N)[(dig B N).length - 1] ∧ (dig B N)[(dig B N).length - 1] ≠ 0 := by
  have hne : dig B N ≠ [] := fun e => by rw [e] at h; simp at h
  have h1 := dig_top hB N hne
  rw [List.getLast_eq_getElem] at h1
  refine ⟨?_, h1⟩
  have hi : (dig B N).length - 1 < (dig B N).length := by omega
  have hs := val_split (B := B) (dig B N) _ hi
  rw [val_dig hB, List.drop_of_length_le (by omega), val, Nat.mul_zero, Nat.add_zero] at hs
  have h2 : val B ((dig B N).take ((dig B N).length - 1)) < B ^ ((dig B N).length - 1) := by
    have := val_lt hB ((dig B N).take ((dig B N).length - 1)) fun x hm => dig_lt hB N x (List.mem_of_mem_take hm)
    rwa [List.length_take, Nat.min_eq_left (by omega)] at this
  generalize (dig B N)[(dig B N).length - 1] = d at *
  generalize B ^ ((dig B N).length - 1) = T at *
  rw [hs, Nat.add_mul_div_left _ _ (by omega), Nat.div_eq_of_lt h2, Nat.zero_add]

/-! ### A small number -/

end Go.Proofs.Ytoadagekdnkciaa


namespace Go.Proofs.Ytoadagekdnkciaa
open Go Go.Abs
set_option maxRecDepth 10000

theorem cmpAns_neg {N M : Nat} : cmpAns N M < 0 ↔ N < M := by
  unfold cmpAns
  by_cases h : N < M
  · rw [if_pos h]; exact ⟨fun _ => h, fun _ => by decide⟩
  · rw [if_neg h]
    by_cases h2 : M < N
    · rw [if_pos h2]; exact ⟨fun hh => by omega, fun hh => by omega⟩
    · rw [if_neg h2]; exact ⟨fun hh => by omega, fun hh => by omega⟩

theorem SubH_spec' {H : AH} {a b : Sl3} {xs ys : List Nat} (ha : Nh H a xs) (hb : Nh H b ys) (hlen : ys.length ≤ xs.length) (hle : val W16 ys ≤ val W16 xs) (hM : M0 ≤ H.next) :
    ∃ s' H', ref01_SubH H a b = some (s', H') ∧ Ext H H' ∧ Nh H' s' (dig W16 (val W16 xs - val W16 ys)) ∧ ∀ id, blkIs s' id → H.next ≤ id := by
  have hsm := ha.sm
  obtain ⟨t, l1, l2⟩ := loopO_to (body := ref01_SubH_b0 a b) xs.length
    (fun i (s : AH × Sl3 × Int × Int) => ∃ (out : List Nat) (c : Nat), s.2.2.2 = (i : Int) ∧ s.2.2.1 = (c : Int) ∧ c ≤ 1 ∧ out.length = i ∧ (∀ x ∈ out, x < W16) ∧ Vec .u32 65 M0 s.1 out s.2.1 ∧ Ext H s.1 ∧ (∀ id, blkIs s.2.1 id → H.next ≤ id) ∧
      val W16 out + val W16 (ys.take i) = val W16 (xs.take i) + c * W16 ^ i)
    (Q := fun s => ∃ (out : List Nat) (c : Nat), out.length = xs.length ∧ (∀ x ∈ out, x < W16) ∧ Vec .u32 65 M0 s.1 out s.2.1 ∧ Ext H s.1 ∧
      val W16 out + val W16 ys = val W16 xs + c * W16 ^ xs.length ∧ ∀ id, blkIs s.2.1 id → H.next ≤ id)
    (fun i hi s hs => by
      obtain ⟨H5, s5, cv, v⟩ := s
      obtain ⟨out, c, rfl, rfl, hc, hol, hlt, hv, hE, hB, heq⟩ := hs
      simp only at hv hE hB
      have hx : xs.getD i 0 < 65536 := getD_lt (by decide) ha.lt i
      have hy : ys.getD i 0 < 65536 := getD_lt (by decide) hb.lt i
      have hl1 := limb_spec (ha.ext hE) i
      have hl2 := limb_spec (hb.ext hE) i
      have e2 := val_take_getD (B := W16) ys i
      have e1 := val_take_getD (B := W16) xs i
      generalize ys.getD i 0 = y at *
      generalize xs.getD i 0 = x at *
      generalize hS : x + 65536 - y - c = S
      have hSb : S < 131072 ∧ S + y + c = x + 65536 := by omega
      have hw : IntKind.u32.wrap (IntKind.u32.wrap (IntKind.u32.wrap ((x : Int) + 65536) - (y : Int)) - (c : Int)) = (S : Int) := by
        rw [wrap_u32n (x := (x : Int) + 65536) (n := x + 65536) (by simp) (by omega), wrap_u32n (x := ((x + 65536 : Nat) : Int) - (y : Int)) (n := x + 65536 - y) (by omega) (by omega)]
        exact wrap_u32n (by omega) (by omega)
      have hand : iand .u32 (S : Int) 65535 = ((S % 65536 : Nat) : Int) := iand_u32 (n := 16) rfl (by omega) (by decide) (by omega)
      have hshr : IntKind.u32.wrap (1 - ishr .u32 (S : Int) 16) = ((1 - S / 65536 : Nat) : Int) := by
        rw [show ishr .u32 (S : Int) 16 = ((S / 65536 : Nat) : Int) from ishr_nat (k := .u32) (n := 16) rfl rfl (by decide)]
        exact wrap_u32n (by omega) (by omega)
      have hstep : S % 65536 + y + c = x + (1 - S / 65536) * 65536 := by omega
      obtain ⟨z, H17, s18, H19, p1, p2, p3, p4, p5⟩ := hv.push (bytes := 4) (S % 65536) (v := ((S % 65536 : Nat) : Int)) rfl (by omega) (by omega) (Nat.le_trans hM hE.1)
      refine ⟨(H19, s18, ((1 - S / 65536 : Nat) : Int), ((i + 1 : Nat) : Int)), ?_, _, _, rfl, rfl, by omega, by simp [hol], ?_, p3, hE.comp p4 (fun id hid _ hh => by have := hB id hh; omega), ?_, ?_⟩
      · unfold ref01_SubH_b0
        simp only
        rw [if_pos (by rw [ha.ro.len]; omega), hl1]
        simp only [Option.bind_some]
        rw [hl2]
        simp only [Option.bind_some]
        rw [hw, hand, hshr, p1]
        simp only [Option.bind_some]
        rw [show appS 4294967296 65 1 4 H17 s5 z = some (s18, H19) from p2]
        simp only [Option.bind_some]
        rw [wrap_next rfl (by omega)]
      · intro x hx
        rcases List.mem_append.1 hx with h | h
        · exact hlt x h
        · rw [List.mem_singleton.1 h]; exact Nat.mod_lt _ (by decide)
      · intro id hh
        rcases p5 id hh with h | h
        · exact hB id h
        · exact Nat.le_trans hE.1 h
      · rw [val_snoc, hol, e2, e1]
        have e4 : S % 65536 * W16 ^ i + y * W16 ^ i + c * W16 ^ i = x * W16 ^ i + (1 - S / 65536) * W16 ^ (i + 1) := by
          rw [← Nat.add_mul, ← Nat.add_mul, hstep, Nat.add_mul, Nat.pow_succ, Nat.mul_comm (W16 ^ i) W16, ← Nat.mul_assoc]
        omega)
    (fun s hs => by
      obtain ⟨H5, s5, cv, v⟩ := s
      obtain ⟨out, c, rfl, rfl, hc, hol, hlt, hv, hE, hB, heq⟩ := hs
      rw [List.take_length, List.take_of_length_le hlen] at heq
      refine ⟨_, ?_, out, c, hol, hlt, hv, hE, heq, hB⟩
      unfold ref01_SubH_b0
      simp only
      rw [if_neg (by rw [ha.ro.len]; omega)])
    (s := (H, Sl3.nil, 0, 0)) ⟨[], 0, rfl, rfl, by omega, rfl, by simp, Vec.nil rfl, Fr.refl _ _, (fun id hh => by obtain ⟨a, h, _⟩ := hh; cases h), by simp [val]⟩
  obtain ⟨H18, s19, cv, v⟩ := t
  obtain ⟨out, c, hol, hlt, hv, hE, heq, hB⟩ := l2
  simp only at hv hE
  have hout := val_lt two16 out hlt
  rw [hol] at hout
  have hc0 : c = 0 := by
    apply Classical.byContradiction
    intro hc
    have : 1 * W16 ^ xs.length ≤ c * W16 ^ xs.length := Nat.mul_le_mul_right _ (by omega)
    omega
  subst hc0
  have hN : Nh H18 s19 out := ⟨hv.ro (by have : OPEN = 9223372036854775808 := rfl; omega), hlt, by omega⟩
  obtain ⟨x22, t1, t2, t3⟩ := trimH_spec hN
  rw [show val W16 out = val W16 xs - val W16 ys by omega] at t2
  refine ⟨x22, H18, ?_, hE, t2, fun id ⟨a, h1, h2⟩ => hB id ⟨a, t3 ▸ h1, h2⟩⟩
  unfold ref01_SubH
  rw [l1]
  simp only [Option.bind_some]
  rw [t1]
  simp only [Option.bind_some]

theorem dig_len_mono {B : Nat} (hB : 2 ≤ B) {N M : Nat} (h : N ≤ M) : (dig B N).length ≤ (dig B M).length := by
  rw [dig_len hB]
  have := (dig_len hB M (dig B M).length).1 (Nat.le_refl _)
  omega

theorem any_two {xs ys : List Nat} : (([xs, ys].any fun xs => decide (TOP ≤ val W64 xs)) = true) ↔ (TOP ≤ val W64 xs ∨ TOP ≤ val W64 ys) := by simp

end Go.Proofs.Ytoadagekdnkciaa


namespace Go.Proofs.Ytoadagekdnkciaa
open Go Go.Abs
set_option maxRecDepth 10000

theorem pow_split {s : Nat} (hs : s ≤ 64) : 2 ^ (64 - s) * 2 ^ s = 18446744073709551616 := by
  rw [← Nat.pow_add, show 64 - s + s = 64 by omega]

/-- A number moved up by fewer bits than a limb has. -/
theorem shl_spec {H : AH} {a : Sl3} {xs : List Nat} (ha : Nm H a xs) (hl : xs.length < 1099511627776) {s : Nat} (hs : s < 64) (hM : M0 ≤ H.next) :
    ∃ s' H' zs, nat_shl H a (s : Int) = some (s', H') ∧ Ext H H' ∧ Nm H' s' zs ∧ Vec .u64 38 M0 H' zs s' ∧ (∀ id, blkIs s' id → H.next ≤ id) ∧ zs.length = xs.length + 1 ∧ val W64 zs = val W64 xs * 2 ^ s := by
  obtain ⟨s1, H2, m1, m2, m3, m4, _, _, _⟩ := mkS_vec (k := .u64) (e := 38) (m := M0) (bytes := 8) (H := H) 0 (xs.length + 1) (vn := 0) (vc := ((xs.length + 1 : Nat) : Int)) rfl rfl (by omega) (by omega) (by omega) hM
  have m2' : Vec .u64 38 M0 H2 [] s1 := m2
  have hsp := pow_split (s := s) (by omega)
  have hT : 0 < 2 ^ (64 - s) := Nat.pow_pos (by omega)
  have hS : 0 < 2 ^ s := Nat.pow_pos (by omega)
  have hSb : 2 ^ s ≤ 18446744073709551616 := by rw [← hsp]; exact Nat.le_mul_of_pos_left _ hT
  obtain ⟨t, l1, l2⟩ := loopO_to (body := nat_shl_b0 a (s : Int)) xs.length
    (fun i (st : AH × Sl3 × Int × Int) => ∃ (out : List Nat) (c : Nat), st.2.2.2 = (i : Int) ∧ st.2.2.1 = (c : Int) ∧ c < 2 ^ s ∧ out.length = i ∧ (∀ x ∈ out, x < W64) ∧ Vec .u64 38 M0 st.1 out st.2.1 ∧ Ext H st.1 ∧ (∀ id, blkIs st.2.1 id → H.next ≤ id) ∧
      val W64 out + c * W64 ^ i = val W64 (xs.take i) * 2 ^ s)
    (Q := fun st => ∃ (out : List Nat) (c : Nat), st.2.2.1 = (c : Int) ∧ c < 2 ^ s ∧ out.length = xs.length ∧ (∀ x ∈ out, x < W64) ∧ Vec .u64 38 M0 st.1 out st.2.1 ∧ Ext H st.1 ∧ (∀ id, blkIs st.2.1 id → H.next ≤ id) ∧
      val W64 out + c * W64 ^ xs.length = val W64 xs * 2 ^ s)
    (fun i hi st hst => by
      obtain ⟨H3, s4, cv, v⟩ := st
      obtain ⟨out, c, rfl, rfl, hc, hol, hlt, hv, hE, hB, heq⟩ := hst
      simp only at hv hE hB
      obtain ⟨p7, g1, g2, _⟩ := (ha.ext hE).ro.get hi rfl
      have hx : xs[i] < 18446744073709551616 := ha.lt _ (List.getElem_mem hi)
      have e1 := val_take_succ (B := W64) xs i hi
      generalize xs[i] = x at *
      -- the digit and what is carried
      have hcut : x * 2 ^ s % 18446744073709551616 = x % 2 ^ (64 - s) * 2 ^ s := by rw [← hsp, Nat.mul_mod_mul_right]
      have hlow : x % 2 ^ (64 - s) * 2 ^ s + 2 ^ s ≤ 18446744073709551616 := by
        have := Nat.mul_le_mul_right (2 ^ s) (Nat.mod_lt x hT)
        rw [Nat.succ_mul, hsp] at this
        exact this
      have hor : ior .u64 (ishl .u64 (x : Int) (s : Int)) (c : Int) = ((x % 2 ^ (64 - s) * 2 ^ s + c : Nat) : Int) := by
        refine ior_nat ?_ rfl (by omega) hc (by omega)
        rw [ishl_nat rfl rfl (by omega), hcut]
      have hcar : x / 2 ^ (64 - s) < 2 ^ s := by
        rw [Nat.div_lt_iff_lt_mul hT, Nat.mul_comm, hsp]; exact hx
      have hw : IntKind.u64.wrap (64 - (s : Int)) = ((64 - s : Nat) : Int) := wrap_u64n (by omega) (by omega)
      have hshr : ishr .u64 (x : Int) ((64 - s : Nat) : Int) = ((x / 2 ^ (64 - s) : Nat) : Int) := ishr_nat rfl rfl (show 64 - s ≤ 64 by omega)
      obtain ⟨z, H10, s11, H12, p1, p2, p3, p4, p5⟩ := hv.push (bytes := 8) (x % 2 ^ (64 - s) * 2 ^ s + c) (v := ((x % 2 ^ (64 - s) * 2 ^ s + c : Nat) : Int)) rfl (by omega) (by omega) (Nat.le_trans hM hE.1)
      refine ⟨(H12, s11, ((x / 2 ^ (64 - s) : Nat) : Int), ((i + 1 : Nat) : Int)), ?_, _, _, rfl, rfl, hcar, by simp [hol], ?_, p3, hE.comp p4 (fun id hid _ hh => by have := hB id hh; omega), ?_, ?_⟩
      · unfold nat_shl_b0
        simp only
        rw [if_pos (by rw [ha.ro.len]; omega), g1]
        simp only [Option.bind_some]
        rw [g2]
        simp only [Option.bind_some]
        rw [if_neg (by omega), hor, p1]
        simp only [Option.bind_some]
        rw [show appS 4294967296 38 1 8 H10 s4 z = some (s11, H12) from p2]
        simp only [Option.bind_some]
        rw [hw, if_neg (by omega), hshr, wrap_next rfl (by omega)]
      · intro y hy
        rcases List.mem_append.1 hy with h | h
        · exact hlt y h
        · rw [List.mem_singleton.1 h]; show _ < 18446744073709551616; omega
      · intro id hh
        rcases p5 id hh with h | h
        · exact hB id h
        · exact Nat.le_trans hE.1 h
      · rw [val_snoc, hol, e1, Nat.add_mul (val W64 (xs.take i)), ← heq]
        have hdm : x / 2 ^ (64 - s) * W64 + x % 2 ^ (64 - s) * 2 ^ s = x * 2 ^ s := by
          rw [show W64 = 2 ^ (64 - s) * 2 ^ s from hsp.symm, ← Nat.mul_assoc, ← Nat.add_mul, Nat.div_add_mod']
        have e4 : x / 2 ^ (64 - s) * W64 ^ (i + 1) + (x % 2 ^ (64 - s) * 2 ^ s + c) * W64 ^ i = x * W64 ^ i * 2 ^ s + c * W64 ^ i := by
          rw [Nat.pow_succ, Nat.mul_comm (W64 ^ i) W64, ← Nat.mul_assoc, ← Nat.add_mul, ← Nat.add_assoc, hdm, Nat.add_mul, Nat.mul_assoc, Nat.mul_assoc, Nat.mul_comm (2 ^ s)]
        omega)
    (fun st hst => by
      obtain ⟨H3, s4, cv, v⟩ := st
      obtain ⟨out, c, rfl, rfl, hc, hol, hlt, hv, hE, hB, heq⟩ := hst
      rw [List.take_length] at heq
      refine ⟨_, ?_, out, c, rfl, hc, hol, hlt, hv, hE, hB, heq⟩
      unfold nat_shl_b0
      simp only
      rw [if_neg (by rw [ha.ro.len]; omega)])
    (s := (H2, s1, 0, 0)) ⟨[], 0, rfl, rfl, hS, rfl, by simp, m2', m3, (fun id hh => by have := m4 id hh; omega), by simp [val]⟩
  obtain ⟨H13, s14, cv, v⟩ := t
  obtain ⟨out, c, rfl, hc, hol, hlt, hv, hE, hB, heq⟩ := l2
  simp only at hv hE hB
  obtain ⟨z, H18, s19, H20, p1, p2, p3, p4, p5⟩ := hv.push (bytes := 8) c (v := (c : Int)) rfl (by omega) (by omega) (Nat.le_trans hM hE.1)
  have hzlt : ∀ x ∈ out ++ [c], x < W64 := by
    intro x hx
    rcases List.mem_append.1 hx with h | h
    · exact hlt x h
    · rw [List.mem_singleton.1 h]; show c < 18446744073709551616; omega
  refine ⟨s19, H20, out ++ [c], ?_, hE.comp p4 (fun id hid _ hh => by have := hB id hh; omega), ⟨p3.ro (by have : OPEN = 9223372036854775808 := rfl; simp; omega), hzlt, by simp; omega⟩, p3, fun id hh => ?_, by simp [hol], ?_⟩
  · unfold nat_shl
    rw [ha.ro.len, wrap_nat (n := xs.length + 1) (by omega) (by omega), show mkS 38 1 8 #[Value.int .u64 0] H 0 _ = some (s1, H2) from m1]
    simp only [Option.bind_some]
    rw [l1]
    simp only [Option.bind_some]
    rw [p1]
    simp only [Option.bind_some]
    rw [show appS 4294967296 38 1 8 H18 s14 z = some (s19, H20) from p2]
    simp only [Option.bind_some]
  · rcases p5 id hh with h | h
    · exact hB id h
    · exact Nat.le_trans hE.1 h
  · rw [val_snoc, hol, heq]

/-- A number moved down by fewer bits than a limb has. -/
theorem shr_spec {H : AH} {a : Sl3} {xs : List Nat} (ha : Nm H a xs) {s : Nat} (hs : s < 64) (hM : M0 ≤ H.next) :
    ∃ s' H', nat_shr H a (s : Int) = some (s', H') ∧ Ext H H' ∧ Nm H' s' (dig W64 (val W64 xs / 2 ^ s)) := by
  have hsm := ha.sm
  obtain ⟨x1, H2, c1, c2, c3, c4, c5⟩ := Clone_spec ha hM
  have hsp := pow_split (s := s) (by omega)
  have hT : 0 < 2 ^ (64 - s) := Nat.pow_pos (by omega)
  have hS : 0 < 2 ^ s := Nat.pow_pos (by omega)
  have hll := shrL_len 64 s xs
  have hlt : ∀ x ∈ shrL 64 s xs, x < W64 := shrL_lt (by decide) (by omega) ha.lt
  obtain ⟨t, l1, l2⟩ := loopO_to (body := nat_shr_b0 a (s : Int) x1) xs.length
    (fun i (st : AH × Int) => st.2 = (i : Int) ∧ Vec .u64 38 M0 st.1 ((shrL 64 s xs).take i ++ xs.drop i) x1 ∧ Ext H st.1)
    (Q := fun st => Vec .u64 38 M0 st.1 (shrL 64 s xs) x1 ∧ Ext H st.1)
    (fun i hi st hst => by
      obtain ⟨H3, v⟩ := st
      obtain ⟨rfl, hv, hE⟩ := hst
      simp only at hv hE
      have hx : xs[i] < 18446744073709551616 := ha.lt _ (List.getElem_mem hi)
      have hget := shrL_get 64 s xs i hi (by omega)
      have hlen : ((shrL 64 s xs).take i ++ xs.drop i).length = xs.length := by simp; omega
      have hat : ((shrL 64 s xs).take i ++ xs.drop i)[i]'(by omega) = xs[i] := by
        rw [List.getElem_append_right (by simp; omega)]
        simp only [List.length_take, hll, Nat.min_eq_left (Nat.le_of_lt hi), Nat.sub_self, List.getElem_drop, Nat.add_zero]
      have hset : ∀ u, ((shrL 64 s xs).take i ++ xs.drop i).set i u = (shrL 64 s xs).take i ++ u :: xs.drop (i + 1) := by
        intro u
        rw [List.drop_eq_getElem_cons hi, List.set_append_right _ _ (by simp; omega), show i - ((shrL 64 s xs).take i).length = 0 by simp; omega]
        rfl
      have hset2 : ∀ u w : Nat, ((shrL 64 s xs).take i ++ u :: xs.drop (i + 1)).set i w = (shrL 64 s xs).take i ++ w :: xs.drop (i + 1) := by
        intro u w
        rw [List.set_append_right _ _ (by simp; omega)]
        simp [hll, Nat.min_eq_left (Nat.le_of_lt hi)]
      have hnext : ∀ u, u = (shrL 64 s xs)[i]'(by omega) → (shrL 64 s xs).take i ++ u :: xs.drop (i + 1) = (shrL 64 s xs).take (i + 1) ++ xs.drop (i + 1) := by
        intro u hu
        rw [hu, List.take_succ_eq_append_getElem (by omega), List.append_assoc]
        rfl
      have hro := hv.ro (by have : OPEN = 9223372036854775808 := rfl; omega)
      obtain ⟨p6, g1, g2, g3⟩ := hro.get (i := i) (by omega) (v := (i : Int)) rfl
      rw [hat] at g2
      have hshr : ishr .u64 ((xs[i] : Nat) : Int) (s : Int) = ((xs[i] / 2 ^ s : Nat) : Int) := ishr_nat rfl rfl (show s ≤ 64 by omega)
      have hq : xs[i] / 2 ^ s < 2 ^ (64 - s) := by rw [Nat.div_lt_iff_lt_mul hS, hsp]; exact hx
      obtain ⟨p8, H9, w1, w2, w3, w4, w5⟩ := hv.set (i := i) (by omega) (xs[i] / 2 ^ s) (v := ((xs[i] / 2 ^ s : Nat) : Int)) rfl (w := (i : Int)) rfl
      have hpp : p8 = p6 := Option.some.inj (w1.symm.trans g1)
      subst hpp
      rw [hset] at w3
      have hE9 : Ext H H9 := hE.comp w4 (fun id hid _ hh => by have := c5 id hh; omega)
      have hinner : ∃ H5, (if (IntKind.i64.wrap ((i : Int) + 1)) < (x1.n : Int) then
            if belowSN H9.next x1 = true then
              Option.bind (idxA 1 x1 (i : Int)) fun p10 =>
              if belowN H9.next p10 = true then
                Option.bind (rd (deI .u64) H9 p10) fun x11 =>
                if belowSN H9.next a = true then
                  Option.bind (idxA 1 a (IntKind.i64.wrap ((i : Int) + 1))) fun p12 =>
                  if belowN H9.next p12 = true then
                    Option.bind (rd (deI .u64) H9 p12) fun x13 =>
                    if (IntKind.u64.wrap (64 - (s : Int))) < 0 then none else
                    Option.bind (idxA 1 x1 (i : Int)) fun p14 =>
                    if belowN H9.next p14 = true then
                      Option.bind (H9.setCell 4294967296 p14 (Value.int .u64 (ior .u64 x11 (ishl .u64 x13 (IntKind.u64.wrap (64 - (s : Int))))))) fun H15 =>
                      if H9.next ≤ H15.next then some H15 else none
                    else none
                  else none
                else none
              else none
            else none
          else some H9) = some H5 ∧ Vec .u64 38 M0 H5 ((shrL 64 s xs).take (i + 1) ++ xs.drop (i + 1)) x1 ∧ Ext H H5 := by
        rw [wrap_next rfl (by omega), c3.ro.len]
        by_cases hin : i + 1 < xs.length
        · have hy : xs[i + 1] < 18446744073709551616 := ha.lt _ (List.getElem_mem hin)
          have hlen9 : ((shrL 64 s xs).take i ++ xs[i] / 2 ^ s :: xs.drop (i + 1)).length = xs.length := by rw [← hset, List.length_set]; exact hlen
          have hro9 := w3.ro (by have : OPEN = 9223372036854775808 := rfl; omega)
          obtain ⟨p10, k1, k2, k3⟩ := hro9.get (i := i) (by omega) (v := (i : Int)) rfl
          have hat9 : ((shrL 64 s xs).take i ++ xs[i] / 2 ^ s :: xs.drop (i + 1))[i]'(by omega) = xs[i] / 2 ^ s := by
            rw [List.getElem_append_right (by simp; omega)]
            simp [hll, Nat.min_eq_left (Nat.le_of_lt hi)]
          rw [hat9] at k2
          obtain ⟨p12, j1, j2, j3⟩ := (ha.ext hE9).ro.get (i := i + 1) hin (v := ((i + 1 : Nat) : Int)) rfl
          have hw : IntKind.u64.wrap (64 - (s : Int)) = ((64 - s : Nat) : Int) := wrap_u64n (by omega) (by omega)
          have hcut : xs[i + 1] * 2 ^ (64 - s) % 18446744073709551616 = xs[i + 1] % 2 ^ s * 2 ^ (64 - s) := by
            rw [← hsp, Nat.mul_comm (2 ^ (64 - s)) (2 ^ s), Nat.mul_mod_mul_right]
          have hlow : xs[i + 1] % 2 ^ s * 2 ^ (64 - s) + 2 ^ (64 - s) ≤ 18446744073709551616 := by
            have := Nat.mul_le_mul_right (2 ^ (64 - s)) (Nat.mod_lt xs[i + 1] hS)
            rw [Nat.succ_mul, Nat.mul_comm (2 ^ s), hsp] at this
            exact this
          have hor : ior .u64 ((xs[i] / 2 ^ s : Nat) : Int) (ishl .u64 ((xs[i + 1] : Nat) : Int) ((64 - s : Nat) : Int)) = ((xs[i] / 2 ^ s + xs[i + 1] % 2 ^ s * 2 ^ (64 - s) : Nat) : Int) := by
            rw [ishl_nat rfl rfl (by omega), hcut]
            have := ior_nat (x := xs[i + 1] % 2 ^ s) (y := xs[i] / 2 ^ s) (s := 64 - s) rfl rfl (by omega) hq (by omega)
            rw [Nat.add_comm (xs[i] / 2 ^ s) _, ← this]
            unfold ior
            rw [BitVec.or_comm]
          have hval : xs[i] / 2 ^ s + xs[i + 1] % 2 ^ s * 2 ^ (64 - s) = (shrL 64 s xs)[i]'(by omega) := by
            rw [hget]
            simp only [List.getD, List.getElem?_eq_getElem hin, Option.getD_some]
          obtain ⟨p14, H15, u1, u2, u3, u4, u5⟩ := w3.set (i := i) (by omega) (xs[i] / 2 ^ s + xs[i + 1] % 2 ^ s * 2 ^ (64 - s)) (v := ((xs[i] / 2 ^ s + xs[i + 1] % 2 ^ s * 2 ^ (64 - s) : Nat) : Int)) rfl (w := (i : Int)) rfl
          have hp2 : p14 = p10 := Option.some.inj (u1.symm.trans k1)
          subst hp2
          rw [hset2, hnext _ hval] at u3
          refine ⟨H15, ?_, u3, hE9.comp u4 (fun id hid _ hh => by have := c5 id hh; omega)⟩
          rw [if_pos (by omega), if_pos (hro9.below (Nat.le_refl _)), k1]
          simp only [Option.bind_some]
          rw [if_pos (k3 _ (Nat.le_refl _)), k2]
          simp only [Option.bind_some]
          rw [if_pos ((ha.ext hE9).ro.below (Nat.le_refl _)), j1]
          simp only [Option.bind_some]
          rw [if_pos (j3 _ (Nat.le_refl _)), j2]
          simp only [Option.bind_some]
          rw [hw, if_neg (by omega), if_pos (k3 _ (Nat.le_refl _)), hor, show H9.setCell 4294967296 p14 _ = some H15 from u2]
          simp only [Option.bind_some]
          rw [if_pos (by omega)]
        · rw [if_neg (by omega)]
          refine ⟨H9, rfl, ?_, hE9⟩
          rw [hnext] at w3
          · exact w3
          · rw [hget]
            simp only [List.getD, List.getElem?_eq_none (show xs.length ≤ i + 1 by omega), Option.getD_none]
            simp
      obtain ⟨H5, q1, q2, q3⟩ := hinner
      refine ⟨(H5, ((i + 1 : Nat) : Int)), ?_, rfl, q2, q3⟩
      unfold nat_shr_b0
      simp only
      rw [if_pos (by rw [c3.ro.len]; omega), g1]
      simp only [Option.bind_some]
      rw [g2]
      simp only [Option.bind_some]
      rw [if_neg (by omega), hshr, show H3.setCell 4294967296 p8 _ = some H9 from w2]
      simp only [Option.bind_some]
      rw [g1] at q1
      simp only [Option.bind_some] at q1
      rw [q1]
      simp only [Option.bind_some]
      rw [wrap_next rfl (by omega)])
    (fun st hst => by
      obtain ⟨H3, v⟩ := st
      obtain ⟨rfl, hv, hE⟩ := hst
      rw [List.take_of_length_le (by omega), List.drop_length, List.append_nil] at hv
      refine ⟨_, ?_, hv, hE⟩
      unfold nat_shr_b0
      simp only
      rw [if_neg (by rw [c3.ro.len]; omega)])
    (s := (H2, 0)) ⟨rfl, by simpa using c4, c2⟩
  obtain ⟨H16, v⟩ := t
  obtain ⟨hv, hE⟩ := l2
  simp only at hv hE
  have hN : Nm H16 x1 (shrL 64 s xs) := ⟨hv.ro (by have : OPEN = 9223372036854775808 := rfl; omega), hlt, by omega⟩
  obtain ⟨x18, t1, t2, _, _⟩ := trim_spec hN
  rw [val_shrL (by decide) (by omega)] at t2
  refine ⟨x18, H16, ?_, hE, t2⟩
  unfold nat_shr
  rw [c1]
  simp only [Option.bind_some]
  rw [l1]
  simp only [Option.bind_some]
  rw [t1]
  simp only [Option.bind_some]

end Go.Proofs.Ytoadagekdnkciaa


namespace Go.Proofs.Ytoadagekdnkciaa
open Go Go.Abs
set_option maxRecDepth 10000

theorem dig_len_mul {B : Nat} (hB : 2 ≤ B) (N : Nat) {m : Nat} (hm : m ≤ B) (hm0 : 0 < m) : (dig B (N * m)).length ≤ (dig B N).length + 1 := by
  rw [dig_len hB, Nat.pow_succ]
  have h := (dig_len hB N (dig B N).length).1 (Nat.le_refl _)
  have h1 : N * m < B ^ (dig B N).length * m := Nat.mul_lt_mul_of_pos_right h hm0
  exact Nat.lt_of_lt_of_le h1 (Nat.mul_le_mul_left _ hm)

theorem val_drop {B : Nat} (hB : 2 ≤ B) {l : List Nat} (hl : ∀ x ∈ l, x < B) (q : Nat) (hq : q ≤ l.length) : val B (l.drop q) = val B l / B ^ q := by
  have h1 : val B (l.take q) < B ^ q := by
    have := val_lt hB (l.take q) fun x hm => hl x (List.mem_of_mem_take hm)
    rwa [List.length_take, Nat.min_eq_left hq] at this
  conv => rhs; rw [← List.take_append_drop q l, val_append, List.length_take, Nat.min_eq_left hq]
  rw [Nat.add_mul_div_left _ _ (by omega), Nat.div_eq_of_lt h1, Nat.zero_add]

theorem pow16' (k : Nat) : W16 ^ (k / 16) * 2 ^ (k % 16) = 2 ^ k := by
  rw [show W16 = 2 ^ 16 by decide, ← Nat.pow_mul, ← Nat.pow_add]
  congr 1
  omega

theorem ior32 {x s y : Nat} {v w : Int} (hv : v = ((x * 2 ^ s : Nat) : Int)) (hw : w = y) (hx : x * 2 ^ s + 2 ^ s ≤ 4294967296) (hy : y < 2 ^ s) : ior .u32 w v = ((x * 2 ^ s + y : Nat) : Int) := by
  subst hv
  subst hw
  unfold ior
  have h1 : (BitVec.ofInt IntKind.u32.bits (y : Int) ||| BitVec.ofInt IntKind.u32.bits ((x * 2 ^ s : Nat) : Int)).toNat = x * 2 ^ s + y := by
    rw [BitVec.or_comm, BitVec.toNat_or, ofInt_nat, ofInt_nat]
    show (x * 2 ^ s) % 4294967296 ||| y % 4294967296 = _
    rw [Nat.mod_eq_of_lt (by omega), Nat.mod_eq_of_lt (by omega), Nat.mul_comm x, ← Nat.two_pow_add_eq_or_of_lt hy]
  rw [h1]
  exact wrap_u32 (by omega) (by omega)

end Go.Proofs.Ytoadagekdnkciaa


namespace Go.Proofs.Ytoadagekdnkciaa
open Go Go.Abs
set_option maxRecDepth 10000

theorem Bits.zero {n : Nat} (h : Bits 0 n) : n = 0 := Bits.uniq h ⟨by decide, .inl rfl⟩

end Go.Proofs.Ytoadagekdnkciaa


namespace Go.Proofs.Ytoadagekdnkciaa
open Go Go.Abs
set_option maxRecDepth 10000

theorem wrap_over {x : Nat} (h : 18446744073709551616 ≤ x) (h' : x < 36893488147419103232) : x % 18446744073709551616 = x - 18446744073709551616 := by omega

theorem dig_up {A q v1 v0 u0 W : Nat} (h : (A + 1) * W ≤ (q + 1) * v1 * W) (hu : u0 < W) : A * W + u0 < (q + 1) * (v1 * W + v0) := by
  rw [Nat.mul_add, ← Nat.mul_assoc]
  rw [Nat.add_mul, Nat.one_mul] at h
  omega

/-- A digit of a quotient, guessed by three limbs and two. -/
theorem digit_spec {H : AH} {u2 u1 u0 v1 v0 : Nat} (h2 : u2 ≤ v1) (hu1 : u1 < 18446744073709551616) (hu0 : u0 < 18446744073709551616) (hv1 : v1 < 18446744073709551616) (hv1p : 0 < v1) (hv0 : v0 < 18446744073709551616) :
    ∃ q : Nat, nat_digit H (u2 : Int) (u1 : Int) (u0 : Int) (v1 : Int) (v0 : Int) = some (q : Int) ∧ q < 18446744073709551616 ∧ q * (v1 * 18446744073709551616 + v0) ≤ (u2 * 18446744073709551616 + u1) * 18446744073709551616 + u0 ∧
      (q = 18446744073709551615 ∨ (u2 * 18446744073709551616 + u1) * 18446744073709551616 + u0 < (q + 1) * (v1 * 18446744073709551616 + v0)) := by
  -- what a guess and its rest say
  have hiff : ∀ q r : Nat, q * v1 + r = u2 * 18446744073709551616 + u1 → (q * v0 ≤ r * 18446744073709551616 + u0 ↔ q * (v1 * 18446744073709551616 + v0) ≤ (u2 * 18446744073709551616 + u1) * 18446744073709551616 + u0) := by
    intro q r h
    rw [← h, Nat.mul_add, ← Nat.mul_assoc, Nat.add_mul]
    omega
  have hover : ∀ q r : Nat, q < 18446744073709551616 → 18446744073709551616 ≤ r → q * v0 ≤ r * 18446744073709551616 + u0 := by
    intro q r hq hr
    have h1 := Nat.mul_le_mul (show q ≤ 18446744073709551615 by omega) (show v0 ≤ 18446744073709551615 by omega)
    have h2 := Nat.mul_le_mul_right 18446744073709551616 hr
    omega
  have loop : ∀ q r : Nat, q < 18446744073709551616 → r < 18446744073709551616 → q * v1 + r = u2 * 18446744073709551616 + u1 →
      (q = 18446744073709551615 ∨ (u2 * 18446744073709551616 + u1) * 18446744073709551616 + u0 < (q + 1) * (v1 * 18446744073709551616 + v0)) →
      ∃ q' : Nat, loopO (nat_digit_b0 H (u0 : Int) (v1 : Int) (v0 : Int)) ((q : Int), (r : Int)) = some (.inr (q' : Int)) ∧ q' < 18446744073709551616 ∧ q' * (v1 * 18446744073709551616 + v0) ≤ (u2 * 18446744073709551616 + u1) * 18446744073709551616 + u0 ∧
        (q' = 18446744073709551615 ∨ (u2 * 18446744073709551616 + u1) * 18446744073709551616 + u0 < (q' + 1) * (v1 * 18446744073709551616 + v0)) := by
    intro q
    induction q with
    | zero =>
      intro r _ hr heq hup
      refine ⟨0, loopO_ret ?_, by omega, by rw [Nat.zero_mul]; exact Nat.zero_le _, hup⟩
      unfold nat_digit_b0
      simp only
      rw [Mul64_spec (by omega) hv0]
      simp only [Option.bind_some, Nat.zero_mul, Nat.zero_div, Nat.zero_mod]
      by_cases h0 : r = 0
      · rw [if_neg (by omega), if_pos (by omega), if_pos (by omega)]
        rfl
      · rw [if_pos (by omega)]
        rfl
    | succ q ih =>
      intro r hq hr heq hup
      have hmul : bits_Mul64 ((q + 1 : Nat) : Int) (v0 : Int) = some ((((q + 1) * v0 / 18446744073709551616 : Nat) : Int), (((q + 1) * v0 % 18446744073709551616 : Nat) : Int)) := Mul64_spec (x := q + 1) (y := v0) hq hv0
      have hdm := Nat.div_add_mod ((q + 1) * v0) 18446744073709551616
      have hml := Nat.mod_lt ((q + 1) * v0) (show 18446744073709551616 > 0 by decide)
      by_cases hle : (q + 1) * v0 ≤ r * 18446744073709551616 + u0
      · refine ⟨q + 1, loopO_ret ?_, hq, (hiff _ _ heq).1 hle, hup⟩
        unfold nat_digit_b0
        simp only
        rw [hmul]
        simp only [Option.bind_some]
        by_cases c1 : (q + 1) * v0 / 18446744073709551616 < r
        · rw [if_pos (by omega)]
          rfl
        · rw [if_neg (by omega), if_pos (by omega), if_pos (by omega)]
          rfl
      · have hup' : (u2 * 18446744073709551616 + u1) * 18446744073709551616 + u0 < (q + 1) * (v1 * 18446744073709551616 + v0) := Nat.lt_of_not_le fun hh => hle ((hiff _ _ heq).2 hh)
        have heq' : q * v1 + (r + v1) = u2 * 18446744073709551616 + u1 := by
          rw [← heq, Nat.add_mul, Nat.one_mul]
          omega
        have hwq : IntKind.u64.wrap (((q + 1 : Nat) : Int) - 1) = (q : Int) := wrap_u64n (by omega) (by omega)
        have hcond : (if (((q + 1) * v0 / 18446744073709551616 : Nat) : Int) < (r : Int) then
              ((some (Lp.ret ((q + 1 : Nat) : Int))).map .inr)
            else
              if (((q + 1) * v0 / 18446744073709551616 : Nat) : Int) = (r : Int) then
                if (((q + 1) * v0 % 18446744073709551616 : Nat) : Int) ≤ (u0 : Int) then
                  ((some (Lp.ret ((q + 1 : Nat) : Int))).map .inr)
                else
                  some (.inl ())
              else
                some (.inl ())) = (some (.inl ()) : Option (Unit ⊕ (Lp (Int × Int) Int))) := by
          by_cases c1 : (q + 1) * v0 / 18446744073709551616 = r
          · rw [if_neg (by omega), if_pos (by omega), if_neg (by omega)]
          · rw [if_neg (by omega), if_neg (by omega)]
        by_cases ho : r + v1 < 18446744073709551616
        · have hw : IntKind.u64.wrap ((r : Int) + (v1 : Int)) = ((r + v1 : Nat) : Int) := wrap_u64n (by omega) ho
          have hb : nat_digit_b0 H (u0 : Int) (v1 : Int) (v0 : Int) (((q + 1 : Nat) : Int), (r : Int)) = some (.next ((q : Int), ((r + v1 : Nat) : Int))) := by
            unfold nat_digit_b0
            simp only
            rw [hmul]
            simp only [Option.bind_some]
            rw [hcond]
            simp only [Option.bind_some]
            rw [hw, if_neg (by omega), hwq]
          rw [loopO_next hb]
          exact ih (r + v1) (by omega) ho heq' (.inr hup')
        · have hw : IntKind.u64.wrap ((r : Int) + (v1 : Int)) = ((r + v1 - 18446744073709551616 : Nat) : Int) := by
            rw [← Int.natCast_add, wrap_u64m, wrap_over (by omega) (by omega)]
          have hb : nat_digit_b0 H (u0 : Int) (v1 : Int) (v0 : Int) (((q + 1 : Nat) : Int), (r : Int)) = some (.ret (q : Int)) := by
            unfold nat_digit_b0
            simp only
            rw [hmul]
            simp only [Option.bind_some]
            rw [hcond]
            simp only [Option.bind_some]
            rw [hw, if_pos (by omega), hwq]
          exact ⟨q, loopO_ret hb, by omega, (hiff _ _ heq').1 (hover q (r + v1) (by omega) (by omega)), .inr hup'⟩
  unfold nat_digit
  by_cases hge : u2 = v1
  · rw [if_pos (by omega)]
    have heq : 18446744073709551615 * v1 + (u1 + v1) = u2 * 18446744073709551616 + u1 := by omega
    by_cases ho : u1 + v1 < 18446744073709551616
    · rw [show IntKind.u64.wrap ((u1 : Int) + (v1 : Int)) = ((u1 + v1 : Nat) : Int) from wrap_u64n (by omega) ho, if_neg (by omega)]
      simp only [Option.bind_some]
      obtain ⟨q', l1, l2, l3, l4⟩ := loop 18446744073709551615 (u1 + v1) (by omega) ho heq (.inl rfl)
      rw [show ((18446744073709551615 : Int), ((u1 + v1 : Nat) : Int)) = (((18446744073709551615 : Nat) : Int), ((u1 + v1 : Nat) : Int)) from rfl, l1]
      simp only [Option.bind_some]
      exact ⟨q', rfl, l2, l3, l4⟩
    · rw [show IntKind.u64.wrap ((u1 : Int) + (v1 : Int)) = ((u1 + v1 - 18446744073709551616 : Nat) : Int) by
        rw [← Int.natCast_add, wrap_u64m, wrap_over (by omega) (by omega)], if_pos (by omega)]
      simp only [Option.map_some, Option.bind_some]
      exact ⟨18446744073709551615, rfl, by omega, (hiff _ _ heq).1 (hover _ _ (by omega) (by omega)), .inl rfl⟩
  · rw [if_neg (by omega), Div64_spec hv1 hu1 (by omega)]
    simp only [Option.bind_some]
    have hdm := Nat.div_add_mod (u2 * 18446744073709551616 + u1) v1
    have hml := Nat.mod_lt (u2 * 18446744073709551616 + u1) hv1p
    have hql : (u2 * 18446744073709551616 + u1) / v1 < 18446744073709551616 := by
      rw [Nat.div_lt_iff_lt_mul hv1p]
      omega
    rw [Nat.mul_comm] at hdm
    obtain ⟨q', l1, l2, l3, l4⟩ := loop ((u2 * 18446744073709551616 + u1) / v1) ((u2 * 18446744073709551616 + u1) % v1) hql (by omega) hdm (.inr (by
      have h3 : u2 * 18446744073709551616 + u1 < ((u2 * 18446744073709551616 + u1) / v1 + 1) * v1 := by rw [Nat.add_mul, Nat.one_mul]; omega
      have h4 := Nat.mul_le_mul_right 18446744073709551616 (show u2 * 18446744073709551616 + u1 + 1 ≤ ((u2 * 18446744073709551616 + u1) / v1 + 1) * v1 by omega)
      exact dig_up h4 hu0))
    rw [l1]
    simp only [Option.bind_some]
    exact ⟨q', rfl, l2, l3, l4⟩

end Go.Proofs.Ytoadagekdnkciaa


namespace Go.Proofs.Ytoadagekdnkciaa
open Go Go.Abs
set_option maxRecDepth 10000

theorem Nm.frW {H H' : AH} {s x : Sl3} {xs : List Nat} (h : Nm H s xs) (hf : Fr (blkIs x) H H') (hw : ∀ id, blkIs s id → ¬ blkIs x id) : Nm H' s xs :=
  ⟨h.ro.fr hf fun a ha => hw a.block ⟨a, ha, rfl⟩, h.lt, h.sm⟩

theorem drop_set_lt {l : List Nat} {i n v : Nat} (h : i < n) : (l.set i v).drop n = l.drop n := by
  apply List.ext_getElem?
  intro j
  rw [List.getElem?_drop, List.getElem?_drop, List.getElem?_set_ne (by omega)]

theorem drop_more {l m : List Nat} {i j : Nat} (h : l.drop i = m.drop i) (hij : i ≤ j) : l.drop j = m.drop j := by
  have : j = i + (j - i) := by omega
  rw [this, ← List.drop_drop, ← List.drop_drop, h]

/-- A multiple taken off, in a window. -/
theorem less_spec {H : AH} {x v s : Sl3} {us vs : List Nat} (hv : Vec .u64 38 M0 H us x) (hus : ∀ u ∈ us, u < W64) (hl : us.length ≤ 1099511627776) (hb : Nm H v vs) (hdis : ∀ id, blkIs v id → ¬ blkIs x id) {i d : Nat}
    (hi : i + vs.length < us.length) (hd : d < 18446744073709551616) (hwin : ∀ j : Nat, j < vs.length + 1 → idxA 1 s (j : Int) = idxA 1 x ((i + j : Nat) : Int)) :
    ∃ (b : Bool) (H' : AH) (us' : List Nat), nat_less H s v (d : Int) = some (b, H') ∧ Vec .u64 38 M0 H' us' x ∧ Fr (blkIs x) H H' ∧ H'.next = H.next ∧ us'.length = us.length ∧ (∀ u ∈ us', u < W64) ∧
      us'.drop (i + vs.length + 1) = us.drop (i + vs.length + 1) ∧ val W64 us' + d * val W64 vs * W64 ^ i = val W64 us + (if b then 1 else 0) * W64 ^ (i + vs.length + 1) := by
  have hOP : OPEN = 9223372036854775808 := rfl
  obtain ⟨t, l1, l2⟩ := loopO_to (body := nat_less_b0 s v (d : Int)) vs.length
    (fun j (st : AH × Int × Int × Int) => ∃ (us1 : List Nat) (br cr : Nat), st.2.1 = (br : Int) ∧ st.2.2.1 = (cr : Int) ∧ st.2.2.2 = (j : Int) ∧ br ≤ 1 ∧ cr < 18446744073709551616 ∧ Vec .u64 38 M0 st.1 us1 x ∧ Fr (blkIs x) H st.1 ∧ st.1.next = H.next ∧
      us1.length = us.length ∧ (∀ u ∈ us1, u < W64) ∧ us1.drop (i + j) = us.drop (i + j) ∧ val W64 us1 + d * val W64 (vs.take j) * W64 ^ i = val W64 us + (cr + br) * W64 ^ (i + j))
    (Q := fun st => ∃ (us1 : List Nat) (br cr : Nat), st.2.1 = (br : Int) ∧ st.2.2.1 = (cr : Int) ∧ br ≤ 1 ∧ cr < 18446744073709551616 ∧ Vec .u64 38 M0 st.1 us1 x ∧ Fr (blkIs x) H st.1 ∧ st.1.next = H.next ∧
      us1.length = us.length ∧ (∀ u ∈ us1, u < W64) ∧ us1.drop (i + vs.length) = us.drop (i + vs.length) ∧ val W64 us1 + d * val W64 vs * W64 ^ i = val W64 us + (cr + br) * W64 ^ (i + vs.length))
    (fun j hj st hst => by
      obtain ⟨H1, bv, cv, jv⟩ := st
      obtain ⟨us1, br, cr, rfl, rfl, rfl, hbr, hcr, hv1, hF, hnx, hlen, hlt, hdrop, heq⟩ := hst
      simp only at hv1 hF hnx
      have hij : i + j < us1.length := by omega
      have hb1 := hb.frW hF hdis
      obtain ⟨p5, g1, g2, _⟩ := hb1.ro.get hj rfl
      have hy : vs[j] < 18446744073709551616 := hb.lt _ (List.getElem_mem hj)
      obtain ⟨p11, k1, k2, _⟩ := (hv1.ro (by omega)).get hij (v := ((i + j : Nat) : Int)) rfl
      have hu : us1[i + j] < 18446744073709551616 := hlt _ (List.getElem_mem hij)
      have e1 := val_take_succ (B := W64) vs j hj
      have hw := hwin j (by omega)
      generalize vs[j] = y at *
      generalize hu0 : us1[i + j] = u at *
      have hdy := Nat.mul_le_mul (show d ≤ 18446744073709551615 by omega) (show y ≤ 18446744073709551615 by omega)
      have hm1 := Nat.div_add_mod (d * y) 18446744073709551616
      have hm2 := Nat.mod_lt (d * y) (show 18446744073709551616 > 0 by decide)
      have hmul : bits_Mul64 (d : Int) (y : Int) = some (((d * y / 18446744073709551616 : Nat) : Int), ((d * y % 18446744073709551616 : Nat) : Int)) := Mul64_spec hd hy
      generalize hhi : d * y / 18446744073709551616 = hi at *
      generalize hlo : d * y % 18446744073709551616 = lo at *
      have hadd := add64_nat (x := lo) (y := cr) (c := 0) (vx := (lo : Int)) (vy := (cr : Int)) (vc := 0) rfl rfl rfl (by omega)
      rw [Nat.add_zero] at hadd
      have hm3 := Nat.div_add_mod (lo + cr) 18446744073709551616
      have hm4 := Nat.mod_lt (lo + cr) (show 18446744073709551616 > 0 by decide)
      generalize hov : (lo + cr) / 18446744073709551616 = ov at *
      generalize hlo2 : (lo + cr) % 18446744073709551616 = lo2 at *
      have hsub := sub64_nat (x := u) (y := lo2) (c := br) (vx := (u : Int)) (vy := (lo2 : Int)) (vc := (br : Int)) rfl rfl rfl hbr
      generalize hbb : (if u < lo2 + br then 1 else 0 : Nat) = br' at *
      have hstep : (u + 18446744073709551616 - lo2 - br) % 18446744073709551616 + lo2 + br = u + br' * 18446744073709551616 ∧ br' ≤ 1 := by
        by_cases h : u < lo2 + br
        · rw [if_pos h] at hbb; omega
        · rw [if_neg h] at hbb; omega
      have hnlt := Nat.mod_lt (u + 18446744073709551616 - lo2 - br) (show 18446744073709551616 > 0 by decide)
      generalize hnu : (u + 18446744073709551616 - lo2 - br) % 18446744073709551616 = nu at *
      have hcr' : hi + ov < 18446744073709551616 := by omega
      have hwr : IntKind.u64.wrap ((hi : Int) + (ov : Int)) = ((hi + ov : Nat) : Int) := wrap_u64n (by omega) hcr'
      obtain ⟨p15, H16, w1, w2, w3, w4, w5⟩ := hv1.set hij nu (v := (nu : Int)) rfl (w := ((i + j : Nat) : Int)) rfl
      have hpp : p15 = p11 := Option.some.inj (w1.symm.trans k1)
      subst hpp
      refine ⟨(H16, (br' : Int), ((hi + ov : Nat) : Int), ((j + 1 : Nat) : Int)), ?_, us1.set (i + j) nu, br', hi + ov, rfl, rfl, rfl, hstep.2, hcr', w3, hF.comp w4 (fun _ _ h => h), by show H16.next = H.next; omega, by rw [List.length_set]; exact hlen, mem_set_lt hlt hnlt, ?_, ?_⟩
      · unfold nat_less_b0
        simp only
        rw [if_pos (by rw [hb.ro.len]; omega), g1]
        simp only [Option.bind_some]
        rw [g2]
        simp only [Option.bind_some]
        rw [hmul]
        simp only [Option.bind_some]
        rw [hadd]
        simp only [Option.bind_some]
        rw [hw, k1]
        simp only [Option.bind_some]
        rw [k2]
        simp only [Option.bind_some]
        rw [hsub]
        simp only [Option.bind_some]
        rw [show H1.setCell 4294967296 p15 _ = some H16 from w2]
        simp only [Option.bind_some]
        rw [hwr, wrap_next rfl (by omega)]
      · rw [drop_set_lt (by omega)]
        exact drop_more hdrop (by omega)
      · have e2 := val_set (B := W64) us1 (i + j) nu hij
        rw [hu0] at e2
        have e3 : d * (val W64 (vs.take j) + y * W64 ^ j) * W64 ^ i = d * val W64 (vs.take j) * W64 ^ i + d * y * W64 ^ (i + j) := by
          rw [Nat.mul_add, Nat.add_mul, Nat.pow_add, Nat.mul_comm (W64 ^ i) (W64 ^ j)]
          simp only [Nat.mul_assoc]
        have e4 : nu * W64 ^ (i + j) + d * y * W64 ^ (i + j) + (cr + br) * W64 ^ (i + j) = u * W64 ^ (i + j) + (hi + ov + br') * W64 ^ (i + (j + 1)) := by
          rw [show i + (j + 1) = i + j + 1 by omega, Nat.pow_succ, Nat.mul_comm (W64 ^ (i + j)) W64, ← Nat.mul_assoc, ← Nat.add_mul, ← Nat.add_mul, ← Nat.add_mul]
          congr 1
          show _ = u + (hi + ov + br') * 18446744073709551616
          omega
        rw [e1, e3]
        omega)
    (fun st hst => by
      obtain ⟨H1, bv, cv, jv⟩ := st
      obtain ⟨us1, br, cr, rfl, rfl, rfl, hbr, hcr, hv1, hF, hnx, hlen, hlt, hdrop, heq⟩ := hst
      rw [List.take_length] at heq
      refine ⟨_, ?_, us1, br, cr, rfl, rfl, hbr, hcr, hv1, hF, hnx, hlen, hlt, hdrop, heq⟩
      unfold nat_less_b0
      simp only
      rw [if_neg (by rw [hb.ro.len]; omega)])
    (s := (H, 0, 0, 0)) ⟨us, 0, 0, rfl, rfl, rfl, by omega, by omega, hv, Fr.refl _ _, rfl, rfl, hus, rfl, by simp [val]⟩
  obtain ⟨H17, bv, cv, jv⟩ := t
  obtain ⟨us1, br, cr, rfl, rfl, hbr, hcr, hv1, hF, hnx, hlen, hlt, hdrop, heq⟩ := l2
  simp only at hv1 hF hnx
  have hij : i + vs.length < us1.length := by omega
  obtain ⟨p21, k1, k2, _⟩ := (hv1.ro (by omega)).get hij (v := ((i + vs.length : Nat) : Int)) rfl
  have hu : us1[i + vs.length] < 18446744073709551616 := hlt _ (List.getElem_mem hij)
  have e2 := fun nu => val_set (B := W64) us1 (i + vs.length) nu hij
  generalize us1[i + vs.length] = u at *
  have hsub := sub64_nat (x := u) (y := cr) (c := br) (vx := (u : Int)) (vy := (cr : Int)) (vc := (br : Int)) rfl rfl rfl hbr
  generalize hbb : (if u < cr + br then 1 else 0 : Nat) = br' at *
  have hstep : (u + 18446744073709551616 - cr - br) % 18446744073709551616 + cr + br = u + br' * 18446744073709551616 ∧ br' ≤ 1 := by
    by_cases h : u < cr + br
    · rw [if_pos h] at hbb; omega
    · rw [if_neg h] at hbb; omega
  have hnlt := Nat.mod_lt (u + 18446744073709551616 - cr - br) (show 18446744073709551616 > 0 by decide)
  generalize hnu : (u + 18446744073709551616 - cr - br) % 18446744073709551616 = nu at *
  obtain ⟨p25, H26, w1, w2, w3, w4, w5⟩ := hv1.set hij nu (v := (nu : Int)) rfl (w := ((i + vs.length : Nat) : Int)) rfl
  have hpp : p25 = p21 := Option.some.inj (w1.symm.trans k1)
  subst hpp
  have hw := hwin vs.length (by omega)
  refine ⟨!decide ((br' : Int) = 0), H26, us1.set (i + vs.length) nu, ?_, w3, hF.comp w4 (fun _ _ h => h), by omega, by rw [List.length_set]; exact hlen, mem_set_lt hlt hnlt, ?_, ?_⟩
  · unfold nat_less
    rw [l1]
    simp only [Option.bind_some]
    rw [hb.ro.len, hw, k1]
    simp only [Option.bind_some]
    rw [k2]
    simp only [Option.bind_some]
    rw [hsub]
    simp only [Option.bind_some]
    rw [show H17.setCell 4294967296 p25 _ = some H26 from w2]
    simp only [Option.bind_some]
  · rw [drop_set_lt (by omega)]
    exact drop_more hdrop (by omega)
  · have e3 := e2 nu
    have hb' : (if (!decide ((br' : Int) = 0)) = true then 1 else 0 : Nat) = br' := by
      by_cases h : br' = 0
      · subst h; rfl
      · have : br' = 1 := by omega
        subst this; rfl
    rw [hb']
    have e4 : nu * W64 ^ (i + vs.length) + (cr + br) * W64 ^ (i + vs.length) = u * W64 ^ (i + vs.length) + br' * W64 ^ (i + vs.length + 1) := by
      rw [Nat.pow_succ, Nat.mul_comm (W64 ^ (i + vs.length)) W64, ← Nat.mul_assoc, ← Nat.add_mul, ← Nat.add_mul]
      congr 1
      show _ = u + br' * 18446744073709551616
      omega
    omega

/-- A number put back, in a window. -/
theorem more_spec {H : AH} {x v s : Sl3} {us vs : List Nat} (hv : Vec .u64 38 M0 H us x) (hus : ∀ u ∈ us, u < W64) (hl : us.length ≤ 1099511627776) (hb : Nm H v vs) (hdis : ∀ id, blkIs v id → ¬ blkIs x id) {i : Nat}
    (hi : i + vs.length < us.length) (hwin : ∀ j : Nat, j < vs.length + 1 → idxA 1 s (j : Int) = idxA 1 x ((i + j : Nat) : Int)) :
    ∃ (cc : Nat) (H' : AH) (us' : List Nat), nat_more H s v = some H' ∧ Vec .u64 38 M0 H' us' x ∧ Fr (blkIs x) H H' ∧ H'.next = H.next ∧ us'.length = us.length ∧ (∀ u ∈ us', u < W64) ∧
      us'.drop (i + vs.length + 1) = us.drop (i + vs.length + 1) ∧ cc ≤ 1 ∧ val W64 us' + cc * W64 ^ (i + vs.length + 1) = val W64 us + val W64 vs * W64 ^ i := by
  have hOP : OPEN = 9223372036854775808 := rfl
  obtain ⟨t, l1, l2⟩ := loopO_to (body := nat_more_b0 s v) vs.length
    (fun j (st : AH × Int × Int) => ∃ (us1 : List Nat) (cr : Nat), st.2.1 = (cr : Int) ∧ st.2.2 = (j : Int) ∧ cr ≤ 1 ∧ Vec .u64 38 M0 st.1 us1 x ∧ Fr (blkIs x) H st.1 ∧ st.1.next = H.next ∧
      us1.length = us.length ∧ (∀ u ∈ us1, u < W64) ∧ us1.drop (i + j) = us.drop (i + j) ∧ val W64 us1 + cr * W64 ^ (i + j) = val W64 us + val W64 (vs.take j) * W64 ^ i)
    (Q := fun st => ∃ (us1 : List Nat) (cr : Nat), st.2.1 = (cr : Int) ∧ cr ≤ 1 ∧ Vec .u64 38 M0 st.1 us1 x ∧ Fr (blkIs x) H st.1 ∧ st.1.next = H.next ∧
      us1.length = us.length ∧ (∀ u ∈ us1, u < W64) ∧ us1.drop (i + vs.length) = us.drop (i + vs.length) ∧ val W64 us1 + cr * W64 ^ (i + vs.length) = val W64 us + val W64 vs * W64 ^ i)
    (fun j hj st hst => by
      obtain ⟨H1, cv, jv⟩ := st
      obtain ⟨us1, cr, rfl, rfl, hcr, hv1, hF, hnx, hlen, hlt, hdrop, heq⟩ := hst
      simp only at hv1 hF hnx
      have hij : i + j < us1.length := by omega
      have hb1 := hb.frW hF hdis
      obtain ⟨p5, g1, g2, _⟩ := hb1.ro.get hj rfl
      have hy : vs[j] < 18446744073709551616 := hb.lt _ (List.getElem_mem hj)
      obtain ⟨p11, k1, k2, _⟩ := (hv1.ro (by omega)).get hij (v := ((i + j : Nat) : Int)) rfl
      have hu : us1[i + j] < 18446744073709551616 := hlt _ (List.getElem_mem hij)
      have e1 := val_take_succ (B := W64) vs j hj
      have hw := hwin j (by omega)
      generalize vs[j] = y at *
      generalize hu0 : us1[i + j] = u at *
      have hadd := add64_nat (x := u) (y := y) (c := cr) (vx := (u : Int)) (vy := (y : Int)) (vc := (cr : Int)) rfl rfl rfl hcr
      have hm3 := Nat.div_add_mod (u + y + cr) 18446744073709551616
      have hm4 := Nat.mod_lt (u + y + cr) (show 18446744073709551616 > 0 by decide)
      have hov1 : (u + y + cr) / 18446744073709551616 ≤ 1 := by omega
      generalize hov : (u + y + cr) / 18446744073709551616 = ov at *
      generalize hnu : (u + y + cr) % 18446744073709551616 = nu at *
      obtain ⟨p15, H16, w1, w2, w3, w4, w5⟩ := hv1.set hij nu (v := (nu : Int)) rfl (w := ((i + j : Nat) : Int)) rfl
      have hpp : p15 = p11 := Option.some.inj (w1.symm.trans k1)
      subst hpp
      refine ⟨(H16, (ov : Int), ((j + 1 : Nat) : Int)), ?_, us1.set (i + j) nu, ov, rfl, rfl, hov1, w3, hF.comp w4 (fun _ _ h => h), by show H16.next = H.next; omega, by rw [List.length_set]; exact hlen, mem_set_lt hlt hm4, ?_, ?_⟩
      · unfold nat_more_b0
        simp only
        rw [if_pos (by rw [hb.ro.len]; omega), g1]
        simp only [Option.bind_some]
        rw [g2]
        simp only [Option.bind_some]
        rw [hw, k1]
        simp only [Option.bind_some]
        rw [k2]
        simp only [Option.bind_some]
        rw [hadd]
        simp only [Option.bind_some]
        rw [show H1.setCell 4294967296 p15 _ = some H16 from w2]
        simp only [Option.bind_some]
        rw [wrap_next rfl (by omega)]
      · rw [drop_set_lt (by omega)]
        exact drop_more hdrop (by omega)
      · have e2 := val_set (B := W64) us1 (i + j) nu hij
        rw [hu0] at e2
        have e3 : (val W64 (vs.take j) + y * W64 ^ j) * W64 ^ i = val W64 (vs.take j) * W64 ^ i + y * W64 ^ (i + j) := by
          rw [Nat.add_mul, Nat.pow_add, Nat.mul_comm (W64 ^ i) (W64 ^ j), Nat.mul_assoc]
        have e4 : nu * W64 ^ (i + j) + ov * W64 ^ (i + (j + 1)) = u * W64 ^ (i + j) + y * W64 ^ (i + j) + cr * W64 ^ (i + j) := by
          rw [show i + (j + 1) = i + j + 1 by omega, Nat.pow_succ, Nat.mul_comm (W64 ^ (i + j)) W64, ← Nat.mul_assoc, ← Nat.add_mul, ← Nat.add_mul, ← Nat.add_mul]
          congr 1
          show nu + ov * 18446744073709551616 = _
          omega
        rw [e1, e3]
        omega)
    (fun st hst => by
      obtain ⟨H1, cv, jv⟩ := st
      obtain ⟨us1, cr, rfl, rfl, hcr, hv1, hF, hnx, hlen, hlt, hdrop, heq⟩ := hst
      rw [List.take_length] at heq
      refine ⟨_, ?_, us1, cr, rfl, hcr, hv1, hF, hnx, hlen, hlt, hdrop, heq⟩
      unfold nat_more_b0
      simp only
      rw [if_neg (by rw [hb.ro.len]; omega)])
    (s := (H, 0, 0)) ⟨us, 0, rfl, rfl, by omega, hv, Fr.refl _ _, rfl, rfl, hus, rfl, by simp [val]⟩
  obtain ⟨H17, cv, jv⟩ := t
  obtain ⟨us1, cr, rfl, hcr, hv1, hF, hnx, hlen, hlt, hdrop, heq⟩ := l2
  simp only at hv1 hF hnx
  have hij : i + vs.length < us1.length := by omega
  obtain ⟨p21, k1, k2, _⟩ := (hv1.ro (by omega)).get hij (v := ((i + vs.length : Nat) : Int)) rfl
  have hu : us1[i + vs.length] < 18446744073709551616 := hlt _ (List.getElem_mem hij)
  have e2 := fun nu => val_set (B := W64) us1 (i + vs.length) nu hij
  generalize us1[i + vs.length] = u at *
  have hm3 := Nat.div_add_mod (u + cr) 18446744073709551616
  have hm4 := Nat.mod_lt (u + cr) (show 18446744073709551616 > 0 by decide)
  have hwr : IntKind.u64.wrap ((u : Int) + (cr : Int)) = (((u + cr) % 18446744073709551616 : Nat) : Int) := by rw [← Int.natCast_add, wrap_u64m]
  have hov1 : (u + cr) / 18446744073709551616 ≤ 1 := by omega
  generalize hov : (u + cr) / 18446744073709551616 = ov at *
  generalize hnu : (u + cr) % 18446744073709551616 = nu at *
  obtain ⟨p25, H26, w1, w2, w3, w4, w5⟩ := hv1.set hij nu (v := (nu : Int)) rfl (w := ((i + vs.length : Nat) : Int)) rfl
  have hpp : p25 = p21 := Option.some.inj (w1.symm.trans k1)
  subst hpp
  have hw := hwin vs.length (by omega)
  refine ⟨ov, H26, us1.set (i + vs.length) nu, ?_, w3, hF.comp w4 (fun _ _ h => h), by omega, by rw [List.length_set]; exact hlen, mem_set_lt hlt hm4, ?_, hov1, ?_⟩
  · unfold nat_more
    rw [l1]
    simp only [Option.bind_some]
    rw [hb.ro.len, hw, k1]
    simp only [Option.bind_some]
    rw [k2]
    simp only [Option.bind_some]
    rw [hwr, show H17.setCell 4294967296 p25 _ = some H26 from w2]
    simp only [Option.bind_some]
  · rw [drop_set_lt (by omega)]
    exact drop_more hdrop (by omega)
  · have e3 := e2 nu
    have e4 : nu * W64 ^ (i + vs.length) + ov * W64 ^ (i + vs.length + 1) = u * W64 ^ (i + vs.length) + cr * W64 ^ (i + vs.length) := by
      rw [Nat.pow_succ, Nat.mul_comm (W64 ^ (i + vs.length)) W64, ← Nat.mul_assoc, ← Nat.add_mul, ← Nat.add_mul]
      congr 1
      show nu + ov * 18446744073709551616 = _
      omega
    omega

end Go.Proofs.Ytoadagekdnkciaa


namespace Go.Proofs.Ytoadagekdnkciaa
open Go Go.Abs
set_option maxRecDepth 10000

theorem val_drop_lt {us us' : List Nat} {p : Nat} (h : ∀ u ∈ us, u < W64) (h' : ∀ u ∈ us', u < W64) (hd : us'.drop p = us.drop p) (hp : p ≤ us.length) (hl : us'.length = us.length) (hlt : val W64 us < W64 ^ p) : val W64 us' < W64 ^ p := by
  have e1 := val_drop two64 h p hp
  have e2 := val_drop two64 h' p (by omega)
  rw [hd, e1, Nat.div_eq_of_lt hlt] at e2
  have hpos : 0 < W64 ^ p := Nat.pow_pos (by decide)
  rcases Nat.div_eq_zero_iff.1 e2.symm with h | h
  · omega
  · exact h

theorem quo_step {H14 H20 : AH} {x15 x16 s18 : Sl3} {us qs vs : List Nat} {V m n i N17 : Nat} (x12 : Int) (h15 : Nm H14 x15 vs) (hnn : vs.length = n) (hn : 2 ≤ n) (hVval : val W64 vs = V) (hvt : ∀ h : n - 1 < vs.length, vs[n - 1] ≠ 0) (hE : Ext H14 H20)
    (hv : Vec .u64 38 M0 H20 us x16) (hq : Vec .u64 38 M0 H20 qs s18) (f15 : ∀ id, blkIs x15 id → id < H14.next) (f16 : ∀ id, blkIs x16 id → H14.next ≤ id ∧ id < N17) (f18 : ∀ id, blkIs s18 id → id = N17) (hN : H14.next ≤ N17)
    (hul : us.length = m + n) (hql : qs.length = m) (hus : ∀ u ∈ us, u < W64) (hqs : ∀ u ∈ qs, u < W64) (hbig : m + n ≤ 1099511627776) (hi : i < m) (hS : val W64 us < V * W64 ^ (i + 1)) (hz : qs.getD i 0 = 0) :
    ∃ H41 us' qs', nat_quo_b0 x12 x15 x16 s18 (H20, (i : Int)) = some (.next (H41, (i : Int) - 1)) ∧ Vec .u64 38 M0 H41 us' x16 ∧ Vec .u64 38 M0 H41 qs' s18 ∧ Ext H14 H41 ∧ us'.length = m + n ∧ qs'.length = m ∧
      (∀ u ∈ us', u < W64) ∧ (∀ u ∈ qs', u < W64) ∧ val W64 us' < V * W64 ^ i ∧ val W64 us' + V * val W64 qs' = val W64 us + V * val W64 qs ∧ ∀ k, k < i → qs'.getD k 0 = qs.getD k 0 := by
  have hOP : OPEN = 9223372036854775808 := rfl
  have h20 := h15.ext hE
  have hvlim := h15.lt
  have hVlt := val_lt two64 vs hvlim
  have hVd := val_drop two64 hvlim (n - 2) (by omega)
  rw [hVval] at hVd hVlt
  rw [hnn] at hVlt
  have hVpos : 0 < V := by
    apply Nat.pos_of_ne_zero
    intro e
    rw [e, Nat.zero_mul] at hS
    omega
  -- the limbs that are looked at
  have hro := hv.ro (by omega)
  obtain ⟨p22, a1, a2, a3⟩ := hro.get (i := i + n) (by omega) (v := ((i + n : Nat) : Int)) rfl
  obtain ⟨p24, b1, b2, b3⟩ := hro.get (i := i + n - 1) (by omega) (v := ((i + n - 1 : Nat) : Int)) rfl
  obtain ⟨p26, c1, c2, c3⟩ := hro.get (i := i + n - 2) (by omega) (v := ((i + n - 2 : Nat) : Int)) rfl
  obtain ⟨p28, d1, d2, d3⟩ := h20.ro.get (i := n - 1) (by omega) (v := ((n - 1 : Nat) : Int)) rfl
  obtain ⟨p30, e1, e2, e3⟩ := h20.ro.get (i := n - 2) (by omega) (v := ((n - 2 : Nat) : Int)) rfl
  have hu2 := hus _ (List.getElem_mem (show i + n < us.length by omega))
  have hu1 := hus _ (List.getElem_mem (show i + n - 1 < us.length by omega))
  have hu0 := hus _ (List.getElem_mem (show i + n - 2 < us.length by omega))
  have hv1 := hvlim _ (List.getElem_mem (show n - 1 < vs.length by omega))
  have hv0 := hvlim _ (List.getElem_mem (show n - 2 < vs.length by omega))
  have hv1p : vs[n - 1] ≠ 0 := hvt (by omega)
  -- what they are worth
  have hV2 : V / W64 ^ (n - 2) = vs[n - 1] * 18446744073709551616 + vs[n - 2] := by
    rw [← hVd, List.drop_eq_getElem_cons (show n - 2 < vs.length by omega), val, List.drop_eq_getElem_cons (show n - 2 + 1 < vs.length by omega), val, List.drop_of_length_le (by omega), val, Nat.mul_zero, Nat.add_zero]
    simp only [show n - 2 + 1 = n - 1 by omega]
    show vs[n - 2] + 18446744073709551616 * vs[n - 1] = _
    omega
  have hSlt : val W64 us < W64 ^ (i + n + 1) := by
    refine Nat.lt_of_lt_of_le hS ?_
    rw [show i + n + 1 = n + (i + 1) by omega, Nat.pow_add W64 n (i + 1)]
    exact Nat.mul_le_mul_right _ (Nat.le_of_lt hVlt)
  have hSd := val_drop two64 hus (i + n - 2) (by omega)
  have hSz := val_drop two64 hus (i + n + 1) (by omega)
  rw [Nat.div_eq_of_lt hSlt] at hSz
  have hU3 : val W64 us / W64 ^ i / W64 ^ (n - 2) = (us[i + n] * 18446744073709551616 + us[i + n - 1]) * 18446744073709551616 + us[i + n - 2] := by
    rw [Nat.div_div_eq_div_mul, ← Nat.pow_add, show i + (n - 2) = i + n - 2 by omega, ← hSd, List.drop_eq_getElem_cons (show i + n - 2 < us.length by omega), val, List.drop_eq_getElem_cons (show i + n - 2 + 1 < us.length by omega), val,
      List.drop_eq_getElem_cons (show i + n - 2 + 1 + 1 < us.length by omega), val]
    simp only [show i + n - 2 + 1 = i + n - 1 by omega, show i + n - 1 + 1 = i + n by omega]
    rw [hSz]
    show us[i + n - 2] + 18446744073709551616 * (us[i + n - 1] + 18446744073709551616 * (us[i + n] + 18446744073709551616 * 0)) = _
    omega
  have hTp : 0 < W64 ^ i := Nat.pow_pos (by decide)
  have hBp : 0 < W64 ^ (n - 2) := Nat.pow_pos (by decide)
  have hUV : val W64 us / W64 ^ i < V * 18446744073709551616 := by
    rw [Nat.div_lt_iff_lt_mul hTp, Nat.mul_assoc]
    rw [Nat.pow_succ, Nat.mul_comm (W64 ^ i)] at hS
    exact hS
  generalize us[i + n] = u2 at *
  generalize us[i + n - 1] = u1 at *
  generalize us[i + n - 2] = u0 at *
  generalize vs[n - 1] = v1 at *
  generalize vs[n - 2] = v0 at *
  have htop := knuth_top hBp (show 0 < 18446744073709551616 by decide) hU3 hV2 hv0 hUV
  obtain ⟨q, q1, q2, q3, q4⟩ := digit_spec (H := H20) htop hu1 hu0 hv1 (by omega) hv0
  have hguess := knuth_guess hBp (by decide) hU3 hV2 (by omega) hUV q2 q3 (q4.imp (fun h => by omega) id)
  have hrest := knuth_rest (S := val W64 us) hTp hVpos
  have hqt : val W64 us / W64 ^ i / V < 18446744073709551616 := by rw [Nat.div_lt_iff_lt_mul hVpos, Nat.mul_comm]; exact hUV
  generalize hqtd : val W64 us / W64 ^ i / V = qt at *
  -- taken off, and put back if it was too much
  have dis : ∀ id, blkIs x15 id → ¬ blkIs x16 id := fun id h1 h2 => by have := f15 id h1; have := f16 id h2; omega
  obtain ⟨s35, w1, w2, w3⟩ := slc_win hro (i := i) (e := i + n + 1) (by omega) (by omega) (v := (i : Int)) rfl (w := ((i + n + 1 : Nat) : Int)) rfl
  obtain ⟨b, H37, us1, l1, l2, l3, l4, l5, l6, l7, l8⟩ := less_spec (s := s35) hv hus (by omega) h20 dis (i := i) (d := q) (by omega) q2 (fun j hj => w3 j (by omega))
  rw [hnn] at l7 l8
  rw [hVval] at l8
  have hlt1 := val_drop_lt hus l6 l7 (by omega) l5 hSlt
  have hfix : ∃ H33 us2, (Option.bind (slc 1 H20 x16 (some (i : Int)) (some ((i + n + 1 : Nat) : Int)) none) fun s35 =>
        Option.bind (nat_less H20 s35 x15 (q : Int)) fun (x36, H37) =>
        if x36 = true then
          Option.bind (slc 1 H37 x16 (some (i : Int)) (some ((i + n + 1 : Nat) : Int)) none) fun s38 =>
          Option.bind (nat_more H37 s38 x15) fun H39 =>
          some (H39, (IntKind.u64.wrap ((q : Int) - 1)))
        else
          some (H37, (q : Int))) = some (H33, (qt : Int)) ∧ Vec .u64 38 M0 H33 us2 x16 ∧ Fr (blkIs x16) H20 H33 ∧ H33.next = H20.next ∧ us2.length = us.length ∧ (∀ u ∈ us2, u < W64) ∧ val W64 us2 = val W64 us - qt * V * W64 ^ i := by
    rw [w1]
    simp only [Option.bind_some]
    rw [l1]
    simp only [Option.bind_some]
    cases b with
    | false =>
      rw [if_neg (by decide)] at l8 ⊢
      rw [Nat.zero_mul, Nat.add_zero] at l8
      have hle : q ≤ qt := by
        rw [← hqtd, Nat.le_div_iff_mul_le hVpos, Nat.le_div_iff_mul_le hTp]
        omega
      have e : q = qt := by omega
      subst e
      exact ⟨H37, us1, rfl, l2, l3, l4, l5, l6, by omega⟩
    | true =>
      rw [if_pos rfl, Nat.one_mul] at l8
      rw [if_pos rfl]
      have hgt : ¬ q ≤ qt := by
        intro hle
        have : q * V * W64 ^ i ≤ qt * V * W64 ^ i := Nat.mul_le_mul_right _ (Nat.mul_le_mul_right _ hle)
        omega
      have e : q = qt + 1 := by omega
      have hro1 := l2.ro (by omega)
      obtain ⟨s38, y1, y2, y3⟩ := slc_win hro1 (i := i) (e := i + n + 1) (by omega) (by omega) (v := (i : Int)) rfl (w := ((i + n + 1 : Nat) : Int)) rfl
      obtain ⟨cc, H39, us2, m1, m2, m3, m4, m5, m6, m7, m8, m9⟩ := more_spec (s := s38) l2 l6 (by omega) (h20.frW l3 dis) dis (i := i) (by omega) (fun j hj => y3 j (by omega))
      rw [hnn] at m7 m9
      rw [hVval] at m9
      have hlt2 := val_drop_lt l6 m6 m7 (by omega) m5 hlt1
      have e2 : q * V * W64 ^ i = qt * V * W64 ^ i + V * W64 ^ i := by rw [e, Nat.add_mul, Nat.one_mul, Nat.add_mul]
      have hcc : cc = 1 := by
        apply Classical.byContradiction
        intro hne
        have : cc = 0 := by omega
        subst this
        rw [Nat.zero_mul] at m9
        omega
      subst hcc
      rw [Nat.one_mul] at m9
      rw [y1]
      simp only [Option.bind_some]
      rw [m1]
      simp only [Option.bind_some]
      exact ⟨H39, us2, by rw [show IntKind.u64.wrap ((q : Int) - 1) = (qt : Int) from wrap_u64n (by omega) hqt], m2, l3.comp m3 (fun _ _ h => h), by omega, by omega, m6, by omega⟩
  obtain ⟨H33, us2, g1, g2, g3, g4, g5, g6, g7⟩ := hfix
  have dis18 : ∀ id, blkIs s18 id → ¬ blkIs x16 id := fun id h1 h2 => by have := f18 id h1; have := f16 id h2; omega
  have hq33 := hq.fr g3 dis18
  obtain ⟨p40, H41, r1, r2, r3, r4, r5⟩ := hq33.set (i := i) (by omega) qt (v := (qt : Int)) rfl (w := (i : Int)) rfl
  have hx41 := g2.fr r4 fun id h1 h2 => dis18 id h2 h1
  have hval := val_set (B := W64) qs i qt (by omega)
  have hz' : qs[i] = 0 := by
    simp only [List.getD, List.getElem?_eq_getElem (show i < qs.length by omega), Option.getD_some] at hz
    exact hz
  rw [hz', Nat.zero_mul, Nat.add_zero] at hval
  refine ⟨H41, us2, qs.set i qt, ?_, hx41, r3, (hE.comp g3 fun id hid _ h => by have := f16 id h; omega).comp r4 (fun id hid _ h => by have := f18 id h; omega), by omega, by rw [List.length_set]; exact hql, g6, mem_set_lt hqs hqt, by rw [g7]; exact hrest.2, ?_, fun k hk => ?_⟩
  · unfold nat_quo_b0
    simp only
    rw [h20.ro.len, hnn, wrap_nat (x := (i : Int) + (n : Int)) (n := i + n) (by omega) (by omega), wrap_nat (x := ((i + n : Nat) : Int) - 1) (n := i + n - 1) (by omega) (by omega), wrap_nat (x := ((i + n : Nat) : Int) - 2) (n := i + n - 2) (by omega) (by omega),
      wrap_nat (x := ((i + n : Nat) : Int) + 1) (n := i + n + 1) (by omega) (by omega), wrap_nat (x := (n : Int) - 1) (n := n - 1) (by omega) (by omega), wrap_nat (x := (n : Int) - 2) (n := n - 2) (by omega) (by omega)]
    rw [if_pos (by omega), if_pos (hro.below (Nat.le_refl _)), a1]
    simp only [Option.bind_some]
    rw [if_pos (a3 _ (Nat.le_refl _)), a2]
    simp only [Option.bind_some]
    rw [if_pos (hro.below (Nat.le_refl _)), b1]
    simp only [Option.bind_some]
    rw [if_pos (b3 _ (Nat.le_refl _)), b2]
    simp only [Option.bind_some]
    rw [if_pos (hro.below (Nat.le_refl _)), c1]
    simp only [Option.bind_some]
    rw [if_pos (c3 _ (Nat.le_refl _)), c2]
    simp only [Option.bind_some]
    rw [if_pos (h20.ro.below (Nat.le_refl _)), if_pos (h20.ro.below (Nat.le_refl _)), d1]
    simp only [Option.bind_some]
    rw [if_pos (d3 _ (Nat.le_refl _)), d2]
    simp only [Option.bind_some]
    rw [if_pos (h20.ro.below (Nat.le_refl _)), if_pos (h20.ro.below (Nat.le_refl _)), e1]
    simp only [Option.bind_some]
    rw [if_pos (e3 _ (Nat.le_refl _)), e2]
    simp only [Option.bind_some]
    rw [q1]
    simp only [Option.bind_some]
    rw [g1]
    simp only [Option.bind_some]
    rw [r1]
    simp only [Option.bind_some]
    rw [show H33.setCell 4294967296 p40 _ = some H41 from r2]
    simp only [Option.bind_some]
    rw [wrap_i64' (by omega) (by omega)]
  · rw [g7, hval, Nat.mul_add]
    have : V * (qt * W64 ^ i) = qt * V * W64 ^ i := by rw [← Nat.mul_assoc, Nat.mul_comm V qt]
    rw [this]
    have := hrest.1
    omega
  · simp only [List.getD]
    rw [List.getElem?_set_ne (by omega)]

end Go.Proofs.Ytoadagekdnkciaa


namespace Go.Proofs.Ytoadagekdnkciaa
open Go Go.Abs
set_option maxRecDepth 10000

theorem Nm.lowB {H : AH} {s : Sl3} {xs : List Nat} (h : Nm H s xs) : ∀ id, blkIs s id → id < H.next := fun id ⟨a, h1, h2⟩ => h2 ▸ h.ro.low a h1

/-- The long division. -/
theorem quo_spec {H : AH} {a b : Sl3} {A B : Nat} (ha : Nm H a (dig W64 A)) (hb : Nm H b (dig W64 B)) (hB : B ≠ 0) (hlA : (dig W64 A).length ≤ 1099511627000) (hM : M0 ≤ H.next) :
    ∃ q r H', nat_quo H a b = some (q, r, H') ∧ Ext H H' ∧ Nm H' q (dig W64 (A / B)) ∧ Nm H' r (dig W64 (A % B)) := by
  have hOP : OPEN = 9223372036854775808 := rfl
  have hvA := val_dig two64 A
  have hvB := val_dig two64 B
  unfold nat_quo
  rw [Cmp_spec ha hb, hvA, hvB]
  simp only [Option.bind_some, cmpAns_neg]
  by_cases hlt : A < B
  · rw [if_pos hlt, Nat.div_eq_of_lt hlt, Nat.mod_eq_of_lt hlt]
    exact ⟨_, _, _, rfl, Fr.refl _ _, Nm.nil_ _, ha⟩
  rw [if_neg hlt, hb.ro.len]
  have hBp : 0 < (dig W64 B).length := List.length_pos_iff.2 (dig_ne_nil two64 hB)
  by_cases h1 : (dig W64 B).length = 1
  · rw [if_pos (by omega)]
    have hBl : B < W64 := by
      have := (dig_len two64 B 1).1 (by omega)
      rwa [Nat.pow_one] at this
    have e : dig W64 B = [B] := by rw [dig_eq two64 hB, Nat.mod_eq_of_lt hBl, Nat.div_eq_of_lt hBl, dig_zero]
    obtain ⟨p2, g1, g2, _⟩ := hb.ro.get (i := 0) (by omega) (v := 0) rfl
    have e0 : (dig W64 B)[0]'(by omega) = B := by simp only [e, List.getElem_cons_zero]
    rw [e0] at g2
    obtain ⟨x4, H6, s1, s2, s3, _⟩ := single_spec ha (Nat.pos_of_ne_zero hB) hBl hM
    rw [hvA] at s1 s3
    obtain ⟨s7, H8, n1, n2, n3, _, _⟩ := newR_ro (k := .u64) (e := 38) (H := H6) (ys := [A % B]) (by simp [OPEN])
    have hrl : A % B < W64 := Nat.lt_trans (Nat.mod_lt _ (Nat.pos_of_ne_zero hB)) hBl
    have hN7 : Nm H8 s7 [A % B] := ⟨n2, fun x hx => by rw [List.mem_singleton.1 hx]; exact hrl, by simp⟩
    obtain ⟨x9, t1, t2, _, _⟩ := trim_spec hN7
    rw [show val W64 [A % B] = A % B by simp [val]] at t2
    refine ⟨x4, x9, H8, ?_, s2.trans n3, s3.ext n3, t2⟩
    rw [g1]
    simp only [Option.bind_some]
    rw [g2]
    simp only [Option.bind_some]
    rw [s1]
    simp only [Option.bind_some]
    rw [show newR 38 1 #[Value.int .u64 ((A % B : Nat) : Int)] H6 = some (s7, H8) from n1]
    simp only [Option.bind_some]
    rw [t1]
    simp only [Option.bind_some]
  rw [if_neg (by omega)]
  -- the divisor's limb on top gives the move
  obtain ⟨htop, htop0⟩ := top_digit two64 (N := B) hBp
  have htl : (dig W64 B)[(dig W64 B).length - 1] < 18446744073709551616 := dig_lt two64 B _ (List.getElem_mem _)
  obtain ⟨p10, g1, g2, _⟩ := hb.ro.get (i := (dig W64 B).length - 1) (by omega) (v := (((dig W64 B).length - 1 : Nat) : Int)) rfl
  obtain ⟨k, z1, z2, z3⟩ := LZ_spec htl
  have hk0 : k ≠ 0 := fun e => by
    subst e
    have := z2.1
    simp at this
    omega
  have hnorm := Bits.norm z2 (Nat.pos_of_ne_zero htop0) z3
  have hBlt := (dig_len two64 B (dig W64 B).length).1 (Nat.le_refl _)
  have hlB : (dig W64 B).length ≤ (dig W64 A).length := dig_len_mono two64 (by omega)
  generalize (dig W64 B)[(dig W64 B).length - 1] = t at *
  generalize hnB : (dig W64 B).length = n at *
  generalize hlAe : (dig W64 A).length = la at *
  have hs : 64 - k < 64 := by omega
  have hwx : IntKind.u64.wrap ((64 - k : Nat) : Int) = ((64 - k : Nat) : Int) := wrap_u64n rfl (by omega)
  generalize hse : 64 - k = s at *
  have hSp : 0 < 2 ^ s := Nat.pow_pos (by omega)
  have hS63 : 2 ^ s ≤ 2 ^ 63 := Nat.pow_le_pow_right (by omega) (by omega)
  obtain ⟨x13, H14, zs, b1, b2, b3, b4, b5, b6, b7⟩ := shl_spec hb (by omega) hs hM
  rw [hvB] at b7
  obtain ⟨x15, c1, c2, c3, _⟩ := trim_spec b3
  rw [b7] at c2
  have hM14 : M0 ≤ H14.next := Nat.le_trans hM b2.1
  obtain ⟨x16, H17, us, d1, d2, d3, d4, d5, d6, d7⟩ := shl_spec (ha.ext b2) (by omega) hs hM14
  rw [hvA] at d7
  rw [hlAe] at d6
  -- the divisor moved has as many limbs
  have hTn : 0 < W64 ^ (n - 1) := Nat.pow_pos (by decide)
  have hn1 : W64 ^ n = W64 ^ (n - 1) * 18446744073709551616 := by
    have : n = n - 1 + 1 := by omega
    conv => lhs; rw [this]
    exact @Nat.pow_succ W64 (n - 1)
  have hBlow : W64 ^ (n - 1) * t ≤ B := by rw [← htop]; exact Nat.mul_div_le _ _
  have hBhi : B < W64 ^ (n - 1) * (t + 1) := by rw [← htop]; exact Nat.lt_mul_div_succ B hTn
  have hVlow : W64 ^ (n - 1) * 9223372036854775808 ≤ B * 2 ^ s := by
    have e1 := Nat.mul_le_mul_left (W64 ^ (n - 1)) hnorm.1
    have e2 := Nat.mul_le_mul_right (2 ^ s) hBlow
    rw [Nat.mul_assoc] at e2
    omega
  have hts : (t + 1) * 2 ^ s ≤ 18446744073709551616 := by
    have e1 := Nat.mul_le_mul_right (2 ^ s) (show t + 1 ≤ 2 ^ k from z2.1)
    rw [← Nat.pow_add, show k + s = 64 by omega] at e1
    exact e1
  have hVhi : B * 2 ^ s < W64 ^ n := by
    have e1 := Nat.mul_lt_mul_of_pos_right hBhi hSp
    rw [Nat.mul_assoc] at e1
    rw [hn1]
    exact Nat.lt_of_lt_of_le e1 (Nat.mul_le_mul_left _ hts)
  have hVn : (dig W64 (B * 2 ^ s)).length = n := by
    have e1 := (dig_len two64 (B * 2 ^ s) n).2 hVhi
    have e2 : ¬ (dig W64 (B * 2 ^ s)).length ≤ n - 1 := by
      rw [dig_len two64]
      have : W64 ^ (n - 1) * 1 ≤ W64 ^ (n - 1) * 9223372036854775808 := Nat.mul_le_mul_left _ (by omega)
      omega
    omega
  have hvt : ∀ h : n - 1 < (dig W64 (B * 2 ^ s)).length, (dig W64 (B * 2 ^ s))[n - 1] ≠ 0 := fun h => by
    have := (top_digit two64 (N := B * 2 ^ s) (by omega)).2
    simpa only [hVn] using this
  have hVval := val_dig two64 (B * 2 ^ s)
  have hVpos : 0 < B * 2 ^ s := Nat.mul_pos (Nat.pos_of_ne_zero hB) hSp
  -- the limbs of the quotient
  have hmle : n ≤ la + 1 := by omega
  have hm : la + 1 - n + n = la + 1 := by omega
  generalize hme : la + 1 - n = m at *
  have hqw : IntKind.i64.wrap ((x16.n : Int) - (x15.n : Int)) = (m : Int) := by
    rw [d3.ro.len, c2.ro.len, d6, hVn]
    exact wrap_nat (by omega) (by omega)
  have hM17 : M0 ≤ H17.next := Nat.le_trans hM14 d2.1
  obtain ⟨s18, H19, m1, m2, m3, m4, m5, m6, m7⟩ := mkS_vec (k := .u64) (e := 38) (m := M0) (bytes := 8) (H := H17) m m (vn := (m : Int)) (vc := (m : Int)) rfl rfl (Nat.le_refl _) (by omega) (by omega) hM17
  have hN0 : A * 2 ^ s < B * 2 ^ s * W64 ^ m := by
    have e0 := (dig_len two64 A la).1 (by omega)
    have e1 := Nat.mul_lt_mul_of_pos_right e0 hSp
    have e2 : W64 ^ la * 2 ^ s ≤ W64 ^ la * 9223372036854775808 := Nat.mul_le_mul_left _ hS63
    have e3 := Nat.mul_le_mul_right (W64 ^ m) hVlow
    have e4 : W64 ^ (n - 1) * 9223372036854775808 * W64 ^ m = W64 ^ la * 9223372036854775808 := by
      rw [Nat.mul_right_comm, ← Nat.pow_add, show n - 1 + m = la by omega]
    omega
  have f15 : ∀ id, blkIs x15 id → id < H14.next := c2.lowB
  have f16 : ∀ id, blkIs x16 id → H14.next ≤ id ∧ id < H17.next := fun id h => ⟨d5 id h, d4.low id h⟩
  have f18 : ∀ id, blkIs s18 id → id = H17.next := m4
  have hx19 : Vec .u64 38 M0 H19 us x16 := d4.fr m3 (fun _ _ h => h)
  obtain ⟨st, l1, l2⟩ := loopO_to (body := nat_quo_b0 ((s : Nat) : Int) x15 x16 s18) m
    (fun c (st : AH × Int) => ∃ us1 qs : List Nat, st.2 = (m : Int) - c - 1 ∧ Vec .u64 38 M0 st.1 us1 x16 ∧ Vec .u64 38 M0 st.1 qs s18 ∧ Ext H14 st.1 ∧ us1.length = m + n ∧ qs.length = m ∧ (∀ u ∈ us1, u < W64) ∧ (∀ u ∈ qs, u < W64) ∧
      val W64 us1 < B * 2 ^ s * W64 ^ (m - c) ∧ val W64 us1 + B * 2 ^ s * val W64 qs = A * 2 ^ s ∧ ∀ j, j < m - c → qs.getD j 0 = 0)
    (Q := fun st => ∃ us1 qs : List Nat, Vec .u64 38 M0 st.1 us1 x16 ∧ Vec .u64 38 M0 st.1 qs s18 ∧ Ext H14 st.1 ∧ us1.length = m + n ∧ qs.length = m ∧ (∀ u ∈ us1, u < W64) ∧ (∀ u ∈ qs, u < W64) ∧
      val W64 us1 < B * 2 ^ s ∧ val W64 us1 + B * 2 ^ s * val W64 qs = A * 2 ^ s)
    (fun c hc st hst => by
      obtain ⟨H20, v⟩ := st
      obtain ⟨us1, qs, rfl, q1, q2, q3, q4, q5, q6, q7, q8, q9, q10⟩ := hst
      simp only at q1 q2 q3
      obtain ⟨H41, us2, qs2, w1, w2, w3, w4, w5, w6, w7, w8, w9, w10, w11⟩ := quo_step (i := m - c - 1) ((s : Nat) : Int) c2 hVn (by omega) hVval hvt q3 q1 q2 f15 f16 f18 d2.1 q4 q5 q6 q7 (by omega) (by omega)
        (by rw [show m - c - 1 + 1 = m - c by omega]; exact q8) (q10 _ (by omega))
      refine ⟨(H41, (m : Int) - (c + 1 : Nat) - 1), ?_, us2, qs2, rfl, w2, w3, w4, w5, w6, w7, w8, by rw [show m - (c + 1) = m - c - 1 by omega]; exact w9, by rw [w10]; exact q9, fun j hj => ?_⟩
      · rw [show (m : Int) - (c : Nat) - 1 = ((m - c - 1 : Nat) : Int) by omega, w1, show ((m - c - 1 : Nat) : Int) - 1 = (m : Int) - (c + 1 : Nat) - 1 by omega]
      · rw [w11 j (by omega)]
        exact q10 j (by omega))
    (fun st hst => by
      obtain ⟨H20, v⟩ := st
      obtain ⟨us1, qs, rfl, q1, q2, q3, q4, q5, q6, q7, q8, q9, q10⟩ := hst
      rw [Nat.sub_self, Nat.pow_zero, Nat.mul_one] at q8
      refine ⟨_, ?_, us1, qs, q1, q2, q3, q4, q5, q6, q7, q8, q9⟩
      unfold nat_quo_b0
      simp only
      rw [if_neg (by omega)])
    (s := (H19, (m : Int) - 1)) ⟨us, List.replicate m 0, by simp, hx19, m2, d2.trans m3, by omega, by simp, d3.lt, (fun u hu => by rw [List.eq_of_mem_replicate hu]; decide), by rw [d7, Nat.sub_zero]; exact hN0, by rw [d7, val_zeros, Nat.mul_zero, Nat.add_zero],
      fun j hj => by simp only [List.getD]; rw [List.getElem?_replicate, if_pos (by omega)]; rfl⟩
  obtain ⟨H42, v⟩ := st
  obtain ⟨us1, qs, q1, q2, q3, q4, q5, q6, q7, q8, q9⟩ := l2
  simp only at q1 q2 q3
  -- what has come out
  have hQ : val W64 qs = A / B := by
    have e1 : A * 2 ^ s / (B * 2 ^ s) = val W64 qs := by
      rw [← q9, Nat.add_mul_div_left _ _ hVpos, Nat.div_eq_of_lt q8, Nat.zero_add]
    rw [← e1, Nat.mul_div_mul_right _ _ hSp]
  have hR : val W64 us1 / 2 ^ s = A % B := by
    have e1 : A * 2 ^ s % (B * 2 ^ s) = val W64 us1 := by
      rw [← q9, Nat.add_mul_mod_self_left, Nat.mod_eq_of_lt q8]
    rw [← e1, Nat.mul_mod_mul_right, Nat.mul_div_cancel _ hSp]
  have hNq : Nm H42 s18 qs := ⟨q2.ro (by omega), q7, by omega⟩
  have hNu : Nm H42 x16 us1 := ⟨q1.ro (by omega), q6, by omega⟩
  obtain ⟨x44, t1, t2, _, _⟩ := trim_spec hNq
  obtain ⟨x45, u1, u2, _, _⟩ := trim_spec hNu
  rw [hQ] at t2
  have hM42 : M0 ≤ H42.next := Nat.le_trans hM14 q3.1
  obtain ⟨x46, H47, r1, r2, r3⟩ := shr_spec u2 hs hM42
  rw [val_dig two64, hR] at r3
  refine ⟨x44, x46, H47, ?_, b2.trans (q3.trans r2), t2.ext r2, r3⟩
  rw [wrap_nat (x := (n : Int) - 1) (n := n - 1) (by omega) (by omega), g1]
  simp only [Option.bind_some]
  rw [g2]
  simp only [Option.bind_some]
  rw [z1]
  simp only [Option.bind_some]
  rw [hwx, b1]
  simp only [Option.bind_some]
  rw [c1]
  simp only [Option.bind_some]
  rw [d1]
  simp only [Option.bind_some]
  rw [hqw, show mkS 38 1 8 #[Value.int .u64 0] H17 _ _ = some (s18, H19) from m1]
  simp only [Option.bind_some]
  rw [m5, wrap_i64' (x := (m : Int) - 1) (by omega) (by omega), l1]
  simp only [Option.bind_some]
  rw [t1]
  simp only [Option.bind_some]
  rw [u1]
  simp only [Option.bind_some]
  rw [r1]
  simp only [Option.bind_some]

end Go.Proofs.Ytoadagekdnkciaa


namespace Go.Proofs.Ytoadagekdnkciaa
open Go Go.Abs
set_option maxRecDepth 10000

/-- What a quotient answers. -/
noncomputable def quoAns (A B : Nat) : List Nat × List Nat × Nat :=
  if TOP ≤ A ∨ TOP ≤ B then ([], [], 5) else if B = 0 then ([], [], 11) else (dig W64 (A / B), dig W64 (A % B), 0)

theorem Quo_spec {H : AH} {a b : Sl3} {xs ys : List Nat} (ha : Nm H a xs) (hb : Nm H b ys) (hM : M0 ≤ H.next) :
    ∃ q r H', nat_Quo H a b = some (q, r, ((quoAns (val W64 xs) (val W64 ys)).2.2 : Int), H') ∧ Ext H H' ∧ Nm H' q (quoAns (val W64 xs) (val W64 ys)).1 ∧ Nm H' r (quoAns (val W64 xs) (val W64 ys)).2.1 ∧
      Vec .u64 38 M0 H' (quoAns (val W64 xs) (val W64 ys)).1 q ∧ ∀ id, blkIs q id → H.next ≤ id := by
  have nilF : ∀ id, blkIs Sl3.nil id → H.next ≤ id := fun id ⟨a, h, _⟩ => by cases h
  obtain ⟨z, H2, n1, n2, n3, n4⟩ := LNm.two ha hb
  unfold nat_Quo quoAns
  rw [n1]
  simp only [Option.bind_some]
  rw [long_spec n2 (by simp)]
  simp only [Option.bind_some, any_two]
  by_cases h1 : TOP ≤ val W64 xs ∨ TOP ≤ val W64 ys
  · rw [if_pos h1, if_pos h1]
    exact ⟨_, _, _, rfl, n3, Nm.nil_ _, Nm.nil_ _, .nil rfl, nilF⟩
  rw [if_neg h1, if_neg h1]
  obtain ⟨x4, t1, t2, _, _⟩ := trim_spec (hb.ext n3)
  obtain ⟨x5, u1, u2, _, _⟩ := trim_spec (ha.ext n3)
  have hl1 := D64_top.2 (show val W64 xs < TOP by omega)
  have hM2 : M0 ≤ H2.next := Nat.le_trans hM n3.1
  rw [t1]
  simp only [Option.bind_some]
  rw [t2.ro.len]
  by_cases h0 : val W64 ys = 0
  · rw [if_pos (by rw [h0]; rfl), if_pos h0]
    exact ⟨_, _, _, rfl, n3, Nm.nil_ _, Nm.nil_ _, .nil rfl, nilF⟩
  have hp : 0 < (dig W64 (val W64 ys)).length := List.length_pos_iff.2 (dig_ne_nil two64 h0)
  rw [if_neg (by omega), if_neg h0]
  obtain ⟨x7, x8, H9, q1, q2, q3, q4⟩ := quo_spec u2 t2 h0 (by omega) hM2
  have hM9 : M0 ≤ H9.next := Nat.le_trans hM2 q2.1
  obtain ⟨x10, H11, o1, o2, o3, o4, o5⟩ := own_spec q3 hM9
  obtain ⟨x12, H13, p1, p2, p3, _, _⟩ := own_spec (q4.ext o2) (Nat.le_trans hM9 o2.1)
  rw [val_dig two64] at o3 o4 p3
  refine ⟨x10, x12, H13, ?_, n3.trans (q2.trans (o2.trans p2)), o3.ext p2, p3, o4.fr p2 (fun _ _ h => h), fun id hid => by have := o5 id hid; have := q2.1; have := n3.1; omega⟩
  rw [u1]
  simp only [Option.bind_some]
  rw [q1]
  simp only [Option.bind_some]
  rw [o1]
  simp only [Option.bind_some]
  rw [p1]
  simp only [Option.bind_some]
  rfl

/-! ### Two at a time -/

end Go.Proofs.Ytoadagekdnkciaa


namespace Go.Proofs.Ytoadagekdnkciaa
open Go Go.Abs
set_option maxRecDepth 10000

theorem limb_ofB {B : Nat} (hB : 2 ≤ B) {xs : List Nat} (hx : ∀ x ∈ xs, x < B) (q : Nat) : val B xs / B ^ q % B = xs.getD q 0 := by
  by_cases hq : q < xs.length
  · have h1 : val B (xs.take q) < B ^ q := by
      have := val_lt hB (xs.take q) fun x hm => hx x (List.mem_of_mem_take hm)
      rwa [List.length_take, Nat.min_eq_left (by omega)] at this
    have h2 : xs[q] < B := hx _ (List.getElem_mem hq)
    rw [val_split xs q hq, Nat.add_mul_div_left _ _ (Nat.pow_pos (by omega)), Nat.div_eq_of_lt h1, Nat.zero_add, Nat.add_mul_mod_self_left, Nat.mod_eq_of_lt h2]
    simp only [List.getD, List.getElem?_eq_getElem hq, Option.getD_some]
  · have h1 := val_lt hB xs hx
    have h2 : B ^ xs.length ≤ B ^ q := Nat.pow_le_pow_right (by omega) (by omega)
    rw [Nat.div_eq_of_lt (by omega)]
    simp only [List.getD, List.getElem?_eq_none (show xs.length ≤ q by omega), Option.getD_none]
    rfl

theorem bit_of16 {xs : List Nat} (hx : ∀ x ∈ xs, x < W16) (i : Nat) : val W16 xs / 2 ^ i % 2 = xs.getD (i / 16) 0 / 2 ^ (i % 16) % 2 := by
  rw [← limb_ofB two16 hx]
  rw [← pow16' i, ← Nat.div_div_eq_div_mul]
  generalize val W16 xs / W16 ^ (i / 16) = y
  have hr : i % 16 < 16 := Nat.mod_lt _ (by decide)
  generalize i % 16 = r at *
  have e2 : W16 = 2 ^ r * (2 * 2 ^ (15 - r)) := by
    rw [show 2 * 2 ^ (15 - r) = 2 ^ (16 - r) by rw [show 16 - r = 15 - r + 1 by omega, Nat.pow_succ, Nat.mul_comm], ← Nat.pow_add, show r + (16 - r) = 16 by omega]
  conv => lhs; rw [← Nat.mod_add_div y W16]
  generalize hz : y / W16 = z
  generalize y % W16 = w
  rw [e2, Nat.mul_assoc, Nat.add_mul_div_left _ _ (Nat.pow_pos (by decide)), Nat.mul_assoc, Nat.add_mul_mod_self_left]

/-- One more bit of a quotient. -/
theorem bit_step {A0 A1 B bit : Nat} (h : A0 = 2 * A1 + bit) (hb : bit ≤ 1) (hB : 0 < B) :
    (B ≤ 2 * (A1 % B) + bit → A0 / B = 2 * (A1 / B) + 1 ∧ A0 % B = 2 * (A1 % B) + bit - B) ∧ (2 * (A1 % B) + bit < B → A0 / B = 2 * (A1 / B) ∧ A0 % B = 2 * (A1 % B) + bit) := by
  have h1 := Nat.div_add_mod A1 B
  have h2 := Nat.mod_lt A1 hB
  generalize A1 % B = r at *
  generalize A1 / B = q at *
  constructor
  · intro hle
    have e : A0 = (2 * r + bit - B) + B * (2 * q + 1) := by
      rw [Nat.mul_add, Nat.mul_one, Nat.mul_left_comm]
      omega
    rw [e, Nat.add_mul_div_left _ _ hB, Nat.add_mul_mod_self_left, Nat.div_eq_of_lt (by omega), Nat.mod_eq_of_lt (by omega)]
    exact ⟨by omega, rfl⟩
  · intro hlt
    have e : A0 = (2 * r + bit) + B * (2 * q) := by
      rw [Nat.mul_left_comm]
      omega
    rw [e, Nat.add_mul_div_left _ _ hB, Nat.add_mul_mod_self_left, Nat.div_eq_of_lt hlt, Nat.mod_eq_of_lt hlt]
    exact ⟨by omega, rfl⟩

theorem ior_comm (k : IntKind) (v w : Int) : ior k v w = ior k w v := by unfold ior; rw [BitVec.or_comm]

theorem cmpAns_nonneg {N M : Nat} : cmpAns N M ≥ 0 ↔ M ≤ N := by
  have := cmpAns_neg (N := N) (M := M)
  omega

end Go.Proofs.Ytoadagekdnkciaa


namespace Go.Proofs.Ytoadagekdnkciaa
open Go Go.Abs
set_option maxRecDepth 10000

theorem Nh.lowB {H : AH} {s : Sl3} {xs : List Nat} (h : Nh H s xs) : ∀ id, blkIs s id → id < H.next := fun _ ⟨a, h1, h2⟩ => h2 ▸ h.ro.low a h1

/-- One bit more. -/
theorem QuoH_step {H2 H3 : AH} {a b s1 v7 : Sl3} {qs hs : List Nat} {A B i N1 : Nat} (ha : Nh H2 a hs) (hA : val W16 hs = A) (hb : Nh H2 b (dig W16 B)) (hB : 0 < B) (hE : Ext H2 H3) (hlB : (dig W16 B).length ≤ 4398046511000)
    (hr : Nh H3 v7 (dig W16 (A / 2 ^ (i + 1) % B))) (hq : Vec .u32 65 M0 H3 qs s1) (f1 : ∀ id, blkIs s1 id → id = N1) (hN : N1 < H3.next) (hN2 : H2.next ≤ N1)
    (hql : qs.length = hs.length) (hqs : ∀ q ∈ qs, q < W16) (hi : i < 16 * hs.length) (hQ : val W16 qs = A / 2 ^ (i + 1) / B * 2 ^ (i + 1)) (hM : M0 ≤ H3.next) :
    ∃ H' r' qs', ref01_QuoH_b0 a b s1 (H3, v7, (i : Int)) = some (.next (H', r', (i : Int) - 1)) ∧ Ext H2 H' ∧ H3.next ≤ H'.next ∧ Nh H' r' (dig W16 (A / 2 ^ i % B)) ∧ Vec .u32 65 M0 H' qs' s1 ∧ qs'.length = hs.length ∧ (∀ q ∈ qs', q < W16) ∧
      val W16 qs' = A / 2 ^ i / B * 2 ^ i := by
  have hOP : OPEN = 9223372036854775808 := rfl
  have hsm := ha.sm
  have hi16 : i / 16 < hs.length := by omega
  have hbit := bit_of16 ha.lt i
  rw [hA] at hbit
  simp only [List.getD, List.getElem?_eq_getElem hi16, Option.getD_some] at hbit
  have hA0 : A / 2 ^ i = 2 * (A / 2 ^ (i + 1)) + A / 2 ^ i % 2 := by
    have : A / 2 ^ (i + 1) = A / 2 ^ i / 2 := by rw [Nat.pow_succ, ← Nat.div_div_eq_div_mul]
    omega
  have hbl : A / 2 ^ i % 2 ≤ 1 := by omega
  have hst := bit_step hA0 hbl hB
  have hrl := Nat.mod_lt (A / 2 ^ (i + 1)) hB
  have hlr := dig_len_mono two16 (N := A / 2 ^ (i + 1) % B) (M := B) (by omega)
  generalize A / 2 ^ (i + 1) % B = r at *
  generalize A / 2 ^ (i + 1) / B = Q at *
  -- twice what is left
  obtain ⟨x8, H9, c1, c2, c3⟩ := AddH_spec hr hr (by omega) (by omega) hM
  rw [val_dig two16, show r + r = r * 2 by omega] at c3
  have hl2 := dig_len_mul two16 r (m := 2) (by decide) (by omega)
  have hE9 := hE.trans c2
  obtain ⟨p12, g1, g2, _⟩ := (ha.ext hE9).ro.get hi16 (v := ((i / 16 : Nat) : Int)) rfl
  have hx : hs[i / 16] < 65536 := ha.lt _ (List.getElem_mem hi16)
  generalize hs[i / 16] = x at *
  have hdiv : IntKind.i64.wrap (Int.tdiv (i : Int) 16) = ((i / 16 : Nat) : Int) := wrap_nat (n := i / 16) rfl (by omega)
  have hmod : IntKind.u64.wrap (Int.tmod (i : Int) 16) = ((i % 16 : Nat) : Int) := wrap_u64n (n := i % 16) rfl (by omega)
  have hshr : ishr .u32 (x : Int) ((i % 16 : Nat) : Int) = ((x / 2 ^ (i % 16) : Nat) : Int) := ishr_nat rfl rfl (show i % 16 ≤ 32 by omega)
  have hlt32 : x / 2 ^ (i % 16) < 4294967296 := Nat.lt_of_le_of_lt (Nat.div_le_self _ _) (by omega)
  have hand : iand .u32 ((x / 2 ^ (i % 16) : Nat) : Int) 1 = ((x / 2 ^ (i % 16) % 2 : Nat) : Int) := iand_u32 (n := 1) rfl hlt32 (by decide) (by omega)
  rw [← hbit] at hand
  generalize hbv : A / 2 ^ i % 2 = bit at *
  -- the bit put in
  have hadd : ∃ H10 v11, (Option.bind (idxA 1 a (IntKind.i64.wrap (Int.tdiv (i : Int) 16))) fun p12 =>
        Option.bind (rd (deI .u32) H9 p12) fun x13 =>
        if (IntKind.u64.wrap (Int.tmod (i : Int) 16)) < 0 then none else
        if (iand .u32 (ishr .u32 x13 (IntKind.u64.wrap (Int.tmod (i : Int) 16))) 1) = 1 then
          Option.bind (newR 65 1 #[(Value.int .u32 1)] H9) fun (s14, H15) =>
          Option.bind (ref01_AddH H15 x8 s14) fun (x16, H17) =>
          some (H17, x16)
        else
          some (H9, x8)) = some (H10, v11) ∧ Ext H9 H10 ∧ Nh H10 v11 (dig W16 (2 * r + bit)) := by
    rw [hdiv, hmod, g1]
    simp only [Option.bind_some]
    rw [g2]
    simp only [Option.bind_some]
    rw [if_neg (by omega), hshr, hand]
    by_cases hb1 : bit = 1
    · obtain ⟨s14, H15, n1, n2, n3, _⟩ := newH (H := H9) (n := 1) (v := 1) rfl (by decide)
      obtain ⟨x16, H17, m1, m2, m3⟩ := AddH_spec (c3.ext n3) n2 (by omega) (by simp) (by have := c2.1; have := n3.1; omega)
      rw [val_dig two16, show val W16 [1] = 1 by simp [val]] at m3
      refine ⟨H17, x16, ?_, n3.trans m2, by rw [hb1, Nat.mul_comm 2]; exact m3⟩
      rw [if_pos (by omega), n1]
      simp only [Option.bind_some]
      rw [m1]
      simp only [Option.bind_some]
    · have h0 : bit = 0 := by omega
      refine ⟨H9, x8, by rw [if_neg (by omega)], Fr.refl _ _, by rw [h0, Nat.add_zero, Nat.mul_comm 2]; exact c3⟩
  obtain ⟨H10, v11, d1, d2, d3⟩ := hadd
  have hE10 := hE9.trans d2
  have hM10 : M0 ≤ H10.next := by have := c2.1; have := d2.1; omega
  have hcmp := CmpH_spec d3 (hb.ext hE10)
  rw [val_dig two16, val_dig two16] at hcmp
  have hq10 : Vec .u32 65 M0 H10 qs s1 := (hq.fr c2 fun _ _ h => h).fr d2 fun _ _ h => h
  have hn10 : H3.next ≤ H10.next := Nat.le_trans c2.1 d2.1
  -- is it not below the divisor?
  by_cases hge : B ≤ 2 * r + bit
  · obtain ⟨t1, t2⟩ := hst.1 hge
    obtain ⟨x19, H20, e1, e2, e3, e4⟩ := SubH_spec' d3 (hb.ext hE10) (dig_len_mono two16 hge) (by rw [val_dig two16, val_dig two16]; exact hge) hM10
    rw [val_dig two16, val_dig two16] at e3
    have hq20 : Vec .u32 65 M0 H20 qs s1 := hq10.fr e2 fun _ _ h => h
    have hro := hq20.ro (by omega)
    obtain ⟨p21, k1, k2, _⟩ := hro.get (i := i / 16) (by omega) (v := ((i / 16 : Nat) : Int)) rfl
    -- the bit's place is free
    have hs15 : i % 16 ≤ 15 := by omega
    have hpw : 2 ^ (15 - i % 16) * 2 ^ (i % 16 + 1) = 65536 := by rw [← Nat.pow_add, show 15 - i % 16 + (i % 16 + 1) = 16 by omega]
    have hold : qs[i / 16]'(by omega) = Q % 2 ^ (15 - i % 16) * 2 ^ (i % 16 + 1) := by
      have h1 := limb_ofB two16 hqs (i / 16)
      simp only [List.getD, List.getElem?_eq_getElem (show i / 16 < qs.length by omega), Option.getD_some] at h1
      rw [← h1, hQ, Nat.pow_succ, ← pow16' i, Nat.mul_assoc, Nat.mul_left_comm Q, Nat.mul_div_cancel_left _ (Nat.pow_pos (by decide))]
      rw [← Nat.pow_succ, show W16 = 2 ^ (15 - i % 16) * 2 ^ (i % 16 + 1) from hpw.symm, Nat.mul_mod_mul_right]
    have hlow : Q % 2 ^ (15 - i % 16) * 2 ^ (i % 16 + 1) + 2 ^ (i % 16 + 1) ≤ 65536 := by
      have := Nat.mul_le_mul_right (2 ^ (i % 16 + 1)) (Nat.mod_lt Q (show 0 < 2 ^ (15 - i % 16) from Nat.pow_pos (by omega)))
      rw [Nat.succ_mul, hpw] at this
      exact this
    have hpos : 0 < 2 ^ (i % 16) := Nat.pow_pos (by omega)
    have hdbl : 2 ^ (i % 16 + 1) = 2 ^ (i % 16) * 2 := by rw [Nat.pow_succ]
    have hsh : ishl .u32 1 ((i % 16 : Nat) : Int) = ((2 ^ (i % 16) : Nat) : Int) := by
      have := ishl32 (x := 1) (s := i % 16) (by omega) (by omega)
      rw [Nat.one_mul] at this
      exact this
    have hor : ior .u32 ((qs[i / 16]'(by omega) : Nat) : Int) (ishl .u32 1 ((i % 16 : Nat) : Int)) = ((qs[i / 16]'(by omega) + 2 ^ (i % 16) : Nat) : Int) := by
      rw [hold, hsh, ior_comm]
      exact ior32 rfl rfl (by omega) (by omega)
    have hval := val_set (B := W16) qs (i / 16) (qs[i / 16]'(by omega) + 2 ^ (i % 16)) (by omega)
    have hnlt : qs[i / 16]'(by omega) + 2 ^ (i % 16) < 65536 := by rw [hold]; omega
    generalize hqo : qs[i / 16]'(by omega) = qo at *
    obtain ⟨p23, H24, w1, w2, w3, w4, w5⟩ := hq20.set (i := i / 16) (by omega) (qo + 2 ^ (i % 16)) (v := ((qo + 2 ^ (i % 16) : Nat) : Int)) rfl (w := ((i / 16 : Nat) : Int)) rfl
    have hpp : p23 = p21 := Option.some.inj (w1.symm.trans k1)
    subst hpp
    have e2n := e2.1
    have hr' : Nh H24 x19 (dig W16 (2 * r + bit - B)) := ⟨e3.ro.fr w4 fun a ha hh => by
      have := f1 _ hh
      have := e4 a.block ⟨a, ha, rfl⟩
      omega, e3.lt, e3.sm⟩
    refine ⟨H24, x19, qs.set (i / 16) (qo + 2 ^ (i % 16)), ?_, (hE10.trans e2).comp w4 (fun id hid _ hh => by have := f1 id hh; omega), by omega, by rw [t2]; exact hr', w3, by rw [List.length_set]; exact hql, mem_set_lt hqs hnlt, ?_⟩
    · unfold ref01_QuoH_b0
      simp only
      rw [if_pos (by omega), c1]
      simp only [Option.bind_some]
      rw [d1]
      simp only [Option.bind_some]
      rw [hcmp]
      simp only [Option.bind_some]
      rw [if_pos (cmpAns_nonneg.2 hge), e1]
      simp only [Option.bind_some]
      rw [hdiv, hmod, k1]
      simp only [Option.bind_some]
      rw [k2]
      simp only [Option.bind_some]
      rw [if_neg (by omega), hor, show H20.setCell 4294967296 p23 _ = some H24 from w2]
      simp only [Option.bind_some]
      rw [wrap_i64' (by omega) (by omega)]
    · rw [Nat.add_mul, Nat.mul_comm (2 ^ (i % 16)), pow16'] at hval
      rw [t1, Nat.add_mul, Nat.one_mul]
      have : 2 * Q * 2 ^ i = Q * 2 ^ (i + 1) := by rw [Nat.pow_succ, Nat.mul_comm 2 Q, Nat.mul_assoc, Nat.mul_comm 2]
      omega
  · obtain ⟨t1, t2⟩ := hst.2 (by omega)
    refine ⟨H10, v11, qs, ?_, hE10, hn10, by rw [t2]; exact d3, hq10, hql, hqs, ?_⟩
    · unfold ref01_QuoH_b0
      simp only
      rw [if_pos (by omega), c1]
      simp only [Option.bind_some]
      rw [d1]
      simp only [Option.bind_some]
      rw [hcmp]
      simp only [Option.bind_some]
      rw [if_neg (fun h => hge (cmpAns_nonneg.1 h))]
      simp only [Option.bind_some]
      rw [wrap_i64' (by omega) (by omega)]
    · rw [t1, hQ, Nat.pow_succ, Nat.mul_comm 2 Q, Nat.mul_assoc, Nat.mul_comm 2]

end Go.Proofs.Ytoadagekdnkciaa


namespace Go.Proofs.Ytoadagekdnkciaa
open Go Go.Abs
set_option maxRecDepth 10000

/-- The division bit by bit. -/
theorem QuoH_spec {H : AH} {a b : Sl3} {A B : Nat} (ha : Nh H a (dig W16 A)) (hb : Nh H b (dig W16 B)) (hB : B ≠ 0) (hlA : (dig W16 A).length ≤ 1099511627776) (hlB : (dig W16 B).length ≤ 1099511627776) (hM : M0 ≤ H.next) :
    ∃ q r H', ref01_QuoH H a b = some (q, r, H') ∧ Ext H H' ∧ Nh H' q (dig W16 (A / B)) ∧ Nh H' r (dig W16 (A % B)) := by
  have hOP : OPEN = 9223372036854775808 := rfl
  have hBp := Nat.pos_of_ne_zero hB
  have hA := val_dig two16 A
  obtain ⟨s1, H2, m1, m2, m3, m4, m5, m6, m7⟩ := mkS_vec (k := .u32) (e := 65) (m := M0) (bytes := 4) (H := H) (dig W16 A).length (dig W16 A).length (vn := (a.n : Int)) (vc := (a.n : Int)) (by rw [ha.ro.len]) (by rw [ha.ro.len]) (Nat.le_refl _) (by omega) (by omega) hM
  have hAlt : A < 2 ^ (16 * (dig W16 A).length) := by
    have := (dig_len two16 A (dig W16 A).length).1 (Nat.le_refl _)
    rw [show W16 = 2 ^ 16 by decide, ← Nat.pow_mul] at this
    exact this
  generalize hla : (dig W16 A).length = la at *
  obtain ⟨t, l1, l2⟩ := loopO_to (body := ref01_QuoH_b0 a b s1) (16 * la)
    (fun c (st : AH × Sl3 × Int) => st.2.2 = ((16 * la : Nat) : Int) - c - 1 ∧ ∃ qs : List Nat, Ext H st.1 ∧ H2.next ≤ st.1.next ∧ Nh st.1 st.2.1 (dig W16 (A / 2 ^ (16 * la - c) % B)) ∧ Vec .u32 65 M0 st.1 qs s1 ∧ qs.length = la ∧ (∀ q ∈ qs, q < W16) ∧
      val W16 qs = A / 2 ^ (16 * la - c) / B * 2 ^ (16 * la - c))
    (Q := fun st => ∃ qs : List Nat, Ext H st.1 ∧ Nh st.1 st.2.1 (dig W16 (A % B)) ∧ Vec .u32 65 M0 st.1 qs s1 ∧ qs.length = la ∧ (∀ q ∈ qs, q < W16) ∧ val W16 qs = A / B)
    (fun c hc st hst => by
      obtain ⟨H3, v7, v⟩ := st
      obtain ⟨rfl, qs, q1, q2, q3, q4, q5, q6, q7⟩ := hst
      simp only at q1 q2 q3 q4
      have e : 16 * la - c - 1 + 1 = 16 * la - c := by omega
      obtain ⟨H', r', qs', w1, w2, w3, w4, w5, w6, w7, w8⟩ := QuoH_step (i := 16 * la - c - 1) (N1 := H.next) ha hA hb hBp q1 (by omega) (by rw [e]; exact q3) q4 m4 (by omega) (Nat.le_refl _) (by omega) q6 (by omega) (by rw [e]; exact q7) (Nat.le_trans hM q1.1)
      refine ⟨(H', r', ((16 * la : Nat) : Int) - (c + 1 : Nat) - 1), ?_, rfl, qs', w2, by show H2.next ≤ H'.next; omega, by rw [show 16 * la - (c + 1) = 16 * la - c - 1 by omega]; exact w4, w5, by omega, w7, by rw [show 16 * la - (c + 1) = 16 * la - c - 1 by omega]; exact w8⟩
      rw [show ((16 * la : Nat) : Int) - (c : Nat) - 1 = ((16 * la - c - 1 : Nat) : Int) by omega, w1, show ((16 * la - c - 1 : Nat) : Int) - 1 = ((16 * la : Nat) : Int) - (c + 1 : Nat) - 1 by omega])
    (fun st hst => by
      obtain ⟨H3, v7, v⟩ := st
      obtain ⟨rfl, qs, q1, q2, q3, q4, q5, q6, q7⟩ := hst
      rw [Nat.sub_self, Nat.pow_zero, Nat.div_one] at q3 q7
      rw [Nat.mul_one] at q7
      refine ⟨_, ?_, qs, q1, q3, q4, q5, q6, q7⟩
      unfold ref01_QuoH_b0
      simp only
      rw [if_neg (by omega)])
    (s := (H2, Sl3.nil, ((16 * la : Nat) : Int) - 1)) ⟨by simp, List.replicate la 0, m3, Nat.le_refl _, by rw [Nat.sub_zero, Nat.div_eq_of_lt hAlt, Nat.zero_mod]; exact Nh.nil_ _, m2, by simp, (fun q hq => by rw [List.eq_of_mem_replicate hq]; decide), by rw [Nat.sub_zero, Nat.div_eq_of_lt hAlt, Nat.zero_div, Nat.zero_mul, val_zeros]⟩
  obtain ⟨H25, v26, v27⟩ := t
  obtain ⟨qs, q1, q3, q4, q5, q6, q7⟩ := l2
  simp only at q1 q3 q4
  have hN : Nh H25 s1 qs := ⟨q4.ro (by omega), q6, by omega⟩
  obtain ⟨x28, t1, t2, _⟩ := trimH_spec hN
  obtain ⟨x29, u1, u2, _⟩ := trimH_spec q3
  rw [q7] at t2
  rw [val_dig two16] at u2
  refine ⟨x28, x29, H25, ?_, q1, t2, u2⟩
  unfold ref01_QuoH
  rw [show mkS 65 1 4 #[Value.int .u32 0] H (a.n : Int) (a.n : Int) = some (s1, H2) from m1]
  simp only [Option.bind_some]
  rw [ha.ro.len, hla, show IntKind.i64.wrap (16 * (la : Int)) = ((16 * la : Nat) : Int) from wrap_nat (by omega) (by omega), wrap_i64' (x := ((16 * la : Nat) : Int) - 1) (by omega) (by omega), l1]
  simp only [Option.bind_some]
  rw [t1]
  simp only [Option.bind_some]
  rw [u1]
  simp only [Option.bind_some]

theorem QuoR_spec {H : AH} {a b : Sl3} {xs ys : List Nat} (ha : Nm H a xs) (hb : Nm H b ys) (hM : M0 ≤ H.next) :
    ∃ q r H', ref01_Quo H a b = some (q, r, ((quoAns (val W64 xs) (val W64 ys)).2.2 : Int), H') ∧ Ext H H' ∧ Nm H' q (quoAns (val W64 xs) (val W64 ys)).1 ∧ Nm H' r (quoAns (val W64 xs) (val W64 ys)).2.1 := by
  obtain ⟨z, H2, n1, n2, n3, n4⟩ := LNm.two ha hb
  obtain ⟨H4, r1, r2⟩ := longR_spec n2 (by simp) (Nat.le_trans hM n3.1)
  have hE4 := n3.trans r2
  unfold ref01_Quo quoAns
  rw [n1]
  simp only [Option.bind_some]
  rw [r1]
  simp only [Option.bind_some, any_two]
  by_cases h1 : TOP ≤ val W64 xs ∨ TOP ≤ val W64 ys
  · rw [if_pos h1, if_pos h1]
    exact ⟨_, _, _, rfl, hE4, Nm.nil_ _, Nm.nil_ _⟩
  rw [if_neg h1, if_neg h1]
  obtain ⟨x5, H6, t1, t2, t3⟩ := From_spec (hb.ext hE4) (Nat.le_trans hM hE4.1)
  have hE6 := hE4.trans t2
  rw [t1]
  simp only [Option.bind_some]
  rw [t3.ro.len]
  by_cases h0 : val W64 ys = 0
  · rw [if_pos (by rw [h0]; rfl), if_pos h0]
    exact ⟨_, _, _, rfl, hE6, Nm.nil_ _, Nm.nil_ _⟩
  have hp : 0 < (dig W16 (val W64 ys)).length := List.length_pos_iff.2 (dig_ne_nil two16 h0)
  rw [if_neg (by omega), if_neg h0]
  obtain ⟨x7, H8, u1, u2, u3⟩ := From_spec (ha.ext hE6) (Nat.le_trans hM hE6.1)
  have hE8 := hE6.trans u2
  obtain ⟨x9, H10, v1, v2, v3⟩ := From_spec (hb.ext hE8) (Nat.le_trans hM hE8.1)
  have hE10 := hE8.trans v2
  have hl1 := dig16_top.2 (show val W64 xs < TOP by omega)
  have hl2 := dig16_top.2 (show val W64 ys < TOP by omega)
  obtain ⟨x11, x12, H13, q1, q2, q3, q4⟩ := QuoH_spec (u3.ext v2) v3 h0 (by omega) (by omega) (Nat.le_trans hM hE10.1)
  have hE13 := hE10.trans q2
  obtain ⟨x14, H15, o1, o2, o3⟩ := To_spec q3 (Nat.le_trans hM hE13.1)
  have hE15 := hE13.trans o2
  obtain ⟨x16, H17, p1, p2, p3⟩ := To_spec (q4.ext o2) (Nat.le_trans hM hE15.1)
  rw [val_dig two16] at o3 p3
  refine ⟨x14, x16, H17, ?_, hE15.trans p2, o3.ext p2, p3⟩
  rw [u1]
  simp only [Option.bind_some]
  rw [v1]
  simp only [Option.bind_some]
  rw [q1]
  simp only [Option.bind_some]
  rw [o1]
  simp only [Option.bind_some]
  rw [p1]
  simp only [Option.bind_some]
  rfl

/-- NatQuos, over the abstract heap. -/
theorem NatQuos_true {H : AH} {a b : Sl3} {xs ys : List Nat} (ha : Nm H a xs) (hb : Nm H b ys) (hM : M0 ≤ H.next) : ∃ H', law01_NatQuos H a b = some (true, H') := by
  obtain ⟨x1, x2, H4, q1, q2, q3, q4, _, _⟩ := Quo_spec ha hb hM
  obtain ⟨x5, x6, H8, r1, r2, r3, r4⟩ := QuoR_spec (ha.ext q2) (hb.ext q2) (Nat.le_trans hM q2.1)
  obtain ⟨H12, a1, _⟩ := alive_spec (H := H8) (by have := q2.1; have := r2.1; omega)
  refine ⟨H12, ?_⟩
  unfold law01_NatQuos
  rw [q1]
  simp only [Option.bind_some]
  rw [r1]
  simp only [Option.bind_some]
  rw [Same_self (q3.ext r2) r3]
  simp only [Option.bind_some, if_true]
  rw [Same_self (q4.ext r2) r4]
  simp only [Option.bind_some, if_true]
  rw [a1]
  simp only [Option.bind_some]

end Go.Proofs.Ytoadagekdnkciaa


namespace Go.Proofs.Ytoadagekdnkciaa
open Go Go.Abs Go.ChangeShapes Go.WideShapes
set_option maxRecDepth 100000

theorem natQuos_calls {H : Type} {enc : TypeId × Value → H} {W : World} {base : Nat} {args : Array Value} {ds : List (DataW H)} {ps : List MemPlace} (hg : Try.prog.globals.size ≤ W.heap.size)
    (hval : ∀ (j : Nat) t v, Try.f10.params[j]? = some t → args[j]? = some v → Value.okWide Try.prog W .any base t v)
    (hA : DataW.TrodAll enc Try.prog W 0 (fun _ => true) true Try.f10.params.toList args.toList ds ps) (hk : Rows.uptoSmall H ds = true) :
    Calls Try.prog 10 args W fun e W' => e = .returned (.bool true) ∧ RowKit.Below W.heap.size W W' := by
  rw [Try.params10] at hA hval
  have hg2 : Try.prog.globals.size = 2 := by kernel_rfl
  obtain ⟨v0, vs0, d0, ds0, p0, q0, hargs, rfl, rfl, h0, r0⟩ := trodAll_cons hA
  obtain ⟨v1, vs1, d1, ds1, p1, q1, rfl, rfl, rfl, h1, r1⟩ := trodAll_cons r0
  obtain ⟨rfl, rfl, rfl⟩ := trodAll_nil r1
  obtain rfl : args = #[v0, v1] := by cases args; simp_all
  have hb := bulks.bound hk
  simp only [Rows.uptoBulkAll] at hb
  obtain ⟨φ0, H0, s0, x0, i0, le0, e0, m0, vr0, nm0, len0⟩ := import_nat (Imp.start hg) h0 (hval 0 24 v0 rfl rfl) (by omega)
  obtain ⟨φ1, H1, s1, x1, i1, le1, e1, m1, vr1, nm1, len1⟩ := import_nat i0 h1 (hval 1 24 v1 rfl rfl) (by omega)
  simp only at m0 m1
  refine finish Try.func10 (c := B10) (by kernel_rfl) i1 (by omega) (ar2 (vr0.mono le1) vr1) fun HL eL hM => ?_
  obtain ⟨H', hr⟩ := NatQuos_true ((nm0.ext e1).ext eL) (nm1.ext eL) hM
  exact ⟨_, law01_NatQuos_ok hr⟩

theorem natQuos_lifted (os : Os) (started : os.Started) (H : Type) (enc : TypeId × Value → H) (F : Stop.Interp) :
    ReturnsInHanded {} Try.checked os 10 .any ((Rows.OpenSpec.upto Rows.natQuosSpec).pre6 enc Try.prog Try.f10 Rows.natQuosUptoRow.domain false) (((Rows.OpenSpec.upto Rows.natQuosSpec).at F).post enc Try.prog Try.f10 false true false false) :=
  lifted_cond (C := Try.checked) (s := Rows.OpenSpec.upto Rows.natQuosSpec) (k := Rows.uptoSmall) rfl own started (by kernel_rfl) Try.func10 globals_ok laidOut (by kernel_rfl) rfl (by kernel_rfl)
    (fun ds hds => by
      have h2 : ds.length = 2 := hds
      match ds, h2 with
      | [a0, a1], _ => exact ⟨rfl, rfl, rfl⟩)
    rfl
    (OpenSpec.witness (enc := enc) (C := Try.checked) (s := Rows.OpenSpec.upto Rows.natQuosSpec) (k := Rows.uptoSmall) rfl false ⟨#[], #[.slice none 0 0, .slice none 0 0], []⟩ 8 (by kernel_rfl) (by kernel_rfl) (by kernel_rfl)
      (x := ([.nil, .nil], [], [])) (by kernel_rfl) rfl (by kernel_rfl))
    (fun W base args ds ps hg hval hA hk => natQuos_calls hg hval hA hk)

theorem natQuos_holds : Rows.NatQuosUptoSaid :=
  OpenClaim.holds_of_cond 10 Try.f10 rfl rfl rfl rfl rfl rfl rfl ⟨rfl, rfl, rfl, rfl, rfl⟩ rfl rfl rfl rfl rfl (by kernel_rfl) Try.func10 (by kernel_rfl)
    (of_decide_eq_true (by kernel_rfl)) (by unfold Func.isWrapper; first | (rw [if_pos (by decide +kernel)]; kernel_rfl) | (rw [if_neg (by decide +kernel)]; exact ⟨rfl, rfl⟩))
    (fun os started H enc _ F => natQuos_lifted os started H enc F)

#print axioms natQuos_holds
end Go.Proofs.Ytoadagekdnkciaa
