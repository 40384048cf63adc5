/- An abstract interpreter of the loaded program, its soundness, and the laws of a symbolic walk, part 3. No condition. -/
import Derived.Test.YtoadagekdnkciaaEng2
import Derived.Deep.Matrix
import Derived.JoinedCond
namespace Go.Abs

/-! ### append, make, store on slices of one's own -/

abbrev nums (k : IntKind) (xs : List Nat) : List Value := xs.map fun (x : Nat) => Value.int k (x : Int)

theorem addr_add (id o i : Nat) : (Addr.mk id o none).add i = ⟨id, o + i, none⟩ := by
  unfold Addr.add
  split
  · rename_i h; subst h; rfl
  · rfl

theorem rdCells_of {H : AH} {a : Addr} : ∀ (l : List Value) (j : Nat), (∀ (i : Nat) (h : i < l.length), H.cell (a.add (j + i)) = some l[i]) → rdCells H a j l.length = some l := by
  intro l
  induction l with
  | nil => intro j _; rfl
  | cons v l ih =>
    intro j h
    have h0 := h 0 (by simp)
    simp only [Nat.add_zero, List.getElem_cons_zero] at h0
    have h1 := ih (j + 1) fun i hi => by
      have := h (i + 1) (by simpa using hi)
      rw [show j + 1 + i = j + (i + 1) by omega, this]
      simp
    simp only [List.length_cons, rdCells, h0, h1]

theorem Ro.rd {k : IntKind} {H : AH} {s : Sl3} {xs : List Nat} (h : Ro k H s xs) {a : Addr} (ha : s.p = some a) : rdCells H a 0 (s.n * 1) = some (nums k xs) := by
  have := rdCells_of (H := H) (a := a) (nums k xs) 0 fun i hi => by
    rw [Nat.zero_add, h.cell a ha i (by simpa using hi)]
    simp [nums]
  rw [h.len, Nat.mul_one]
  simpa [nums] using this

theorem one_nums (k : IntKind) (xs : List Nat) : (nums k xs).all one = true := by
  rw [List.all_eq_true]
  intro v hv
  simp only [nums, List.mem_map] at hv
  obtain ⟨x, _, rfl⟩ := hv
  rfl

theorem grownS_ok {H : AH} {e : TypeId} {sz bytes need : Nat} {cs : List Value} (h1 : (2 * need + 1000) * bytes ≤ 281474976710656) (h2 : need ≤ 281474976710656) :
    grownS H e sz bytes need cs = some (⟨some ⟨H.next, 0, none⟩, need, OPEN⟩, H.push { obj := .cells cs.toArray e (0, 0), opn := true, esz := sz, ro := false }) := by
  unfold grownS
  rw [if_pos ⟨h1, h2⟩]

theorem setCell_ok {H : AH} {m id off : Nat} {v : Value} {cs : Array Value} {e : TypeId} {opn : Bool} {esz : Nat} (hm : m ≤ id) (hg : H.get id = some { obj := .cells cs e (0, 0), opn, esz, ro := false }) (ho : off < cs.size) :
    H.setCell m ⟨id, off, none⟩ v = some (H.put id { obj := .cells (cs.setIfInBounds off v) e (0, 0), opn, esz, ro := false }) := by
  unfold AH.setCell
  simp only [hg, ble_of hm, blt_iff.2 ho, Bool.and_self, cond_true]

/-- Appending what another slice holds. -/
theorem Vec.app {k : IntKind} {e : TypeId} {m bytes : Nat} {H : AH} {xs ys : List Nat} {s z : Sl3} (h : Vec k e m H xs s) (hz : Ro k H z ys) (hzs : ∀ id, blkIs z id → ¬ blkIs s id)
    (h1 : (2 * (xs.length + ys.length) + 1000) * bytes ≤ 281474976710656) (h2 : xs.length + ys.length ≤ 281474976710656) (hm : m ≤ H.next) :
    ∃ s' H', appS m e 1 bytes H s z = some (s', H') ∧ Vec k e m H' (xs ++ ys) s' ∧ Fr (blkIs s) H H' ∧ ∀ id, blkIs s' id → blkIs s id ∨ H.next ≤ id := by
  have hO : OPEN = 9223372036854775808 := rfl
  have hs := h.ro (by omega)
  -- the elements
  have hsrc : ∀ r, appL m e 1 bytes H s ys.length (nums k ys) = r → appS m e 1 bytes H s z = r := by
    intro r hr
    unfold appS
    cases hp : z.p with
    | none =>
      have := hz.nil hp
      have hl := hz.len
      simp only
      rw [if_pos this.1]
      have : ys = [] := List.length_eq_zero_iff.1 (by omega)
      subst this
      exact hr
    | some b =>
      simp only
      rw [hz.rd hp]
      simp only
      rw [if_pos (one_nums k ys), hz.len]
      exact hr
  by_cases hy : ys.length = 0
  · have : ys = [] := List.length_eq_zero_iff.1 hy
    subst this
    refine ⟨s, H, hsrc _ ?_, by simpa using h, Fr.refl _ _, fun id hid => .inl hid⟩
    unfold appL
    rw [if_pos hy, if_pos hs.cap]
  · have mapApp : nums k xs ++ nums k ys = nums k (xs ++ ys) := by simp [nums]
    have lenApp : (xs ++ ys).length = xs.length + ys.length := by simp
    cases h with
    | nil hx =>
      subst hx
      refine ⟨⟨some ⟨H.next, 0, none⟩, ys.length, OPEN⟩, H.push { obj := .cells (nums k ys).toArray e (0, 0), opn := true, esz := 1, ro := false }, hsrc _ ?_, ?_, Fr.push _ _ _, ?_⟩
      · unfold appL
        rw [if_neg hy]
        simp only [Sl3.nil]
        rw [if_pos ⟨trivial, trivial⟩, grownS_ok (by simpa using h1) (by simpa using h2)]
      · simp only [List.nil_append]
        exact .opn H.next hm (by simp) (by rw [AH.get_push_same])
      · rintro id ⟨a, ha, rfl⟩
        cases ha
        exact .inr (Nat.le_refl _)
    | opn id hm' hid hg =>
      have hrd := hs.rd (a := ⟨id, 0, none⟩) rfl
      refine ⟨⟨some ⟨H.next, 0, none⟩, (xs ++ ys).length, OPEN⟩, (H.put id dead).push { obj := .cells (nums k (xs ++ ys)).toArray e (0, 0), opn := true, esz := 1, ro := false }, hsrc _ ?_, ?_, ?_, ?_⟩
      · unfold appL
        rw [if_neg hy]
        simp only
        simp only at hrd
        rw [hrd]
        simp only
        have hown : ownedB m H ⟨id, 0, none⟩ e 1 = true := by
          unfold ownedB
          simp only [hg, ble_of hm', Nat.beq_refl, Bool.and_self]
        rw [if_pos trivial, if_pos ⟨hown, one_nums k ys⟩, grownS_ok h1 h2, mapApp, ← lenApp]
        rfl
      · refine .opn H.next hm (by simp) ?_
        show ((H.put id dead).push _).get (H.put id dead).next = _
        rw [AH.get_push_same]
      · refine ⟨by simp, fun id' b hid' hn hb => ?_⟩
        have hne : id' ≠ id := fun e => hn ⟨_, rfl, e.symm⟩
        rw [AH.get_push_other _ _ (by simp; omega), AH.get_put_other _ _ hne]
        exact hb
      · rintro id' ⟨a, ha, rfl⟩
        cases ha
        exact .inr (Nat.le_refl _)
    | fix id c cs hm' hid hg hc ho hl hx =>
      have hrd := hs.rd (a := ⟨id, 0, none⟩) rfl
      by_cases hfit : xs.length + ys.length ≤ c
      · -- in place
        have hwr : ∀ (l : List Value) (j : Nat) (G : AH) (ds : Array Value), l.all one = true → G.get id = some { obj := .cells ds e (0, 0), opn := false, esz := 0, ro := false } → xs.length + j + l.length ≤ ds.size →
            ∃ G' ds', wrCells m ⟨id, xs.length, none⟩ j l G = some G' ∧ G'.get id = some { obj := .cells ds' e (0, 0), opn := false, esz := 0, ro := false } ∧ ds'.size = ds.size ∧ G'.next = G.next ∧ (∀ id', id' ≠ id → G'.get id' = G.get id') ∧
              (∀ i, i < xs.length + j → ds'[i]? = ds[i]?) ∧ ∀ (i : Nat) (hi : i < l.length), ds'[xs.length + j + i]? = some l[i] := by
          intro l
          induction l with
          | nil => intro j G ds _ hG _; exact ⟨G, ds, rfl, hG, rfl, rfl, fun _ _ => rfl, fun _ _ => rfl, fun i hi => by simp at hi⟩
          | cons v l ih =>
            intro j G ds hone hG hsz
            simp only [List.all_cons, Bool.and_eq_true] at hone
            have hset := setCell_ok (H := G) (m := m) (id := id) (off := xs.length + j) (v := v) hm' hG (by simp at hsz; omega)
            obtain ⟨G', ds', w1, w2, w3, w4, w5, w6, w7⟩ := ih (j + 1) (G.put id { obj := .cells (ds.setIfInBounds (xs.length + j) v) e (0, 0), opn := false, esz := 0, ro := false }) (ds.setIfInBounds (xs.length + j) v) hone.2 (AH.get_put_same _ _ _) (by simp at hsz ⊢; omega)
            refine ⟨G', ds', ?_, w2, by simpa using w3, w4, fun id' hne => by rw [w5 id' hne, AH.get_put_other _ _ hne], fun i hi => ?_, fun i hi => ?_⟩
            · simp only [wrCells, hone.1, cond_true]
              rw [addr_add, hset]
              exact w1
            · rw [w6 i (by omega), Array.getElem?_setIfInBounds_ne (by omega)]
            · cases i with
              | zero =>
                rw [Nat.add_zero, w6 _ (by omega), Array.getElem?_setIfInBounds_self_of_lt (by simp at hsz; omega)]
                rfl
              | succ i =>
                have := w7 i (by simpa using hi)
                rw [show xs.length + (j + 1) + i = xs.length + j + (i + 1) by omega] at this
                rw [this]
                simp
        obtain ⟨G', ds', w1, w2, w3, w4, w5, w6, w7⟩ := hwr (nums k ys) 0 H cs (one_nums k ys) hg (by simp [nums]; omega)
        refine ⟨⟨some ⟨id, 0, none⟩, (xs ++ ys).length, c⟩, G', hsrc _ ?_, ?_, ⟨by rw [w4]; exact Nat.le_refl _, fun id' b _ hn hb => by rw [w5 id' (fun e => hn ⟨_, rfl, e.symm⟩)]; exact hb⟩, ?_⟩
        · unfold appL
          rw [if_neg hy]
          simp only
          simp only at hrd
          rw [hrd]
          simp only
          rw [if_neg (by omega), if_pos hfit, Nat.mul_one, addr_add, Nat.zero_add, w1, ← lenApp]
          rfl
        · refine .fix id c ds' hm' (by rw [w4]; exact hid) w2 (by rw [w3]; exact hc) ho (by rw [lenApp]; exact hfit) fun i hi => ?_
          by_cases hlt : i < xs.length
          · rw [w6 i (by omega), List.getElem_append_left hlt]; exact hx i hlt
          · have hi2 : i - xs.length < ys.length := by rw [lenApp] at hi; omega
            have := w7 (i - xs.length) (by simpa [nums] using hi2)
            rw [Nat.add_zero, show xs.length + (i - xs.length) = i by omega] at this
            rw [this, List.getElem_append_right (by omega)]
            simp [nums]
        · rintro id' ⟨a, ha, rfl⟩
          cases ha
          exact .inl ⟨_, rfl, rfl⟩
      · refine ⟨⟨some ⟨H.next, 0, none⟩, (xs ++ ys).length, OPEN⟩, H.push { obj := .cells (nums k (xs ++ ys)).toArray e (0, 0), opn := true, esz := 1, ro := false }, hsrc _ ?_, ?_, Fr.push _ _ _, ?_⟩
        · unfold appL
          rw [if_neg hy]
          simp only
          simp only at hrd
          rw [hrd]
          simp only
          rw [if_neg (by omega), if_neg hfit, if_pos hl, grownS_ok h1 h2, mapApp, ← lenApp]
        · exact .opn H.next hm (by simp) (by rw [AH.get_push_same])
        · rintro id' ⟨a, ha, rfl⟩
          cases ha
          exact .inr (Nat.le_refl _)

/-- A new row of numbers. -/
theorem newR_ro {k : IntKind} {e : TypeId} {H : AH} {ys : List Nat} (hl : ys.length < OPEN) :
    ∃ z H', newR e ys.length (nums k ys).toArray H = some (z, H') ∧ Ro k H' z ys ∧ Ext H H' ∧ (∀ id, blkIs z id → id = H.next) ∧ H'.next = H.next + 1 := by
  refine ⟨_, _, rfl, ?_, Fr.push _ _ _, ?_, by simp⟩
  · refine ⟨rfl, Nat.le_refl _, Nat.le_of_lt hl, fun h => (by cases h), fun a ha => ?_, fun a _ ho => absurd (show ys.length = OPEN from ho) (by omega), fun a ha i hi => ?_⟩
    · cases ha; simp
    · cases ha
      rw [addr_add]
      exact cell_of (a := ⟨H.next, 0 + i, none⟩) (AH.get_push_same _ _) rfl rfl (by simp [nums, hi])
  · rintro id ⟨a, ha, rfl⟩
    cases ha
    rfl

/-- Appending one number. -/
theorem Vec.push {k : IntKind} {e : TypeId} {m bytes : Nat} {H : AH} {xs : List Nat} {s : Sl3} (h : Vec k e m H xs s) (x : Nat) {v : Int} (hv : v = x)
    (h1 : (2 * (xs.length + 1) + 1000) * bytes ≤ 281474976710656) (h2 : xs.length + 1 ≤ 281474976710656) (hm : m ≤ H.next) :
    ∃ z H1 s' H', newR e 1 #[Value.int k v] H = some (z, H1) ∧ appS m e 1 bytes H1 s z = some (s', H') ∧ Vec k e m H' (xs ++ [x]) s' ∧ Fr (blkIs s) H H' ∧ ∀ id, blkIs s' id → blkIs s id ∨ H.next ≤ id := by
  subst hv
  obtain ⟨z, H1, n1, n2, n3, n4, n5⟩ := newR_ro (k := k) (e := e) (H := H) (ys := [x]) (by simp [OPEN])
  have h' := h.fr n3 fun _ _ h => h
  obtain ⟨s', H', a1, a2, a3, a4⟩ := h'.app n2 (fun id hz hs => by have := n4 id hz; have := h.low id hs; omega) (bytes := bytes) (by simpa using h1) (by simpa using h2) (by omega)
  refine ⟨z, H1, s', H', n1, a1, a2, (n3.weak fun _ _ h => h.elim).comp a3 (fun _ _ hn => hn), fun id hid => ?_⟩
  rcases a4 id hid with h | h
  · exact .inl h
  · exact .inr (by omega)

/-- make([]T, len, cap) of numbers. -/
theorem mkS_vec {k : IntKind} {e : TypeId} {m bytes : Nat} {H : AH} (n c : Nat) {vn vc : Int} (hvn : vn = n) (hvc : vc = c) (hnc : n ≤ c) (hc : c ≤ 281474976710656) (hb : bytes * c ≤ 281474976710656) (hm : m ≤ H.next) :
    ∃ s H', mkS e 1 bytes #[Value.int k 0] H vn vc = some (s, H') ∧ Vec k e m H' (List.replicate n 0) s ∧ Ext H H' ∧ (∀ id, blkIs s id → id = H.next) ∧ s.n = n ∧ s.c = c ∧ H'.next = H.next + 1 := by
  subst hvn
  subst hvc
  have hO : OPEN = 9223372036854775808 := rfl
  have hn : (c : Int).toNat * 1 = c := by simp
  have hcells : ∀ (i : Nat), i < c → (if (c : Int).toNat * 1 = 0 then #[] else zerosA #[Value.int k 0] ((c : Int).toNat * 1))[i]? = some (Value.int k 0) := by
    intro i hi
    rw [hn, if_neg (by omega)]
    unfold zerosA
    rw [Array.getElem?_map, Array.getElem?_range, if_pos hi]
    simp only [Option.map_some, List.size_toArray, List.length_cons, List.length_nil, Nat.zero_add, Nat.mod_one]
    rfl
  have hsz : (if (c : Int).toNat * 1 = 0 then #[] else zerosA #[Value.int k 0] ((c : Int).toNat * 1)).size = c := by
    rw [hn]
    split
    · rename_i h; rw [h]; rfl
    · unfold zerosA; rw [Array.size_map, Array.size_range]
  refine ⟨_, _, by unfold mkS; rw [if_pos ⟨by omega, by omega, by omega, by rw [← Int.natCast_mul]; exact Int.ofNat_le.2 hb⟩], ?_, Fr.push _ _ _, ?_, by simp, by simp, by simp⟩
  · have := Vec.fix (k := k) (e := e) (m := m) (xs := List.replicate n 0) H.next c _ hm (H := H.push _) (by simp) (AH.get_push_same H { obj := .cells (if (c : Int).toNat * 1 = 0 then #[] else zerosA #[Value.int k 0] ((c : Int).toNat * 1)) e (0, 0), opn := false, esz := 0, ro := false }) hsz (by omega) (by simpa using hnc) fun i hi => by
      rw [hcells i (by simp at hi; omega)]
      simp
    simpa using this
  · rintro id ⟨a, ha, rfl⟩
    cases ha
    rfl

/-- A number put in its place. -/
theorem Vec.set {k : IntKind} {e : TypeId} {m : Nat} {H : AH} {xs : List Nat} {s : Sl3} (h : Vec k e m H xs s) {i : Nat} (hi : i < xs.length) (x : Nat) {v w : Int} (hv : v = x) (hw : w = i) :
    ∃ p H', idxA 1 s w = some p ∧ H.setCell m p (.int k v) = some H' ∧ Vec k e m H' (xs.set i x) s ∧ Fr (blkIs s) H H' ∧ H'.next = H.next := by
  subst hv
  subst hw
  have hlen : (xs.set i x).length = xs.length := by simp
  cases h with
  | nil hx => subst hx; simp at hi
  | opn id hm hid hg =>
    refine ⟨⟨id, i, none⟩, _, ?_, setCell_ok hm hg (by simpa using hi), ?_, ?_, rfl⟩
    · unfold idxA
      simp only
      rw [if_pos ⟨Int.natCast_nonneg i, Int.ofNat_lt.2 hi⟩, Int.toNat_natCast, Nat.mul_one, addr_add, Nat.zero_add]
    · rw [← hlen]
      refine .opn id hm hid ?_
      rw [AH.get_put_same, List.map_set]
      simp
    · exact Fr.put.weak fun id' _ e => ⟨_, rfl, e.symm⟩
  | fix id c cs hm hid hg hc ho hl hx =>
    refine ⟨⟨id, i, none⟩, _, ?_, setCell_ok hm hg (by omega), ?_, ?_, rfl⟩
    · unfold idxA
      simp only
      rw [if_pos ⟨Int.natCast_nonneg i, Int.ofNat_lt.2 hi⟩, Int.toNat_natCast, Nat.mul_one, addr_add, Nat.zero_add]
    · rw [← hlen]
      refine .fix id c _ hm hid (AH.get_put_same _ _ _) (by simpa using hc) ho (by rw [hlen]; exact hl) fun j hj => ?_
      rw [hlen] at hj
      by_cases e : j = i
      · subst e
        rw [Array.getElem?_setIfInBounds_self_of_lt (by omega)]
        simp
      · rw [Array.getElem?_setIfInBounds_ne (fun h => e h.symm), hx j hj, List.getElem_set_ne (fun h => e h.symm)]
    · exact Fr.put.weak fun id' _ e => ⟨_, rfl, e.symm⟩

end Go.Abs

namespace Go.Abs

/-! ### Digits of numbers; loops that count -/

def val (B : Nat) : List Nat → Nat
  | [] => 0
  | x :: l => x + B * val B l

def digF (B : Nat) : Nat → Nat → List Nat
  | 0, _ => []
  | f + 1, n => if n = 0 then [] else n % B :: digF B f (n / B)

/-- The digits of n, the lowest first, no 0 on top. -/
def dig (B n : Nat) : List Nat := digF B n n

variable {B : Nat}

theorem div_lt' (hB : 2 ≤ B) {n : Nat} (hn : n ≠ 0) : n / B < n := Nat.div_lt_self (by omega) (by omega)

theorem digF_eq (hB : 2 ≤ B) : ∀ (f g n : Nat), n ≤ f → n ≤ g → digF B f n = digF B g n := by
  intro f
  induction f with
  | zero =>
    intro g n hf hg
    have : n = 0 := by omega
    subst this
    cases g <;> simp [digF]
  | succ f ih =>
    intro g n hf hg
    by_cases hn : n = 0
    · subst hn; cases g <;> simp [digF]
    · cases g with
      | zero => omega
      | succ g =>
        have := div_lt' hB hn
        simp only [digF, hn, if_false]
        rw [ih g (n / B) (by omega) (by omega)]

theorem dig_zero : dig B 0 = [] := rfl

theorem dig_eq (hB : 2 ≤ B) {n : Nat} (hn : n ≠ 0) : dig B n = n % B :: dig B (n / B) := by
  unfold dig
  obtain ⟨m, rfl⟩ : ∃ m, n = m + 1 := ⟨n - 1, by omega⟩
  have := div_lt' hB hn
  rw [digF, if_neg hn, digF_eq hB m ((m + 1) / B) ((m + 1) / B) (by omega) (Nat.le_refl _)]

theorem dig_ind (hB : 2 ≤ B) {Q : Nat → Prop} (h0 : Q 0) (hs : ∀ n, n ≠ 0 → Q (n / B) → Q n) : ∀ n, Q n := by
  intro n
  induction n using Nat.strongRecOn with
  | _ n ih =>
    by_cases hn : n = 0
    · subst hn; exact h0
    · exact hs n hn (ih _ (div_lt' hB hn))

theorem val_dig (hB : 2 ≤ B) : ∀ n, val B (dig B n) = n :=
  dig_ind hB rfl fun n hn ih => by rw [dig_eq hB hn, val, ih]; exact Nat.mod_add_div n B

theorem dig_lt (hB : 2 ≤ B) : ∀ n, ∀ x ∈ dig B n, x < B :=
  dig_ind hB (fun x hx => by cases hx) fun n hn ih x hx => by
    rw [dig_eq hB hn, List.mem_cons] at hx
    rcases hx with rfl | hx
    · exact Nat.mod_lt _ (by omega)
    · exact ih x hx

theorem dig_ne_nil (hB : 2 ≤ B) {n : Nat} (hn : n ≠ 0) : dig B n ≠ [] := by rw [dig_eq hB hn]; simp

theorem val_lt (hB : 2 ≤ B) : ∀ (l : List Nat), (∀ x ∈ l, x < B) → val B l < B ^ l.length := by
  intro l
  induction l with
  | nil => intro _; simp [val]
  | cons x l ih =>
    intro h
    have h1 := ih fun y hy => h y (by simp [hy])
    have h2 := h x (by simp)
    rw [val, List.length_cons, Nat.pow_succ, Nat.mul_comm (B ^ l.length) B]
    calc x + B * val B l < B + B * val B l := by omega
      _ = B * (val B l + 1) := by rw [Nat.mul_add, Nat.mul_one, Nat.add_comm]
      _ ≤ B * B ^ l.length := Nat.mul_le_mul_left _ (by omega)

theorem val_append (l l' : List Nat) : val B (l ++ l') = val B l + B ^ l.length * val B l' := by
  induction l with
  | nil => simp [val]
  | cons x l ih =>
    rw [List.cons_append, val, ih, val, List.length_cons, Nat.pow_succ, Nat.mul_add, Nat.mul_comm (B ^ l.length) B, Nat.mul_assoc, Nat.add_assoc]

theorem val_zeros (n : Nat) : val B (List.replicate n 0) = 0 := by
  induction n with
  | zero => rfl
  | succ n ih => rw [List.replicate_succ, val, ih]; simp

theorem val_zero_iff (hB : 2 ≤ B) (l : List Nat) : val B l = 0 ↔ ∀ x ∈ l, x = 0 := by
  induction l with
  | nil => simp [val]
  | cons x l ih =>
    rw [val]
    constructor
    · intro h y hy
      have h1 : x = 0 := by omega
      have h2 : B * val B l = 0 := by omega
      rcases Nat.mul_eq_zero.1 h2 with h | h
      · omega
      · rw [List.mem_cons] at hy
        rcases hy with rfl | hy
        · exact h1
        · exact ih.1 h y hy
    · intro h
      rw [h x (by simp), ih.2 fun y hy => h y (by simp [hy])]
      simp

/-- What has its digits and no 0 on top is what the number's digits are. -/
theorem dig_val (hB : 2 ≤ B) : ∀ (l : List Nat), (∀ x ∈ l, x < B) → (∀ h : l ≠ [], l.getLast h ≠ 0) → dig B (val B l) = l := by
  intro l
  induction l with
  | nil => intro _ _; rfl
  | cons x l ih =>
    intro h ht
    have hx := h x (by simp)
    have hne : val B (x :: l) ≠ 0 := by
      intro h0
      have := (val_zero_iff hB _).1 h0
      exact ht (by simp) (this _ (List.getLast_mem _))
    rw [dig_eq hB hne, val]
    have h1 : (x + B * val B l) % B = x := by rw [Nat.add_mul_mod_self_left]; exact Nat.mod_eq_of_lt hx
    have h2 : (x + B * val B l) / B = val B l := by rw [Nat.add_mul_div_left _ _ (by omega)]; rw [Nat.div_eq_of_lt hx]; omega
    rw [h1, h2]
    rw [ih (fun y hy => h y (by simp [hy])) fun hl => by have := ht (by simp); rwa [List.getLast_cons hl] at this]

theorem dig_top (hB : 2 ≤ B) : ∀ n, ∀ h : dig B n ≠ [], (dig B n).getLast h ≠ 0 :=
  dig_ind hB (fun h => absurd rfl h) fun n hn ih h => by
    by_cases h0 : n / B = 0
    · have e : dig B n = [n % B] := by rw [dig_eq hB hn, h0]; rfl
      have hlt : n < B := by
        rcases Nat.div_eq_zero_iff.1 h0 with h | h
        · omega
        · exact h
      simp only [e, List.getLast_singleton]
      rw [Nat.mod_eq_of_lt hlt]
      exact hn
    · have hne := dig_ne_nil hB h0
      have := ih hne
      simp only [dig_eq hB hn]
      rw [List.getLast_cons hne]
      exact this

/-- The first n of digits whose others are 0, the one on top not. -/
theorem take_dig (hB : 2 ≤ B) {l : List Nat} (hl : ∀ x ∈ l, x < B) {n : Nat} (hn : n ≤ l.length) (hz : ∀ (i : Nat) (h : i < l.length), n ≤ i → l[i] = 0) (ht : ∀ (h : 0 < n), l[n - 1] ≠ 0) : l.take n = dig B (val B l) := by
  have hd : val B (l.drop n) = 0 := (val_zero_iff hB _).2 fun x hx => by
    obtain ⟨i, hi, rfl⟩ := List.getElem_of_mem hx
    rw [List.getElem_drop]
    exact hz _ _ (by omega)
  have e : val B l = val B (l.take n) := by
    conv => lhs; rw [← List.take_append_drop n l]
    rw [val_append, hd]
    omega
  rw [e, dig_val hB]
  · exact fun x hx => hl x (List.mem_of_mem_take hx)
  · intro h
    have h0 : 0 < n := by
      cases n with
      | zero => simp at h
      | succ n => omega
    rw [List.getLast_eq_getElem]
    simp only [List.length_take, List.getElem_take]
    have := ht h0
    have e2 : min n l.length - 1 = n - 1 := by omega
    simp only [e2]
    exact this

theorem dig_len (hB : 2 ≤ B) : ∀ n k, (dig B n).length ≤ k ↔ n < B ^ k := by
  refine dig_ind hB (fun k => ?_) fun n hn ih k => ?_
  · simp only [dig_zero, List.length_nil, Nat.zero_le, true_iff]
    exact Nat.pow_pos (by omega)
  · rw [dig_eq hB hn, List.length_cons]
    cases k with
    | zero => simp; omega
    | succ k =>
      rw [Nat.pow_succ, ← Nat.div_lt_iff_lt_mul (by omega), ← ih k]
      omega

theorem dig_nil_iff (hB : 2 ≤ B) {n : Nat} : dig B n = [] ↔ n = 0 :=
  ⟨fun h => Classical.byContradiction fun hn => dig_ne_nil hB hn h, fun h => by subst h; rfl⟩

/-- A loop that counts to n, or goes back on the way. -/
theorem loopO_count {S R : Type} {body : S → Option (Lp S R)} (n : Nat) (st : Nat → S → Prop) (post : S ⊕ R → Prop)
    (step : ∀ i, i < n → ∀ s, st i s → (∃ s', body s = some (.next s') ∧ st (i + 1) s') ∨ ∃ r, body s = some (.ret r) ∧ post (.inr r))
    (stop : ∀ s, st n s → ∃ s', body s = some (.brk s') ∧ post (.inl s')) {s : S} (h0 : st 0 s) : ∃ o, loopO body s = some o ∧ post o := by
  have key : ∀ (d i : Nat) s, i + d = n → st i s → ∃ o, loopO body s = some o ∧ post o := by
    intro d
    induction d with
    | zero =>
      intro i s hi hs
      rw [Nat.add_zero] at hi
      subst hi
      obtain ⟨s', h1, h2⟩ := stop s hs
      exact ⟨_, loopO_brk h1, h2⟩
    | succ d ih =>
      intro i s hi hs
      rcases step i (by omega) s hs with ⟨s', h1, h2⟩ | ⟨r, h1, h2⟩
      · rw [loopO_next h1]; exact ih (i + 1) s' (by omega) h2
      · exact ⟨_, loopO_ret h1, h2⟩
  exact key n 0 s (by omega) h0

/-- A loop that counts to n and ends there. -/
theorem loopO_to {S R : Type} {body : S → Option (Lp S R)} (n : Nat) (st : Nat → S → Prop) {Q : S → Prop}
    (step : ∀ i, i < n → ∀ s, st i s → ∃ s', body s = some (.next s') ∧ st (i + 1) s') (stop : ∀ s, st n s → ∃ s', body s = some (.brk s') ∧ Q s') {s : S} (h0 : st 0 s) : ∃ s', loopO body s = some (.inl s') ∧ Q s' := by
  obtain ⟨o, h1, h2⟩ := loopO_count (R := R) (body := body) n st (fun o => ∃ s', o = .inl s' ∧ Q s') (fun i hi s hs => .inl (step i hi s hs)) (fun s hs => let ⟨s', a, b⟩ := stop s hs; ⟨s', a, s', rfl, b⟩) h0
  obtain ⟨s', rfl, h3⟩ := h2
  exact ⟨s', h1, h3⟩

theorem wrap_nat {x : Int} {n : Nat} (h : x = n) (hn : n < 9223372036854775808) : IntKind.i64.wrap x = n := by
  subst h
  exact wrap_i64' (by omega) (by omega)

end Go.Abs

namespace Go.Abs

/-! ### The program's arithmetic on natural numbers; slices of slices -/

theorem ishr_nat {k : IntKind} {x n : Nat} {v w : Int} (hv : v = x) (hw : w = n) (hn : n ≤ k.bits) : ishr k v w = ((x / 2 ^ n : Nat) : Int) := by
  subst hv
  subst hw
  unfold ishr
  rw [Int.toNat_natCast, Nat.min_eq_left hn, Int.fdiv_eq_ediv_of_nonneg _ (by have := Int.natCast_nonneg (2 ^ n); simpa using this)]
  simp

theorem ofInt_nat (w x : Nat) : (BitVec.ofInt w (x : Int)).toNat = x % 2 ^ w := by
  rw [BitVec.ofInt_natCast, BitVec.toNat_ofNat]

theorem iand_u64 {x n : Nat} {v w : Int} (hv : v = x) (hx : x < 18446744073709551616) (hw : w = ((2 ^ n - 1 : Nat) : Int)) (hn : n ≤ 64) : iand .u64 v w = ((x % 2 ^ n : Nat) : Int) := by
  subst hv
  subst hw
  unfold iand
  have h1 : (BitVec.ofInt IntKind.u64.bits (x : Int) &&& BitVec.ofInt IntKind.u64.bits ((2 ^ n - 1 : Nat) : Int)).toNat = x % 2 ^ n := by
    rw [BitVec.toNat_and, ofInt_nat, ofInt_nat]
    show (x % 2 ^ 64) &&& ((2 ^ n - 1) % 2 ^ 64) = _
    have hp : 2 ^ n ≤ 2 ^ 64 := Nat.pow_le_pow_right (by omega) hn
    have hpos : 0 < 2 ^ n := Nat.pow_pos (by omega)
    rw [Nat.mod_eq_of_lt (a := x) (by omega), Nat.mod_eq_of_lt (a := 2 ^ n - 1) (by omega), Nat.and_two_pow_sub_one_eq_mod]
  rw [h1]
  have := Nat.mod_le x (2 ^ n)
  exact wrap_u64 (by omega) (by omega)

theorem iand_u32 {x n : Nat} {v w : Int} (hv : v = x) (hx : x < 4294967296) (hw : w = ((2 ^ n - 1 : Nat) : Int)) (hn : n ≤ 32) : iand .u32 v w = ((x % 2 ^ n : Nat) : Int) := by
  subst hv
  subst hw
  unfold iand
  have h1 : (BitVec.ofInt IntKind.u32.bits (x : Int) &&& BitVec.ofInt IntKind.u32.bits ((2 ^ n - 1 : Nat) : Int)).toNat = x % 2 ^ n := by
    rw [BitVec.toNat_and, ofInt_nat, ofInt_nat]
    show (x % 2 ^ 32) &&& ((2 ^ n - 1) % 2 ^ 32) = _
    have hp : 2 ^ n ≤ 2 ^ 32 := Nat.pow_le_pow_right (by omega) hn
    have hpos : 0 < 2 ^ n := Nat.pow_pos (by omega)
    rw [Nat.mod_eq_of_lt (a := x) (by omega), Nat.mod_eq_of_lt (a := 2 ^ n - 1) (by omega), Nat.and_two_pow_sub_one_eq_mod]
  rw [h1]
  have := Nat.mod_le x (2 ^ n)
  exact wrap_u32 (by omega) (by omega)

theorem wrap_u64n {x : Int} {n : Nat} (h : x = n) (hn : n < 18446744073709551616) : IntKind.u64.wrap x = n := by
  subst h; exact wrap_u64 (by omega) (by omega)
theorem wrap_u32n {x : Int} {n : Nat} (h : x = n) (hn : n < 4294967296) : IntKind.u32.wrap x = n := by
  subst h; exact wrap_u32 (by omega) (by omega)
theorem wrap_u64m (x : Nat) : IntKind.u64.wrap (x : Int) = ((x % 18446744073709551616 : Nat) : Int) := by
  unfold IntKind.wrap
  simp only [IntKind.bits, IntKind.signed, Bool.false_and, Bool.false_eq_true, if_false]
  simp
theorem wrap_u32m (x : Nat) : IntKind.u32.wrap (x : Int) = ((x % 4294967296 : Nat) : Int) := by
  rw [IntKind.wrap_u32]
  simp

/-- The upper half of a product, by halves of 32 bits. -/
theorem mul64_hi (x y : Nat) (hx : x < 18446744073709551616) (hy : y < 18446744073709551616) :
    (x / 4294967296) * (y / 4294967296) + ((x / 4294967296) * (y % 4294967296) + (x % 4294967296) * (y % 4294967296) / 4294967296) / 4294967296 +
      (((x / 4294967296) * (y % 4294967296) + (x % 4294967296) * (y % 4294967296) / 4294967296) % 4294967296 + (x % 4294967296) * (y / 4294967296)) / 4294967296 = x * y / 18446744073709551616 ∧
    (x / 4294967296) * (y % 4294967296) ≤ 18446744065119617025 ∧ (x % 4294967296) * (y % 4294967296) ≤ 18446744065119617025 ∧ (x % 4294967296) * (y / 4294967296) ≤ 18446744065119617025 ∧ (x / 4294967296) * (y / 4294967296) ≤ 18446744065119617025 := by
  have hx1 : x / 4294967296 ≤ 4294967295 := by omega
  have hy1 : y / 4294967296 ≤ 4294967295 := by omega
  have hx0 : x % 4294967296 ≤ 4294967295 := by omega
  have hy0 : y % 4294967296 ≤ 4294967295 := by omega
  have b1 := Nat.mul_le_mul hx1 hy0
  have b2 := Nat.mul_le_mul hx0 hy0
  have b3 := Nat.mul_le_mul hx0 hy1
  have b4 := Nat.mul_le_mul hx1 hy1
  have e : x * y = (x / 4294967296) * (y / 4294967296) * 18446744073709551616 + ((x / 4294967296) * (y % 4294967296) + (x % 4294967296) * (y / 4294967296)) * 4294967296 + (x % 4294967296) * (y % 4294967296) := by
    conv => lhs; rw [← Nat.div_add_mod x 4294967296, ← Nat.div_add_mod y 4294967296]
    generalize x / 4294967296 = a
    generalize y / 4294967296 = b
    generalize x % 4294967296 = c
    generalize y % 4294967296 = d
    rw [Nat.add_mul, Nat.mul_add, Nat.mul_add]
    have e1 : 4294967296 * a * (4294967296 * b) = a * b * 18446744073709551616 := by
      rw [Nat.mul_assoc, Nat.mul_left_comm a, ← Nat.mul_assoc, Nat.mul_comm]
    have e2 : 4294967296 * a * d = a * d * 4294967296 := by rw [Nat.mul_assoc, Nat.mul_comm]
    have e3 : c * (4294967296 * b) = c * b * 4294967296 := by rw [Nat.mul_left_comm, Nat.mul_comm]
    rw [e1, e2, e3, Nat.add_mul]
    omega
  refine ⟨?_, b1, b2, b3, b4⟩
  rw [e]
  generalize (x / 4294967296) * (y / 4294967296) = p11 at *
  generalize (x / 4294967296) * (y % 4294967296) = p10 at *
  generalize (x % 4294967296) * (y / 4294967296) = p01 at *
  generalize (x % 4294967296) * (y % 4294967296) = p00 at *
  omega

theorem add64_nat {x y c : Nat} {vx vy vc : Int} (hx : vx = x) (hy : vy = y) (hc : vc = c) (h : c ≤ 1) : add64 vx vy vc = some ((((x + y + c) % 18446744073709551616 : Nat) : Int), (((x + y + c) / 18446744073709551616 : Nat) : Int)) := by
  subst hx
  subst hy
  subst hc
  unfold add64
  rw [if_pos (by omega)]
  simp

theorem sub64_nat {x y c : Nat} {vx vy vc : Int} (hx : vx = x) (hy : vy = y) (hc : vc = c) (h : c ≤ 1) : sub64 vx vy vc = some ((((x + 18446744073709551616 - y - c) % 18446744073709551616 : Nat) : Int), (((if x < y + c then 1 else 0 : Nat)) : Int)) := by
  subst hx
  subst hy
  subst hc
  unfold sub64
  rw [if_pos (by omega)]
  simp

/-- A slice that holds these slices. -/
structure RoS (H : AH) (s : Sl3) (ss : List Sl3) : Prop where
  len : s.n = ss.length
  cap : s.n ≤ s.c
  nil : s.p = none → s.n = 0 ∧ s.c = 0
  low : ∀ a, s.p = some a → a.block < H.next
  cell : ∀ a, s.p = some a → ∀ (i : Nat) (h : i < ss.length), H.cell (a.add i) = some ss[i].v

theorem RoS.ext {H H' : AH} {s : Sl3} {ss : List Sl3} (h : RoS H s ss) (hf : Ext H H') : RoS H' s ss :=
  ⟨h.len, h.cap, h.nil, fun a ha => Nat.lt_of_lt_of_le (h.low a ha) hf.1, fun a ha i hi => cell_fr hf (by rw [add_block]; exact h.low a ha) (fun h => h) (h.cell a ha i hi)⟩

theorem RoS.get {H : AH} {s : Sl3} {ss : List Sl3} (h : RoS H s ss) {i : Nat} (hi : i < ss.length) {v : Int} (hv : v = i) : ∃ p, idxA 1 s v = some p ∧ rd deSl H p = some ss[i] := by
  subst hv
  cases hp : s.p with
  | none => have := h.nil hp; have := h.len; omega
  | some a =>
    refine ⟨a.add i, ?_, ?_⟩
    · unfold idxA
      rw [hp]
      simp only
      rw [if_pos ⟨Int.natCast_nonneg i, by rw [h.len]; exact Int.ofNat_lt.2 hi⟩]
      simp
    · unfold rd
      rw [h.cell a hp i hi]
      rfl

theorem newR_ros {e : TypeId} {H : AH} (ss : List Sl3) : ∃ z H', newR e ss.length (ss.map Sl3.v).toArray H = some (z, H') ∧ RoS H' z ss ∧ Ext H H' ∧ H'.next = H.next + 1 := by
  refine ⟨_, _, rfl, ?_, Fr.push _ _ _, by simp⟩
  refine ⟨rfl, Nat.le_refl _, fun h => (by cases h), fun a ha => ?_, fun a ha i hi => ?_⟩
  · cases ha; simp
  · cases ha
    rw [addr_add]
    exact cell_of (a := ⟨H.next, 0 + i, none⟩) (AH.get_push_same _ _) rfl rfl (by simp [hi])

end Go.Abs

namespace Go.Abs

/-! ### Digits turned one by one -/

theorem val_set {B : Nat} : ∀ (l : List Nat) (i v : Nat) (h : i < l.length), val B (l.set i v) + l[i] * B ^ i = val B l + v * B ^ i := by
  intro l
  induction l with
  | nil => intro i v h; simp at h
  | cons x l ih =>
    intro i v h
    cases i with
    | zero => simp [val]; omega
    | succ i =>
      have h1 : i < l.length := by simpa using h
      have := ih i v h1
      simp only [List.set_cons_succ, val, List.getElem_cons_succ, Nat.pow_succ]
      have e1 : l[i] * (B ^ i * B) = B * (l[i] * B ^ i) := by rw [← Nat.mul_assoc, Nat.mul_comm]
      have e2 : v * (B ^ i * B) = B * (v * B ^ i) := by rw [← Nat.mul_assoc, Nat.mul_comm]
      rw [e1, e2]
      have : B * (val B (l.set i v) + l[i] * B ^ i) = B * (val B l + v * B ^ i) := by rw [this]
      rw [Nat.mul_add, Nat.mul_add] at this
      omega

theorem val_take_succ {B : Nat} (l : List Nat) (i : Nat) (h : i < l.length) : val B (l.take (i + 1)) = val B (l.take i) + l[i] * B ^ i := by
  rw [List.take_succ_eq_append_getElem h, val_append, List.length_take, Nat.min_eq_left (by omega)]
  simp [val, Nat.mul_comm]

theorem mem_set_lt {B : Nat} {l : List Nat} {i v : Nat} (h : ∀ x ∈ l, x < B) (hv : v < B) : ∀ x ∈ l.set i v, x < B := by
  intro x hx
  rcases List.mem_or_eq_of_mem_set hx with h' | rfl
  · exact h x h'
  · exact hv

/-- One step of a product, limb by limb. -/
theorem mul_step (B x y c d : Nat) (hB : B = 18446744073709551616) (hx : x < B) (hy : y < B) (hc : c < B) (hd : d < B) :
    (x * y % B + d + 0) % B + 0 < B ∧ (x * y / B + (x * y % B + d + 0) / B) < B ∧ (x * y / B + (x * y % B + d + 0) / B + ((x * y % B + d + 0) % B + c + 0) / B) < B ∧
      ((x * y % B + d + 0) % B + c + 0) % B + (x * y / B + (x * y % B + d + 0) / B + ((x * y % B + d + 0) % B + c + 0) / B) * B = x * y + d + c := by
  have hp : x * y ≤ 18446744073709551615 * 18446744073709551615 := Nat.mul_le_mul (by omega) (by omega)
  subst hB
  generalize x * y = p at *
  omega

end Go.Abs

namespace Go.Abs

variable {P : Program} {m : Nat}

open Go.RowKit in
/-- A call that the symbolic walk has, in the world. -/
theorem calls_true {ne : Nat} (hS : Sane P ne) {f : Nat} {fn : Func} {c : Code} (hf : P.funcs[f]? = some fn) (hb : fn.body = some c) {args args' : Array Value} {H H' : AH}
    (h : CallE P ne m f args H (.bool true) H') {φ : Inj} {W : World} (hg : Glob P φ) (ha : AR φ args args') (hi : Inv φ H W) (hm : ∀ id, m ≤ id → H.get id = none) :
    Calls P f args' W fun e W' => e = .returned (.bool true) ∧ Below W.heap.size W W' := by
  obtain ⟨N, hN⟩ := h
  refine (acall_ok hS hf hb (n := N) (hN N (Nat.le_refl _)) hg ha hi).mono fun e W' hpost => ?_
  obtain ⟨φ', v', rfl, hv, _, hst⟩ := hpost
  cases hv
  exact ⟨rfl, hst.os, hst.tape, hst.output, hst.size, fun k hk => hst.keep k hk fun id l hm' hs _ => by rw [hm id hm'] at hs; cases hs⟩

/-! ### What comes in -/

/-- What came in stands in the world, and is only read. -/
structure Imp (P : Program) (φ : Inj) (H : AH) (W : World) : Prop where
  inv : Inv φ H W
  glob : Glob P φ
  ro : ∀ id b, H.get id = some b → b.ro = true

theorem Imp.start {W : World} (h : P.globals.size ≤ W.heap.size) : Imp P (φg P) ⟨P.globals.size, .nil⟩ W :=
  ⟨inv_start h, glob_φg, fun id b hb => by cases hb⟩

/-- A view of a row of cells. -/
def viewB (c : Array Value) (e : TypeId) : Blk := ⟨.cells c e (0, 0), true, 1, true⟩

theorem Imp.add {φ : Inj} {H : AH} {W : World} (h : Imp P φ H W) {blk off : Nat} {c c' : Array Value} {e : TypeId} {f : Nat × Nat} (hb : W.heap[blk]? = some (.cells c' e f))
    (hc : ∀ (i : Nat) (v : Value), c[i]? = some v → ∃ v', c'[off + i]? = some v' ∧ VR φ v v') : Imp P (φ.upd H.next ⟨blk, off, 0, 1⟩) (H.push (viewB c e)) W ∧ φ.le (φ.upd H.next ⟨blk, off, 0, 1⟩) := by
  have hle := Inj.le_upd ⟨blk, off, 0, 1⟩ h.inv.fresh
  have hro : ∀ id b, (H.push (viewB c e)).get id = some b → b.ro = true := fun id b hg => by
    by_cases e' : id = H.next
    · subst e'
      rw [AH.get_push_same] at hg; cases hg; rfl
    · rw [AH.get_push_other _ _ e'] at hg
      exact h.ro id b hg
  refine ⟨⟨⟨fun i l hl => ?_, fun i b hg => ?_, fun i j b b' l l' h1 _ _ hr => ?_⟩, fun g hg => ?_, hro⟩, hle⟩
  · by_cases e' : i = H.next
    · subst e'
      rw [Inj.upd_same] at hl; cases hl
      exact ⟨by simp, (Array.getElem?_eq_some_iff.1 hb).1⟩
    · rw [Inj.upd_other _ _ e'] at hl
      have := h.inv.dom i l hl
      simp only [AH.next_push]
      omega
  · by_cases e' : i = H.next
    · subst e'
      rw [AH.get_push_same] at hg; cases hg
      refine ⟨_, Inj.upd_same _ _ _, c', e, f, hb, fun i v hv => ?_, Nat.zero_le _, fun _ => rfl, fun ho => (by cases ho), fun hr => (by cases hr), rfl⟩
      obtain ⟨v', h1, h2⟩ := hc i v hv
      exact ⟨v', h1, h2.mono hle⟩
    · rw [AH.get_push_other _ _ e'] at hg
      obtain ⟨l, h1, h2⟩ := h.inv.obj i b hg
      exact ⟨l, by rw [Inj.upd_other _ _ e']; exact h1, h2.mono hle⟩
  · rw [hro i b h1] at hr; cases hr
  · obtain ⟨l, h1, h2, h3⟩ := h.glob g hg
    exact ⟨l, hle _ _ h1, h2, h3⟩

theorem cell?_some {w : World} {a : Addr} {v : Value} (h : w.cell? a = some v) : ∃ c e f, w.heap[a.block]? = some (.cells c e f) ∧ a.spot = none ∧ c[a.off]? = some v := by
  unfold World.cell? at h
  split at h
  · rename_i c e f hc
    split at h
    · cases h
    · rename_i hs
      refine ⟨c, e, f, hc, ?_, h⟩
      cases hh : a.spot with
      | none => rfl
      | some x => rw [hh] at hs; simp at hs
  · cases h

theorem add_off (a : Addr) (hs : a.spot = none) (i : Nat) : a.add i = ⟨a.block, a.off + i, none⟩ := by
  obtain ⟨b, o, s⟩ := a
  simp only at hs
  subst hs
  unfold Addr.add
  split
  · rename_i h; subst h; rfl
  · rfl

theorem addr_eta (a : Addr) (hs : a.spot = none) : (⟨a.block, a.off, none⟩ : Addr) = a := by
  obtain ⟨b, o, s⟩ := a
  simp only at hs
  subst hs
  rfl

/-- A row of cells that all stand in one block. -/
theorem Imp.cells {φ : Inj} {H : AH} {W : World} (h : Imp P φ H W) {a : Addr} {c : Array Value} (h0 : 0 < c.size) (hc : ∀ (i : Nat) (v : Value), c[i]? = some v → ∃ v', W.cell? (a.add i) = some v' ∧ VR φ v v') :
    ∃ φ' e, Imp P φ' (H.push (viewB c e)) W ∧ φ.le φ' ∧ ∀ n k, k ≠ OPEN → VR φ' (.slice (some ⟨H.next, 0, none⟩) n k) (.slice (some a) n k) := by
  obtain ⟨v', h1, _⟩ := hc 0 c[0] (by simp [h0])
  obtain ⟨c', e, f, h2, h3, _⟩ := cell?_some h1
  rw [add_block] at h2
  have hsp : a.spot = none := by
    unfold Addr.add at h3
    simpa using h3
  obtain ⟨h4, h5⟩ := h.add (blk := a.block) (off := a.off) (c := c) (c' := c') (e := e) (f := f) h2 (fun i v hv => by
    obtain ⟨w, g1, g2⟩ := hc i v hv
    obtain ⟨c'', e', f', g3, _, g5⟩ := cell?_some g1
    rw [add_block, h2] at g3
    simp only [Option.some.injEq, Obj.cells.injEq] at g3
    obtain ⟨rfl, _⟩ := g3
    rw [add_off a hsp] at g5
    exact ⟨w, g5, g2⟩)
  refine ⟨_, e, h4, h5, fun n k hk => ?_⟩
  have := VR.slice H.next 0 n k ⟨a.block, a.off, 0, 1⟩ (Inj.upd_same φ H.next ⟨a.block, a.off, 0, 1⟩) hk
  rw [show (⟨(⟨a.block, a.off, 0, 1⟩ : Loc).blk, (⟨a.block, a.off, 0, 1⟩ : Loc).off + 0, none⟩ : Addr) = a from addr_eta a hsp] at this
  exact this

theorem view_cell {H : AH} {c : Array Value} {e : TypeId} (i : Nat) : (H.push (viewB c e)).cell ((⟨H.next, 0, none⟩ : Addr).add i) = c[i]? := by
  rw [add_off _ rfl]
  unfold AH.cell
  simp only [AH.get_push_same, viewB, Nat.zero_add]

/-- A row of numbers comes in: one form for nil, for an empty one and for any other. -/
theorem Imp.row {φ : Inj} {H : AH} {W : World} (h : Imp P φ H W) (hP : 0 < P.globals.size) {k : IntKind} {A : Option Addr} {L C : Nat} {Z : List Int} (hL : L ≤ C) (hC : C ≤ maxLen) (hZ : Z.length = C) (hw : ∀ n ∈ Z, 0 ≤ n)
    (hn : A = none → C = 0) (hc : ∀ a, A = some a → ∀ i, i < C → W.cell? (a.add i) = some (.int k (Z.getD i 0))) :
    ∃ φ' H' s, Imp P φ' H' W ∧ φ.le φ' ∧ Ext H H' ∧ H'.next ≤ H.next + 1 ∧ VR φ' s.v (.slice A L C) ∧ Ro k H' s ((Z.take L).map Int.toNat) := by
  have hO : C ≠ OPEN := by
    have : OPEN = 9223372036854775808 := rfl
    have : maxLen = 9223372036854775807 := rfl
    omega
  by_cases h0 : C = 0
  · subst h0
    obtain rfl : L = 0 := by omega
    cases A with
    | none =>
      refine ⟨φ, H, Sl3.nil, h, Inj.le_refl _, Fr.refl _ _, Nat.le_succ _, VR.sliceNil 0 0, ⟨rfl, Nat.le_refl _, Nat.zero_le _, fun _ => ⟨rfl, rfl⟩, fun a ha => (by cases ha), fun a ha => (by cases ha), fun a ha => (by cases ha)⟩⟩
    | some a =>
      obtain ⟨l, h1, _, _⟩ := h.glob 0 hP
      refine ⟨φ, H, ⟨some ⟨0, 0, none⟩, 0, 0⟩, h, Inj.le_refl _, Fr.refl _ _, Nat.le_succ _, VR.sliceZero 0 0 l a h1, ⟨rfl, Nat.le_refl _, Nat.zero_le _, fun _ => ⟨rfl, rfl⟩, fun a ha => ?_, fun a ha ho => (by cases ho), fun a ha i hi => ?_⟩⟩
      · cases ha; exact (h.inv.dom 0 l h1).1
      · simp at hi
  · cases A with
    | none => exact absurd (hn rfl) h0
    | some a =>
      have hsz : (Z.map (Value.int k)).toArray.size = C := by simp [hZ]
      have hget : ∀ i, i < C → (Z.map (Value.int k)).toArray[i]? = some (.int k (Z.getD i 0)) := fun i hi => by
        simp [List.getD, List.getElem?_eq_getElem (show i < Z.length by omega)]
      obtain ⟨φ', e, h1, h2, h3⟩ := h.cells (a := a) (c := (Z.map (Value.int k)).toArray) (by omega) (fun i v hv => by
        have hi : i < C := by
          have := (Array.getElem?_eq_some_iff.1 hv).1
          omega
        rw [hget i hi] at hv
        cases hv
        exact ⟨_, hc a rfl i hi, .int _ _⟩)
      refine ⟨φ', _, ⟨some ⟨H.next, 0, none⟩, L, C⟩, h1, h2, Fr.push _ _ _, Nat.le_of_eq (by simp), h3 L C hO, ⟨?_, hL, ?_, fun hh => (by cases hh), fun a ha => ?_, fun a ha ho => absurd ho hO, fun a ha i hi => ?_⟩⟩
      · simp only [List.length_map, List.length_take]; omega
      · have : OPEN = 9223372036854775808 := rfl
        have : maxLen = 9223372036854775807 := rfl
        show C ≤ OPEN
        omega
      · cases ha; simp
      · cases ha
        simp only [List.length_map, List.length_take] at hi
        rw [view_cell, hget i (by omega)]
        congr 2
        have hi' : i < Z.length := by omega
        have hpos := hw Z[i] (List.getElem_mem hi')
        simp only [List.getElem_map, List.getElem_take, List.getD, List.getElem?_eq_getElem hi', Option.getD_some]
        omega

/-- At last the count of blocks is put at the bound. -/
theorem Imp.raise {φ : Inj} {H : AH} {W : World} (h : Imp P φ H W) {M : Nat} (hM : H.next ≤ M) : Inv φ { H with next := M } W ∧ (∀ id, M ≤ id → AH.get { H with next := M } id = none) ∧ Ext H { H with next := M } := by
  refine ⟨⟨fun id l hl => ?_, h.inv.obj, h.inv.sep⟩, fun id hid => ?_, hM, fun _ _ _ _ hb => hb⟩
  · have := h.inv.dom id l hl
    exact ⟨Nat.lt_of_lt_of_le this.1 hM, this.2⟩
  · cases hg : AH.get { H with next := M } id with
    | none => rfl
    | some b =>
      have := h.inv.get_lt (id := id) (b := b) hg
      omega

/-! ### The row -/

open Go.ChangeShapes in
theorem trodAll_len {H : Type} {enc : TypeId × Value → H} {W : World} {sp : Nat → Bool} {hd : Bool} : ∀ (ts : List TypeId) (vs : List Value) (ds : List (DataW H)) (ps : List MemPlace), DataW.TrodAll enc P W 0 sp hd ts vs ds ps → ds.length = ts.length := by
  intro ts
  induction ts with
  | nil => intro vs ds ps h; obtain ⟨_, rfl, _⟩ := trodAll_nil h; rfl
  | cons t ts ih => intro vs ds ps h; obtain ⟨v, vs', d, ds', p, q, _, rfl, _, _, h2⟩ := trodAll_cons h; simp [ih _ _ _ h2]

/-- A law with a condition on what comes in. -/
theorem lifted_cond {H : Type} {enc : TypeId × Value → H} {a : Assume} {C : Checked} {os : Os} {f : FuncId} {fn : Func} {s : OpenSpec} {k : (H : Type) → List (DataW H) → Bool} (hk : s.cond = some k) {F : Stop.Interp} {conds : List PathCond} {apart fresh handsOn : Bool}
    (own : ownKnob C.prog.godebug = none) (started : os.Started) (noInit : C.prog.inits.idxOf? f = none) (hfn : C.prog.funcs[f]? = some fn)
    (hgb : globalsB C.prog = true) (hl : laidOutB C.prog = true) (hts : readB C.prog fn = true) (hv : s.vars = []) (hres : boolRes C.prog fn = true)
    (hspec : ∀ ds : List (DataW H), ds.length = fn.params.size → ((s.at F).fn H ds).results = [.lit (.bool true)] ∧ ((s.at F).fn H ds).args = ds ∧ ((s.at F).fn H ds).vars = [])
    (hva : (s.at F).vars = s.vars)
    (witness : ∃ (w : World) (tape : Tape) (i : Input), w.os = os ∧ (w.forCall tape i).Shaped C.prog ∧ i.vars = [] ∧ Input.okWide C.prog (w.forCall tape i) .any w.heap.size f i ∧
      s.pre6 enc C.prog fn conds apart (w.forCall tape i).memory i.args ∧ a.holds C.prog (lone (Frame.enter C.prog f i.args .normal) [] (w.forCall tape i)))
    (contract : ∀ (W : World) (base : Nat) (args : Array Value) (ds : List (DataW H)) (ps : List MemPlace), C.prog.globals.size ≤ W.heap.size →
      (∀ (j : Nat) t v, fn.params[j]? = some t → args[j]? = some v → Value.okWide C.prog W .any base t v) →
      DataW.TrodAll enc C.prog W 0 (fun _ => true) true fn.params.toList args.toList ds ps → k H ds = true →
      Calls C.prog f args W fun e W' => e = .returned (.bool true) ∧ RowKit.Below W.heap.size W W') :
    ReturnsInHanded a C os f .any (s.pre6 enc C.prog fn conds apart) ((s.at F).post enc C.prog fn apart fresh handsOn false) := by
  obtain ⟨tb, hres, hbool⟩ := boolRes_of hres
  have hts := readB_of hts
  refine returnsInHanded_of_calls own started noInit witness ?_
  intro w tape i _ hsh _ hok hpre hholds
  obtain ⟨_, _, _, fn', hfn', _, _, _, hsz, hval⟩ := hok
  have e : fn' = fn := Option.some.inj (hfn'.symm.trans hfn)
  subst e
  obtain ⟨ds, gs, before, hw, hc, hkk⟩ := (OpenSpec.pre_some hk conds apart _ _).1 hpre.1
  have hw' := DataW.Whole.of_heap (w' := w.forCall tape i) (by rfl) hw
  have hW := hw'
  obtain ⟨p, q, hA, hV, _⟩ := hw'
  rw [hv] at hV
  obtain ⟨rfl, rfl⟩ := ChangeShapes.trodVars_none hV
  rw [List.append_nil] at hkk
  have hlen : ds.length = fn'.params.size := by simpa using trodAll_len _ _ _ _ hA
  refine (contract (w.forCall tape i) w.heap.size i.args ds p (globals_there hgb hsh) hval hA hkk).mono fun e W' ⟨he, hb⟩ => ?_
  subst he
  exact ChangeSpec.post_blind (law_post hl hts (hva.trans hv) hres hbool (hva.symm ▸ hW) (hspec ds hlen) hb)

end Go.Abs

namespace Go.Abs

variable {P : Program} {m : Nat}

/-- Many rows come in. -/
theorem Imp.rows {φ : Inj} {H : AH} {W : World} (h : Imp P φ H W) (hP : 0 < P.globals.size) {k : IntKind} {A : Nat → Option Addr} {L C : Nat → Nat} {Z : Nat → List Int} : ∀ (n : Nat),
    (∀ r, r < n → L r ≤ C r ∧ C r ≤ maxLen ∧ (Z r).length = C r ∧ (∀ x ∈ Z r, 0 ≤ x) ∧ (A r = none → C r = 0) ∧ ∀ a, A r = some a → ∀ i, i < C r → W.cell? (a.add i) = some (.int k ((Z r).getD i 0))) →
    ∃ (φ' : Inj) (H' : AH) (ss : List Sl3), ss.length = n ∧ Imp P φ' H' W ∧ φ.le φ' ∧ Ext H H' ∧ H'.next ≤ H.next + n ∧ ∀ (i : Nat) (hi : i < ss.length), VR φ' ss[i].v (.slice (A i) (L i) (C i)) ∧ Ro k H' ss[i] (((Z i).take (L i)).map Int.toNat) := by
  intro n
  induction n with
  | zero => intro _; exact ⟨φ, H, [], rfl, h, Inj.le_refl _, Fr.refl _ _, Nat.le_refl _, fun i hi => by simp at hi⟩
  | succ n ih =>
    intro hr
    obtain ⟨φ1, H1, ss, h1, h2, h3, h4, h5, h6⟩ := ih fun r hrn => hr r (by omega)
    obtain ⟨r1, r2, r3, r4, r5, r6⟩ := hr n (by omega)
    obtain ⟨φ2, H2, s, g1, g2, g3, g4, g5, g6⟩ := h2.row hP r1 r2 r3 r4 r5 r6
    refine ⟨φ2, H2, ss ++ [s], by simp [h1], g1, Inj.le_trans h3 g2, h4.trans g3, by omega, fun i hi => ?_⟩
    by_cases e : i < ss.length
    · rw [List.getElem_append_left e]
      exact ⟨(h6 i e).1.mono g2, (h6 i e).2.ext g3⟩
    · rw [List.length_append] at hi
      simp only [List.length_singleton] at hi
      obtain rfl : i = n := by omega
      rw [List.getElem_append_right (by omega)]
      simp only [h1, Nat.sub_self, List.getElem_cons_zero]
      exact ⟨g5, g6⟩

/-- A row of rows comes in. -/
theorem Imp.table {φ : Inj} {H : AH} {W : World} (h : Imp P φ H W) (hP : 0 < P.globals.size) {k : IntKind} {a : Addr} {len cap : Nat} (hl : len ≤ cap) (hm : cap ≤ maxLen) {A : Nat → Option Addr} {L C : Nat → Nat} {Z : Nat → List Int}
    (hr : ∀ r, r < cap → W.cell? (a.add r) = some (.slice (A r) (L r) (C r)) ∧ L r ≤ C r ∧ C r ≤ maxLen ∧ (Z r).length = C r ∧ (∀ x ∈ Z r, 0 ≤ x) ∧ (A r = none → C r = 0) ∧ ∀ a, A r = some a → ∀ i, i < C r → W.cell? (a.add i) = some (.int k ((Z r).getD i 0))) :
    ∃ φ' H' s ss, Imp P φ' H' W ∧ φ.le φ' ∧ Ext H H' ∧ H'.next ≤ H.next + cap + 1 ∧ VR φ' (Sl3.v s) (.slice (some a) len cap) ∧ RoS H' s ss ∧ ss.length = len ∧ ∀ (i : Nat) (hi : i < ss.length), Ro k H' ss[i] (((Z i).take (L i)).map Int.toNat) := by
  by_cases h0 : cap = 0
  · subst h0
    obtain rfl : len = 0 := by omega
    obtain ⟨l, h1, _, _⟩ := h.glob 0 hP
    exact ⟨φ, H, ⟨some ⟨0, 0, none⟩, 0, 0⟩, [], h, Inj.le_refl _, Fr.refl _ _, Nat.le_succ _, VR.sliceZero 0 0 l a h1,
      ⟨rfl, Nat.le_refl _, fun _ => ⟨rfl, rfl⟩, fun a ha => (by cases ha; exact (h.inv.dom 0 l h1).1), fun a ha i hi => (by simp at hi)⟩, rfl, fun i hi => by simp at hi⟩
  · obtain ⟨φ1, H1, ss, h1, h2, h3, h4, h5, h6⟩ := h.rows hP cap fun r hrn => (hr r hrn).2
    have hget : ∀ i (hi : i < ss.length), (ss.map Sl3.v).toArray[i]? = some ss[i].v := fun i hi => by
      simp [List.getElem?_eq_getElem hi]
    obtain ⟨φ2, e, g1, g2, g3⟩ := h2.cells (a := a) (c := (ss.map Sl3.v).toArray) (by simp; omega) (fun i v hv => by
      have hi : i < ss.length := by
        have := (Array.getElem?_eq_some_iff.1 hv).1
        simpa using this
      rw [hget i hi] at hv
      cases hv
      exact ⟨_, (hr i (by omega)).1, (h6 i hi).1⟩)
    have hO : cap ≠ OPEN := by
      have : OPEN = 9223372036854775808 := rfl
      have : maxLen = 9223372036854775807 := rfl
      omega
    have hEx : Ext H1 (H1.push (viewB (ss.map Sl3.v).toArray e)) := Fr.push _ _ _
    refine ⟨φ2, _, ⟨some ⟨H1.next, 0, none⟩, len, cap⟩, ss.take len, g1, Inj.le_trans h3 g2, h4.trans hEx, by simp; omega, g3 len cap hO, ⟨by simp; omega, hl, fun hh => (by cases hh), fun a ha => (by cases ha; simp), fun a ha i hi => ?_⟩, by simp; omega, fun i hi => ?_⟩
    · cases ha
      simp only [List.length_take] at hi
      rw [view_cell, hget i (by omega), List.getElem_take]
    · simp only [List.length_take] at hi
      rw [List.getElem_take]
      exact (h6 i (by omega)).2.ext hEx

end Go.Abs

namespace Go.Abs
set_option maxRecDepth 10000

/-! ### The quotient digit of a division by halves -/

theorem q_mul (q rhat yn un32 un1 W : Nat) (hq : q * (yn / W) + rhat = un32) (hW : 0 < W) : (q * yn ≤ un32 * W + un1 ↔ q * (yn % W) ≤ W * rhat + un1) := by
  have e : q * yn = q * (yn / W) * W + q * (yn % W) := by
    conv => lhs; rw [← Nat.div_add_mod yn W]
    rw [Nat.mul_add, Nat.mul_comm W, Nat.mul_assoc]
  have e2 : un32 * W = q * (yn / W) * W + W * rhat := by rw [← hq, Nat.add_mul, Nat.mul_comm rhat]
  omega

theorem q_exit (q rhat yn un32 un1 W : Nat) (hyn : 0 < yn) (hq : q * (yn / W) + rhat = un32) (hW : 0 < W) (hge : (un32 * W + un1) / yn ≤ q) (hle : q * (yn % W) ≤ W * rhat + un1) : q = (un32 * W + un1) / yn :=
  Nat.le_antisymm ((Nat.le_div_iff_mul_le hyn).2 ((q_mul q rhat yn un32 un1 W hq hW).2 hle)) hge

theorem q_more (q rhat yn un32 un1 W : Nat) (hyn : 0 < yn) (hq : q * (yn / W) + rhat = un32) (hW : 0 < W) (hlt : un32 < yn) (h1 : un1 < W) (hc : W ≤ q ∨ ¬ q * (yn % W) ≤ W * rhat + un1) : (un32 * W + un1) / yn + 1 ≤ q := by
  have hb : (un32 * W + un1) / yn < W := by
    rw [Nat.div_lt_iff_lt_mul hyn]
    calc un32 * W + un1 < un32 * W + W := by omega
      _ = (un32 + 1) * W := by rw [Nat.add_mul, Nat.one_mul]
      _ ≤ yn * W := Nat.mul_le_mul_right _ (by omega)
      _ = W * yn := Nat.mul_comm _ _
  rcases hc with h | h
  · omega
  · have : ¬ q * yn ≤ un32 * W + un1 := fun hh => h ((q_mul q rhat yn un32 un1 W hq hW).1 hh)
    have : (un32 * W + un1) / yn < q := by
      rw [Nat.div_lt_iff_lt_mul hyn]; omega
    omega

theorem q_step (q rhat y1 un32 : Nat) (hq : q * y1 + rhat = un32) (h : 1 ≤ q) : (q - 1) * y1 + (rhat + y1) = un32 := by
  obtain ⟨p, rfl⟩ : ∃ p, q = p + 1 := ⟨q - 1, by omega⟩
  rw [Nat.add_mul, Nat.one_mul] at hq
  simp only [Nat.add_sub_cancel]
  omega

theorem q_exit' (t q rhat yn un32 un1 W : Nat) (ht : t = (un32 * W + un1) / yn) (hyn : 0 < yn) (hq : q * (yn / W) + rhat = un32) (hW : 0 < W) (hge : t ≤ q) (hle : q * (yn % W) ≤ W * rhat + un1) : q = t := by
  subst ht; exact q_exit q rhat yn un32 un1 W hyn hq hW hge hle

theorem q_more' (t q rhat yn un32 un1 W : Nat) (ht : t = (un32 * W + un1) / yn) (hyn : 0 < yn) (hq : q * (yn / W) + rhat = un32) (hW : 0 < W) (hlt : un32 < yn) (h1 : un1 < W) (hc : W ≤ q ∨ ¬ q * (yn % W) ≤ W * rhat + un1) : t + 1 ≤ q := by
  subst ht; exact q_more q rhat yn un32 un1 W hyn hq hW hlt h1 hc

/-- The remainder behind a digit. -/
theorem q_rest (N yn W2 : Nat) (hW2 : W2 = 18446744073709551616) (hlt : yn < W2) (q : Nat) (hq : q = N / yn) (hyn : 0 < yn) : (N % W2 + W2 - (q * yn) % W2) % W2 = N % yn := by
  have h1 : q * yn + N % yn = N := by rw [hq, Nat.mul_comm]; exact Nat.div_add_mod N yn
  have h2 := Nat.mod_lt N hyn
  subst hW2
  generalize q * yn = p at *
  omega

end Go.Abs

namespace Go.Abs
set_option maxRecDepth 10000

/-! ### How many binary digits; shifts that meet -/

/-- x has n binary digits. -/
def Bits (x n : Nat) : Prop := x < 2 ^ n ∧ (n = 0 ∨ 2 ^ (n - 1) ≤ x)

theorem Bits.up {x n k : Nat} (h : Bits (x / 2 ^ k) n) (h1 : 1 ≤ x / 2 ^ k) : Bits x (n + k) := by
  obtain ⟨a, b⟩ := h
  have hk : 0 < 2 ^ k := Nat.pow_pos (by omega)
  refine ⟨?_, .inr ?_⟩
  · rw [Nat.pow_add]
    rwa [Nat.div_lt_iff_lt_mul hk] at a
  · rcases b with b | b
    · subst b; exact absurd a (by rw [Nat.pow_zero]; omega)
    · have hn : n ≠ 0 := by intro h0; subst h0; exact absurd a (by rw [Nat.pow_zero]; omega)
      rw [show n + k - 1 = (n - 1) + k by omega, Nat.pow_add]
      rwa [Nat.le_div_iff_mul_le hk] at b

theorem pow_le_of {x n : Nat} (h : Bits x n) (m : Nat) (hx : x < 2 ^ m) : n ≤ m := by
  rcases h.2 with h0 | h0
  · omega
  · apply Classical.byContradiction
    intro hc
    have := Nat.pow_le_pow_right (n := 2) (by omega) (show m ≤ n - 1 by omega)
    omega

/-- Made to begin with a 1. -/
theorem Bits.norm {y n : Nat} (h : Bits y n) (hy : 0 < y) (hn : n ≤ 64) : 9223372036854775808 ≤ y * 2 ^ (64 - n) ∧ y * 2 ^ (64 - n) < 18446744073709551616 := by
  obtain ⟨a, b⟩ := h
  have hn0 : n ≠ 0 := by intro h0; subst h0; simp at a; omega
  have b : 2 ^ (n - 1) ≤ y := by rcases b with b | b <;> omega
  constructor
  · have := Nat.mul_le_mul_right (2 ^ (64 - n)) b
    rw [← Nat.pow_add, show n - 1 + (64 - n) = 63 by omega] at this
    exact this
  · have hp : 0 < 2 ^ (64 - n) := Nat.pow_pos (by omega)
    have := Nat.mul_lt_mul_of_pos_right a hp
    rw [← Nat.pow_add, show n + (64 - n) = 64 by omega] at this
    exact this

theorem ior_nat {x y s : Nat} {v w : Int} (hv : v = ((x * 2 ^ s : Nat) : Int)) (hw : w = y) (hx : x * 2 ^ s < 18446744073709551616) (hy : y < 2 ^ s) (hs : s ≤ 64) : ior .u64 v w = ((x * 2 ^ s + y : Nat) : Int) := by
  subst hv
  subst hw
  unfold ior
  have hys : y < 18446744073709551616 := by
    have := Nat.pow_le_pow_right (n := 2) (by omega) hs
    have e : (2 : Nat) ^ 64 = 18446744073709551616 := rfl
    omega
  have h1 : (BitVec.ofInt IntKind.u64.bits ((x * 2 ^ s : Nat) : Int) ||| BitVec.ofInt IntKind.u64.bits (y : Int)).toNat = x * 2 ^ s + y := by
    rw [BitVec.toNat_or, ofInt_nat, ofInt_nat]
    show (x * 2 ^ s) % 18446744073709551616 ||| y % 18446744073709551616 = _
    rw [Nat.mod_eq_of_lt hx, Nat.mod_eq_of_lt hys, Nat.mul_comm x, ← Nat.two_pow_add_eq_or_of_lt hy]
  rw [h1]
  have hlt : x * 2 ^ s + y < 18446744073709551616 := by
    have h2 : x < 2 ^ (64 - s) := by
      apply Classical.byContradiction
      intro hc
      have := Nat.mul_le_mul_right (2 ^ s) (show 2 ^ (64 - s) ≤ x by omega)
      rw [← Nat.pow_add, show 64 - s + s = 64 by omega] at this
      have e : (2 : Nat) ^ 64 = 18446744073709551616 := rfl
      omega
    have h3 := Nat.mul_le_mul_right (2 ^ s) (show x + 1 ≤ 2 ^ (64 - s) by omega)
    rw [← Nat.pow_add, show 64 - s + s = 64 by omega, Nat.add_mul, Nat.one_mul] at h3
    have e : (2 : Nat) ^ 64 = 18446744073709551616 := rfl
    omega
  exact wrap_u64 (by omega) (by omega)

theorem ishl_nat {x s : Nat} {v w : Int} (hv : v = x) (hw : w = s) (hs : s ≤ 64) : ishl .u64 v w = ((x * 2 ^ s % 18446744073709551616 : Nat) : Int) := by
  subst hv
  subst hw
  unfold ishl
  rw [Int.toNat_natCast, show min s IntKind.u64.bits = s from Nat.min_eq_left hs, ← wrap_u64m]
  congr 1

end Go.Abs

namespace Go.Abs
set_option maxRecDepth 10000

/-! ### Digits in chunks; what stands as text -/

/-- The c lowest digits of r. -/
def pad (b : Nat) : Nat → Nat → List Nat
  | 0, _ => []
  | c + 1, r => r % b :: pad b c (r / b)

theorem dig_pad {b : Nat} (hb : 2 ≤ b) (Q : Nat) (hQ : Q ≠ 0) : ∀ (c r : Nat), r < b ^ c → dig b (Q * b ^ c + r) = pad b c r ++ dig b Q := by
  intro c
  induction c with
  | zero =>
    intro r hr
    have : r = 0 := by simpa using hr
    subst this
    simp [pad]
  | succ c ih =>
    intro r hr
    have hbc : 0 < b ^ c := Nat.pow_pos (by omega)
    have e : Q * b ^ (c + 1) + r = b * (Q * b ^ c) + r := by rw [Nat.pow_succ, Nat.mul_comm (b ^ c) b, Nat.mul_left_comm]
    have hne : b * (Q * b ^ c) + r ≠ 0 := by
      have : 0 < b * (Q * b ^ c) := Nat.mul_pos (by omega) (Nat.mul_pos (by omega) hbc)
      omega
    rw [e, dig_eq hb hne, Nat.mul_add_mod, Nat.mul_add_div (by omega), pad, List.cons_append, ih]
    rw [Nat.div_lt_iff_lt_mul (by omega), ← Nat.pow_succ]
    exact hr

theorem pad_lt {b : Nat} (hb : 2 ≤ b) : ∀ (c r : Nat), ∀ x ∈ pad b c r, x < b := by
  intro c
  induction c with
  | zero => intro r x hx; cases hx
  | succ c ih =>
    intro r x hx
    rw [pad, List.mem_cons] at hx
    rcases hx with rfl | hx
    · exact Nat.mod_lt _ (by omega)
    · exact ih _ x hx

theorem pad_len {b : Nat} : ∀ (c r : Nat), (pad b c r).length = c := by
  intro c
  induction c with
  | zero => intro r; rfl
  | succ c ih => intro r; rw [pad, List.length_cons, ih]

/-- A digit's letter. -/
def ch (d : Nat) : Nat := if d < 10 then 48 + d else 87 + d

def hexTab : ByteArray := ⟨#[48, 49, 50, 51, 52, 53, 54, 55, 56, 57, 97, 98, 99, 100, 101, 102]⟩

theorem hexTab_ok : ((List.range 16).all fun x => match hexTab[x]? with | some b => b.toNat == ch x | none => false) = true := by decide +kernel

theorem hex_tab {d : Nat} (hd : d < 16) : bytA hexTab (d : Int) = some ((ch d : Nat) : Int) := by
  have h := List.all_eq_true.1 hexTab_ok d (List.mem_range.2 hd)
  unfold bytA
  rw [if_pos (Int.natCast_nonneg d), Int.toNat_natCast]
  cases hb : hexTab[d]? with
  | none => rw [hb] at h; cases h
  | some b =>
    rw [hb] at h
    simp only [beq_iff_eq] at h
    simp [h]

theorem ch_lt {d : Nat} (hd : d < 16) : ch d < 256 := by unfold ch; split <;> omega

def bytesOf (cs : List Nat) : ByteArray := ⟨(cs.map Nat.toUInt8).toArray⟩

theorem rdBytes_of {H : AH} {a : Addr} : ∀ (cs : List Nat) (j : Nat), (∀ (i : Nat) (h : i < cs.length), H.cell (a.add (j + i)) = some (.int .u8 (cs[i] : Nat))) → rdBytes H a j cs.length = some (cs.map Nat.toUInt8) := by
  intro cs
  induction cs with
  | nil => intro j _; rfl
  | cons v l ih =>
    intro j h
    have h0 := h 0 (by simp)
    simp only [Nat.add_zero, List.getElem_cons_zero] at h0
    have h1 := ih (j + 1) fun i hi => by
      have := h (i + 1) (by simpa using hi)
      rw [show j + 1 + i = j + (i + 1) by omega, this]
      simp
    simp only [List.length_cons, rdBytes, h0, h1, List.map_cons, Int.toNat_natCast]

theorem bts_ro {H : AH} {s : Sl3} {cs : List Nat} (h : Ro .u8 H s cs) : bts H s = some (bytesOf cs) := by
  unfold bts bytesOf
  cases hp : s.p with
  | none =>
    have := h.nil hp
    have hl := h.len
    have : cs = [] := List.length_eq_zero_iff.1 (by omega)
    subst this
    rfl
  | some a =>
    simp only
    rw [h.len, rdBytes_of cs 0 fun i hi => by rw [Nat.zero_add]; exact h.cell a hp i hi]
    rfl

theorem drop_set_self (l : List Nat) (i v : Nat) (hi : i < l.length) : (l.set i v).drop i = v :: l.drop (i + 1) := by
  rw [List.drop_eq_getElem_cons (by simpa using hi)]
  simp [List.drop_set_of_lt]

theorem dig_len_le {b : Nat} (hb : 2 ≤ b) (n : Nat) : (dig b n).length ≤ 64 * (dig 18446744073709551616 n).length := by
  rw [dig_len hb]
  have h := (dig_len (B := 18446744073709551616) (by omega) n _).1 (Nat.le_refl _)
  have e : (18446744073709551616 : Nat) = 2 ^ 64 := rfl
  rw [e, ← Nat.pow_mul] at h
  exact Nat.lt_of_lt_of_le h (Nat.pow_le_pow_left hb _)

end Go.Abs

namespace Go.Abs
set_option maxRecDepth 10000

/-- What stands ahead of a place, the room behind it kept. -/
theorem slc_head {k : IntKind} {H : AH} {s : Sl3} {xs : List Nat} (h : Ro k H s xs) {n : Nat} (hn : n ≤ xs.length) {v : Int} (hv : v = n) :
    ∃ s', slc 1 H s none (some v) none = some s' ∧ Ro k H s' (xs.take n) ∧ s'.p = s.p := by
  subst hv
  have hl := h.len
  have hb1 : ∀ y : Nat, n ≤ y → ∀ d, boundI y d (some (n : Int)) = some n := by
    intro y hy d
    simp only [boundI]
    rw [if_pos ⟨Int.natCast_nonneg n, Int.ofNat_le.2 hy⟩]
    simp
  have hb2 : ∀ c, n ≤ c → slcB s.n c none (some (n : Int)) none = some (0, n, c) := by
    intro c hc
    unfold slcB
    simp only [boundI, Option.isSome_none, Bool.false_and, cond_false]
    have := hb1 c hc s.n
    simp only [boundI] at this
    rw [this]
  cases hp : s.p with
  | none =>
    obtain ⟨h1, h2⟩ := h.nil hp
    have hn0 : n = 0 := by omega
    subst hn0
    refine ⟨Sl3.nil, ?_, by simpa using Ro.nil' k H, rfl⟩
    unfold slc
    rw [hp]
    simp only
    rw [if_pos ⟨h1, h2⟩]
    have := hb2 0 (Nat.le_refl _)
    rw [h1] at this
    rw [this]
  | some a =>
    by_cases ho : s.c = OPEN
    · obtain ⟨b, o1, o2, o3, o4⟩ := h.opn a hp ho
      refine ⟨⟨some a, n, OPEN⟩, ?_, ⟨?_, ?_, Nat.le_refl _, fun h => (by cases h), fun b hb => ?_, fun b hb _ => ?_, fun b hb i hi => ?_⟩, rfl⟩
      · unfold slc
        rw [hp]
        simp only
        rw [if_pos ho, hb2 s.n (by omega)]
        simp only
        rw [o1]
        simp only
        rw [if_pos ⟨o2, o3, o4⟩]
        simp [add_zero]
      · simp only [List.length_take]; omega
      · show n ≤ OPEN
        have := h.cap
        omega
      · cases hb; exact h.low a hp
      · cases hb; exact ⟨_, o1, o2, o3, o4⟩
      · cases hb
        have hi' : i < xs.length := by simp only [List.length_take] at hi; omega
        rw [List.getElem_take]
        exact h.cell a hp i hi'
    · have hlt : s.c < OPEN := by have := h.top; omega
      refine ⟨⟨some a, n, s.c⟩, ?_, ⟨?_, ?_, h.top, fun h => (by cases h), fun b hb => ?_, fun b hb hh => absurd hh ho, fun b hb i hi => ?_⟩, rfl⟩
      · unfold slc
        rw [hp]
        simp only
        have hcap := h.cap
        rw [if_neg ho, hb2 s.c (by omega)]
        simp only
        have e : (if s.c = 0 then a else a.add (0 * 1)) = a := by split <;> simp [add_zero]
        rw [if_pos ⟨hlt, by omega⟩, e]
        simp
      · simp only [List.length_take]; omega
      · show n ≤ s.c
        have := h.cap
        omega
      · cases hb; exact h.low a hp
      · cases hb
        have hi' : i < xs.length := by simp only [List.length_take] at hi; omega
        rw [List.getElem_take]
        exact h.cell a hp i hi'

/-- A limb's four halves. -/
def hv4 (x : Nat) : List Nat := [x % 65536, x / 65536 % 65536, x / 4294967296 % 65536, x / 281474976710656 % 65536]
def halves (xs : List Nat) : List Nat := xs.flatMap hv4

theorem val_hv4 {x : Nat} (hx : x < 18446744073709551616) : val 65536 (hv4 x) = x := by
  simp only [hv4, val]
  omega

theorem halves_lt (xs : List Nat) : ∀ h ∈ halves xs, h < 65536 := by
  intro h hh
  simp only [halves, List.mem_flatMap, hv4, List.mem_cons, List.not_mem_nil, or_false] at hh
  obtain ⟨x, _, hh⟩ := hh
  omega

theorem halves_len (xs : List Nat) : (halves xs).length = 4 * xs.length := by
  induction xs with
  | nil => rfl
  | cons x xs ih =>
    unfold halves at ih ⊢
    rw [List.flatMap_cons, List.length_append, ih]
    simp [hv4]
    omega

theorem val_halves : ∀ (xs : List Nat), (∀ x ∈ xs, x < 18446744073709551616) → val 65536 (halves xs) = val 18446744073709551616 xs := by
  intro xs
  induction xs with
  | nil => intro _; rfl
  | cons x xs ih =>
    intro h
    have h1 := ih fun y hy => h y (by simp [hy])
    unfold halves at h1 ⊢
    rw [List.flatMap_cons, val_append, val_hv4 (h x (by simp)), h1, val, show (hv4 x).length = 4 from rfl, show (65536 : Nat) ^ 4 = 18446744073709551616 by decide]

theorem halves_app (xs : List Nat) (x : Nat) : halves (xs ++ [x]) = halves xs ++ hv4 x := by
  unfold halves
  rw [List.flatMap_append]
  simp

end Go.Abs
