/- Parts of the proof: an abstract interpreter of the loaded program and its soundness, printed functions, the law's own texts; part 4. No condition. -/
import Derived.Test.YtccbilfbhecdaaaDoorNm3
namespace Go.Proofs.YtccbilfbhecdaaaDoor.Aw
open Go Go.Abs
set_option maxRecDepth 100000

def sort_book_known_enc : Bool → Value
  | r0 => (Value.bool r0)

def sort_book_known_hp (H : AH) : Bool → AH := fun _ => H

noncomputable def B67 : Code := (Tryd.f67.body).getD .skip

noncomputable def sort_book_known_b0 (_L : LC) (_H : AH) (_a0 : Option Addr) (_a1_0 : Int) (_a1_1 : Int) (_a1_2 : ByteArray) (a1_3 : Sl3) : Int → Option (Lp Int Bool) := fun v34_5 =>
  if v34_5 < (a1_3.n : Int) then
    none
  else
    some (.brk v34_5)

def sort_book_known_b0_kn (_L : LC) (_H : AH) (a0 : Option Addr) (_a1_0 : Int) (_a1_1 : Int) (_a1_2 : ByteArray) (a1_3 : Sl3) : Int → KN := fun v34_5 => [(34, .val (Value.int .i64 v34_5)), (0, .val (Value.pointer a0)), (32, .val (Sl3.v a1_3)), (33, .val (Value.int .i64 (a1_3.n : Int)))]

def sort_book_known_b0_ls (_L : LC) (_H : AH) (_a0 : Option Addr) (a1_0 : Int) (a1_1 : Int) (a1_2 : ByteArray) (a1_3 : Sl3) : Int → Lcs := fun _ => [some (28, [(Value.int .i64 a1_0), (Value.int .i64 a1_1), (Value.string a1_2), (Sl3.v a1_3)])]

noncomputable def sort_book_known_body (L : LC) (H : AH) (a0 : Option Addr) (a1_0 : Int) (a1_1 : Int) (a1_2 : ByteArray) (a1_3 : Sl3) : Option Bool :=
  if a1_0 = 5 then
    none
  else
    if a1_0 = 6 then
      Option.bind a0 fun q1 =>
      Option.bind (rd deM H (Addr.add q1 3)) fun x2 =>
      Option.bind (lkM Tryd.prog 94 (deI .i64) H x2 (Value.agg #[(Value.int .i64 a1_0), (Value.string a1_2)])) fun (_, b4) =>
      some b4
    else
      Option.bind (L.run (sort_book_known_b0 L H a0 a1_0 a1_1 a1_2 a1_3) 0) fun o => match o with
      | .inl _ =>
        some true
      | .inr r => some r

noncomputable def fam_sort_book_known (L : LC) (n : Nat) : (AH → (Option Addr) → Int → Int → ByteArray → Sl3 → Option Bool) := Nat.rec (motive := fun _ => (AH → (Option Addr) → Int → Int → ByteArray → Sl3 → Option Bool)) (fun _ _ _ _ _ _ => none) (fun _ _ => sort_book_known_body L) n

noncomputable def sort_book_known (L : LC) (H : AH) (a0 : Option Addr) (a1_0 : Int) (a1_1 : Int) (a1_2 : ByteArray) (a1_3 : Sl3) : Option Bool := (fam_sort_book_known L L.fuel) H a0 a1_0 a1_1 a1_2 a1_3

theorem sort_book_known_b0_ok {ne : NE} {E : Ent} {m : Nat} {L : LC} {H : AH} {a0 : Option Addr} {a1_0 : Int} {a1_1 : Int} {a1_2 : ByteArray} {a1_3 : Sl3}  : ∀ s o, sort_book_known_b0 L H a0 a1_0 a1_1 a1_2 a1_3 s = some o →
    WS Tryd.prog ne m E Tryd.f67.ntmps (cfst (cfst (csnd (cfst (csnd (csnd B67)))))) (sort_book_known_b0_kn L H a0 a1_0 a1_1 a1_2 a1_3 s) (sort_book_known_b0_ls L H a0 a1_0 a1_1 a1_2 a1_3 s) ((fun _ => H) s) (lpS Tryd.prog ne m E Tryd.f67.ntmps (sort_book_known_b0_kn L H a0 a1_0 a1_1 a1_2 a1_3) (sort_book_known_b0_ls L H a0 a1_0 a1_1 a1_2 a1_3) (fun _ => H) 0 (fun r => RT Tryd.prog ne m E Tryd.f67 (sort_book_known_enc r) (sort_book_known_hp H r)) o) := by
  rintro v34_5 o h
  unfold sort_book_known_b0 at h
  try dsimp only at h
  refine WS.sq ?_
  refine WS.rg ?_
  refine RS.mS 1 [(35, .val (Value.bool (decide (v34_5 < (a1_3.n : Int)))))] ?_
  refine RS.dn ?_
  refine WS.nxt ?_
  refine WS.sq ?_
  rcases ite_some h with ⟨hp, h⟩ | ⟨hp, h⟩
  · refine WS.fx 35 true (decide_eq_true hp) ?_
    refine WS.cT ?_
    cases h
  · refine WS.fx 35 false (decide_eq_false hp) ?_
    refine WS.cF ?_
    refine WS.ex 0 ?_
    cases h
    exact fun a w hs => sqE (lsB rfl (hs.sb 1))

theorem sort_book_known_body_ok {L : LC} {ne : NE} {m : Nat} {H : AH} {a0 : Option Addr} {a1_0 : Int} {a1_1 : Int} {a1_2 : ByteArray} {a1_3 : Sl3} {r : Bool} (h : sort_book_known_body L H a0 a1_0 a1_1 a1_2 a1_3 = some r) :
    CallS Tryd.prog ne m 67 #[(Value.pointer a0), (Value.agg #[(Value.int .i64 a1_0), (Value.int .i64 a1_1), (Value.string a1_2), (Sl3.v a1_3)])] H (sort_book_known_enc r) (sort_book_known_hp H r) := by
  refine CallS.mk (args := [(Value.pointer a0), (Value.agg #[(Value.int .i64 a1_0), (Value.int .i64 a1_1), (Value.string a1_2), (Sl3.v a1_3)])]) Tryd.func67 (B := B67) (by kernel_rfl) (fun E _ => ?_)
  unfold sort_book_known_body at h
  refine WS.sq ?_
  refine WS.rg ?_
  refine RS.mL 2 [(4, .val (Value.bool false)), (3, .loc 0 0)] ([some (28, [(Value.int .i64 a1_0), (Value.int .i64 a1_1), (Value.string a1_2), (Sl3.v a1_3)])]) ?_
  refine RS.dn ?_
  refine WS.nxt ?_
  refine WS.sq ?_
  refine WS.sq ?_
  refine WS.rg ?_
  refine RS.mS 4 [(12, .val (Value.bool (decide (a1_0 = 5)))), (11, .val (Value.bool (decide (a1_0 = 5)))), (10, .val (Value.int .i64 a1_0)), (9, .loc 0 0)] ?_
  rcases ite_some h with ⟨hp, h⟩ | ⟨hp, h⟩
  · refine RS.fx 12 true (decide_eq_true hp) ?_
    cases h
  · refine RS.fx 12 false (decide_eq_false hp) ?_
    refine RS.mS 4 [(16, .val (Value.bool (decide (a1_0 = 6)))), (15, .val (Value.bool (decide (a1_0 = 6)))), (14, .val (Value.int .i64 a1_0)), (13, .loc 0 0)] ?_
    refine RS.dn ?_
    refine WS.nxt ?_
    rcases ite_some h with ⟨hp, h⟩ | ⟨hp, h⟩
    · refine WS.fx 16 true (decide_eq_true hp) ?_
      refine WS.cT ?_
      refine WS.sq ?_
      refine WS.dr [0, 1, 2, 3, 4, 5, 6, 7, 8, 9] [0, 1, 3, 7, 0, 16, 0, 64, 240, 511, 1023, 2047, 2047, 4095, 16383] 15 (fun hcl => ?_)
      refine DA.tK 0 (some 18) (Value.pointer a0) ?_
      obtain ⟨q1, hx, hq1⟩ := bind_some h
      subst hx
      have h := hq1
      refine DA.tK 1 (some 19) (Value.pointer (some q1)) ?_
      refine DA.tK 2 (some 20) (Value.pointer (some (Addr.add q1 3))) ?_
      obtain ⟨x2, hx, h⟩ := bind_some h
      refine DA.tD 3 (some 21) (Value.map x2) (Abs.det_load (t := 94) (x := .tmp 20) (a := (Addr.add q1 3)) (by kernel_rfl) (by kernel_rfl) (by kernel_rfl) (by kernel_rfl) (rd_cell hx deM_inv)) ?_
      refine DA.tL 4 (some 22) (.loc 0 0) ?_
      refine DA.tL 5 (some 23) (.val (Value.int .i64 a1_0)) ?_
      refine DA.tL 6 (some 24) (.loc 0 2) ?_
      refine DA.tL 7 (some 25) (.val (Value.string a1_2)) ?_
      refine DA.tK 8 (some 26) (Value.agg #[(Value.int .i64 a1_0), (Value.string a1_2)]) ?_
      obtain ⟨⟨x3, b4⟩, hx, h⟩ := bind_some h
      try dsimp only at h
      refine DA.tD 9 (some 27) (Value.tuple #[(Value.int .i64 x3), (Value.bool b4)]) (Abs.det_look (t := 94) (x := .tmp 21) (y := .tmp 26) (mm := x2) (k := (Value.agg #[(Value.int .i64 a1_0), (Value.string a1_2)])) (by kernel_rfl) (by kernel_rfl) (by kernel_rfl) (by kernel_rfl) (lkM_eq hx deI_inv)) ?_
      refine DA.tP 10 (some 17) (Value.tuple #[(Value.int .i64 x3), (Value.bool b4)]) ?_
      refine DA.tP 11 (some 28) (Value.int .i64 x3) ?_
      refine DA.tP 12 (some 29) (Value.bool b4) ?_
      refine DA.tP 13 (some 5) (Value.int .i64 x3) ?_
      refine DA.tP 14 (some 6) (Value.bool b4) ?_
      refine DA.dn ?_
      refine WS.nxt ?_
      refine WS.sq ?_
      refine WS.rg ?_
      refine RS.mS 2 [(4, .val (Value.bool b4)), (30, .val (Value.bool b4))] ?_
      refine RS.dn ?_
      refine WS.nxt ?_
      refine WS.rt ?_
      cases h
      exact fun a w hs => sqR (rtR (rS hs))
    · refine WS.fx 16 false (decide_eq_false hp) ?_
      refine WS.cF ?_
      refine WS.sk ?_
      refine WS.nxt ?_
      refine WS.sq ?_
      refine WS.sq ?_
      refine WS.rg ?_
      refine RS.mS 4 [(34, .val (Value.int .i64 0)), (33, .val (Value.int .i64 (a1_3.n : Int))), (32, .val (Sl3.v a1_3)), (31, .loc 0 3)] ?_
      refine RS.dn ?_
      refine WS.nxt ?_
      refine WS.bk 0 ?_
      obtain ⟨o, hl, h⟩ := bind_some h
      rcases o with v34_6 | r
      · try dsimp only at h
        refine WS.lI (sort_book_known_b0_ok (ne := ne) (L := L) (E := E) (m := m) (H := H)) (L.ok hl) 1 ?_
        clear hl
        refine fun a w hs => bkE ((WS.nxt ?_ a w hs))
        refine WS.sq ?_
        refine WS.rg ?_
        refine RS.mS 1 [(4, .val (Value.bool true))] ?_
        refine RS.dn ?_
        refine WS.nxt ?_
        refine WS.rt ?_
        cases h
        exact fun a w hs => rtR (rS hs)
      · try dsimp only at h
        refine WS.lR (sort_book_known_b0_ok (ne := ne) (L := L) (E := E) (m := m) (H := H)) (L.ok hl) 1 ?_
        cases h
        exact fun a w hq => bkR (sqR (rtR hq))

theorem fam_sort_book_known_ok {L : LC} {ne : NE} : ∀ n, (∀ (m : Nat) (H : AH) (a0 : Option Addr) (a1_0 : Int) (a1_1 : Int) (a1_2 : ByteArray) (a1_3 : Sl3) (r : Bool), ((fam_sort_book_known L n)) H a0 a1_0 a1_1 a1_2 a1_3 = some r → CallS Tryd.prog ne m 67 #[(Value.pointer a0), (Value.agg #[(Value.int .i64 a1_0), (Value.int .i64 a1_1), (Value.string a1_2), (Sl3.v a1_3)])] H (sort_book_known_enc r) (sort_book_known_hp H r)) := by
  intro n
  induction n with
  | zero => exact (fun _ _ _ _ _ _ _ _ h => (Option.some_ne_none _ h.symm).elim)
  | succ n ih => exact (fun _ _ _ _ _ _ _ _ h => sort_book_known_body_ok (L := L)  h)

theorem sort_book_known_ok {L : LC} {ne : NE} {m : Nat} {H : AH} {a0 : Option Addr} {a1_0 : Int} {a1_1 : Int} {a1_2 : ByteArray} {a1_3 : Sl3} {r : Bool} (h : sort_book_known L H a0 a1_0 a1_1 a1_2 a1_3 = some r) :
    CallS Tryd.prog ne m 67 #[(Value.pointer a0), (Value.agg #[(Value.int .i64 a1_0), (Value.int .i64 a1_1), (Value.string a1_2), (Sl3.v a1_3)])] H (sort_book_known_enc r) (sort_book_known_hp H r) :=
  (fam_sort_book_known_ok _) _ _ _ _ _ _ _ _ h

def sort_book_check_enc : Int → Value
  | r0 => (Value.int .i64 r0)

def sort_book_check_hp (H : AH) : Int → AH := fun _ => H

noncomputable def B37 : Code := (Tryd.f37.body).getD .skip

noncomputable def sort_book_check (L : LC) (H : AH) (a0 : Option Addr) (a1_0 : Int) (a1_1 : Int) (a1_2 : ByteArray) (a1_3 : Sl3) : Option Int :=
  Option.bind (sort_wrong L H a1_0 a1_1 a1_2 a1_3) fun x1 =>
  if x1 = 0 then
    Option.bind (sort_book_known L H a0 a1_0 a1_1 a1_2 a1_3) fun x2 =>
    if x2 = true then
      some 0
    else
      none
  else
    none

theorem sort_book_check_ok {L : LC} {ne : NE} {m : Nat} {H : AH} {a0 : Option Addr} {a1_0 : Int} {a1_1 : Int} {a1_2 : ByteArray} {a1_3 : Sl3} {r : Int} (h : sort_book_check L H a0 a1_0 a1_1 a1_2 a1_3 = some r) :
    CallS Tryd.prog ne m 37 #[(Value.pointer a0), (Value.agg #[(Value.int .i64 a1_0), (Value.int .i64 a1_1), (Value.string a1_2), (Sl3.v a1_3)])] H (sort_book_check_enc r) (sort_book_check_hp H r) := by
  refine CallS.mk (args := [(Value.pointer a0), (Value.agg #[(Value.int .i64 a1_0), (Value.int .i64 a1_1), (Value.string a1_2), (Sl3.v a1_3)])]) Tryd.func37 (B := B37) (by kernel_rfl) (fun E _ => ?_)
  unfold sort_book_check at h
  refine WS.sq ?_
  refine WS.rg ?_
  refine RS.mL 2 [(4, .val (Value.int .i64 0)), (3, .loc 0 0)] ([some (28, [(Value.int .i64 a1_0), (Value.int .i64 a1_1), (Value.string a1_2), (Sl3.v a1_3)])]) ?_
  refine RS.dn ?_
  refine WS.nxt ?_
  refine WS.sq ?_
  refine WS.sq ?_
  refine WS.rg ?_
  refine RS.mS 1 [(6, .val (Value.agg #[(Value.int .i64 a1_0), (Value.int .i64 a1_1), (Value.string a1_2), (Sl3.v a1_3)]))] ?_
  obtain ⟨x1, hx, h⟩ := bind_some h
  refine RS.cl (some 7) (v := (Value.int .i64 x1)) 57 #[(Value.agg #[(Value.int .i64 a1_0), (Value.int .i64 a1_1), (Value.string a1_2), (Sl3.v a1_3)])] (sort_wrong_ok hx) ?_
  refine RS.mS 1 [(5, .val (Value.int .i64 x1))] ?_
  refine RS.dn ?_
  refine WS.nxt ?_
  refine WS.sq ?_
  refine WS.rg ?_
  refine RS.mS 2 [(9, .val (Value.bool (!decide (x1 = 0)))), (8, .val (Value.int .i64 x1))] ?_
  refine RS.dn ?_
  refine WS.nxt ?_
  rcases ite_some h with ⟨hp, h⟩ | ⟨hp, h⟩
  · refine WS.fx 9 false (dec_not hp) ?_
    refine WS.cF ?_
    refine WS.sk ?_
    refine WS.nxt ?_
    refine WS.sq ?_
    refine WS.sq ?_
    refine WS.rg ?_
    refine RS.mS 2 [(12, .val (Value.agg #[(Value.int .i64 a1_0), (Value.int .i64 a1_1), (Value.string a1_2), (Sl3.v a1_3)])), (11, .val (Value.pointer a0))] ?_
    obtain ⟨x2, hx, h⟩ := bind_some h
    refine RS.cl (some 13) (v := (Value.bool x2)) 67 #[(Value.pointer a0), (Value.agg #[(Value.int .i64 a1_0), (Value.int .i64 a1_1), (Value.string a1_2), (Sl3.v a1_3)])] (sort_book_known_ok hx) ?_
    refine RS.mS 1 [(14, .val (Value.bool (!x2)))] ?_
    refine RS.dn ?_
    refine WS.nxt ?_
    rcases ite_some h with ⟨hp, h⟩ | ⟨hp, h⟩
    · refine WS.fx 14 false (nb_not hp) ?_
      refine WS.cF ?_
      refine WS.sk ?_
      refine WS.nxt ?_
      refine WS.sq ?_
      refine WS.rg ?_
      refine RS.mS 1 [(4, .val (Value.int .i64 0))] ?_
      refine RS.dn ?_
      refine WS.nxt ?_
      refine WS.rt ?_
      cases h
      exact fun a w hs => rtR (rS hs)
    · refine WS.fx 14 true (nb_not' hp) ?_
      refine WS.cT ?_
      cases h
  · refine WS.fx 9 true (dec_not' hp) ?_
    refine WS.cT ?_
    cases h

def sort_book_allSorts_enc : (Int × AH) → Value
  | (r0, _) => (Value.int .i64 r0)

def sort_book_allSorts_hp (_ : AH) : (Int × AH) → AH := fun r => r.2

noncomputable def B44 : Code := (Tryd.f44.body).getD .skip

noncomputable def sort_book_allSorts_b2 (L : LC) (H : AH) (q1 : Addr) (_x2 : Sl3) (_v21_3 : Int) (_x5_0 : ByteArray) (_x5_1 : Sl3) (_v28_6 : Int) (_x8_0 : ByteArray) (x8_1 : Sl3) : Int → Option (Lp Int (Int × AH)) := fun v35_9 =>
  if v35_9 < (x8_1.n : Int) then
    Option.bind (idxA 5 x8_1 v35_9) fun p10 =>
    Option.bind (rd deS H (Addr.add p10 0)) fun _ =>
    Option.bind (rd (deI .i64) H (Addr.add p10 1)) fun x11_1 =>
    Option.bind (rd (deI .i64) H (Addr.add p10 2)) fun x11_2 =>
    Option.bind (rd deS H (Addr.add p10 3)) fun x11_3 =>
    Option.bind (rd deSl H (Addr.add p10 4)) fun x11_4 =>
    Option.bind (sort_book_check L H (some q1) x11_1 x11_2 x11_3 x11_4) fun x12 =>
    if x12 = 0 then
      some (.next (IntKind.i64.wrap (v35_9 + 1)))
    else
      none
  else
    some (.brk v35_9)

def sort_book_allSorts_b2_kn (_L : LC) (_H : AH) (q1 : Addr) (x2 : Sl3) (v21_3 : Int) (_x5_0 : ByteArray) (x5_1 : Sl3) (v28_6 : Int) (_x8_0 : ByteArray) (x8_1 : Sl3) : Int → KN := fun v35_9 => [(35, .val (Value.int .i64 v35_9)), (0, .val (Value.pointer (some q1))), (19, .val (Sl3.v x2)), (20, .val (Value.int .i64 (x2.n : Int))), (21, .val (Value.int .i64 v21_3)), (26, .val (Sl3.v x5_1)), (27, .val (Value.int .i64 (x5_1.n : Int))), (28, .val (Value.int .i64 v28_6)), (33, .val (Sl3.v x8_1)), (34, .val (Value.int .i64 (x8_1.n : Int)))]

def sort_book_allSorts_b2_ls (_L : LC) (_H : AH) (_q1 : Addr) (_x2 : Sl3) (_v21_3 : Int) (x5_0 : ByteArray) (x5_1 : Sl3) (_v28_6 : Int) (x8_0 : ByteArray) (x8_1 : Sl3) : Int → Lcs := fun _ => [some (46, [(Value.string x5_0), (Sl3.v x5_1)]), some (50, [(Value.string x8_0), (Sl3.v x8_1)])]

noncomputable def sort_book_allSorts_b1 (L : LC) (H : AH) (q1 : Addr) (x2 : Sl3) (v21_3 : Int) (x5_0 : ByteArray) (x5_1 : Sl3) : Int → Option (Lp Int (Int × AH)) := fun v28_6 =>
  if v28_6 < (x5_1.n : Int) then
    Option.bind (idxA 2 x5_1 v28_6) fun p7 =>
    Option.bind (rd deS H (Addr.add p7 0)) fun x8_0 =>
    Option.bind (rd deSl H (Addr.add p7 1)) fun x8_1 =>
    Option.bind (L.run (sort_book_allSorts_b2 L H q1 x2 v21_3 x5_0 x5_1 v28_6 x8_0 x8_1) 0) fun o => match o with
    | .inl _ =>
      some (.next (IntKind.i64.wrap (v28_6 + 1)))
    | .inr r => some (.ret r)
  else
    some (.brk v28_6)

def sort_book_allSorts_b1_kn (_L : LC) (_H : AH) (q1 : Addr) (x2 : Sl3) (v21_3 : Int) (_x5_0 : ByteArray) (x5_1 : Sl3) : Int → KN := fun v28_6 => [(28, .val (Value.int .i64 v28_6)), (0, .val (Value.pointer (some q1))), (19, .val (Sl3.v x2)), (20, .val (Value.int .i64 (x2.n : Int))), (21, .val (Value.int .i64 v21_3)), (26, .val (Sl3.v x5_1)), (27, .val (Value.int .i64 (x5_1.n : Int)))]

def sort_book_allSorts_b1_ls (_L : LC) (_H : AH) (_q1 : Addr) (_x2 : Sl3) (_v21_3 : Int) (x5_0 : ByteArray) (x5_1 : Sl3) : Int → Lcs := fun _ => [some (46, [(Value.string x5_0), (Sl3.v x5_1)])]

noncomputable def sort_book_allSorts_b0 (L : LC) (H : AH) (q1 : Addr) (x2 : Sl3) : Int → Option (Lp Int (Int × AH)) := fun v21_3 =>
  if v21_3 < (x2.n : Int) then
    Option.bind (idxA 2 x2 v21_3) fun p4 =>
    Option.bind (rd deS H (Addr.add p4 0)) fun x5_0 =>
    Option.bind (rd deSl H (Addr.add p4 1)) fun x5_1 =>
    Option.bind (L.run (sort_book_allSorts_b1 L H q1 x2 v21_3 x5_0 x5_1) 0) fun o => match o with
    | .inl _ =>
      some (.next (IntKind.i64.wrap (v21_3 + 1)))
    | .inr r => some (.ret r)
  else
    some (.brk v21_3)

def sort_book_allSorts_b0_kn (_L : LC) (_H : AH) (q1 : Addr) (x2 : Sl3) : Int → KN := fun v21_3 => [(21, .val (Value.int .i64 v21_3)), (0, .val (Value.pointer (some q1))), (19, .val (Sl3.v x2)), (20, .val (Value.int .i64 (x2.n : Int)))]

def sort_book_allSorts_b0_ls (_L : LC) (_H : AH) (_q1 : Addr) (_x2 : Sl3) : Int → Lcs := fun _ => []

noncomputable def sort_book_allSorts_b3 (_L : LC) (_q1 : Addr) (x16 : Sl3) : (AH × Int) → Option (Lp (AH × Int) (Int × AH)) := fun (H17, v55_18) =>
  if v55_18 < (x16.n : Int) then
    none
  else
    some (.brk (H17, v55_18))

def sort_book_allSorts_b3_kn (_L : LC) (q1 : Addr) (x16 : Sl3) : (AH × Int) → KN := fun (_, v55_18) => [(55, .val (Value.int .i64 v55_18)), (0, .val (Value.pointer (some q1))), (53, .val (Sl3.v x16)), (54, .val (Value.int .i64 (x16.n : Int)))]

def sort_book_allSorts_b3_ls (_L : LC) (_q1 : Addr) (_x16 : Sl3) : (AH × Int) → Lcs := fun (_, _) => []

noncomputable def sort_book_allSorts (L : LC) (_m : Nat) (H : AH) (a0 : Option Addr) : Option (Int × AH) :=
  Option.bind a0 fun q1 =>
  Option.bind (rd deSl H (Addr.add (Addr.add q1 0) 1)) fun x2 =>
  Option.bind (L.run (sort_book_allSorts_b0 L H q1 x2) 0) fun o => match o with
  | .inl _ =>
    Option.bind (rd deSl H (Addr.add (Addr.add q1 0) 2)) fun x16 =>
    Option.bind (L.run (sort_book_allSorts_b3 L q1 x16) (H, 0)) fun o => match o with
    | .inl (H19, _) =>
      some (0, H19)
    | .inr r => some r
  | .inr r => some r

theorem sort_book_allSorts_b2_ok {ne : NE} {E : Ent} {m : Nat} {L : LC} {H : AH} {q1 : Addr} {x2 : Sl3} {v21_3 : Int} {x5_0 : ByteArray} {x5_1 : Sl3} {v28_6 : Int} {x8_0 : ByteArray} {x8_1 : Sl3}  : ∀ s o, sort_book_allSorts_b2 L H q1 x2 v21_3 x5_0 x5_1 v28_6 x8_0 x8_1 s = some o →
    WS Tryd.prog ne m E Tryd.f44.ntmps (cfst (cfst (csnd (csnd (cfst (cfst (csnd (csnd (cfst (cfst (csnd (csnd (cfst (cfst (csnd (csnd (cfst (cfst (csnd (cfst (csnd B44))))))))))))))))))))) (sort_book_allSorts_b2_kn L H q1 x2 v21_3 x5_0 x5_1 v28_6 x8_0 x8_1 s) (sort_book_allSorts_b2_ls L H q1 x2 v21_3 x5_0 x5_1 v28_6 x8_0 x8_1 s) ((fun _ => H) s) (lpS Tryd.prog ne m E Tryd.f44.ntmps (sort_book_allSorts_b2_kn L H q1 x2 v21_3 x5_0 x5_1 v28_6 x8_0 x8_1) (sort_book_allSorts_b2_ls L H q1 x2 v21_3 x5_0 x5_1 v28_6 x8_0 x8_1) (fun _ => H) 4 (fun r => RT Tryd.prog ne m E Tryd.f44 (sort_book_allSorts_enc r) (sort_book_allSorts_hp H r)) o) := by
  rintro v35_9 o h
  unfold sort_book_allSorts_b2 at h
  try dsimp only at h
  refine WS.sq ?_
  refine WS.rg ?_
  refine RS.mS 1 [(36, .val (Value.bool (decide (v35_9 < (x8_1.n : Int)))))] ?_
  refine RS.dn ?_
  refine WS.nxt ?_
  refine WS.sq ?_
  rcases ite_some h with ⟨hp, h⟩ | ⟨hp, h⟩
  · refine WS.fx 36 true (decide_eq_true hp) ?_
    refine WS.cT ?_
    refine WS.sk ?_
    refine WS.nxt ?_
    refine WS.sq ?_
    refine WS.bk 5 ?_
    refine WS.sq ?_
    refine WS.rg ?_
    obtain ⟨p10, hx, h⟩ := bind_some h
    refine RS.o (H' := H) (some 37) (Value.pointer (some p10)) (Abs.run_idx (s := x8_1) (k := .i64) (t := 48) (e := 52) (x := .tmp 33) (y := .tmp 35) (by kernel_rfl) (by kernel_rfl) (by kernel_rfl) (by kernel_rfl) (by kernel_rfl) hx) ?_
    obtain ⟨x11_0, hx0, h⟩ := bind_some h
    obtain ⟨x11_1, hx1, h⟩ := bind_some h
    obtain ⟨x11_2, hx2, h⟩ := bind_some h
    obtain ⟨x11_3, hx3, h⟩ := bind_some h
    obtain ⟨x11_4, hx4, h⟩ := bind_some h
    refine RS.o (H' := H) (some 38) (Value.agg #[(Value.string x11_0), (Value.int .i64 x11_1), (Value.int .i64 x11_2), (Value.string x11_3), (Sl3.v x11_4)]) (Abs.run_loadAg (t := 52) (x := .tmp 37) (a := p10) (k := 5) (by kernel_rfl) (by kernel_rfl) (by kernel_rfl) (by kernel_rfl) (rdc_cons (rd_cell hx0 deS_inv) (rdc_cons (rd_cell hx1 deI_inv) (rdc_cons (rd_cell hx2 deI_inv) (rdc_cons (rd_cell hx3 deS_inv) (rdc_cons (rd_cell hx4 deSl_inv) rdc_nil)))))) ?_
    refine RS.mL 2 [(8, .loc 2 0)] ([some (46, [(Value.string x5_0), (Sl3.v x5_1)]), some (50, [(Value.string x8_0), (Sl3.v x8_1)]), some (52, [(Value.string x11_0), (Value.int .i64 x11_1), (Value.int .i64 x11_2), (Value.string x11_3), (Sl3.v x11_4)])]) ?_
    refine RS.dn ?_
    refine WS.nxt ?_
    refine WS.sq ?_
    refine WS.rg ?_
    refine RS.mS 3 [(41, .val (Value.agg #[(Value.int .i64 x11_1), (Value.int .i64 x11_2), (Value.string x11_3), (Sl3.v x11_4)])), (40, .loc 2 1), (39, .val (Value.pointer (some q1)))] ?_
    obtain ⟨x12, hx, h⟩ := bind_some h
    refine RS.cl (some 42) (v := (Value.int .i64 x12)) 37 #[(Value.pointer (some q1)), (Value.agg #[(Value.int .i64 x11_1), (Value.int .i64 x11_2), (Value.string x11_3), (Sl3.v x11_4)])] (sort_book_check_ok hx) ?_
    refine RS.mS 1 [(9, .val (Value.int .i64 x12))] ?_
    refine RS.dn ?_
    refine WS.nxt ?_
    refine WS.sq ?_
    refine WS.rg ?_
    refine RS.mS 2 [(44, .val (Value.bool (!decide (x12 = 0)))), (43, .val (Value.int .i64 x12))] ?_
    refine RS.dn ?_
    refine WS.nxt ?_
    rcases ite_some h with ⟨hp, h⟩ | ⟨hp, h⟩
    · refine WS.fx 44 false (dec_not hp) ?_
      refine WS.cF ?_
      refine WS.sk ?_
      refine fun a w hs => bkN ((WS.nxt ?_ a w hs))
      refine WS.rg ?_
      refine RS.mS 2 [(35, .val (Value.int .i64 (IntKind.i64.wrap (v35_9 + 1)))), (46, .val (Value.int .i64 (IntKind.i64.wrap (v35_9 + 1))))] ?_
      refine RS.dn ?_
      cases h
      exact fun a w hs => lsN rfl (hs.sb 2)
    · refine WS.fx 44 true (dec_not' hp) ?_
      refine WS.cT ?_
      cases h
  · refine WS.fx 36 false (decide_eq_false hp) ?_
    refine WS.cF ?_
    refine WS.ex 4 ?_
    cases h
    exact fun a w hs => sqE (lsB rfl (hs.sb 2))

theorem sort_book_allSorts_b1_ok {ne : NE} {E : Ent} {m : Nat} {L : LC} {H : AH} {q1 : Addr} {x2 : Sl3} {v21_3 : Int} {x5_0 : ByteArray} {x5_1 : Sl3}  : ∀ s o, sort_book_allSorts_b1 L H q1 x2 v21_3 x5_0 x5_1 s = some o →
    WS Tryd.prog ne m E Tryd.f44.ntmps (cfst (cfst (csnd (csnd (cfst (cfst (csnd (csnd (cfst (cfst (csnd (cfst (csnd B44))))))))))))) (sort_book_allSorts_b1_kn L H q1 x2 v21_3 x5_0 x5_1 s) (sort_book_allSorts_b1_ls L H q1 x2 v21_3 x5_0 x5_1 s) ((fun _ => H) s) (lpS Tryd.prog ne m E Tryd.f44.ntmps (sort_book_allSorts_b1_kn L H q1 x2 v21_3 x5_0 x5_1) (sort_book_allSorts_b1_ls L H q1 x2 v21_3 x5_0 x5_1) (fun _ => H) 2 (fun r => RT Tryd.prog ne m E Tryd.f44 (sort_book_allSorts_enc r) (sort_book_allSorts_hp H r)) o) := by
  rintro v28_6 o h
  unfold sort_book_allSorts_b1 at h
  try dsimp only at h
  refine WS.sq ?_
  refine WS.rg ?_
  refine RS.mS 1 [(29, .val (Value.bool (decide (v28_6 < (x5_1.n : Int)))))] ?_
  refine RS.dn ?_
  refine WS.nxt ?_
  refine WS.sq ?_
  rcases ite_some h with ⟨hp, h⟩ | ⟨hp, h⟩
  · refine WS.fx 29 true (decide_eq_true hp) ?_
    refine WS.cT ?_
    refine WS.sk ?_
    refine WS.nxt ?_
    refine WS.sq ?_
    refine WS.bk 3 ?_
    refine WS.sq ?_
    refine WS.rg ?_
    obtain ⟨p7, hx, h⟩ := bind_some h
    refine RS.o (H' := H) (some 30) (Value.pointer (some p7)) (Abs.run_idx (s := x5_1) (k := .i64) (t := 44) (e := 50) (x := .tmp 26) (y := .tmp 28) (by kernel_rfl) (by kernel_rfl) (by kernel_rfl) (by kernel_rfl) (by kernel_rfl) hx) ?_
    obtain ⟨x8_0, hx0, h⟩ := bind_some h
    obtain ⟨x8_1, hx1, h⟩ := bind_some h
    refine RS.o (H' := H) (some 31) (Value.agg #[(Value.string x8_0), (Sl3.v x8_1)]) (Abs.run_loadAg (t := 50) (x := .tmp 30) (a := p7) (k := 2) (by kernel_rfl) (by kernel_rfl) (by kernel_rfl) (by kernel_rfl) (rdc_cons (rd_cell hx0 deS_inv) (rdc_cons (rd_cell hx1 deSl_inv) rdc_nil))) ?_
    refine RS.mL 2 [(6, .loc 1 0)] ([some (46, [(Value.string x5_0), (Sl3.v x5_1)]), some (50, [(Value.string x8_0), (Sl3.v x8_1)])]) ?_
    refine RS.dn ?_
    refine WS.nxt ?_
    refine WS.sq ?_
    refine WS.rg ?_
    refine RS.mS 4 [(35, .val (Value.int .i64 0)), (34, .val (Value.int .i64 (x8_1.n : Int))), (33, .val (Sl3.v x8_1)), (32, .loc 1 1)] ?_
    refine RS.dn ?_
    refine WS.nxt ?_
    refine WS.bk 4 ?_
    obtain ⟨o, hl, h⟩ := bind_some h
    rcases o with v35_13 | r
    · try dsimp only at h
      refine WS.lI (sort_book_allSorts_b2_ok (ne := ne) (L := L) (E := E) (m := m) (H := H)) (L.ok hl) 2 ?_
      clear hl
      refine fun a w hs => bkE (bkN ((WS.nxt ?_ a w hs)))
      refine WS.rg ?_
      refine RS.mS 2 [(28, .val (Value.int .i64 (IntKind.i64.wrap (v28_6 + 1)))), (47, .val (Value.int .i64 (IntKind.i64.wrap (v28_6 + 1))))] ?_
      refine RS.dn ?_
      cases h
      exact fun a w hs => lsN rfl (hs.sb 1)
    · try dsimp only at h
      refine WS.lR (sort_book_allSorts_b2_ok (ne := ne) (L := L) (E := E) (m := m) (H := H)) (L.ok hl) 2 ?_
      cases h
      exact fun a w hq => bkR (bkR (sqR (lsR rfl hq)))
  · refine WS.fx 29 false (decide_eq_false hp) ?_
    refine WS.cF ?_
    refine WS.ex 2 ?_
    cases h
    exact fun a w hs => sqE (lsB rfl (hs.sb 1))

theorem sort_book_allSorts_b0_ok {ne : NE} {E : Ent} {m : Nat} {L : LC} {H : AH} {q1 : Addr} {x2 : Sl3}  : ∀ s o, sort_book_allSorts_b0 L H q1 x2 s = some o →
    WS Tryd.prog ne m E Tryd.f44.ntmps (cfst (cfst (csnd (cfst (csnd B44))))) (sort_book_allSorts_b0_kn L H q1 x2 s) (sort_book_allSorts_b0_ls L H q1 x2 s) ((fun _ => H) s) (lpS Tryd.prog ne m E Tryd.f44.ntmps (sort_book_allSorts_b0_kn L H q1 x2) (sort_book_allSorts_b0_ls L H q1 x2) (fun _ => H) 0 (fun r => RT Tryd.prog ne m E Tryd.f44 (sort_book_allSorts_enc r) (sort_book_allSorts_hp H r)) o) := by
  rintro v21_3 o h
  unfold sort_book_allSorts_b0 at h
  try dsimp only at h
  refine WS.sq ?_
  refine WS.rg ?_
  refine RS.mS 1 [(22, .val (Value.bool (decide (v21_3 < (x2.n : Int)))))] ?_
  refine RS.dn ?_
  refine WS.nxt ?_
  refine WS.sq ?_
  rcases ite_some h with ⟨hp, h⟩ | ⟨hp, h⟩
  · refine WS.fx 22 true (decide_eq_true hp) ?_
    refine WS.cT ?_
    refine WS.sk ?_
    refine WS.nxt ?_
    refine WS.sq ?_
    refine WS.bk 1 ?_
    refine WS.sq ?_
    refine WS.rg ?_
    obtain ⟨p4, hx, h⟩ := bind_some h
    refine RS.o (H' := H) (some 23) (Value.pointer (some p4)) (Abs.run_idx (s := x2) (k := .i64) (t := 30) (e := 46) (x := .tmp 19) (y := .tmp 21) (by kernel_rfl) (by kernel_rfl) (by kernel_rfl) (by kernel_rfl) (by kernel_rfl) hx) ?_
    obtain ⟨x5_0, hx0, h⟩ := bind_some h
    obtain ⟨x5_1, hx1, h⟩ := bind_some h
    refine RS.o (H' := H) (some 24) (Value.agg #[(Value.string x5_0), (Sl3.v x5_1)]) (Abs.run_loadAg (t := 46) (x := .tmp 23) (a := p4) (k := 2) (by kernel_rfl) (by kernel_rfl) (by kernel_rfl) (by kernel_rfl) (rdc_cons (rd_cell hx0 deS_inv) (rdc_cons (rd_cell hx1 deSl_inv) rdc_nil))) ?_
    refine RS.mL 2 [(4, .loc 0 0)] ([some (46, [(Value.string x5_0), (Sl3.v x5_1)])]) ?_
    refine RS.dn ?_
    refine WS.nxt ?_
    refine WS.sq ?_
    refine WS.rg ?_
    refine RS.mS 4 [(28, .val (Value.int .i64 0)), (27, .val (Value.int .i64 (x5_1.n : Int))), (26, .val (Sl3.v x5_1)), (25, .loc 0 1)] ?_
    refine RS.dn ?_
    refine WS.nxt ?_
    refine WS.bk 2 ?_
    obtain ⟨o, hl, h⟩ := bind_some h
    rcases o with v28_14 | r
    · try dsimp only at h
      refine WS.lI (sort_book_allSorts_b1_ok (ne := ne) (L := L) (E := E) (m := m) (H := H)) (L.ok hl) 1 ?_
      clear hl
      refine fun a w hs => bkE (bkN ((WS.nxt ?_ a w hs)))
      refine WS.rg ?_
      refine RS.mS 2 [(21, .val (Value.int .i64 (IntKind.i64.wrap (v21_3 + 1)))), (48, .val (Value.int .i64 (IntKind.i64.wrap (v21_3 + 1))))] ?_
      refine RS.dn ?_
      cases h
      exact fun a w hs => lsN rfl (hs.sb 0)
    · try dsimp only at h
      refine WS.lR (sort_book_allSorts_b1_ok (ne := ne) (L := L) (E := E) (m := m) (H := H)) (L.ok hl) 1 ?_
      cases h
      exact fun a w hq => bkR (bkR (sqR (lsR rfl hq)))
  · refine WS.fx 22 false (decide_eq_false hp) ?_
    refine WS.cF ?_
    refine WS.ex 0 ?_
    cases h
    exact fun a w hs => sqE (lsB rfl (hs.sb 0))

theorem sort_book_allSorts_b3_ok {ne : NE} {E : Ent} {m : Nat} {H : AH} {L : LC} {q1 : Addr} {x16 : Sl3}  : ∀ s o, sort_book_allSorts_b3 L q1 x16 s = some o →
    WS Tryd.prog ne m E Tryd.f44.ntmps (cfst (cfst (csnd (cfst (csnd (csnd B44)))))) (sort_book_allSorts_b3_kn L q1 x16 s) (sort_book_allSorts_b3_ls L q1 x16 s) ((fun s => s.1) s) (lpS Tryd.prog ne m E Tryd.f44.ntmps (sort_book_allSorts_b3_kn L q1 x16) (sort_book_allSorts_b3_ls L q1 x16) (fun s => s.1) 6 (fun r => RT Tryd.prog ne m E Tryd.f44 (sort_book_allSorts_enc r) (sort_book_allSorts_hp H r)) o) := by
  rintro ⟨H17, v55_18⟩ o h
  unfold sort_book_allSorts_b3 at h
  try dsimp only at h
  refine WS.sq ?_
  refine WS.rg ?_
  refine RS.mS 1 [(56, .val (Value.bool (decide (v55_18 < (x16.n : Int)))))] ?_
  refine RS.dn ?_
  refine WS.nxt ?_
  refine WS.sq ?_
  rcases ite_some h with ⟨hp, h⟩ | ⟨hp, h⟩
  · refine WS.fx 56 true (decide_eq_true hp) ?_
    refine WS.cT ?_
    cases h
  · refine WS.fx 56 false (decide_eq_false hp) ?_
    refine WS.cF ?_
    refine WS.ex 6 ?_
    cases h
    exact fun a w hs => sqE (lsB rfl (hs.sb 0))

theorem sort_book_allSorts_ok {L : LC} {ne : NE} {m : Nat} {H : AH} {a0 : Option Addr} {r : (Int × AH)} (h : sort_book_allSorts L m H a0 = some r) :
    CallS Tryd.prog ne m 44 #[(Value.pointer a0)] H (sort_book_allSorts_enc r) (sort_book_allSorts_hp H r) := by
  refine CallS.mk (args := [(Value.pointer a0)]) Tryd.func44 (B := B44) (by kernel_rfl) (fun E _ => ?_)
  unfold sort_book_allSorts at h
  refine WS.sq ?_
  refine WS.rg ?_
  refine RS.mS 1 [(2, .val (Value.int .i64 0))] ?_
  refine RS.dn ?_
  refine WS.nxt ?_
  refine WS.sq ?_
  refine WS.sq ?_
  refine WS.rg ?_
  refine RS.mS 1 [(15, .val (Value.pointer a0))] ?_
  obtain ⟨q1, hx, hq1⟩ := bind_some h
  subst hx
  have h := hq1
  refine RS.mS 3 [(18, .val (Value.pointer (some (Addr.add (Addr.add q1 0) 1)))), (17, .val (Value.pointer (some (Addr.add q1 0)))), (16, .val (Value.pointer (some q1)))] ?_
  obtain ⟨x2, hx, h⟩ := bind_some h
  refine RS.o (H' := H) (some 19) (Sl3.v x2) (Abs.run_load (t := 30) (x := .tmp 18) (a := (Addr.add (Addr.add q1 0) 1)) (by kernel_rfl) (by kernel_rfl) (by kernel_rfl) (rd_cell hx deSl_inv)) ?_
  refine RS.mS 2 [(21, .val (Value.int .i64 0)), (20, .val (Value.int .i64 (x2.n : Int)))] ?_
  refine RS.dn ?_
  refine WS.nxt ?_
  refine WS.bk 0 ?_
  obtain ⟨o, hl, h⟩ := bind_some h
  rcases o with v21_15 | r
  · try dsimp only at h
    refine WS.lI (sort_book_allSorts_b0_ok (ne := ne) (L := L) (E := E) (m := m) (H := H)) (L.ok hl) 0 ?_
    clear hl
    refine fun a w hs => bkE ((WS.nxt ?_ a w hs))
    refine WS.sq ?_
    refine WS.sq ?_
    refine WS.rg ?_
    refine RS.mS 4 [(52, .val (Value.pointer (some (Addr.add (Addr.add q1 0) 2)))), (51, .val (Value.pointer (some (Addr.add q1 0)))), (50, .val (Value.pointer (some q1))), (49, .val (Value.pointer (some q1)))] ?_
    obtain ⟨x16, hx, h⟩ := bind_some h
    refine RS.o (H' := H) (some 53) (Sl3.v x16) (Abs.run_load (t := 31) (x := .tmp 52) (a := (Addr.add (Addr.add q1 0) 2)) (by kernel_rfl) (by kernel_rfl) (by kernel_rfl) (rd_cell hx deSl_inv)) ?_
    refine RS.mS 2 [(55, .val (Value.int .i64 0)), (54, .val (Value.int .i64 (x16.n : Int)))] ?_
    refine RS.dn ?_
    refine WS.nxt ?_
    refine WS.bk 6 ?_
    obtain ⟨o, hl, h⟩ := bind_some h
    rcases o with ⟨H19, v55_20⟩ | r
    · try dsimp only at h
      refine WS.lI (sort_book_allSorts_b3_ok (ne := ne) (L := L) (E := E) (m := m) (H := H)) (L.ok hl) 0 ?_
      clear hl
      refine fun a w hs => bkE ((WS.nxt ?_ a w hs))
      refine WS.sq ?_
      refine WS.rg ?_
      refine RS.mS 1 [(2, .val (Value.int .i64 0))] ?_
      refine RS.dn ?_
      refine WS.nxt ?_
      refine WS.rt ?_
      cases h
      exact fun a w hs => rtR (rS hs)
    · try dsimp only at h
      refine WS.lR (sort_book_allSorts_b3_ok (ne := ne) (L := L) (E := E) (m := m) (H := H)) (L.ok hl) 0 ?_
      cases h
      exact fun a w hq => bkR (sqR (rtR hq))
  · try dsimp only at h
    refine WS.lR (sort_book_allSorts_b0_ok (ne := ne) (L := L) (E := E) (m := m) (H := H)) (L.ok hl) 0 ?_
    cases h
    exact fun a w hq => bkR (sqR (rtR hq))

def sort_book_datas_enc : (Sl3 × AH) → Value
  | (r0, _) => (Sl3.v r0)

def sort_book_datas_hp (_ : AH) : (Sl3 × AH) → AH := fun r => r.2

noncomputable def B74 : Code := (Tryd.f74.body).getD .skip

noncomputable def sort_book_datas_b0 (_L : LC) (_a0 : Option Addr) (_a1_0 : Int) (_a1_1 : Int) (_a1_2 : ByteArray) (a1_3 : Sl3) : (AH × Sl3 × Int) → Option (Lp (AH × Sl3 × Int) (Sl3 × AH)) := fun (H7, v7_8, v31_9) =>
  if v31_9 < (a1_3.n : Int) then
    none
  else
    some (.brk (H7, v7_8, v31_9))

def sort_book_datas_b0_kn (_L : LC) (a0 : Option Addr) (_a1_0 : Int) (_a1_1 : Int) (_a1_2 : ByteArray) (a1_3 : Sl3) : (AH × Sl3 × Int) → KN := fun (_, v7_8, v31_9) => [(7, .val (Sl3.v v7_8)), (31, .val (Value.int .i64 v31_9)), (0, .val (Value.pointer a0)), (29, .val (Sl3.v a1_3)), (30, .val (Value.int .i64 (a1_3.n : Int)))]

def sort_book_datas_b0_ls (_L : LC) (_a0 : Option Addr) (a1_0 : Int) (a1_1 : Int) (a1_2 : ByteArray) (a1_3 : Sl3) : (AH × Sl3 × Int) → Lcs := fun (_, _, _) => [some (28, [(Value.int .i64 a1_0), (Value.int .i64 a1_1), (Value.string a1_2), (Sl3.v a1_3)])]

noncomputable def sort_book_datas_body (L : LC) (_m : Nat) (H : AH) (a0 : Option Addr) (a1_0 : Int) (a1_1 : Int) (a1_2 : ByteArray) (a1_3 : Sl3) (a2 : Bool) : Option (Sl3 × AH) :=
  Option.bind (α := Bool) (
    if a1_0 = 6 then
      some (!a2)
    else
      some false) fun v16_1 =>
  if v16_1 = true then
    Option.bind a0 fun q2 =>
    Option.bind (rd deM H (Addr.add q2 3)) fun x3 =>
    Option.bind (lk1 Tryd.prog 94 (deI .i64) H x3 (Value.agg #[(Value.int .i64 a1_0), (Value.string a1_2)])) fun x4 =>
    Option.bind (newR 3 1 #[(Value.int .i64 x4)] H) fun (s5, H6) =>
    some (s5, H6)
  else
    Option.bind (L.run (sort_book_datas_b0 L a0 a1_0 a1_1 a1_2 a1_3) (H, Sl3.nil, 0)) fun o => match o with
    | .inl (H10, v7_11, _) =>
      some (v7_11, H10)
    | .inr r => some r

noncomputable def fam_sort_book_datas (L : LC) (n : Nat) : (Nat → AH → (Option Addr) → Int → Int → ByteArray → Sl3 → Bool → Option (Sl3 × AH)) := Nat.rec (motive := fun _ => (Nat → AH → (Option Addr) → Int → Int → ByteArray → Sl3 → Bool → Option (Sl3 × AH))) (fun _ _ _ _ _ _ _ _ => none) (fun _ _ => sort_book_datas_body L) n

noncomputable def sort_book_datas (L : LC) (m : Nat) (H : AH) (a0 : Option Addr) (a1_0 : Int) (a1_1 : Int) (a1_2 : ByteArray) (a1_3 : Sl3) (a2 : Bool) : Option (Sl3 × AH) := (fam_sort_book_datas L L.fuel) m H a0 a1_0 a1_1 a1_2 a1_3 a2

theorem sort_book_datas_b0_ok {ne : NE} {E : Ent} {m : Nat} {H : AH} {L : LC} {a0 : Option Addr} {a1_0 : Int} {a1_1 : Int} {a1_2 : ByteArray} {a1_3 : Sl3}  : ∀ s o, sort_book_datas_b0 L a0 a1_0 a1_1 a1_2 a1_3 s = some o →
    WS Tryd.prog ne m E Tryd.f74.ntmps (cfst (cfst (csnd (cfst (csnd (csnd (csnd B74))))))) (sort_book_datas_b0_kn L a0 a1_0 a1_1 a1_2 a1_3 s) (sort_book_datas_b0_ls L a0 a1_0 a1_1 a1_2 a1_3 s) ((fun s => s.1) s) (lpS Tryd.prog ne m E Tryd.f74.ntmps (sort_book_datas_b0_kn L a0 a1_0 a1_1 a1_2 a1_3) (sort_book_datas_b0_ls L a0 a1_0 a1_1 a1_2 a1_3) (fun s => s.1) 0 (fun r => RT Tryd.prog ne m E Tryd.f74 (sort_book_datas_enc r) (sort_book_datas_hp H r)) o) := by
  rintro ⟨H7, v7_8, v31_9⟩ o h
  unfold sort_book_datas_b0 at h
  try dsimp only at h
  refine WS.sq ?_
  refine WS.rg ?_
  refine RS.mS 1 [(32, .val (Value.bool (decide (v31_9 < (a1_3.n : Int)))))] ?_
  refine RS.dn ?_
  refine WS.nxt ?_
  refine WS.sq ?_
  rcases ite_some h with ⟨hp, h⟩ | ⟨hp, h⟩
  · refine WS.fx 32 true (decide_eq_true hp) ?_
    refine WS.cT ?_
    cases h
  · refine WS.fx 32 false (decide_eq_false hp) ?_
    refine WS.cF ?_
    refine WS.ex 0 ?_
    cases h
    exact fun a w hs => sqE (lsB rfl (hs.sb 1))

theorem sort_book_datas_body_ok {L : LC} {ne : NE} {m : Nat} {H : AH} {a0 : Option Addr} {a1_0 : Int} {a1_1 : Int} {a1_2 : ByteArray} {a1_3 : Sl3} {a2 : Bool} {r : (Sl3 × AH)} (h : sort_book_datas_body L m H a0 a1_0 a1_1 a1_2 a1_3 a2 = some r) :
    CallS Tryd.prog ne m 74 #[(Value.pointer a0), (Value.agg #[(Value.int .i64 a1_0), (Value.int .i64 a1_1), (Value.string a1_2), (Sl3.v a1_3)]), (Value.bool a2)] H (sort_book_datas_enc r) (sort_book_datas_hp H r) := by
  refine CallS.mk (args := [(Value.pointer a0), (Value.agg #[(Value.int .i64 a1_0), (Value.int .i64 a1_1), (Value.string a1_2), (Sl3.v a1_3)]), (Value.bool a2)]) Tryd.func74 (B := B74) (by kernel_rfl) (fun E _ => ?_)
  unfold sort_book_datas_body at h
  refine WS.sq ?_
  refine WS.rg ?_
  refine RS.mL 2 [(6, .val (Sl3.v Sl3.nil)), (4, .loc 0 0)] ([some (28, [(Value.int .i64 a1_0), (Value.int .i64 a1_1), (Value.string a1_2), (Sl3.v a1_3)])]) ?_
  refine RS.dn ?_
  refine WS.nxt ?_
  refine WS.sq ?_
  obtain ⟨v16_1, hx, h⟩ := bind_some h
  refine WS.sq ?_
  refine WS.join ([(16, .val (Value.bool v16_1)), (0, .val (Value.pointer a0)), (4, .loc 0 0)]) ([some (28, [(Value.int .i64 a1_0), (Value.int .i64 a1_1), (Value.string a1_2), (Sl3.v a1_3)])]) H ?_ (fun a w hs => WS.nxt ?_ a w hs)
  · clear h; rename _ => h
    refine WS.rg ?_
    refine RS.mS 4 [(13, .val (Value.bool (decide (a1_0 = 6)))), (12, .val (Value.bool (decide (a1_0 = 6)))), (11, .val (Value.int .i64 a1_0)), (10, .loc 0 0)] ?_
    rcases ite_some h with ⟨hp, h⟩ | ⟨hp, h⟩
    · refine RS.fx 13 true (decide_eq_true hp) ?_
      refine RS.mS 3 [(16, .val (Value.bool (!a2))), (15, .val (Value.bool (!a2))), (14, .val (Value.bool a2))] ?_
      refine RS.dn ?_
      cases h
      exact fun a w hs => (jsN (hs.sb 1))
    · refine RS.fx 13 false (decide_eq_false hp) ?_
      refine RS.mS 3 [(16, .val (Value.bool false)), (15, .val undef), (14, .val undef)] ?_
      refine RS.dn ?_
      cases h
      exact fun a w hs => (jsN (hs.sb 1))
  · clear hx
    rcases ite_some h with ⟨hp, h⟩ | ⟨hp, h⟩
    · refine WS.fx 16 true hp ?_
      refine WS.cT ?_
      refine WS.sq ?_
      refine WS.dr [0, 1, 2, 3, 4, 5, 6, 7, 8, 9] [0, 1, 3, 7, 0, 16, 0, 64, 240, 511, 1023, 2047] 12 (fun hcl => ?_)
      refine DA.tK 0 (some 17) (Value.pointer a0) ?_
      obtain ⟨q2, hx, hq2⟩ := bind_some h
      subst hx
      have h := hq2
      refine DA.tK 1 (some 18) (Value.pointer (some q2)) ?_
      refine DA.tK 2 (some 19) (Value.pointer (some (Addr.add q2 3))) ?_
      obtain ⟨x3, hx, h⟩ := bind_some h
      refine DA.tD 3 (some 20) (Value.map x3) (Abs.det_load (t := 94) (x := .tmp 19) (a := (Addr.add q2 3)) (by kernel_rfl) (by kernel_rfl) (by kernel_rfl) (by kernel_rfl) (rd_cell hx deM_inv)) ?_
      refine DA.tL 4 (some 21) (.loc 0 0) ?_
      refine DA.tL 5 (some 22) (.val (Value.int .i64 a1_0)) ?_
      refine DA.tL 6 (some 23) (.loc 0 2) ?_
      refine DA.tL 7 (some 24) (.val (Value.string a1_2)) ?_
      refine DA.tK 8 (some 25) (Value.agg #[(Value.int .i64 a1_0), (Value.string a1_2)]) ?_
      obtain ⟨x4, hx, h⟩ := bind_some h
      refine DA.tD 9 (some 26) (Value.int .i64 x4) (Abs.det_look (t := 94) (x := .tmp 20) (y := .tmp 25) (mm := x3) (k := (Value.agg #[(Value.int .i64 a1_0), (Value.string a1_2)])) (by kernel_rfl) (by kernel_rfl) (by kernel_rfl) (by kernel_rfl) (lk1_eq hx deI_inv)) ?_
      obtain ⟨⟨s5, H6⟩, hx, h⟩ := bind_some h
      try dsimp only at h
      refine DA.on 10 ?_
      refine DA.aH (H' := H6) 10 (some 27) (Sl3.v s5) (Abs.run_newR (by kernel_rfl) (by kernel_rfl) hx) ?_
      refine DA.tP 11 (some 6) (Sl3.v s5) ?_
      refine DA.dn ?_
      refine WS.nxt ?_
      refine WS.rt ?_
      cases h
      exact fun a w hs => sqR (rtR (rS hs))
    · refine WS.fx 16 false (b_not hp) ?_
      refine WS.cF ?_
      refine WS.sk ?_
      refine WS.nxt ?_
      refine WS.sq ?_
      refine WS.rg ?_
      refine RS.mS 1 [(7, .val (Sl3.v Sl3.nil))] ?_
      refine RS.dn ?_
      refine WS.nxt ?_
      refine WS.sq ?_
      refine WS.sq ?_
      refine WS.rg ?_
      refine RS.mS 4 [(31, .val (Value.int .i64 0)), (30, .val (Value.int .i64 (a1_3.n : Int))), (29, .val (Sl3.v a1_3)), (28, .loc 0 3)] ?_
      refine RS.dn ?_
      refine WS.nxt ?_
      refine WS.bk 0 ?_
      obtain ⟨o, hl, h⟩ := bind_some h
      rcases o with ⟨H10, v7_11, v31_12⟩ | r
      · try dsimp only at h
        refine WS.lI (sort_book_datas_b0_ok (ne := ne) (L := L) (E := E) (m := m) (H := H)) (L.ok hl) 1 ?_
        clear hl
        refine fun a w hs => bkE ((WS.nxt ?_ a w hs))
        refine WS.sq ?_
        refine WS.rg ?_
        refine RS.mS 2 [(6, .val (Sl3.v v7_11)), (41, .val (Sl3.v v7_11))] ?_
        refine RS.dn ?_
        refine WS.nxt ?_
        refine WS.rt ?_
        cases h
        exact fun a w hs => rtR (rS hs)
      · try dsimp only at h
        refine WS.lR (sort_book_datas_b0_ok (ne := ne) (L := L) (E := E) (m := m) (H := H)) (L.ok hl) 1 ?_
        cases h
        exact fun a w hq => bkR (sqR (rtR hq))

theorem fam_sort_book_datas_ok {L : LC} {ne : NE} : ∀ n, (∀ (m : Nat) (H : AH) (a0 : Option Addr) (a1_0 : Int) (a1_1 : Int) (a1_2 : ByteArray) (a1_3 : Sl3) (a2 : Bool) (r : (Sl3 × AH)), ((fam_sort_book_datas L n)) m H a0 a1_0 a1_1 a1_2 a1_3 a2 = some r → CallS Tryd.prog ne m 74 #[(Value.pointer a0), (Value.agg #[(Value.int .i64 a1_0), (Value.int .i64 a1_1), (Value.string a1_2), (Sl3.v a1_3)]), (Value.bool a2)] H (sort_book_datas_enc r) (sort_book_datas_hp H r)) := by
  intro n
  induction n with
  | zero => exact (fun _ _ _ _ _ _ _ _ _ h => (Option.some_ne_none _ h.symm).elim)
  | succ n ih => exact (fun _ _ _ _ _ _ _ _ _ h => sort_book_datas_body_ok (L := L)  h)

theorem sort_book_datas_ok {L : LC} {ne : NE} {m : Nat} {H : AH} {a0 : Option Addr} {a1_0 : Int} {a1_1 : Int} {a1_2 : ByteArray} {a1_3 : Sl3} {a2 : Bool} {r : (Sl3 × AH)} (h : sort_book_datas L m H a0 a1_0 a1_1 a1_2 a1_3 a2 = some r) :
    CallS Tryd.prog ne m 74 #[(Value.pointer a0), (Value.agg #[(Value.int .i64 a1_0), (Value.int .i64 a1_1), (Value.string a1_2), (Sl3.v a1_3)]), (Value.bool a2)] H (sort_book_datas_enc r) (sort_book_datas_hp H r) :=
  (fam_sort_book_datas_ok _) _ _ _ _ _ _ _ _ _ h

end Go.Proofs.YtccbilfbhecdaaaDoor.Aw


namespace Go.Proofs.YtccbilfbhecdaaaDoor.Aw
open Go Go.Abs
set_option maxRecDepth 100000

def sort_book_nested_enc : (Bool × AH) → Value
  | (r0, _) => (Value.bool r0)

def sort_book_nested_hp (_ : AH) : (Bool × AH) → AH := fun r => r.2

noncomputable def B45 : Code := (Tryd.f45.body).getD .skip

noncomputable def sort_book_nested_b3 (_L : LC) (_a1 : Sl3) (_q1 : Addr) (_x2 : Sl3) (_v19_4 : Int) (_x6_0 : ByteArray) (_x6_1 : Sl3) (_v27_8 : Int) (_x10_0 : ByteArray) (_x10_1 : Sl3) (_v34_12 : Int) (_x14_0 : ByteArray) (_x14_1 : Int) (_x14_2 : Int) (_x14_3 : ByteArray) (_x14_4 : Sl3) (x15 : Sl3) (_H16 : AH) : Int → Option (Lp Int (Bool × AH)) := fun v43_17 =>
  if v43_17 < (x15.n : Int) then
    none
  else
    some (.brk v43_17)

def sort_book_nested_b3_kn (_L : LC) (a1 : Sl3) (q1 : Addr) (x2 : Sl3) (v19_4 : Int) (_x6_0 : ByteArray) (x6_1 : Sl3) (v27_8 : Int) (_x10_0 : ByteArray) (x10_1 : Sl3) (v34_12 : Int) (_x14_0 : ByteArray) (_x14_1 : Int) (_x14_2 : Int) (_x14_3 : ByteArray) (_x14_4 : Sl3) (x15 : Sl3) (_H16 : AH) : Int → KN := fun v43_17 => [(43, .val (Value.int .i64 v43_17)), (0, .val (Value.pointer (some q1))), (1, .val (Sl3.v a1)), (5, .val (Value.int .i64 v19_4)), (17, .val (Sl3.v x2)), (18, .val (Value.int .i64 (x2.n : Int))), (19, .val (Value.int .i64 v19_4)), (25, .val (Sl3.v x6_1)), (26, .val (Value.int .i64 (x6_1.n : Int))), (27, .val (Value.int .i64 v27_8)), (32, .val (Sl3.v x10_1)), (33, .val (Value.int .i64 (x10_1.n : Int))), (34, .val (Value.int .i64 v34_12)), (41, .val (Sl3.v x15)), (42, .val (Value.int .i64 (x15.n : Int)))]

def sort_book_nested_b3_ls (_L : LC) (_a1 : Sl3) (_q1 : Addr) (_x2 : Sl3) (_v19_4 : Int) (x6_0 : ByteArray) (x6_1 : Sl3) (_v27_8 : Int) (x10_0 : ByteArray) (x10_1 : Sl3) (_v34_12 : Int) (x14_0 : ByteArray) (x14_1 : Int) (x14_2 : Int) (x14_3 : ByteArray) (x14_4 : Sl3) (_x15 : Sl3) (_H16 : AH) : Int → Lcs := fun _ => [some (46, [(Value.string x6_0), (Sl3.v x6_1)]), some (50, [(Value.string x10_0), (Sl3.v x10_1)]), some (52, [(Value.string x14_0), (Value.int .i64 x14_1), (Value.int .i64 x14_2), (Value.string x14_3), (Sl3.v x14_4)])]

noncomputable def sort_book_nested_b2 (L : LC) (m : Nat) (a1 : Sl3) (q1 : Addr) (x2 : Sl3) (v19_4 : Int) (x6_0 : ByteArray) (x6_1 : Sl3) (v27_8 : Int) (x10_0 : ByteArray) (x10_1 : Sl3) : (AH × Int) → Option (Lp (AH × Int) (Bool × AH)) := fun (H11, v34_12) =>
  if v34_12 < (x10_1.n : Int) then
    Option.bind (idxA 5 x10_1 v34_12) fun p13 =>
    Option.bind (rd deS H11 (Addr.add p13 0)) fun x14_0 =>
    Option.bind (rd (deI .i64) H11 (Addr.add p13 1)) fun x14_1 =>
    Option.bind (rd (deI .i64) H11 (Addr.add p13 2)) fun x14_2 =>
    Option.bind (rd deS H11 (Addr.add p13 3)) fun x14_3 =>
    Option.bind (rd deSl H11 (Addr.add p13 4)) fun x14_4 =>
    Option.bind (sort_book_datas L m H11 (some q1) x14_1 x14_2 x14_3 x14_4 true) fun (x15, H16) =>
    Option.bind (L.run (sort_book_nested_b3 L a1 q1 x2 v19_4 x6_0 x6_1 v27_8 x10_0 x10_1 v34_12 x14_0 x14_1 x14_2 x14_3 x14_4 x15 H16) 0) fun o => match o with
    | .inl _ =>
      some (.next (H16, (IntKind.i64.wrap (v34_12 + 1))))
    | .inr r => some (.ret r)
  else
    some (.brk (H11, v34_12))

def sort_book_nested_b2_kn (_L : LC) (_m : Nat) (a1 : Sl3) (q1 : Addr) (x2 : Sl3) (v19_4 : Int) (_x6_0 : ByteArray) (x6_1 : Sl3) (v27_8 : Int) (_x10_0 : ByteArray) (x10_1 : Sl3) : (AH × Int) → KN := fun (_, v34_12) => [(34, .val (Value.int .i64 v34_12)), (0, .val (Value.pointer (some q1))), (1, .val (Sl3.v a1)), (5, .val (Value.int .i64 v19_4)), (17, .val (Sl3.v x2)), (18, .val (Value.int .i64 (x2.n : Int))), (19, .val (Value.int .i64 v19_4)), (25, .val (Sl3.v x6_1)), (26, .val (Value.int .i64 (x6_1.n : Int))), (27, .val (Value.int .i64 v27_8)), (32, .val (Sl3.v x10_1)), (33, .val (Value.int .i64 (x10_1.n : Int)))]

def sort_book_nested_b2_ls (_L : LC) (_m : Nat) (_a1 : Sl3) (_q1 : Addr) (_x2 : Sl3) (_v19_4 : Int) (x6_0 : ByteArray) (x6_1 : Sl3) (_v27_8 : Int) (x10_0 : ByteArray) (x10_1 : Sl3) : (AH × Int) → Lcs := fun (_, _) => [some (46, [(Value.string x6_0), (Sl3.v x6_1)]), some (50, [(Value.string x10_0), (Sl3.v x10_1)])]

noncomputable def sort_book_nested_b1 (L : LC) (m : Nat) (a1 : Sl3) (q1 : Addr) (x2 : Sl3) (v19_4 : Int) (x6_0 : ByteArray) (x6_1 : Sl3) : (AH × Int) → Option (Lp (AH × Int) (Bool × AH)) := fun (H7, v27_8) =>
  if v27_8 < (x6_1.n : Int) then
    Option.bind (idxA 2 x6_1 v27_8) fun p9 =>
    Option.bind (rd deS H7 (Addr.add p9 0)) fun x10_0 =>
    Option.bind (rd deSl H7 (Addr.add p9 1)) fun x10_1 =>
    Option.bind (L.run (sort_book_nested_b2 L m a1 q1 x2 v19_4 x6_0 x6_1 v27_8 x10_0 x10_1) (H7, 0)) fun o => match o with
    | .inl (H19, _) =>
      some (.next (H19, (IntKind.i64.wrap (v27_8 + 1))))
    | .inr r => some (.ret r)
  else
    some (.brk (H7, v27_8))

def sort_book_nested_b1_kn (_L : LC) (_m : Nat) (a1 : Sl3) (q1 : Addr) (x2 : Sl3) (v19_4 : Int) (_x6_0 : ByteArray) (x6_1 : Sl3) : (AH × Int) → KN := fun (_, v27_8) => [(27, .val (Value.int .i64 v27_8)), (0, .val (Value.pointer (some q1))), (1, .val (Sl3.v a1)), (5, .val (Value.int .i64 v19_4)), (17, .val (Sl3.v x2)), (18, .val (Value.int .i64 (x2.n : Int))), (19, .val (Value.int .i64 v19_4)), (25, .val (Sl3.v x6_1)), (26, .val (Value.int .i64 (x6_1.n : Int)))]

def sort_book_nested_b1_ls (_L : LC) (_m : Nat) (_a1 : Sl3) (_q1 : Addr) (_x2 : Sl3) (_v19_4 : Int) (x6_0 : ByteArray) (x6_1 : Sl3) : (AH × Int) → Lcs := fun (_, _) => [some (46, [(Value.string x6_0), (Sl3.v x6_1)])]

noncomputable def sort_book_nested_b0 (L : LC) (m : Nat) (a1 : Sl3) (q1 : Addr) (x2 : Sl3) : (AH × Int) → Option (Lp (AH × Int) (Bool × AH)) := fun (H3, v19_4) =>
  if v19_4 < (x2.n : Int) then
    Option.bind (idxA 2 x2 v19_4) fun p5 =>
    Option.bind (rd deS H3 (Addr.add p5 0)) fun x6_0 =>
    Option.bind (rd deSl H3 (Addr.add p5 1)) fun x6_1 =>
    Option.bind (L.run (sort_book_nested_b1 L m a1 q1 x2 v19_4 x6_0 x6_1) (H3, 0)) fun o => match o with
    | .inl (H21, _) =>
      some (.next (H21, (IntKind.i64.wrap (v19_4 + 1))))
    | .inr r => some (.ret r)
  else
    some (.brk (H3, v19_4))

def sort_book_nested_b0_kn (_L : LC) (_m : Nat) (a1 : Sl3) (q1 : Addr) (x2 : Sl3) : (AH × Int) → KN := fun (_, v19_4) => [(19, .val (Value.int .i64 v19_4)), (0, .val (Value.pointer (some q1))), (1, .val (Sl3.v a1)), (17, .val (Sl3.v x2)), (18, .val (Value.int .i64 (x2.n : Int)))]

def sort_book_nested_b0_ls (_L : LC) (_m : Nat) (_a1 : Sl3) (_q1 : Addr) (_x2 : Sl3) : (AH × Int) → Lcs := fun (_, _) => []

noncomputable def sort_book_nested (L : LC) (m : Nat) (H : AH) (a0 : Option Addr) (a1 : Sl3) : Option (Bool × AH) :=
  Option.bind a0 fun q1 =>
  Option.bind (rd deSl H (Addr.add (Addr.add q1 0) 1)) fun x2 =>
  Option.bind (L.run (sort_book_nested_b0 L m a1 q1 x2) (H, 0)) fun o => match o with
  | .inl (H23, _) =>
    some (false, H23)
  | .inr r => some r

theorem sort_book_nested_b3_ok {ne : NE} {E : Ent} {m : Nat} {H : AH} {L : LC} {a1 : Sl3} {q1 : Addr} {x2 : Sl3} {v19_4 : Int} {x6_0 : ByteArray} {x6_1 : Sl3} {v27_8 : Int} {x10_0 : ByteArray} {x10_1 : Sl3} {v34_12 : Int} {x14_0 : ByteArray} {x14_1 : Int} {x14_2 : Int} {x14_3 : ByteArray} {x14_4 : Sl3} {x15 : Sl3} {H16 : AH}  : ∀ s o, sort_book_nested_b3 L a1 q1 x2 v19_4 x6_0 x6_1 v27_8 x10_0 x10_1 v34_12 x14_0 x14_1 x14_2 x14_3 x14_4 x15 H16 s = some o →
    WS Tryd.prog ne m E Tryd.f45.ntmps (cfst (cfst (csnd (csnd (cfst (cfst (csnd (csnd (cfst (cfst (csnd (csnd (cfst (cfst (csnd (csnd (cfst (cfst (csnd (csnd (cfst (cfst (csnd (csnd (cfst (cfst (csnd (cfst (csnd B45))))))))))))))))))))))))))))) (sort_book_nested_b3_kn L a1 q1 x2 v19_4 x6_0 x6_1 v27_8 x10_0 x10_1 v34_12 x14_0 x14_1 x14_2 x14_3 x14_4 x15 H16 s) (sort_book_nested_b3_ls L a1 q1 x2 v19_4 x6_0 x6_1 v27_8 x10_0 x10_1 v34_12 x14_0 x14_1 x14_2 x14_3 x14_4 x15 H16 s) ((fun _ => H16) s) (lpS Tryd.prog ne m E Tryd.f45.ntmps (sort_book_nested_b3_kn L a1 q1 x2 v19_4 x6_0 x6_1 v27_8 x10_0 x10_1 v34_12 x14_0 x14_1 x14_2 x14_3 x14_4 x15 H16) (sort_book_nested_b3_ls L a1 q1 x2 v19_4 x6_0 x6_1 v27_8 x10_0 x10_1 v34_12 x14_0 x14_1 x14_2 x14_3 x14_4 x15 H16) (fun _ => H16) 6 (fun r => RT Tryd.prog ne m E Tryd.f45 (sort_book_nested_enc r) (sort_book_nested_hp H r)) o) := by
  rintro v43_17 o h
  unfold sort_book_nested_b3 at h
  try dsimp only at h
  refine WS.sq ?_
  refine WS.rg ?_
  refine RS.mS 1 [(44, .val (Value.bool (decide (v43_17 < (x15.n : Int)))))] ?_
  refine RS.dn ?_
  refine WS.nxt ?_
  refine WS.sq ?_
  rcases ite_some h with ⟨hp, h⟩ | ⟨hp, h⟩
  · refine WS.fx 44 true (decide_eq_true hp) ?_
    refine WS.cT ?_
    cases h
  · refine WS.fx 44 false (decide_eq_false hp) ?_
    refine WS.cF ?_
    refine WS.ex 6 ?_
    cases h
    exact fun a w hs => sqE (lsB rfl (hs.sb 3))

theorem sort_book_nested_b2_ok {ne : NE} {E : Ent} {H : AH} {L : LC} {m : Nat} {a1 : Sl3} {q1 : Addr} {x2 : Sl3} {v19_4 : Int} {x6_0 : ByteArray} {x6_1 : Sl3} {v27_8 : Int} {x10_0 : ByteArray} {x10_1 : Sl3}  : ∀ s o, sort_book_nested_b2 L m a1 q1 x2 v19_4 x6_0 x6_1 v27_8 x10_0 x10_1 s = some o →
    WS Tryd.prog ne m E Tryd.f45.ntmps (cfst (cfst (csnd (csnd (cfst (cfst (csnd (csnd (cfst (cfst (csnd (csnd (cfst (cfst (csnd (csnd (cfst (cfst (csnd (cfst (csnd B45))))))))))))))))))))) (sort_book_nested_b2_kn L m a1 q1 x2 v19_4 x6_0 x6_1 v27_8 x10_0 x10_1 s) (sort_book_nested_b2_ls L m a1 q1 x2 v19_4 x6_0 x6_1 v27_8 x10_0 x10_1 s) ((fun s => s.1) s) (lpS Tryd.prog ne m E Tryd.f45.ntmps (sort_book_nested_b2_kn L m a1 q1 x2 v19_4 x6_0 x6_1 v27_8 x10_0 x10_1) (sort_book_nested_b2_ls L m a1 q1 x2 v19_4 x6_0 x6_1 v27_8 x10_0 x10_1) (fun s => s.1) 4 (fun r => RT Tryd.prog ne m E Tryd.f45 (sort_book_nested_enc r) (sort_book_nested_hp H r)) o) := by
  rintro ⟨H11, v34_12⟩ o h
  unfold sort_book_nested_b2 at h
  try dsimp only at h
  refine WS.sq ?_
  refine WS.rg ?_
  refine RS.mS 1 [(35, .val (Value.bool (decide (v34_12 < (x10_1.n : Int)))))] ?_
  refine RS.dn ?_
  refine WS.nxt ?_
  refine WS.sq ?_
  rcases ite_some h with ⟨hp, h⟩ | ⟨hp, h⟩
  · refine WS.fx 35 true (decide_eq_true hp) ?_
    refine WS.cT ?_
    refine WS.sk ?_
    refine WS.nxt ?_
    refine WS.sq ?_
    refine WS.bk 5 ?_
    refine WS.sq ?_
    refine WS.rg ?_
    obtain ⟨p13, hx, h⟩ := bind_some h
    refine RS.o (H' := H11) (some 36) (Value.pointer (some p13)) (Abs.run_idx (s := x10_1) (k := .i64) (t := 48) (e := 52) (x := .tmp 32) (y := .tmp 34) (by kernel_rfl) (by kernel_rfl) (by kernel_rfl) (by kernel_rfl) (by kernel_rfl) hx) ?_
    obtain ⟨x14_0, hx0, h⟩ := bind_some h
    obtain ⟨x14_1, hx1, h⟩ := bind_some h
    obtain ⟨x14_2, hx2, h⟩ := bind_some h
    obtain ⟨x14_3, hx3, h⟩ := bind_some h
    obtain ⟨x14_4, hx4, h⟩ := bind_some h
    refine RS.o (H' := H11) (some 37) (Value.agg #[(Value.string x14_0), (Value.int .i64 x14_1), (Value.int .i64 x14_2), (Value.string x14_3), (Sl3.v x14_4)]) (Abs.run_loadAg (t := 52) (x := .tmp 36) (a := p13) (k := 5) (by kernel_rfl) (by kernel_rfl) (by kernel_rfl) (by kernel_rfl) (rdc_cons (rd_cell hx0 deS_inv) (rdc_cons (rd_cell hx1 deI_inv) (rdc_cons (rd_cell hx2 deI_inv) (rdc_cons (rd_cell hx3 deS_inv) (rdc_cons (rd_cell hx4 deSl_inv) rdc_nil)))))) ?_
    refine RS.mL 2 [(10, .loc 2 0)] ([some (46, [(Value.string x6_0), (Sl3.v x6_1)]), some (50, [(Value.string x10_0), (Sl3.v x10_1)]), some (52, [(Value.string x14_0), (Value.int .i64 x14_1), (Value.int .i64 x14_2), (Value.string x14_3), (Sl3.v x14_4)])]) ?_
    refine RS.dn ?_
    refine WS.nxt ?_
    refine WS.sq ?_
    refine WS.rg ?_
    refine RS.mS 3 [(40, .val (Value.agg #[(Value.int .i64 x14_1), (Value.int .i64 x14_2), (Value.string x14_3), (Sl3.v x14_4)])), (39, .loc 2 1), (38, .val (Value.pointer (some q1)))] ?_
    obtain ⟨⟨x15, H16⟩, hx, h⟩ := bind_some h
    try dsimp only at h
    refine RS.cl (some 41) (v := (Sl3.v x15)) 74 #[(Value.pointer (some q1)), (Value.agg #[(Value.int .i64 x14_1), (Value.int .i64 x14_2), (Value.string x14_3), (Sl3.v x14_4)]), (Value.bool true)] (sort_book_datas_ok hx) ?_
    refine RS.mS 2 [(43, .val (Value.int .i64 0)), (42, .val (Value.int .i64 (x15.n : Int)))] ?_
    refine RS.dn ?_
    refine WS.nxt ?_
    refine WS.bk 6 ?_
    obtain ⟨o, hl, h⟩ := bind_some h
    rcases o with v43_18 | r
    · try dsimp only at h
      refine WS.lI (sort_book_nested_b3_ok (ne := ne) (L := L) (E := E) (m := m) (H := H)) (L.ok hl) 3 ?_
      clear hl
      refine fun a w hs => bkE (bkN ((WS.nxt ?_ a w hs)))
      refine WS.rg ?_
      refine RS.mS 2 [(34, .val (Value.int .i64 (IntKind.i64.wrap (v34_12 + 1)))), (60, .val (Value.int .i64 (IntKind.i64.wrap (v34_12 + 1))))] ?_
      refine RS.dn ?_
      cases h
      exact fun a w hs => lsN rfl (hs.sb 2)
    · try dsimp only at h
      refine WS.lR (sort_book_nested_b3_ok (ne := ne) (L := L) (E := E) (m := m) (H := H)) (L.ok hl) 3 ?_
      cases h
      exact fun a w hq => bkR (bkR (sqR (lsR rfl hq)))
  · refine WS.fx 35 false (decide_eq_false hp) ?_
    refine WS.cF ?_
    refine WS.ex 4 ?_
    cases h
    exact fun a w hs => sqE (lsB rfl (hs.sb 2))

theorem sort_book_nested_b1_ok {ne : NE} {E : Ent} {H : AH} {L : LC} {m : Nat} {a1 : Sl3} {q1 : Addr} {x2 : Sl3} {v19_4 : Int} {x6_0 : ByteArray} {x6_1 : Sl3}  : ∀ s o, sort_book_nested_b1 L m a1 q1 x2 v19_4 x6_0 x6_1 s = some o →
    WS Tryd.prog ne m E Tryd.f45.ntmps (cfst (cfst (csnd (csnd (cfst (cfst (csnd (csnd (cfst (cfst (csnd (cfst (csnd B45))))))))))))) (sort_book_nested_b1_kn L m a1 q1 x2 v19_4 x6_0 x6_1 s) (sort_book_nested_b1_ls L m a1 q1 x2 v19_4 x6_0 x6_1 s) ((fun s => s.1) s) (lpS Tryd.prog ne m E Tryd.f45.ntmps (sort_book_nested_b1_kn L m a1 q1 x2 v19_4 x6_0 x6_1) (sort_book_nested_b1_ls L m a1 q1 x2 v19_4 x6_0 x6_1) (fun s => s.1) 2 (fun r => RT Tryd.prog ne m E Tryd.f45 (sort_book_nested_enc r) (sort_book_nested_hp H r)) o) := by
  rintro ⟨H7, v27_8⟩ o h
  unfold sort_book_nested_b1 at h
  try dsimp only at h
  refine WS.sq ?_
  refine WS.rg ?_
  refine RS.mS 1 [(28, .val (Value.bool (decide (v27_8 < (x6_1.n : Int)))))] ?_
  refine RS.dn ?_
  refine WS.nxt ?_
  refine WS.sq ?_
  rcases ite_some h with ⟨hp, h⟩ | ⟨hp, h⟩
  · refine WS.fx 28 true (decide_eq_true hp) ?_
    refine WS.cT ?_
    refine WS.sk ?_
    refine WS.nxt ?_
    refine WS.sq ?_
    refine WS.bk 3 ?_
    refine WS.sq ?_
    refine WS.rg ?_
    obtain ⟨p9, hx, h⟩ := bind_some h
    refine RS.o (H' := H7) (some 29) (Value.pointer (some p9)) (Abs.run_idx (s := x6_1) (k := .i64) (t := 44) (e := 50) (x := .tmp 25) (y := .tmp 27) (by kernel_rfl) (by kernel_rfl) (by kernel_rfl) (by kernel_rfl) (by kernel_rfl) hx) ?_
    obtain ⟨x10_0, hx0, h⟩ := bind_some h
    obtain ⟨x10_1, hx1, h⟩ := bind_some h
    refine RS.o (H' := H7) (some 30) (Value.agg #[(Value.string x10_0), (Sl3.v x10_1)]) (Abs.run_loadAg (t := 50) (x := .tmp 29) (a := p9) (k := 2) (by kernel_rfl) (by kernel_rfl) (by kernel_rfl) (by kernel_rfl) (rdc_cons (rd_cell hx0 deS_inv) (rdc_cons (rd_cell hx1 deSl_inv) rdc_nil))) ?_
    refine RS.mL 2 [(8, .loc 1 0)] ([some (46, [(Value.string x6_0), (Sl3.v x6_1)]), some (50, [(Value.string x10_0), (Sl3.v x10_1)])]) ?_
    refine RS.dn ?_
    refine WS.nxt ?_
    refine WS.sq ?_
    refine WS.rg ?_
    refine RS.mS 4 [(34, .val (Value.int .i64 0)), (33, .val (Value.int .i64 (x10_1.n : Int))), (32, .val (Sl3.v x10_1)), (31, .loc 1 1)] ?_
    refine RS.dn ?_
    refine WS.nxt ?_
    refine WS.bk 4 ?_
    obtain ⟨o, hl, h⟩ := bind_some h
    rcases o with ⟨H19, v34_20⟩ | r
    · try dsimp only at h
      refine WS.lI (sort_book_nested_b2_ok (ne := ne) (L := L) (E := E) (m := m) (H := H)) (L.ok hl) 2 ?_
      clear hl
      refine fun a w hs => bkE (bkN ((WS.nxt ?_ a w hs)))
      refine WS.rg ?_
      refine RS.mS 2 [(27, .val (Value.int .i64 (IntKind.i64.wrap (v27_8 + 1)))), (61, .val (Value.int .i64 (IntKind.i64.wrap (v27_8 + 1))))] ?_
      refine RS.dn ?_
      cases h
      exact fun a w hs => lsN rfl (hs.sb 1)
    · try dsimp only at h
      refine WS.lR (sort_book_nested_b2_ok (ne := ne) (L := L) (E := E) (m := m) (H := H)) (L.ok hl) 2 ?_
      cases h
      exact fun a w hq => bkR (bkR (sqR (lsR rfl hq)))
  · refine WS.fx 28 false (decide_eq_false hp) ?_
    refine WS.cF ?_
    refine WS.ex 2 ?_
    cases h
    exact fun a w hs => sqE (lsB rfl (hs.sb 1))

theorem sort_book_nested_b0_ok {ne : NE} {E : Ent} {H : AH} {L : LC} {m : Nat} {a1 : Sl3} {q1 : Addr} {x2 : Sl3}  : ∀ s o, sort_book_nested_b0 L m a1 q1 x2 s = some o →
    WS Tryd.prog ne m E Tryd.f45.ntmps (cfst (cfst (csnd (cfst (csnd B45))))) (sort_book_nested_b0_kn L m a1 q1 x2 s) (sort_book_nested_b0_ls L m a1 q1 x2 s) ((fun s => s.1) s) (lpS Tryd.prog ne m E Tryd.f45.ntmps (sort_book_nested_b0_kn L m a1 q1 x2) (sort_book_nested_b0_ls L m a1 q1 x2) (fun s => s.1) 0 (fun r => RT Tryd.prog ne m E Tryd.f45 (sort_book_nested_enc r) (sort_book_nested_hp H r)) o) := by
  rintro ⟨H3, v19_4⟩ o h
  unfold sort_book_nested_b0 at h
  try dsimp only at h
  refine WS.sq ?_
  refine WS.rg ?_
  refine RS.mS 1 [(20, .val (Value.bool (decide (v19_4 < (x2.n : Int)))))] ?_
  refine RS.dn ?_
  refine WS.nxt ?_
  refine WS.sq ?_
  rcases ite_some h with ⟨hp, h⟩ | ⟨hp, h⟩
  · refine WS.fx 20 true (decide_eq_true hp) ?_
    refine WS.cT ?_
    refine WS.sk ?_
    refine WS.nxt ?_
    refine WS.sq ?_
    refine WS.bk 1 ?_
    refine WS.sq ?_
    refine WS.rg ?_
    refine RS.mS 1 [(21, .val (Value.int .i64 v19_4))] ?_
    obtain ⟨p5, hx, h⟩ := bind_some h
    refine RS.o (H' := H3) (some 22) (Value.pointer (some p5)) (Abs.run_idx (s := x2) (k := .i64) (t := 30) (e := 46) (x := .tmp 17) (y := .tmp 19) (by kernel_rfl) (by kernel_rfl) (by kernel_rfl) (by kernel_rfl) (by kernel_rfl) hx) ?_
    obtain ⟨x6_0, hx0, h⟩ := bind_some h
    obtain ⟨x6_1, hx1, h⟩ := bind_some h
    refine RS.o (H' := H3) (some 23) (Value.agg #[(Value.string x6_0), (Sl3.v x6_1)]) (Abs.run_loadAg (t := 46) (x := .tmp 22) (a := p5) (k := 2) (by kernel_rfl) (by kernel_rfl) (by kernel_rfl) (by kernel_rfl) (rdc_cons (rd_cell hx0 deS_inv) (rdc_cons (rd_cell hx1 deSl_inv) rdc_nil))) ?_
    refine RS.mL 3 [(5, .val (Value.int .i64 v19_4)), (6, .loc 0 0)] ([some (46, [(Value.string x6_0), (Sl3.v x6_1)])]) ?_
    refine RS.dn ?_
    refine WS.nxt ?_
    refine WS.sq ?_
    refine WS.rg ?_
    refine RS.mS 4 [(27, .val (Value.int .i64 0)), (26, .val (Value.int .i64 (x6_1.n : Int))), (25, .val (Sl3.v x6_1)), (24, .loc 0 1)] ?_
    refine RS.dn ?_
    refine WS.nxt ?_
    refine WS.bk 2 ?_
    obtain ⟨o, hl, h⟩ := bind_some h
    rcases o with ⟨H21, v27_22⟩ | r
    · try dsimp only at h
      refine WS.lI (sort_book_nested_b1_ok (ne := ne) (L := L) (E := E) (m := m) (H := H)) (L.ok hl) 1 ?_
      clear hl
      refine fun a w hs => bkE (bkN ((WS.nxt ?_ a w hs)))
      refine WS.rg ?_
      refine RS.mS 2 [(19, .val (Value.int .i64 (IntKind.i64.wrap (v19_4 + 1)))), (62, .val (Value.int .i64 (IntKind.i64.wrap (v19_4 + 1))))] ?_
      refine RS.dn ?_
      cases h
      exact fun a w hs => lsN rfl (hs.sb 0)
    · try dsimp only at h
      refine WS.lR (sort_book_nested_b1_ok (ne := ne) (L := L) (E := E) (m := m) (H := H)) (L.ok hl) 1 ?_
      cases h
      exact fun a w hq => bkR (bkR (sqR (lsR rfl hq)))
  · refine WS.fx 20 false (decide_eq_false hp) ?_
    refine WS.cF ?_
    refine WS.ex 0 ?_
    cases h
    exact fun a w hs => sqE (lsB rfl (hs.sb 0))

theorem sort_book_nested_ok {L : LC} {ne : NE} {m : Nat} {H : AH} {a0 : Option Addr} {a1 : Sl3} {r : (Bool × AH)} (h : sort_book_nested L m H a0 a1 = some r) :
    CallS Tryd.prog ne m 45 #[(Value.pointer a0), (Sl3.v a1)] H (sort_book_nested_enc r) (sort_book_nested_hp H r) := by
  refine CallS.mk (args := [(Value.pointer a0), (Sl3.v a1)]) Tryd.func45 (B := B45) (by kernel_rfl) (fun E _ => ?_)
  unfold sort_book_nested at h
  refine WS.sq ?_
  refine WS.rg ?_
  refine RS.mS 1 [(4, .val (Value.bool false))] ?_
  refine RS.dn ?_
  refine WS.nxt ?_
  refine WS.sq ?_
  refine WS.sq ?_
  refine WS.rg ?_
  refine RS.mS 1 [(13, .val (Value.pointer a0))] ?_
  obtain ⟨q1, hx, hq1⟩ := bind_some h
  subst hx
  have h := hq1
  refine RS.mS 3 [(16, .val (Value.pointer (some (Addr.add (Addr.add q1 0) 1)))), (15, .val (Value.pointer (some (Addr.add q1 0)))), (14, .val (Value.pointer (some q1)))] ?_
  obtain ⟨x2, hx, h⟩ := bind_some h
  refine RS.o (H' := H) (some 17) (Sl3.v x2) (Abs.run_load (t := 30) (x := .tmp 16) (a := (Addr.add (Addr.add q1 0) 1)) (by kernel_rfl) (by kernel_rfl) (by kernel_rfl) (rd_cell hx deSl_inv)) ?_
  refine RS.mS 2 [(19, .val (Value.int .i64 0)), (18, .val (Value.int .i64 (x2.n : Int)))] ?_
  refine RS.dn ?_
  refine WS.nxt ?_
  refine WS.bk 0 ?_
  obtain ⟨o, hl, h⟩ := bind_some h
  rcases o with ⟨H23, v19_24⟩ | r
  · try dsimp only at h
    refine WS.lI (sort_book_nested_b0_ok (ne := ne) (L := L) (E := E) (m := m) (H := H)) (L.ok hl) 0 ?_
    clear hl
    refine fun a w hs => bkE ((WS.nxt ?_ a w hs))
    refine WS.sq ?_
    refine WS.rg ?_
    refine RS.mS 1 [(4, .val (Value.bool false))] ?_
    refine RS.dn ?_
    refine WS.nxt ?_
    refine WS.rt ?_
    cases h
    exact fun a w hs => rtR (rS hs)
  · try dsimp only at h
    refine WS.lR (sort_book_nested_b0_ok (ne := ne) (L := L) (E := E) (m := m) (H := H)) (L.ok hl) 0 ?_
    cases h
    exact fun a w hq => bkR (sqR (rtR hq))

def sort_book_standing_enc : (Sl3 × AH) → Value
  | (r0, _) => (Sl3.v r0)

def sort_book_standing_hp (_ : AH) : (Sl3 × AH) → AH := fun r => r.2

noncomputable def B75 : Code := (Tryd.f75.body).getD .skip

noncomputable def sort_book_standing_b1 (L : LC) (m : Nat) (q1 : Addr) (_x4 : Sl3) (_v20_7 : Int) (_x9_0 : ByteArray) (x9_1 : Sl3) : (AH × Sl3 × Int) → Option (Lp (AH × Sl3 × Int) (Sl3 × AH)) := fun (H10, v5_11, v27_12) =>
  if v27_12 < (x9_1.n : Int) then
    Option.bind (idxA 5 x9_1 v27_12) fun p13 =>
    Option.bind (rd deS H10 (Addr.add p13 0)) fun _ =>
    Option.bind (rd (deI .i64) H10 (Addr.add p13 1)) fun x14_1 =>
    Option.bind (rd (deI .i64) H10 (Addr.add p13 2)) fun x14_2 =>
    Option.bind (rd deS H10 (Addr.add p13 3)) fun x14_3 =>
    Option.bind (rd deSl H10 (Addr.add p13 4)) fun x14_4 =>
    Option.bind (sort_book_datas L m H10 (some q1) x14_1 x14_2 x14_3 x14_4 false) fun (x15, H16) =>
    Option.bind (appS m 3 1 8 H16 v5_11 x15) fun (s17, H18) =>
    some (.next (H18, s17, (IntKind.i64.wrap (v27_12 + 1))))
  else
    some (.brk (H10, v5_11, v27_12))

def sort_book_standing_b1_kn (_L : LC) (_m : Nat) (q1 : Addr) (x4 : Sl3) (v20_7 : Int) (_x9_0 : ByteArray) (x9_1 : Sl3) : (AH × Sl3 × Int) → KN := fun (_, v5_11, v27_12) => [(5, .val (Sl3.v v5_11)), (27, .val (Value.int .i64 v27_12)), (0, .val (Value.pointer (some q1))), (18, .val (Sl3.v x4)), (19, .val (Value.int .i64 (x4.n : Int))), (20, .val (Value.int .i64 v20_7)), (25, .val (Sl3.v x9_1)), (26, .val (Value.int .i64 (x9_1.n : Int)))]

def sort_book_standing_b1_ls (_L : LC) (_m : Nat) (_q1 : Addr) (_x4 : Sl3) (_v20_7 : Int) (x9_0 : ByteArray) (x9_1 : Sl3) : (AH × Sl3 × Int) → Lcs := fun (_, _, _) => [some (50, [(Value.string x9_0), (Sl3.v x9_1)])]

noncomputable def sort_book_standing_b0 (L : LC) (m : Nat) (q1 : Addr) (x4 : Sl3) : (AH × Sl3 × Int) → Option (Lp (AH × Sl3 × Int) (Sl3 × AH)) := fun (H5, v5_6, v20_7) =>
  if v20_7 < (x4.n : Int) then
    Option.bind (idxA 2 x4 v20_7) fun p8 =>
    Option.bind (rd deS H5 (Addr.add p8 0)) fun x9_0 =>
    Option.bind (rd deSl H5 (Addr.add p8 1)) fun x9_1 =>
    Option.bind (L.run (sort_book_standing_b1 L m q1 x4 v20_7 x9_0 x9_1) (H5, v5_6, 0)) fun o => match o with
    | .inl (H19, v5_20, _) =>
      some (.next (H19, v5_20, (IntKind.i64.wrap (v20_7 + 1))))
    | .inr r => some (.ret r)
  else
    some (.brk (H5, v5_6, v20_7))

def sort_book_standing_b0_kn (_L : LC) (_m : Nat) (q1 : Addr) (x4 : Sl3) : (AH × Sl3 × Int) → KN := fun (_, v5_6, v20_7) => [(5, .val (Sl3.v v5_6)), (20, .val (Value.int .i64 v20_7)), (0, .val (Value.pointer (some q1))), (18, .val (Sl3.v x4)), (19, .val (Value.int .i64 (x4.n : Int)))]

def sort_book_standing_b0_ls (_L : LC) (_m : Nat) (_q1 : Addr) (_x4 : Sl3) : (AH × Sl3 × Int) → Lcs := fun (_, _, _) => []

noncomputable def sort_book_standing (L : LC) (m : Nat) (H : AH) (a0 : Option Addr) (a1 : Int) : Option (Sl3 × AH) :=
  Option.bind a0 fun q1 =>
  Option.bind (rd deSl H (Addr.add (Addr.add q1 0) 1)) fun x2 =>
  Option.bind (idxA 2 x2 a1) fun p3 =>
  Option.bind (rd deSl H (Addr.add p3 1)) fun x4 =>
  Option.bind (L.run (sort_book_standing_b0 L m q1 x4) (H, Sl3.nil, 0)) fun o => match o with
  | .inl (H22, v5_23, _) =>
    some (v5_23, H22)
  | .inr r => some r

theorem sort_book_standing_b1_ok {ne : NE} {E : Ent} {H : AH} {L : LC} {m : Nat} {q1 : Addr} {x4 : Sl3} {v20_7 : Int} {x9_0 : ByteArray} {x9_1 : Sl3}  : ∀ s o, sort_book_standing_b1 L m q1 x4 v20_7 x9_0 x9_1 s = some o →
    WS Tryd.prog ne m E Tryd.f75.ntmps (cfst (cfst (csnd (csnd (cfst (cfst (csnd (csnd (cfst (cfst (csnd (cfst (csnd (csnd B75)))))))))))))) (sort_book_standing_b1_kn L m q1 x4 v20_7 x9_0 x9_1 s) (sort_book_standing_b1_ls L m q1 x4 v20_7 x9_0 x9_1 s) ((fun s => s.1) s) (lpS Tryd.prog ne m E Tryd.f75.ntmps (sort_book_standing_b1_kn L m q1 x4 v20_7 x9_0 x9_1) (sort_book_standing_b1_ls L m q1 x4 v20_7 x9_0 x9_1) (fun s => s.1) 2 (fun r => RT Tryd.prog ne m E Tryd.f75 (sort_book_standing_enc r) (sort_book_standing_hp H r)) o) := by
  rintro ⟨H10, v5_11, v27_12⟩ o h
  unfold sort_book_standing_b1 at h
  try dsimp only at h
  refine WS.sq ?_
  refine WS.rg ?_
  refine RS.mS 1 [(28, .val (Value.bool (decide (v27_12 < (x9_1.n : Int)))))] ?_
  refine RS.dn ?_
  refine WS.nxt ?_
  refine WS.sq ?_
  rcases ite_some h with ⟨hp, h⟩ | ⟨hp, h⟩
  · refine WS.fx 28 true (decide_eq_true hp) ?_
    refine WS.cT ?_
    refine WS.sk ?_
    refine WS.nxt ?_
    refine WS.sq ?_
    refine WS.bk 3 ?_
    refine WS.sq ?_
    refine WS.rg ?_
    obtain ⟨p13, hx, h⟩ := bind_some h
    refine RS.o (H' := H10) (some 29) (Value.pointer (some p13)) (Abs.run_idx (s := x9_1) (k := .i64) (t := 48) (e := 52) (x := .tmp 25) (y := .tmp 27) (by kernel_rfl) (by kernel_rfl) (by kernel_rfl) (by kernel_rfl) (by kernel_rfl) hx) ?_
    obtain ⟨x14_0, hx0, h⟩ := bind_some h
    obtain ⟨x14_1, hx1, h⟩ := bind_some h
    obtain ⟨x14_2, hx2, h⟩ := bind_some h
    obtain ⟨x14_3, hx3, h⟩ := bind_some h
    obtain ⟨x14_4, hx4, h⟩ := bind_some h
    refine RS.o (H' := H10) (some 30) (Value.agg #[(Value.string x14_0), (Value.int .i64 x14_1), (Value.int .i64 x14_2), (Value.string x14_3), (Sl3.v x14_4)]) (Abs.run_loadAg (t := 52) (x := .tmp 29) (a := p13) (k := 5) (by kernel_rfl) (by kernel_rfl) (by kernel_rfl) (by kernel_rfl) (rdc_cons (rd_cell hx0 deS_inv) (rdc_cons (rd_cell hx1 deI_inv) (rdc_cons (rd_cell hx2 deI_inv) (rdc_cons (rd_cell hx3 deS_inv) (rdc_cons (rd_cell hx4 deSl_inv) rdc_nil)))))) ?_
    refine RS.mL 2 [(9, .loc 1 0)] ([some (50, [(Value.string x9_0), (Sl3.v x9_1)]), some (52, [(Value.string x14_0), (Value.int .i64 x14_1), (Value.int .i64 x14_2), (Value.string x14_3), (Sl3.v x14_4)])]) ?_
    refine RS.dn ?_
    refine WS.nxt ?_
    refine WS.rg ?_
    refine RS.mS 4 [(34, .val (Value.agg #[(Value.int .i64 x14_1), (Value.int .i64 x14_2), (Value.string x14_3), (Sl3.v x14_4)])), (33, .loc 1 1), (32, .val (Value.pointer (some q1))), (31, .val (Sl3.v v5_11))] ?_
    obtain ⟨⟨x15, H16⟩, hx, h⟩ := bind_some h
    try dsimp only at h
    refine RS.cl (some 35) (v := (Sl3.v x15)) 74 #[(Value.pointer (some q1)), (Value.agg #[(Value.int .i64 x14_1), (Value.int .i64 x14_2), (Value.string x14_3), (Sl3.v x14_4)]), (Value.bool false)] (sort_book_datas_ok hx) ?_
    obtain ⟨⟨s17, H18⟩, hx, h⟩ := bind_some h
    try dsimp only at h
    refine RS.o (H' := H18) (some 36) (Sl3.v s17) (Abs.run_app (x := .tmp 31) (y := .tmp 35) (ts := #[104, 104]) (s := v5_11) (z := x15) (by kernel_rfl) (by kernel_rfl) (by kernel_rfl) (by kernel_rfl) hx) ?_
    refine RS.mS 1 [(5, .val (Sl3.v s17))] ?_
    refine RS.dn ?_
    refine fun a w hs => bkN ((WS.nxt ?_ a w hs))
    refine WS.rg ?_
    refine RS.mS 2 [(27, .val (Value.int .i64 (IntKind.i64.wrap (v27_12 + 1)))), (37, .val (Value.int .i64 (IntKind.i64.wrap (v27_12 + 1))))] ?_
    refine RS.dn ?_
    cases h
    exact fun a w hs => lsN rfl (hs.sb 1)
  · refine WS.fx 28 false (decide_eq_false hp) ?_
    refine WS.cF ?_
    refine WS.ex 2 ?_
    cases h
    exact fun a w hs => sqE (lsB rfl (hs.sb 1))

theorem sort_book_standing_b0_ok {ne : NE} {E : Ent} {H : AH} {L : LC} {m : Nat} {q1 : Addr} {x4 : Sl3}  : ∀ s o, sort_book_standing_b0 L m q1 x4 s = some o →
    WS Tryd.prog ne m E Tryd.f75.ntmps (cfst (cfst (csnd (cfst (csnd (csnd B75)))))) (sort_book_standing_b0_kn L m q1 x4 s) (sort_book_standing_b0_ls L m q1 x4 s) ((fun s => s.1) s) (lpS Tryd.prog ne m E Tryd.f75.ntmps (sort_book_standing_b0_kn L m q1 x4) (sort_book_standing_b0_ls L m q1 x4) (fun s => s.1) 0 (fun r => RT Tryd.prog ne m E Tryd.f75 (sort_book_standing_enc r) (sort_book_standing_hp H r)) o) := by
  rintro ⟨H5, v5_6, v20_7⟩ o h
  unfold sort_book_standing_b0 at h
  try dsimp only at h
  refine WS.sq ?_
  refine WS.rg ?_
  refine RS.mS 1 [(21, .val (Value.bool (decide (v20_7 < (x4.n : Int)))))] ?_
  refine RS.dn ?_
  refine WS.nxt ?_
  refine WS.sq ?_
  rcases ite_some h with ⟨hp, h⟩ | ⟨hp, h⟩
  · refine WS.fx 21 true (decide_eq_true hp) ?_
    refine WS.cT ?_
    refine WS.sk ?_
    refine WS.nxt ?_
    refine WS.sq ?_
    refine WS.bk 1 ?_
    refine WS.sq ?_
    refine WS.rg ?_
    obtain ⟨p8, hx, h⟩ := bind_some h
    refine RS.o (H' := H5) (some 22) (Value.pointer (some p8)) (Abs.run_idx (s := x4) (k := .i64) (t := 44) (e := 50) (x := .tmp 18) (y := .tmp 20) (by kernel_rfl) (by kernel_rfl) (by kernel_rfl) (by kernel_rfl) (by kernel_rfl) hx) ?_
    obtain ⟨x9_0, hx0, h⟩ := bind_some h
    obtain ⟨x9_1, hx1, h⟩ := bind_some h
    refine RS.o (H' := H5) (some 23) (Value.agg #[(Value.string x9_0), (Sl3.v x9_1)]) (Abs.run_loadAg (t := 50) (x := .tmp 22) (a := p8) (k := 2) (by kernel_rfl) (by kernel_rfl) (by kernel_rfl) (by kernel_rfl) (rdc_cons (rd_cell hx0 deS_inv) (rdc_cons (rd_cell hx1 deSl_inv) rdc_nil))) ?_
    refine RS.mL 2 [(7, .loc 0 0)] ([some (50, [(Value.string x9_0), (Sl3.v x9_1)])]) ?_
    refine RS.dn ?_
    refine WS.nxt ?_
    refine WS.sq ?_
    refine WS.rg ?_
    refine RS.mS 4 [(27, .val (Value.int .i64 0)), (26, .val (Value.int .i64 (x9_1.n : Int))), (25, .val (Sl3.v x9_1)), (24, .loc 0 1)] ?_
    refine RS.dn ?_
    refine WS.nxt ?_
    refine WS.bk 2 ?_
    obtain ⟨o, hl, h⟩ := bind_some h
    rcases o with ⟨H19, v5_20, v27_21⟩ | r
    · try dsimp only at h
      refine WS.lI (sort_book_standing_b1_ok (ne := ne) (L := L) (E := E) (m := m) (H := H)) (L.ok hl) 1 ?_
      clear hl
      refine fun a w hs => bkE (bkN ((WS.nxt ?_ a w hs)))
      refine WS.rg ?_
      refine RS.mS 2 [(20, .val (Value.int .i64 (IntKind.i64.wrap (v20_7 + 1)))), (38, .val (Value.int .i64 (IntKind.i64.wrap (v20_7 + 1))))] ?_
      refine RS.dn ?_
      cases h
      exact fun a w hs => lsN rfl (hs.sb 0)
    · try dsimp only at h
      refine WS.lR (sort_book_standing_b1_ok (ne := ne) (L := L) (E := E) (m := m) (H := H)) (L.ok hl) 1 ?_
      cases h
      exact fun a w hq => bkR (bkR (sqR (lsR rfl hq)))
  · refine WS.fx 21 false (decide_eq_false hp) ?_
    refine WS.cF ?_
    refine WS.ex 0 ?_
    cases h
    exact fun a w hs => sqE (lsB rfl (hs.sb 0))

theorem sort_book_standing_ok {L : LC} {ne : NE} {m : Nat} {H : AH} {a0 : Option Addr} {a1 : Int} {r : (Sl3 × AH)} (h : sort_book_standing L m H a0 a1 = some r) :
    CallS Tryd.prog ne m 75 #[(Value.pointer a0), (Value.int .i64 a1)] H (sort_book_standing_enc r) (sort_book_standing_hp H r) := by
  refine CallS.mk (args := [(Value.pointer a0), (Value.int .i64 a1)]) Tryd.func75 (B := B75) (by kernel_rfl) (fun E _ => ?_)
  unfold sort_book_standing at h
  refine WS.sq ?_
  refine WS.rg ?_
  refine RS.mS 1 [(4, .val (Sl3.v Sl3.nil))] ?_
  refine RS.dn ?_
  refine WS.nxt ?_
  refine WS.sq ?_
  refine WS.rg ?_
  refine RS.mS 1 [(5, .val (Sl3.v Sl3.nil))] ?_
  refine RS.dn ?_
  refine WS.nxt ?_
  refine WS.sq ?_
  refine WS.sq ?_
  refine WS.rg ?_
  refine RS.mS 1 [(10, .val (Value.pointer a0))] ?_
  obtain ⟨q1, hx, hq1⟩ := bind_some h
  subst hx
  have h := hq1
  refine RS.mS 3 [(13, .val (Value.pointer (some (Addr.add (Addr.add q1 0) 1)))), (12, .val (Value.pointer (some (Addr.add q1 0)))), (11, .val (Value.pointer (some q1)))] ?_
  obtain ⟨x2, hx, h⟩ := bind_some h
  refine RS.o (H' := H) (some 14) (Sl3.v x2) (Abs.run_load (t := 30) (x := .tmp 13) (a := (Addr.add (Addr.add q1 0) 1)) (by kernel_rfl) (by kernel_rfl) (by kernel_rfl) (rd_cell hx deSl_inv)) ?_
  refine RS.mS 1 [(15, .val (Value.int .i64 a1))] ?_
  obtain ⟨p3, hx, h⟩ := bind_some h
  refine RS.o (H' := H) (some 16) (Value.pointer (some p3)) (Abs.run_idx (s := x2) (k := .i64) (t := 30) (e := 46) (x := .tmp 14) (y := .tmp 15) (by kernel_rfl) (by kernel_rfl) (by kernel_rfl) (by kernel_rfl) (by kernel_rfl) hx) ?_
  refine RS.mS 1 [(17, .val (Value.pointer (some (Addr.add p3 1))))] ?_
  obtain ⟨x4, hx, h⟩ := bind_some h
  refine RS.o (H' := H) (some 18) (Sl3.v x4) (Abs.run_load (t := 44) (x := .tmp 17) (a := (Addr.add p3 1)) (by kernel_rfl) (by kernel_rfl) (by kernel_rfl) (rd_cell hx deSl_inv)) ?_
  refine RS.mS 2 [(20, .val (Value.int .i64 0)), (19, .val (Value.int .i64 (x4.n : Int)))] ?_
  refine RS.dn ?_
  refine WS.nxt ?_
  refine WS.bk 0 ?_
  obtain ⟨o, hl, h⟩ := bind_some h
  rcases o with ⟨H22, v5_23, v20_24⟩ | r
  · try dsimp only at h
    refine WS.lI (sort_book_standing_b0_ok (ne := ne) (L := L) (E := E) (m := m) (H := H)) (L.ok hl) 0 ?_
    clear hl
    refine fun a w hs => bkE ((WS.nxt ?_ a w hs))
    refine WS.sq ?_
    refine WS.rg ?_
    refine RS.mS 2 [(4, .val (Sl3.v v5_23)), (39, .val (Sl3.v v5_23))] ?_
    refine RS.dn ?_
    refine WS.nxt ?_
    refine WS.rt ?_
    cases h
    exact fun a w hs => rtR (rS hs)
  · try dsimp only at h
    refine WS.lR (sort_book_standing_b0_ok (ne := ne) (L := L) (E := E) (m := m) (H := H)) (L.ok hl) 0 ?_
    cases h
    exact fun a w hq => bkR (sqR (rtR hq))

def sort_book_leans_enc : (Sl3 × AH) → Value
  | (r0, _) => (Sl3.v r0)

def sort_book_leans_hp (_ : AH) : (Sl3 × AH) → AH := fun r => r.2

noncomputable def B46 : Code := (Tryd.f46.body).getD .skip

noncomputable def sort_book_leans_b1 (L : LC) (m : Nat) (q1 : Addr) (_x2 : Sl3) (s3 : Sl3) (v17_6 : Int) : (AH × Sl3) → Option (Lp (AH × Sl3) (Sl3 × AH)) := fun (H13, v6_14) =>
  if (v6_14.n : Int) > 0 then
    Option.bind (idxA 1 v6_14 0) fun p15 =>
    Option.bind (rd (deI .i64) H13 p15) fun x16 =>
    Option.bind (slc 1 H13 v6_14 (some 1) none none) fun s17 =>
    Option.bind (idxA 1 s3 v17_6) fun p18 =>
    Option.bind (rd deSl H13 p18) fun x19 =>
    Option.bind (idxA 1 x19 x16) fun p20 =>
    Option.bind (rd deB H13 p20) fun x21 =>
    if x21 = true then
      some (.next (H13, s17))
    else
      Option.bind (idxA 1 s3 v17_6) fun p22 =>
      Option.bind (rd deSl H13 p22) fun x23 =>
      Option.bind (idxA 1 x23 x16) fun p24 =>
      Option.bind (H13.setCell m p24 (Value.bool true)) fun H25 =>
      Option.bind (sort_book_standing L m H25 (some q1) x16) fun (x26, H27) =>
      Option.bind (appS m 3 1 8 H27 s17 x26) fun (s28, H29) =>
      some (.next (H29, s28))
  else
    some (.brk (H13, v6_14))

def sort_book_leans_b1_kn (_L : LC) (_m : Nat) (q1 : Addr) (x2 : Sl3) (s3 : Sl3) (v17_6 : Int) : (AH × Sl3) → KN := fun (_, v6_14) => [(6, .val (Sl3.v v6_14)), (0, .val (Value.pointer (some q1))), (3, .val (Value.int .i64 (x2.n : Int))), (4, .val (Sl3.v s3)), (5, .val (Value.int .i64 v17_6)), (16, .val (Value.int .i64 (x2.n : Int))), (17, .val (Value.int .i64 v17_6))]

def sort_book_leans_b1_ls (_L : LC) (_m : Nat) (_q1 : Addr) (_x2 : Sl3) (_s3 : Sl3) (_v17_6 : Int) : (AH × Sl3) → Lcs := fun (_, _) => []

noncomputable def sort_book_leans_b0 (L : LC) (m : Nat) (q1 : Addr) (x2 : Sl3) (s3 : Sl3) : (AH × Int) → Option (Lp (AH × Int) (Sl3 × AH)) := fun (H5, v17_6) =>
  if v17_6 < (x2.n : Int) then
    Option.bind (mkS 4 1 1 #[(Value.bool false)] H5 (x2.n : Int) (x2.n : Int)) fun (s7, H8) =>
    Option.bind (idxA 1 s3 v17_6) fun p9 =>
    Option.bind (H8.setCell m p9 (Sl3.v s7)) fun H10 =>
    Option.bind (sort_book_standing L m H10 (some q1) v17_6) fun (x11, H12) =>
    Option.bind (L.run (sort_book_leans_b1 L m q1 x2 s3 v17_6) (H12, x11)) fun o => match o with
    | .inl (H30, _) =>
      some (.next (H30, (IntKind.i64.wrap (v17_6 + 1))))
    | .inr r => some (.ret r)
  else
    some (.brk (H5, v17_6))

def sort_book_leans_b0_kn (_L : LC) (_m : Nat) (q1 : Addr) (x2 : Sl3) (s3 : Sl3) : (AH × Int) → KN := fun (_, v17_6) => [(17, .val (Value.int .i64 v17_6)), (0, .val (Value.pointer (some q1))), (3, .val (Value.int .i64 (x2.n : Int))), (4, .val (Sl3.v s3)), (16, .val (Value.int .i64 (x2.n : Int)))]

def sort_book_leans_b0_ls (_L : LC) (_m : Nat) (_q1 : Addr) (_x2 : Sl3) (_s3 : Sl3) : (AH × Int) → Lcs := fun (_, _) => []

noncomputable def sort_book_leans (L : LC) (m : Nat) (H : AH) (a0 : Option Addr) : Option (Sl3 × AH) :=
  Option.bind a0 fun q1 =>
  Option.bind (rd deSl H (Addr.add (Addr.add q1 0) 1)) fun x2 =>
  Option.bind (mkS 56 1 24 #[(Sl3.v Sl3.nil)] H (x2.n : Int) (x2.n : Int)) fun (s3, H4) =>
  Option.bind (L.run (sort_book_leans_b0 L m q1 x2 s3) (H4, 0)) fun o => match o with
  | .inl (H32, _) =>
    some (s3, H32)
  | .inr r => some r

theorem sort_book_leans_b1_ok {ne : NE} {E : Ent} {H : AH} {L : LC} {m : Nat} {q1 : Addr} {x2 : Sl3} {s3 : Sl3} {v17_6 : Int}  : ∀ s o, sort_book_leans_b1 L m q1 x2 s3 v17_6 s = some o →
    WS Tryd.prog ne m E Tryd.f46.ntmps (cfst (cfst (csnd (csnd (csnd (cfst (cfst (csnd (csnd (cfst (cfst (csnd (cfst (csnd (csnd (csnd B46)))))))))))))))) (sort_book_leans_b1_kn L m q1 x2 s3 v17_6 s) (sort_book_leans_b1_ls L m q1 x2 s3 v17_6 s) ((fun s => s.1) s) (lpS Tryd.prog ne m E Tryd.f46.ntmps (sort_book_leans_b1_kn L m q1 x2 s3 v17_6) (sort_book_leans_b1_ls L m q1 x2 s3 v17_6) (fun s => s.1) 2 (fun r => RT Tryd.prog ne m E Tryd.f46 (sort_book_leans_enc r) (sort_book_leans_hp H r)) o) := by
  rintro ⟨H13, v6_14⟩ o h
  unfold sort_book_leans_b1 at h
  try dsimp only at h
  refine WS.sq ?_
  refine WS.sq ?_
  refine WS.rg ?_
  refine RS.mS 3 [(30, .val (Value.bool (decide ((v6_14.n : Int) > 0)))), (29, .val (Value.int .i64 (v6_14.n : Int))), (28, .val (Sl3.v v6_14))] ?_
  refine RS.dn ?_
  refine WS.nxt ?_
  rcases ite_some h with ⟨hp, h⟩ | ⟨hp, h⟩
  · refine WS.fx 30 true (decide_eq_true hp) ?_
    refine WS.cT ?_
    refine WS.sk ?_
    refine WS.nxt ?_
    refine WS.bk 3 ?_
    refine WS.sq ?_
    refine WS.rg ?_
    refine RS.mS 1 [(31, .val (Sl3.v v6_14))] ?_
    obtain ⟨p15, hx, h⟩ := bind_some h
    refine RS.o (H' := H13) (some 32) (Value.pointer (some p15)) (Abs.run_idx (s := v6_14) (k := .i64) (t := 104) (e := 3) (x := .tmp 31) (y := .const (Value.int .i64 0)) (by kernel_rfl) (by kernel_rfl) (by kernel_rfl) (by kernel_rfl) (by kernel_rfl) hx) ?_
    obtain ⟨x16, hx, h⟩ := bind_some h
    refine RS.o (H' := H13) (some 33) (Value.int .i64 x16) (Abs.run_load (t := 3) (x := .tmp 32) (a := p15) (by kernel_rfl) (by kernel_rfl) (by kernel_rfl) (rd_cell hx deI_inv)) ?_
    refine RS.mS 1 [(7, .val (Value.int .i64 x16))] ?_
    refine RS.dn ?_
    refine WS.nxt ?_
    refine WS.sq ?_
    refine WS.rg ?_
    refine RS.mS 1 [(34, .val (Sl3.v v6_14))] ?_
    obtain ⟨s17, hx, h⟩ := bind_some h
    refine RS.o (H' := H13) (some 35) (Sl3.v s17) (Abs.run_slice (t := 104) (e := 3) (x := .tmp 34) (lo := (some (.const (Value.int .i64 1)))) (hi := none) (mx := none) (s := v6_14) (k1 := .i64) (k2 := .i64) (k3 := .i64) (by kernel_rfl) (by kernel_rfl) (by kernel_rfl) (by kernel_rfl) (by kernel_rfl) (by kernel_rfl) (by kernel_rfl) hx) ?_
    refine RS.mS 1 [(6, .val (Sl3.v s17))] ?_
    refine RS.dn ?_
    refine WS.nxt ?_
    refine WS.sq ?_
    refine WS.rg ?_
    refine RS.mS 2 [(37, .val (Value.int .i64 v17_6)), (36, .val (Sl3.v s3))] ?_
    obtain ⟨p18, hx, h⟩ := bind_some h
    refine RS.o (H' := H13) (some 38) (Value.pointer (some p18)) (Abs.run_idx (s := s3) (k := .i64) (t := 76) (e := 56) (x := .tmp 36) (y := .tmp 37) (by kernel_rfl) (by kernel_rfl) (by kernel_rfl) (by kernel_rfl) (by kernel_rfl) hx) ?_
    obtain ⟨x19, hx, h⟩ := bind_some h
    refine RS.o (H' := H13) (some 39) (Sl3.v x19) (Abs.run_load (t := 56) (x := .tmp 38) (a := p18) (by kernel_rfl) (by kernel_rfl) (by kernel_rfl) (rd_cell hx deSl_inv)) ?_
    refine RS.mS 1 [(40, .val (Value.int .i64 x16))] ?_
    obtain ⟨p20, hx, h⟩ := bind_some h
    refine RS.o (H' := H13) (some 41) (Value.pointer (some p20)) (Abs.run_idx (s := x19) (k := .i64) (t := 56) (e := 4) (x := .tmp 39) (y := .tmp 40) (by kernel_rfl) (by kernel_rfl) (by kernel_rfl) (by kernel_rfl) (by kernel_rfl) hx) ?_
    obtain ⟨x21, hx, h⟩ := bind_some h
    refine RS.o (H' := H13) (some 42) (Value.bool x21) (Abs.run_load (t := 4) (x := .tmp 41) (a := p20) (by kernel_rfl) (by kernel_rfl) (by kernel_rfl) (rd_cell hx deB_inv)) ?_
    refine RS.mS 1 [(43, .val (Value.bool (!x21)))] ?_
    refine RS.dn ?_
    refine WS.nxt ?_
    rcases ite_some h with ⟨hp, h⟩ | ⟨hp, h⟩
    · refine WS.fx 43 false (nb_not hp) ?_
      refine WS.cF ?_
      refine WS.sk ?_
      cases h
      exact fun a w hs => bkN (lsN rfl (hs.sb 0))
    · refine WS.fx 43 true (nb_not' hp) ?_
      refine WS.cT ?_
      refine WS.sq ?_
      refine WS.rg ?_
      refine RS.mS 2 [(45, .val (Value.int .i64 v17_6)), (44, .val (Sl3.v s3))] ?_
      obtain ⟨p22, hx, h⟩ := bind_some h
      refine RS.o (H' := H13) (some 46) (Value.pointer (some p22)) (Abs.run_idx (s := s3) (k := .i64) (t := 76) (e := 56) (x := .tmp 44) (y := .tmp 45) (by kernel_rfl) (by kernel_rfl) (by kernel_rfl) (by kernel_rfl) (by kernel_rfl) hx) ?_
      obtain ⟨x23, hx, h⟩ := bind_some h
      refine RS.o (H' := H13) (some 47) (Sl3.v x23) (Abs.run_load (t := 56) (x := .tmp 46) (a := p22) (by kernel_rfl) (by kernel_rfl) (by kernel_rfl) (rd_cell hx deSl_inv)) ?_
      refine RS.mS 1 [(48, .val (Value.int .i64 x16))] ?_
      obtain ⟨p24, hx, h⟩ := bind_some h
      refine RS.o (H' := H13) (some 49) (Value.pointer (some p24)) (Abs.run_idx (s := x23) (k := .i64) (t := 56) (e := 4) (x := .tmp 47) (y := .tmp 48) (by kernel_rfl) (by kernel_rfl) (by kernel_rfl) (by kernel_rfl) (by kernel_rfl) hx) ?_
      obtain ⟨H25, hx, h⟩ := bind_some h
      refine RS.o (H' := H25) none undef (Abs.run_store1 (t := 4) (x := .tmp 49) (y := .const (Value.bool true)) (a := p24) (v := (Value.bool true)) (by kernel_rfl) (by kernel_rfl) (by kernel_rfl) (by kernel_rfl) (by kernel_rfl) hx) ?_
      refine RS.dn ?_
      refine WS.nxt ?_
      refine WS.rg ?_
      refine RS.mS 3 [(52, .val (Value.int .i64 x16)), (51, .val (Value.pointer (some q1))), (50, .val (Sl3.v s17))] ?_
      obtain ⟨⟨x26, H27⟩, hx, h⟩ := bind_some h
      try dsimp only at h
      refine RS.cl (some 53) (v := (Sl3.v x26)) 75 #[(Value.pointer (some q1)), (Value.int .i64 x16)] (sort_book_standing_ok hx) ?_
      obtain ⟨⟨s28, H29⟩, hx, h⟩ := bind_some h
      try dsimp only at h
      refine RS.o (H' := H29) (some 54) (Sl3.v s28) (Abs.run_app (x := .tmp 50) (y := .tmp 53) (ts := #[104, 104]) (s := s17) (z := x26) (by kernel_rfl) (by kernel_rfl) (by kernel_rfl) (by kernel_rfl) hx) ?_
      refine RS.mS 1 [(6, .val (Sl3.v s28))] ?_
      refine RS.dn ?_
      cases h
      exact fun a w hs => bkN (lsN rfl (hs.sb 0))
  · refine WS.fx 30 false (decide_eq_false hp) ?_
    refine WS.cF ?_
    refine WS.ex 2 ?_
    cases h
    exact fun a w hs => sqE (lsB rfl (hs.sb 0))

theorem sort_book_leans_b0_ok {ne : NE} {E : Ent} {H : AH} {L : LC} {m : Nat} {q1 : Addr} {x2 : Sl3} {s3 : Sl3}  : ∀ s o, sort_book_leans_b0 L m q1 x2 s3 s = some o →
    WS Tryd.prog ne m E Tryd.f46.ntmps (cfst (cfst (csnd (cfst (csnd (csnd (csnd B46))))))) (sort_book_leans_b0_kn L m q1 x2 s3 s) (sort_book_leans_b0_ls L m q1 x2 s3 s) ((fun s => s.1) s) (lpS Tryd.prog ne m E Tryd.f46.ntmps (sort_book_leans_b0_kn L m q1 x2 s3) (sort_book_leans_b0_ls L m q1 x2 s3) (fun s => s.1) 0 (fun r => RT Tryd.prog ne m E Tryd.f46 (sort_book_leans_enc r) (sort_book_leans_hp H r)) o) := by
  rintro ⟨H5, v17_6⟩ o h
  unfold sort_book_leans_b0 at h
  try dsimp only at h
  refine WS.sq ?_
  refine WS.rg ?_
  refine RS.mS 1 [(18, .val (Value.bool (decide (v17_6 < (x2.n : Int)))))] ?_
  refine RS.dn ?_
  refine WS.nxt ?_
  refine WS.sq ?_
  rcases ite_some h with ⟨hp, h⟩ | ⟨hp, h⟩
  · refine WS.fx 18 true (decide_eq_true hp) ?_
    refine WS.cT ?_
    refine WS.sk ?_
    refine WS.nxt ?_
    refine WS.sq ?_
    refine WS.bk 1 ?_
    refine WS.sq ?_
    refine WS.rg ?_
    refine RS.mS 2 [(5, .val (Value.int .i64 v17_6)), (19, .val (Value.int .i64 v17_6))] ?_
    refine RS.dn ?_
    refine WS.nxt ?_
    refine WS.sq ?_
    refine WS.rg ?_
    refine RS.mS 3 [(22, .val (Value.int .i64 (x2.n : Int))), (21, .val (Value.int .i64 v17_6)), (20, .val (Sl3.v s3))] ?_
    obtain ⟨⟨s7, H8⟩, hx, h⟩ := bind_some h
    try dsimp only at h
    refine RS.o (H' := H8) (some 23) (Sl3.v s7) (Abs.run_mk (t := 56) (x := .tmp 22) (y := .tmp 22) (k1 := .i64) (k2 := .i64) (by kernel_rfl) (by kernel_rfl) (by kernel_rfl) (by kernel_rfl) hx) ?_
    obtain ⟨p9, hx, h⟩ := bind_some h
    refine RS.o (H' := H8) (some 24) (Value.pointer (some p9)) (Abs.run_idx (s := s3) (k := .i64) (t := 76) (e := 56) (x := .tmp 20) (y := .tmp 21) (by kernel_rfl) (by kernel_rfl) (by kernel_rfl) (by kernel_rfl) (by kernel_rfl) hx) ?_
    obtain ⟨H10, hx, h⟩ := bind_some h
    refine RS.o (H' := H10) none undef (Abs.run_store1 (t := 56) (x := .tmp 24) (y := .tmp 23) (a := p9) (v := (Sl3.v s7)) (by kernel_rfl) (by kernel_rfl) (by kernel_rfl) (by kernel_rfl) (by kernel_rfl) hx) ?_
    refine RS.dn ?_
    refine WS.nxt ?_
    refine WS.sq ?_
    refine WS.rg ?_
    refine RS.mS 2 [(26, .val (Value.int .i64 v17_6)), (25, .val (Value.pointer (some q1)))] ?_
    obtain ⟨⟨x11, H12⟩, hx, h⟩ := bind_some h
    try dsimp only at h
    refine RS.cl (some 27) (v := (Sl3.v x11)) 75 #[(Value.pointer (some q1)), (Value.int .i64 v17_6)] (sort_book_standing_ok hx) ?_
    refine RS.mS 1 [(6, .val (Sl3.v x11))] ?_
    refine RS.dn ?_
    refine WS.nxt ?_
    refine WS.bk 2 ?_
    obtain ⟨o, hl, h⟩ := bind_some h
    rcases o with ⟨H30, v6_31⟩ | r
    · try dsimp only at h
      refine WS.lI (sort_book_leans_b1_ok (ne := ne) (L := L) (E := E) (m := m) (H := H)) (L.ok hl) 0 ?_
      clear hl
      refine fun a w hs => bkE (bkN ((WS.nxt ?_ a w hs)))
      refine WS.rg ?_
      refine RS.mS 2 [(17, .val (Value.int .i64 (IntKind.i64.wrap (v17_6 + 1)))), (55, .val (Value.int .i64 (IntKind.i64.wrap (v17_6 + 1))))] ?_
      refine RS.dn ?_
      cases h
      exact fun a w hs => lsN rfl (hs.sb 0)
    · try dsimp only at h
      refine WS.lR (sort_book_leans_b1_ok (ne := ne) (L := L) (E := E) (m := m) (H := H)) (L.ok hl) 0 ?_
      cases h
      exact fun a w hq => bkR (bkR (sqR (lsR rfl hq)))
  · refine WS.fx 18 false (decide_eq_false hp) ?_
    refine WS.cF ?_
    refine WS.ex 0 ?_
    cases h
    exact fun a w hs => sqE (lsB rfl (hs.sb 0))

theorem sort_book_leans_ok {L : LC} {ne : NE} {m : Nat} {H : AH} {a0 : Option Addr} {r : (Sl3 × AH)} (h : sort_book_leans L m H a0 = some r) :
    CallS Tryd.prog ne m 46 #[(Value.pointer a0)] H (sort_book_leans_enc r) (sort_book_leans_hp H r) := by
  refine CallS.mk (args := [(Value.pointer a0)]) Tryd.func46 (B := B46) (by kernel_rfl) (fun E _ => ?_)
  unfold sort_book_leans at h
  refine WS.sq ?_
  refine WS.rg ?_
  refine RS.mS 1 [(2, .val (Sl3.v Sl3.nil))] ?_
  refine RS.dn ?_
  refine WS.nxt ?_
  refine WS.sq ?_
  refine WS.rg ?_
  refine RS.mS 1 [(8, .val (Value.pointer a0))] ?_
  obtain ⟨q1, hx, hq1⟩ := bind_some h
  subst hx
  have h := hq1
  refine RS.mS 3 [(11, .val (Value.pointer (some (Addr.add (Addr.add q1 0) 1)))), (10, .val (Value.pointer (some (Addr.add q1 0)))), (9, .val (Value.pointer (some q1)))] ?_
  obtain ⟨x2, hx, h⟩ := bind_some h
  refine RS.o (H' := H) (some 12) (Sl3.v x2) (Abs.run_load (t := 30) (x := .tmp 11) (a := (Addr.add (Addr.add q1 0) 1)) (by kernel_rfl) (by kernel_rfl) (by kernel_rfl) (rd_cell hx deSl_inv)) ?_
  refine RS.mS 2 [(3, .val (Value.int .i64 (x2.n : Int))), (13, .val (Value.int .i64 (x2.n : Int)))] ?_
  refine RS.dn ?_
  refine WS.nxt ?_
  refine WS.sq ?_
  refine WS.rg ?_
  refine RS.mS 1 [(14, .val (Value.int .i64 (x2.n : Int)))] ?_
  obtain ⟨⟨s3, H4⟩, hx, h⟩ := bind_some h
  try dsimp only at h
  refine RS.o (H' := H4) (some 15) (Sl3.v s3) (Abs.run_mk (t := 76) (x := .tmp 14) (y := .tmp 14) (k1 := .i64) (k2 := .i64) (by kernel_rfl) (by kernel_rfl) (by kernel_rfl) (by kernel_rfl) hx) ?_
  refine RS.mS 1 [(4, .val (Sl3.v s3))] ?_
  refine RS.dn ?_
  refine WS.nxt ?_
  refine WS.sq ?_
  refine WS.sq ?_
  refine WS.rg ?_
  refine RS.mS 2 [(17, .val (Value.int .i64 0)), (16, .val (Value.int .i64 (x2.n : Int)))] ?_
  refine RS.dn ?_
  refine WS.nxt ?_
  refine WS.bk 0 ?_
  obtain ⟨o, hl, h⟩ := bind_some h
  rcases o with ⟨H32, v17_33⟩ | r
  · try dsimp only at h
    refine WS.lI (sort_book_leans_b0_ok (ne := ne) (L := L) (E := E) (m := m) (H := H)) (L.ok hl) 0 ?_
    clear hl
    refine fun a w hs => bkE ((WS.nxt ?_ a w hs))
    refine WS.sq ?_
    refine WS.rg ?_
    refine RS.mS 2 [(2, .val (Sl3.v s3)), (56, .val (Sl3.v s3))] ?_
    refine RS.dn ?_
    refine WS.nxt ?_
    refine WS.rt ?_
    cases h
    exact fun a w hs => rtR (rS hs)
  · try dsimp only at h
    refine WS.lR (sort_book_leans_b0_ok (ne := ne) (L := L) (E := E) (m := m) (H := H)) (L.ok hl) 0 ?_
    cases h
    exact fun a w hq => bkR (sqR (rtR hq))

def slices_Index_enc : Int → Value
  | r0 => (Value.int .i64 r0)

def slices_Index_hp (H : AH) : Int → AH := fun _ => H

noncomputable def B76 : Code := (Tryd.f76.body).getD .skip

noncomputable def slices_Index_b0 (_L : LC) (H : AH) (a0 : Sl3) (a1 : Bool) : Int → Option (Lp Int Int) := fun v8_1 =>
  if v8_1 < (a0.n : Int) then
    Option.bind (idxA 1 a0 v8_1) fun p2 =>
    Option.bind (rd deB H p2) fun x3 =>
    if (a1 == x3) = true then
      none
    else
      some (.next (IntKind.i64.wrap (v8_1 + 1)))
  else
    some (.brk v8_1)

def slices_Index_b0_kn (_L : LC) (_H : AH) (a0 : Sl3) (a1 : Bool) : Int → KN := fun v8_1 => [(8, .val (Value.int .i64 v8_1)), (0, .val (Sl3.v a0)), (1, .val (Value.bool a1)), (7, .val (Value.int .i64 (a0.n : Int)))]

def slices_Index_b0_ls (_L : LC) (_H : AH) (_a0 : Sl3) (_a1 : Bool) : Int → Lcs := fun _ => []

noncomputable def slices_Index (L : LC) (H : AH) (a0 : Sl3) (a1 : Bool) : Option Int :=
  Option.bind (L.run (slices_Index_b0 L H a0 a1) 0) fun o => match o with
  | .inl _ =>
    some (-1)
  | .inr r => some r

theorem slices_Index_b0_ok {ne : NE} {E : Ent} {m : Nat} {L : LC} {H : AH} {a0 : Sl3} {a1 : Bool}  : ∀ s o, slices_Index_b0 L H a0 a1 s = some o →
    WS Tryd.prog ne m E Tryd.f76.ntmps (cfst (cfst (csnd (cfst (csnd B76))))) (slices_Index_b0_kn L H a0 a1 s) (slices_Index_b0_ls L H a0 a1 s) ((fun _ => H) s) (lpS Tryd.prog ne m E Tryd.f76.ntmps (slices_Index_b0_kn L H a0 a1) (slices_Index_b0_ls L H a0 a1) (fun _ => H) 0 (fun r => RT Tryd.prog ne m E Tryd.f76 (slices_Index_enc r) (slices_Index_hp H r)) o) := by
  rintro v8_1 o h
  unfold slices_Index_b0 at h
  try dsimp only at h
  refine WS.sq ?_
  refine WS.rg ?_
  refine RS.mS 1 [(9, .val (Value.bool (decide (v8_1 < (a0.n : Int)))))] ?_
  refine RS.dn ?_
  refine WS.nxt ?_
  refine WS.sq ?_
  rcases ite_some h with ⟨hp, h⟩ | ⟨hp, h⟩
  · refine WS.fx 9 true (decide_eq_true hp) ?_
    refine WS.cT ?_
    refine WS.sk ?_
    refine WS.nxt ?_
    refine WS.sq ?_
    refine WS.bk 1 ?_
    refine WS.sq ?_
    refine WS.rg ?_
    refine RS.mS 2 [(5, .val (Value.int .i64 v8_1)), (10, .val (Value.int .i64 v8_1))] ?_
    refine RS.dn ?_
    refine WS.nxt ?_
    refine WS.sq ?_
    refine WS.rg ?_
    refine RS.mS 3 [(13, .val (Value.int .i64 v8_1)), (12, .val (Sl3.v a0)), (11, .val (Value.bool a1))] ?_
    obtain ⟨p2, hx, h⟩ := bind_some h
    refine RS.o (H' := H) (some 14) (Value.pointer (some p2)) (Abs.run_idx (s := a0) (k := .i64) (t := 56) (e := 4) (x := .tmp 12) (y := .tmp 13) (by kernel_rfl) (by kernel_rfl) (by kernel_rfl) (by kernel_rfl) (by kernel_rfl) hx) ?_
    obtain ⟨x3, hx, h⟩ := bind_some h
    refine RS.o (H' := H) (some 15) (Value.bool x3) (Abs.run_load (t := 4) (x := .tmp 14) (a := p2) (by kernel_rfl) (by kernel_rfl) (by kernel_rfl) (rd_cell hx deB_inv)) ?_
    refine RS.mS 1 [(16, .val (Value.bool (a1 == x3)))] ?_
    refine RS.dn ?_
    refine WS.nxt ?_
    rcases ite_some h with ⟨hp, h⟩ | ⟨hp, h⟩
    · refine WS.fx 16 true hp ?_
      refine WS.cT ?_
      cases h
    · refine WS.fx 16 false (b_not hp) ?_
      refine WS.cF ?_
      refine WS.sk ?_
      refine fun a w hs => bkN ((WS.nxt ?_ a w hs))
      refine WS.rg ?_
      refine RS.mS 2 [(8, .val (Value.int .i64 (IntKind.i64.wrap (v8_1 + 1)))), (18, .val (Value.int .i64 (IntKind.i64.wrap (v8_1 + 1))))] ?_
      refine RS.dn ?_
      cases h
      exact fun a w hs => lsN rfl (hs.sb 0)
  · refine WS.fx 9 false (decide_eq_false hp) ?_
    refine WS.cF ?_
    refine WS.ex 0 ?_
    cases h
    exact fun a w hs => sqE (lsB rfl (hs.sb 0))

theorem slices_Index_ok {L : LC} {ne : NE} {m : Nat} {H : AH} {a0 : Sl3} {a1 : Bool} {r : Int} (h : slices_Index L H a0 a1 = some r) :
    CallS Tryd.prog ne m 76 #[(Sl3.v a0), (Value.bool a1)] H (slices_Index_enc r) (slices_Index_hp H r) := by
  refine CallS.mk (args := [(Sl3.v a0), (Value.bool a1)]) Tryd.func76 (B := B76) (by kernel_rfl) (fun E _ => ?_)
  unfold slices_Index at h
  refine WS.sq ?_
  refine WS.rg ?_
  refine RS.mS 1 [(4, .val (Value.int .i64 0))] ?_
  refine RS.dn ?_
  refine WS.nxt ?_
  refine WS.sq ?_
  refine WS.sq ?_
  refine WS.rg ?_
  refine RS.mS 3 [(8, .val (Value.int .i64 0)), (7, .val (Value.int .i64 (a0.n : Int))), (6, .val (Sl3.v a0))] ?_
  refine RS.dn ?_
  refine WS.nxt ?_
  refine WS.bk 0 ?_
  obtain ⟨o, hl, h⟩ := bind_some h
  rcases o with v8_4 | r
  · try dsimp only at h
    refine WS.lI (slices_Index_b0_ok (ne := ne) (L := L) (E := E) (m := m) (H := H)) (L.ok hl) 0 ?_
    clear hl
    refine fun a w hs => bkE ((WS.nxt ?_ a w hs))
    refine WS.sq ?_
    refine WS.rg ?_
    refine RS.mS 1 [(4, .val (Value.int .i64 (-1)))] ?_
    refine RS.dn ?_
    refine WS.nxt ?_
    refine WS.rt ?_
    cases h
    exact fun a w hs => rtR (rS hs)
  · try dsimp only at h
    refine WS.lR (slices_Index_b0_ok (ne := ne) (L := L) (E := E) (m := m) (H := H)) (L.ok hl) 0 ?_
    cases h
    exact fun a w hq => bkR (sqR (rtR hq))

def slices_Contains_enc : Bool → Value
  | r0 => (Value.bool r0)

def slices_Contains_hp (H : AH) : Bool → AH := fun _ => H

noncomputable def B47 : Code := (Tryd.f47.body).getD .skip

noncomputable def slices_Contains (L : LC) (H : AH) (a0 : Sl3) (a1 : Bool) : Option Bool :=
  Option.bind (slices_Index L H a0 a1) fun x1 =>
  some (decide (x1 ≥ 0))

theorem slices_Contains_ok {L : LC} {ne : NE} {m : Nat} {H : AH} {a0 : Sl3} {a1 : Bool} {r : Bool} (h : slices_Contains L H a0 a1 = some r) :
    CallS Tryd.prog ne m 47 #[(Sl3.v a0), (Value.bool a1)] H (slices_Contains_enc r) (slices_Contains_hp H r) := by
  refine CallS.mk (args := [(Sl3.v a0), (Value.bool a1)]) Tryd.func47 (B := B47) (by kernel_rfl) (fun E _ => ?_)
  unfold slices_Contains at h
  refine WS.sq ?_
  refine WS.rg ?_
  refine RS.mS 1 [(4, .val (Value.bool false))] ?_
  refine RS.dn ?_
  refine WS.nxt ?_
  refine WS.sq ?_
  refine WS.rg ?_
  refine RS.mS 2 [(6, .val (Value.bool a1)), (5, .val (Sl3.v a0))] ?_
  obtain ⟨x1, hx, h⟩ := bind_some h
  refine RS.cl (some 7) (v := (Value.int .i64 x1)) 76 #[(Sl3.v a0), (Value.bool a1)] (slices_Index_ok hx) ?_
  refine RS.mS 2 [(4, .val (Value.bool (decide (x1 ≥ 0)))), (8, .val (Value.bool (decide (x1 ≥ 0))))] ?_
  refine RS.dn ?_
  refine WS.nxt ?_
  refine WS.rt ?_
  cases h
  exact fun a w hs => rtR (rS hs)

def slices_IndexFunc__78_enc : Int → Value
  | r0 => (Value.int .i64 r0)

def slices_IndexFunc__78_hp (H : AH) : Int → AH := fun _ => H

noncomputable def B96 : Code := (Tryd.f96.body).getD .skip

noncomputable def slices_IndexFunc__78_b0 (_L : LC) (_H : AH) (a0 : Sl3) (_a1_0 : Option Addr) (_a1_1 : Option Addr) : Int → Option (Lp Int Int) := fun v8_1 =>
  if v8_1 < (a0.n : Int) then
    none
  else
    some (.brk v8_1)

def slices_IndexFunc__78_b0_kn (_L : LC) (_H : AH) (a0 : Sl3) (a1_0 : Option Addr) (a1_1 : Option Addr) : Int → KN := fun v8_1 => [(8, .val (Value.int .i64 v8_1)), (0, .val (Sl3.v a0)), (1, .val (Value.func (.func 78) #[] #[(Value.pointer a1_0), (Value.pointer a1_1)])), (7, .val (Value.int .i64 (a0.n : Int)))]

def slices_IndexFunc__78_b0_ls (_L : LC) (_H : AH) (_a0 : Sl3) (_a1_0 : Option Addr) (_a1_1 : Option Addr) : Int → Lcs := fun _ => []

noncomputable def slices_IndexFunc__78 (L : LC) (H : AH) (a0 : Sl3) (a1_0 : Option Addr) (a1_1 : Option Addr) : Option Int :=
  Option.bind (L.run (slices_IndexFunc__78_b0 L H a0 a1_0 a1_1) 0) fun o => match o with
  | .inl _ =>
    some (-1)
  | .inr r => some r

theorem slices_IndexFunc__78_b0_ok {ne : NE} {E : Ent} {m : Nat} {L : LC} {H : AH} {a0 : Sl3} {a1_0 : Option Addr} {a1_1 : Option Addr}  : ∀ s o, slices_IndexFunc__78_b0 L H a0 a1_0 a1_1 s = some o →
    WS Tryd.prog ne m E Tryd.f96.ntmps (cfst (cfst (csnd (cfst (csnd B96))))) (slices_IndexFunc__78_b0_kn L H a0 a1_0 a1_1 s) (slices_IndexFunc__78_b0_ls L H a0 a1_0 a1_1 s) ((fun _ => H) s) (lpS Tryd.prog ne m E Tryd.f96.ntmps (slices_IndexFunc__78_b0_kn L H a0 a1_0 a1_1) (slices_IndexFunc__78_b0_ls L H a0 a1_0 a1_1) (fun _ => H) 0 (fun r => RT Tryd.prog ne m E Tryd.f96 (slices_IndexFunc__78_enc r) (slices_IndexFunc__78_hp H r)) o) := by
  rintro v8_1 o h
  unfold slices_IndexFunc__78_b0 at h
  try dsimp only at h
  refine WS.sq ?_
  refine WS.rg ?_
  refine RS.mS 1 [(9, .val (Value.bool (decide (v8_1 < (a0.n : Int)))))] ?_
  refine RS.dn ?_
  refine WS.nxt ?_
  refine WS.sq ?_
  rcases ite_some h with ⟨hp, h⟩ | ⟨hp, h⟩
  · refine WS.fx 9 true (decide_eq_true hp) ?_
    refine WS.cT ?_
    cases h
  · refine WS.fx 9 false (decide_eq_false hp) ?_
    refine WS.cF ?_
    refine WS.ex 0 ?_
    cases h
    exact fun a w hs => sqE (lsB rfl (hs.sb 0))

theorem slices_IndexFunc__78_ok {L : LC} {ne : NE} {m : Nat} {H : AH} {a0 : Sl3} {a1_0 : Option Addr} {a1_1 : Option Addr} {r : Int} (h : slices_IndexFunc__78 L H a0 a1_0 a1_1 = some r) :
    CallS Tryd.prog ne m 96 #[(Sl3.v a0), (Value.func (.func 78) #[] #[(Value.pointer a1_0), (Value.pointer a1_1)])] H (slices_IndexFunc__78_enc r) (slices_IndexFunc__78_hp H r) := by
  refine CallS.mk (args := [(Sl3.v a0), (Value.func (.func 78) #[] #[(Value.pointer a1_0), (Value.pointer a1_1)])]) Tryd.func96 (B := B96) (by kernel_rfl) (fun E _ => ?_)
  unfold slices_IndexFunc__78 at h
  refine WS.sq ?_
  refine WS.rg ?_
  refine RS.mS 1 [(4, .val (Value.int .i64 0))] ?_
  refine RS.dn ?_
  refine WS.nxt ?_
  refine WS.sq ?_
  refine WS.sq ?_
  refine WS.rg ?_
  refine RS.mS 3 [(8, .val (Value.int .i64 0)), (7, .val (Value.int .i64 (a0.n : Int))), (6, .val (Sl3.v a0))] ?_
  refine RS.dn ?_
  refine WS.nxt ?_
  refine WS.bk 0 ?_
  obtain ⟨o, hl, h⟩ := bind_some h
  rcases o with v8_2 | r
  · try dsimp only at h
    refine WS.lI (slices_IndexFunc__78_b0_ok (ne := ne) (L := L) (E := E) (m := m) (H := H)) (L.ok hl) 0 ?_
    clear hl
    refine fun a w hs => bkE ((WS.nxt ?_ a w hs))
    refine WS.sq ?_
    refine WS.rg ?_
    refine RS.mS 1 [(4, .val (Value.int .i64 (-1)))] ?_
    refine RS.dn ?_
    refine WS.nxt ?_
    refine WS.rt ?_
    cases h
    exact fun a w hs => rtR (rS hs)
  · try dsimp only at h
    refine WS.lR (slices_IndexFunc__78_b0_ok (ne := ne) (L := L) (E := E) (m := m) (H := H)) (L.ok hl) 0 ?_
    cases h
    exact fun a w hq => bkR (sqR (rtR hq))

end Go.Proofs.YtccbilfbhecdaaaDoor.Aw


namespace Go.Proofs.YtccbilfbhecdaaaDoor.Aw
open Go Go.Abs
set_option maxRecDepth 100000

def slices_ContainsFunc__78_enc : Bool → Value
  | r0 => (Value.bool r0)

def slices_ContainsFunc__78_hp (H : AH) : Bool → AH := fun _ => H

noncomputable def B77 : Code := (Tryd.f77.body).getD .skip

noncomputable def slices_ContainsFunc__78 (L : LC) (H : AH) (a0 : Sl3) (a1_0 : Option Addr) (a1_1 : Option Addr) : Option Bool :=
  Option.bind (slices_IndexFunc__78 L H a0 a1_0 a1_1) fun x1 =>
  some (decide (x1 ≥ 0))

theorem slices_ContainsFunc__78_ok {L : LC} {ne : NE} {m : Nat} {H : AH} {a0 : Sl3} {a1_0 : Option Addr} {a1_1 : Option Addr} {r : Bool} (h : slices_ContainsFunc__78 L H a0 a1_0 a1_1 = some r) :
    CallS Tryd.prog ne m 77 #[(Sl3.v a0), (Value.func (.func 78) #[] #[(Value.pointer a1_0), (Value.pointer a1_1)])] H (slices_ContainsFunc__78_enc r) (slices_ContainsFunc__78_hp H r) := by
  refine CallS.mk (args := [(Sl3.v a0), (Value.func (.func 78) #[] #[(Value.pointer a1_0), (Value.pointer a1_1)])]) Tryd.func77 (B := B77) (by kernel_rfl) (fun E _ => ?_)
  unfold slices_ContainsFunc__78 at h
  refine WS.sq ?_
  refine WS.rg ?_
  refine RS.mS 1 [(4, .val (Value.bool false))] ?_
  refine RS.dn ?_
  refine WS.nxt ?_
  refine WS.sq ?_
  refine WS.rg ?_
  refine RS.mS 2 [(6, .val (Value.func (.func 78) #[] #[(Value.pointer a1_0), (Value.pointer a1_1)])), (5, .val (Sl3.v a0))] ?_
  obtain ⟨x1, hx, h⟩ := bind_some h
  refine RS.cl (some 7) (v := (Value.int .i64 x1)) 96 #[(Sl3.v a0), (Value.func (.func 78) #[] #[(Value.pointer a1_0), (Value.pointer a1_1)])] (slices_IndexFunc__78_ok hx) ?_
  refine RS.mS 2 [(4, .val (Value.bool (decide (x1 ≥ 0)))), (8, .val (Value.bool (decide (x1 ≥ 0))))] ?_
  refine RS.dn ?_
  refine WS.nxt ?_
  refine WS.rt ?_
  cases h
  exact fun a w hs => rtR (rS hs)

def sort_book_ground_enc : (Sl3 × AH) → Value
  | (r0, _) => (Sl3.v r0)

def sort_book_ground_hp (_ : AH) : (Sl3 × AH) → AH := fun r => r.2

noncomputable def B48 : Code := (Tryd.f48.body).getD .skip

noncomputable def sort_book_ground_b2 (L : LC) (m : Nat) (p1 : Addr) (p8 : Addr) (_x14 : Sl3) (v21_17 : Int) (_x19_0 : ByteArray) (x19_1 : Sl3) : (AH × Int) → Option (Lp (AH × Int) ((Sl3 × AH) ⊕ AH)) := fun (H24, v33_25) =>
  if v33_25 < (x19_1.n : Int) then
    Option.bind (idxA 2 x19_1 v33_25) fun p26 =>
    Option.bind (rd deS H24 (Addr.add p26 0)) fun _ =>
    Option.bind (rd deSl H24 (Addr.add p26 1)) fun x27_1 =>
    Option.bind (slices_ContainsFunc__78 L H24 x27_1 (some p1) (some p8)) fun x28 =>
    if x28 = true then
      none
    else
      Option.bind (rd deSl H24 p8) fun x29 =>
      Option.bind (idxA 1 x29 v21_17) fun p30 =>
      Option.bind (H24.setCell m p30 (Value.bool true)) fun H31 =>
      some (.ret (.inr H31))
  else
    none

def sort_book_ground_b2_kn (_L : LC) (_m : Nat) (p1 : Addr) (p8 : Addr) (x14 : Sl3) (v21_17 : Int) (_x19_0 : ByteArray) (x19_1 : Sl3) : (AH × Int) → KN := fun (_, v33_25) => [(33, .val (Value.int .i64 v33_25)), (1, .val (Value.pointer (some p1))), (3, .val (Value.pointer (some p8))), (4, .val (Value.int .i64 v21_17)), (19, .val (Sl3.v x14)), (20, .val (Value.int .i64 (x14.n : Int))), (21, .val (Value.int .i64 v21_17)), (31, .val (Sl3.v x19_1)), (32, .val (Value.int .i64 (x19_1.n : Int)))]

def sort_book_ground_b2_ls (_L : LC) (_m : Nat) (_p1 : Addr) (_p8 : Addr) (_x14 : Sl3) (_v21_17 : Int) (x19_0 : ByteArray) (x19_1 : Sl3) : (AH × Int) → Lcs := fun (_, _) => [some (46, [(Value.string x19_0), (Sl3.v x19_1)])]

def sort_book_ground_b2_xkn (_L : LC) (_m : Nat) (p1 : Addr) (p8 : Addr) (_x14 : Sl3) (_v21_17 : Int) (_x19_0 : ByteArray) (_x19_1 : Sl3) : AH → KN := fun _ => [(1, .val (Value.pointer (some p1))), (3, .val (Value.pointer (some p8)))]

def sort_book_ground_b2_xls (_L : LC) (_m : Nat) (_p1 : Addr) (_p8 : Addr) (_x14 : Sl3) (_v21_17 : Int) (x19_0 : ByteArray) (x19_1 : Sl3) : AH → Lcs := fun _ => [some (46, [(Value.string x19_0), (Sl3.v x19_1)])]

noncomputable def sort_book_ground_b1 (L : LC) (m : Nat) (p1 : Addr) (p8 : Addr) (x14 : Sl3) : (AH × Int) → Option (Lp (AH × Int) ((Sl3 × AH) ⊕ AH)) := fun (H16, v21_17) =>
  if v21_17 < (x14.n : Int) then
    Option.bind (idxA 2 x14 v21_17) fun p18 =>
    Option.bind (rd deS H16 (Addr.add p18 0)) fun x19_0 =>
    Option.bind (rd deSl H16 (Addr.add p18 1)) fun x19_1 =>
    Option.bind (rd deSl H16 p8) fun x20 =>
    Option.bind (idxA 1 x20 v21_17) fun p21 =>
    Option.bind (rd deB H16 p21) fun x22 =>
    if x22 = true then
      some (.next (H16, (IntKind.i64.wrap (v21_17 + 1))))
    else
      Option.bind (L.run (sort_book_ground_b2 L m p1 p8 x14 v21_17 x19_0 x19_1) (H16, 0)) fun o => match o with
      | .inl (H32, _) =>
        some (.next (H32, (IntKind.i64.wrap (v21_17 + 1))))
      | .inr (.inl r) => some (.ret (.inl r))
      | .inr (.inr H34) =>
        some (.ret (.inr H34))
  else
    some (.brk (H16, v21_17))

def sort_book_ground_b1_kn (_L : LC) (_m : Nat) (p1 : Addr) (p8 : Addr) (x14 : Sl3) : (AH × Int) → KN := fun (_, v21_17) => [(21, .val (Value.int .i64 v21_17)), (1, .val (Value.pointer (some p1))), (3, .val (Value.pointer (some p8))), (19, .val (Sl3.v x14)), (20, .val (Value.int .i64 (x14.n : Int)))]

def sort_book_ground_b1_ls (_L : LC) (_m : Nat) (_p1 : Addr) (_p8 : Addr) (_x14 : Sl3) : (AH × Int) → Lcs := fun (_, _) => []

def sort_book_ground_b1_xkn (_L : LC) (_m : Nat) (p1 : Addr) (p8 : Addr) (_x14 : Sl3) : AH → KN := fun _ => [(1, .val (Value.pointer (some p1))), (3, .val (Value.pointer (some p8)))]

def sort_book_ground_b1_xls (_L : LC) (_m : Nat) (_p1 : Addr) (_p8 : Addr) (_x14 : Sl3) : AH → Lcs := fun _ => []

noncomputable def sort_book_ground_b0 (L : LC) (m : Nat) (p1 : Addr) (p8 : Addr) : AH → Option (Lp AH (Sl3 × AH)) := fun H11 =>
  Option.bind (rd deP H11 p1) fun x12 =>
  Option.bind x12 fun q13 =>
  Option.bind (rd deSl H11 (Addr.add (Addr.add q13 0) 1)) fun x14 =>
  Option.bind (L.run (sort_book_ground_b1 L m p1 p8 x14) (H11, 0)) fun o => match o with
  | .inl (H35, _) =>
    some (.brk H35)
  | .inr (.inl r) => some (.ret r)
  | .inr (.inr H37) =>
    some (.next H37)

def sort_book_ground_b0_kn (_L : LC) (_m : Nat) (p1 : Addr) (p8 : Addr) : AH → KN := fun _ => [(1, .val (Value.pointer (some p1))), (3, .val (Value.pointer (some p8)))]

def sort_book_ground_b0_ls (_L : LC) (_m : Nat) (_p1 : Addr) (_p8 : Addr) : AH → Lcs := fun _ => []

noncomputable def sort_book_ground (L : LC) (m : Nat) (H : AH) (a0 : Option Addr) : Option (Sl3 × AH) :=
  Option.bind (newB 66 [(Value.pointer a0)] H) fun (p1, H2) =>
  Option.bind (rd deP H2 p1) fun x3 =>
  Option.bind x3 fun q4 =>
  Option.bind (rd deSl H2 (Addr.add (Addr.add q4 0) 1)) fun x5 =>
  Option.bind (mkS 4 1 1 #[(Value.bool false)] H2 (x5.n : Int) (x5.n : Int)) fun (s6, H7) =>
  Option.bind (newB 56 [(Sl3.v Sl3.nil)] H7) fun (p8, H9) =>
  Option.bind (H9.setCell m p8 (Sl3.v s6)) fun H10 =>
  Option.bind (L.run (sort_book_ground_b0 L m p1 p8) H10) fun o => match o with
  | .inl H38 =>
    Option.bind (rd deSl H38 p8) fun x39 =>
    some (x39, H38)
  | .inr r => some r

theorem sort_book_ground_b2_ok {ne : NE} {E : Ent} {H : AH} {L : LC} {m : Nat} {p1 : Addr} {p8 : Addr} {x14 : Sl3} {v21_17 : Int} {x19_0 : ByteArray} {x19_1 : Sl3}  : ∀ s o, sort_book_ground_b2 L m p1 p8 x14 v21_17 x19_0 x19_1 s = some o →
    WS Tryd.prog ne m E Tryd.f48.ntmps (cfst (cfst (csnd (csnd (csnd (cfst (cfst (csnd (csnd (cfst (cfst (csnd (cfst (cfst (cfst (cfst (cfst (csnd (csnd (cfst (csnd B48))))))))))))))))))))) (sort_book_ground_b2_kn L m p1 p8 x14 v21_17 x19_0 x19_1 s) (sort_book_ground_b2_ls L m p1 p8 x14 v21_17 x19_0 x19_1 s) ((fun s => s.1) s) (lpX Tryd.prog ne m E Tryd.f48.ntmps (sort_book_ground_b2_kn L m p1 p8 x14 v21_17 x19_0 x19_1) (sort_book_ground_b2_ls L m p1 p8 x14 v21_17 x19_0 x19_1) (fun s => s.1) 4 (fun r e a w => match r with | .inl r => e = .ret ∧ RT Tryd.prog ne m E Tryd.f48 (sort_book_ground_enc r) (sort_book_ground_hp H r) a w | .inr x => e = .exit 1 ∧ SS Tryd.prog ne m E Tryd.f48.ntmps (sort_book_ground_b2_xkn L m p1 p8 x14 v21_17 x19_0 x19_1 x) (sort_book_ground_b2_xls L m p1 p8 x14 v21_17 x19_0 x19_1 x) ((fun s => s) x) a w) o) := by
  rintro ⟨H24, v33_25⟩ o h
  unfold sort_book_ground_b2 at h
  try dsimp only at h
  refine WS.sq ?_
  refine WS.rg ?_
  refine RS.mS 1 [(34, .val (Value.bool (decide (v33_25 < (x19_1.n : Int)))))] ?_
  refine RS.dn ?_
  refine WS.nxt ?_
  refine WS.sq ?_
  rcases ite_some h with ⟨hp, h⟩ | ⟨hp, h⟩
  · refine WS.fx 34 true (decide_eq_true hp) ?_
    refine WS.cT ?_
    refine WS.sk ?_
    refine WS.nxt ?_
    refine WS.sq ?_
    refine WS.bk 5 ?_
    refine WS.sq ?_
    refine WS.rg ?_
    obtain ⟨p26, hx, h⟩ := bind_some h
    refine RS.o (H' := H24) (some 35) (Value.pointer (some p26)) (Abs.run_idx (s := x19_1) (k := .i64) (t := 44) (e := 50) (x := .tmp 31) (y := .tmp 33) (by kernel_rfl) (by kernel_rfl) (by kernel_rfl) (by kernel_rfl) (by kernel_rfl) hx) ?_
    obtain ⟨x27_0, hx0, h⟩ := bind_some h
    obtain ⟨x27_1, hx1, h⟩ := bind_some h
    refine RS.o (H' := H24) (some 36) (Value.agg #[(Value.string x27_0), (Sl3.v x27_1)]) (Abs.run_loadAg (t := 50) (x := .tmp 35) (a := p26) (k := 2) (by kernel_rfl) (by kernel_rfl) (by kernel_rfl) (by kernel_rfl) (rdc_cons (rd_cell hx0 deS_inv) (rdc_cons (rd_cell hx1 deSl_inv) rdc_nil))) ?_
    refine RS.mL 2 [(7, .loc 1 0)] ([some (46, [(Value.string x19_0), (Sl3.v x19_1)]), some (50, [(Value.string x27_0), (Sl3.v x27_1)])]) ?_
    refine RS.dn ?_
    refine WS.nxt ?_
    refine WS.sq ?_
    refine WS.rg ?_
    refine RS.mS 3 [(39, .val (Value.func (.func 78) #[] #[(Value.pointer (some p1)), (Value.pointer (some p8))])), (38, .val (Sl3.v x27_1)), (37, .loc 1 1)] ?_
    obtain ⟨x28, hx, h⟩ := bind_some h
    refine RS.cl (some 40) (v := (Value.bool x28)) 77 #[(Sl3.v x27_1), (Value.func (.func 78) #[] #[(Value.pointer (some p1)), (Value.pointer (some p8))])] (slices_ContainsFunc__78_ok hx) ?_
    refine RS.mS 1 [(41, .val (Value.bool (!x28)))] ?_
    refine RS.dn ?_
    refine WS.nxt ?_
    rcases ite_some h with ⟨hp, h⟩ | ⟨hp, h⟩
    · refine WS.fx 41 false (nb_not hp) ?_
      refine WS.cF ?_
      cases h
    · refine WS.fx 41 true (nb_not' hp) ?_
      refine WS.cT ?_
      refine WS.sq ?_
      refine WS.rg ?_
      obtain ⟨x29, hx, h⟩ := bind_some h
      refine RS.o (H' := H24) (some 42) (Sl3.v x29) (Abs.run_load (t := 56) (x := .tmp 3) (a := p8) (by kernel_rfl) (by kernel_rfl) (by kernel_rfl) (rd_cell hx deSl_inv)) ?_
      refine RS.mS 1 [(43, .val (Value.int .i64 v21_17))] ?_
      obtain ⟨p30, hx, h⟩ := bind_some h
      refine RS.o (H' := H24) (some 44) (Value.pointer (some p30)) (Abs.run_idx (s := x29) (k := .i64) (t := 56) (e := 4) (x := .tmp 42) (y := .tmp 43) (by kernel_rfl) (by kernel_rfl) (by kernel_rfl) (by kernel_rfl) (by kernel_rfl) hx) ?_
      obtain ⟨H31, hx, h⟩ := bind_some h
      refine RS.o (H' := H31) none undef (Abs.run_store1 (t := 4) (x := .tmp 44) (y := .const (Value.bool true)) (a := p30) (v := (Value.bool true)) (by kernel_rfl) (by kernel_rfl) (by kernel_rfl) (by kernel_rfl) (by kernel_rfl) hx) ?_
      refine RS.dn ?_
      refine WS.nxt ?_
      refine WS.ex 1 ?_
      cases h
      exact fun a w hs => bkX (by kernel_rfl) (sqE (lxE rfl ⟨rfl, (hs.sb 1)⟩))
  · refine WS.fx 34 false (decide_eq_false hp) ?_
    refine WS.cF ?_
    cases h

theorem sort_book_ground_b1_ok {ne : NE} {E : Ent} {H : AH} {L : LC} {m : Nat} {p1 : Addr} {p8 : Addr} {x14 : Sl3}  : ∀ s o, sort_book_ground_b1 L m p1 p8 x14 s = some o →
    WS Tryd.prog ne m E Tryd.f48.ntmps (cfst (cfst (csnd (cfst (cfst (cfst (cfst (cfst (csnd (csnd (cfst (csnd B48)))))))))))) (sort_book_ground_b1_kn L m p1 p8 x14 s) (sort_book_ground_b1_ls L m p1 p8 x14 s) ((fun s => s.1) s) (lpX Tryd.prog ne m E Tryd.f48.ntmps (sort_book_ground_b1_kn L m p1 p8 x14) (sort_book_ground_b1_ls L m p1 p8 x14) (fun s => s.1) 2 (fun r e a w => match r with | .inl r => e = .ret ∧ RT Tryd.prog ne m E Tryd.f48 (sort_book_ground_enc r) (sort_book_ground_hp H r) a w | .inr x => e = .exit 1 ∧ SS Tryd.prog ne m E Tryd.f48.ntmps (sort_book_ground_b1_xkn L m p1 p8 x14 x) (sort_book_ground_b1_xls L m p1 p8 x14 x) ((fun s => s) x) a w) o) := by
  rintro ⟨H16, v21_17⟩ o h
  unfold sort_book_ground_b1 at h
  try dsimp only at h
  refine WS.sq ?_
  refine WS.rg ?_
  refine RS.mS 1 [(22, .val (Value.bool (decide (v21_17 < (x14.n : Int)))))] ?_
  refine RS.dn ?_
  refine WS.nxt ?_
  refine WS.sq ?_
  rcases ite_some h with ⟨hp, h⟩ | ⟨hp, h⟩
  · refine WS.fx 22 true (decide_eq_true hp) ?_
    refine WS.cT ?_
    refine WS.sk ?_
    refine WS.nxt ?_
    refine WS.sq ?_
    refine WS.bk 3 ?_
    refine WS.sq ?_
    refine WS.rg ?_
    refine RS.mS 1 [(23, .val (Value.int .i64 v21_17))] ?_
    obtain ⟨p18, hx, h⟩ := bind_some h
    refine RS.o (H' := H16) (some 24) (Value.pointer (some p18)) (Abs.run_idx (s := x14) (k := .i64) (t := 30) (e := 46) (x := .tmp 19) (y := .tmp 21) (by kernel_rfl) (by kernel_rfl) (by kernel_rfl) (by kernel_rfl) (by kernel_rfl) hx) ?_
    obtain ⟨x19_0, hx0, h⟩ := bind_some h
    obtain ⟨x19_1, hx1, h⟩ := bind_some h
    refine RS.o (H' := H16) (some 25) (Value.agg #[(Value.string x19_0), (Sl3.v x19_1)]) (Abs.run_loadAg (t := 46) (x := .tmp 24) (a := p18) (k := 2) (by kernel_rfl) (by kernel_rfl) (by kernel_rfl) (by kernel_rfl) (rdc_cons (rd_cell hx0 deS_inv) (rdc_cons (rd_cell hx1 deSl_inv) rdc_nil))) ?_
    refine RS.mL 3 [(4, .val (Value.int .i64 v21_17)), (5, .loc 0 0)] ([some (46, [(Value.string x19_0), (Sl3.v x19_1)])]) ?_
    refine RS.dn ?_
    refine WS.nxt ?_
    refine WS.sq ?_
    refine WS.sq ?_
    refine WS.rg ?_
    obtain ⟨x20, hx, h⟩ := bind_some h
    refine RS.o (H' := H16) (some 26) (Sl3.v x20) (Abs.run_load (t := 56) (x := .tmp 3) (a := p8) (by kernel_rfl) (by kernel_rfl) (by kernel_rfl) (rd_cell hx deSl_inv)) ?_
    refine RS.mS 1 [(27, .val (Value.int .i64 v21_17))] ?_
    obtain ⟨p21, hx, h⟩ := bind_some h
    refine RS.o (H' := H16) (some 28) (Value.pointer (some p21)) (Abs.run_idx (s := x20) (k := .i64) (t := 56) (e := 4) (x := .tmp 26) (y := .tmp 27) (by kernel_rfl) (by kernel_rfl) (by kernel_rfl) (by kernel_rfl) (by kernel_rfl) hx) ?_
    obtain ⟨x22, hx, h⟩ := bind_some h
    refine RS.o (H' := H16) (some 29) (Value.bool x22) (Abs.run_load (t := 4) (x := .tmp 28) (a := p21) (by kernel_rfl) (by kernel_rfl) (by kernel_rfl) (rd_cell hx deB_inv)) ?_
    refine RS.dn ?_
    refine WS.nxt ?_
    rcases ite_some h with ⟨hp, h⟩ | ⟨hp, h⟩
    · refine WS.fx 29 true hp ?_
      refine WS.cT ?_
      refine WS.ex 3 ?_
      refine fun a w hs => sqE (bkE ((WS.nxt ?_ a w hs)))
      refine WS.rg ?_
      refine RS.mS 2 [(21, .val (Value.int .i64 (IntKind.i64.wrap (v21_17 + 1)))), (46, .val (Value.int .i64 (IntKind.i64.wrap (v21_17 + 1))))] ?_
      refine RS.dn ?_
      cases h
      exact fun a w hs => lxN rfl (hs.sb 0)
    · refine WS.fx 29 false (b_not hp) ?_
      refine WS.cF ?_
      refine WS.sk ?_
      refine WS.nxt ?_
      refine WS.sq ?_
      refine WS.rg ?_
      refine RS.mS 4 [(33, .val (Value.int .i64 0)), (32, .val (Value.int .i64 (x19_1.n : Int))), (31, .val (Sl3.v x19_1)), (30, .loc 0 1)] ?_
      refine RS.dn ?_
      refine WS.nxt ?_
      refine WS.bk 4 ?_
      obtain ⟨o, hl, h⟩ := bind_some h
      rcases o with ⟨H32, v33_33⟩ | (r | H34)
      · try dsimp only at h
        refine WS.lXI (sort_book_ground_b2_ok (ne := ne) (L := L) (E := E) (m := m) (H := H)) (L.ok hl) 1 ?_
        clear hl
        refine fun a w hs => bkE (bkN ((WS.nxt ?_ a w hs)))
        refine WS.rg ?_
        refine RS.mS 2 [(21, .val (Value.int .i64 (IntKind.i64.wrap (v21_17 + 1)))), (46, .val (Value.int .i64 (IntKind.i64.wrap (v21_17 + 1))))] ?_
        refine RS.dn ?_
        cases h
        exact fun a w hs => lxN rfl (hs.sb 0)
      · try dsimp only at h
        refine WS.lXR (sort_book_ground_b2_ok (ne := ne) (L := L) (E := E) (m := m) (H := H)) (L.ok hl) 1 ?_
        cases h
        refine fun e a w hq => ?_
        obtain ⟨rfl, hq⟩ := hq
        exact bkR (bkR (sqR (lxR rfl ⟨rfl, hq⟩)))
      · try dsimp only at h
        refine WS.lXR (sort_book_ground_b2_ok (ne := ne) (L := L) (E := E) (m := m) (H := H)) (L.ok hl) 1 ?_
        clear hl
        refine fun e a w hs => ?_
        obtain ⟨rfl, hs⟩ := hs
        revert hs
        revert w
        revert a
        cases h
        exact fun a w hs => bkX (by kernel_rfl) (bkX (by kernel_rfl) (sqE (lxE rfl ⟨rfl, (hs.sb 0)⟩)))
  · refine WS.fx 22 false (decide_eq_false hp) ?_
    refine WS.cF ?_
    refine WS.ex 2 ?_
    cases h
    exact fun a w hs => sqE (lxB rfl (hs.sb 0))

theorem sort_book_ground_b0_ok {ne : NE} {E : Ent} {H : AH} {L : LC} {m : Nat} {p1 : Addr} {p8 : Addr}  : ∀ s o, sort_book_ground_b0 L m p1 p8 s = some o →
    WS Tryd.prog ne m E Tryd.f48.ntmps (cfst (cfst (cfst (csnd (csnd (cfst (csnd B48))))))) (sort_book_ground_b0_kn L m p1 p8 s) (sort_book_ground_b0_ls L m p1 p8 s) ((fun s => s) s) (lpS Tryd.prog ne m E Tryd.f48.ntmps (sort_book_ground_b0_kn L m p1 p8) (sort_book_ground_b0_ls L m p1 p8) (fun s => s) 0 (fun r => RT Tryd.prog ne m E Tryd.f48 (sort_book_ground_enc r) (sort_book_ground_hp H r)) o) := by
  rintro H11 o h
  unfold sort_book_ground_b0 at h
  try dsimp only at h
  refine WS.bk 1 ?_
  refine WS.sq ?_
  refine WS.sq ?_
  refine WS.rg ?_
  obtain ⟨x12, hx, h⟩ := bind_some h
  refine RS.o (H' := H11) (some 15) (Value.pointer x12) (Abs.run_load (t := 66) (x := .tmp 1) (a := p1) (by kernel_rfl) (by kernel_rfl) (by kernel_rfl) (rd_cell hx deP_inv)) ?_
  obtain ⟨q13, hx, hq13⟩ := bind_some h
  subst hx
  have h := hq13
  refine RS.mS 3 [(18, .val (Value.pointer (some (Addr.add (Addr.add q13 0) 1)))), (17, .val (Value.pointer (some (Addr.add q13 0)))), (16, .val (Value.pointer (some q13)))] ?_
  obtain ⟨x14, hx, h⟩ := bind_some h
  refine RS.o (H' := H11) (some 19) (Sl3.v x14) (Abs.run_load (t := 30) (x := .tmp 18) (a := (Addr.add (Addr.add q13 0) 1)) (by kernel_rfl) (by kernel_rfl) (by kernel_rfl) (rd_cell hx deSl_inv)) ?_
  refine RS.mS 2 [(21, .val (Value.int .i64 0)), (20, .val (Value.int .i64 (x14.n : Int)))] ?_
  refine RS.dn ?_
  refine WS.nxt ?_
  refine WS.bk 2 ?_
  obtain ⟨o, hl, h⟩ := bind_some h
  rcases o with ⟨H35, v21_36⟩ | (r | H37)
  · try dsimp only at h
    refine WS.lXI (sort_book_ground_b1_ok (ne := ne) (L := L) (E := E) (m := m) (H := H)) (L.ok hl) 0 ?_
    clear hl
    refine fun a w hs => bkE ((WS.nxt ?_ a w hs))
    refine WS.ex 0 ?_
    cases h
    exact fun a w hs => bkX (by kernel_rfl) (lsB rfl (hs.sb 0))
  · try dsimp only at h
    refine WS.lXR (sort_book_ground_b1_ok (ne := ne) (L := L) (E := E) (m := m) (H := H)) (L.ok hl) 0 ?_
    cases h
    refine fun e a w hq => ?_
    obtain ⟨rfl, hq⟩ := hq
    exact bkR (sqR (bkR (lsR rfl hq)))
  · try dsimp only at h
    refine WS.lXR (sort_book_ground_b1_ok (ne := ne) (L := L) (E := E) (m := m) (H := H)) (L.ok hl) 0 ?_
    clear hl
    refine fun e a w hs => ?_
    obtain ⟨rfl, hs⟩ := hs
    revert hs
    revert w
    revert a
    cases h
    exact fun a w hs => bkX (by kernel_rfl) (sqE (bkE (lsN rfl (hs.sb 0))))

theorem sort_book_ground_ok {L : LC} {ne : NE} {m : Nat} {H : AH} {a0 : Option Addr} {r : (Sl3 × AH)} (h : sort_book_ground L m H a0 = some r) :
    CallS Tryd.prog ne m 48 #[(Value.pointer a0)] H (sort_book_ground_enc r) (sort_book_ground_hp H r) := by
  refine CallS.mk (args := [(Value.pointer a0)]) Tryd.func48 (B := B48) (by kernel_rfl) (fun E _ => ?_)
  unfold sort_book_ground at h
  refine WS.sq ?_
  refine WS.rg ?_
  obtain ⟨⟨p1, H2⟩, hx, h⟩ := bind_some h
  try dsimp only at h
  refine RS.o (H' := H2) (some 1) (Value.pointer (some p1)) (Abs.run_newB (by kernel_rfl) hx) ?_
  refine RS.mS 1 [(2, .val (Sl3.v Sl3.nil))] ?_
  refine RS.dn ?_
  refine WS.nxt ?_
  refine WS.scope (by kernel_rfl) ?_
  refine WS.sq ?_
  refine WS.rg ?_
  obtain ⟨x3, hx, h⟩ := bind_some h
  refine RS.o (H' := H2) (some 8) (Value.pointer x3) (Abs.run_load (t := 66) (x := .tmp 1) (a := p1) (by kernel_rfl) (by kernel_rfl) (by kernel_rfl) (rd_cell hx deP_inv)) ?_
  obtain ⟨q4, hx, hq4⟩ := bind_some h
  subst hx
  have h := hq4
  refine RS.mS 3 [(11, .val (Value.pointer (some (Addr.add (Addr.add q4 0) 1)))), (10, .val (Value.pointer (some (Addr.add q4 0)))), (9, .val (Value.pointer (some q4)))] ?_
  obtain ⟨x5, hx, h⟩ := bind_some h
  refine RS.o (H' := H2) (some 12) (Sl3.v x5) (Abs.run_load (t := 30) (x := .tmp 11) (a := (Addr.add (Addr.add q4 0) 1)) (by kernel_rfl) (by kernel_rfl) (by kernel_rfl) (rd_cell hx deSl_inv)) ?_
  refine RS.mS 1 [(13, .val (Value.int .i64 (x5.n : Int)))] ?_
  obtain ⟨⟨s6, H7⟩, hx, h⟩ := bind_some h
  try dsimp only at h
  refine RS.o (H' := H7) (some 14) (Sl3.v s6) (Abs.run_mk (t := 56) (x := .tmp 13) (y := .tmp 13) (k1 := .i64) (k2 := .i64) (by kernel_rfl) (by kernel_rfl) (by kernel_rfl) (by kernel_rfl) hx) ?_
  obtain ⟨⟨p8, H9⟩, hx, h⟩ := bind_some h
  try dsimp only at h
  refine RS.o (H' := H9) (some 3) (Value.pointer (some p8)) (Abs.run_newB (by kernel_rfl) hx) ?_
  obtain ⟨H10, hx, h⟩ := bind_some h
  refine RS.o (H' := H10) none undef (Abs.run_store1 (t := 56) (x := .tmp 3) (y := .tmp 14) (a := p8) (v := (Sl3.v s6)) (by kernel_rfl) (by kernel_rfl) (by kernel_rfl) (by kernel_rfl) (by kernel_rfl) hx) ?_
  refine RS.dn ?_
  refine WS.nxt ?_
  refine WS.sq ?_
  refine WS.sk ?_
  refine WS.nxt ?_
  refine WS.sq ?_
  refine WS.bk 0 ?_
  obtain ⟨o, hl, h⟩ := bind_some h
  rcases o with H38 | r
  · try dsimp only at h
    refine WS.lI (sort_book_ground_b0_ok (ne := ne) (L := L) (E := E) (m := m) (H := H)) (L.ok hl) 0 ?_
    clear hl
    refine fun a w hs => bkE ((WS.nxt ?_ a w hs))
    refine WS.sq ?_
    refine WS.rg ?_
    obtain ⟨x39, hx, h⟩ := bind_some h
    refine RS.o (H' := H38) (some 47) (Sl3.v x39) (Abs.run_load (t := 56) (x := .tmp 3) (a := p8) (by kernel_rfl) (by kernel_rfl) (by kernel_rfl) (rd_cell hx deSl_inv)) ?_
    refine RS.mS 1 [(2, .val (Sl3.v x39))] ?_
    refine RS.dn ?_
    refine WS.nxt ?_
    refine WS.rt ?_
    cases h
    exact fun a w hs => sgR (rtR (rS hs))
  · try dsimp only at h
    refine WS.lR (sort_book_ground_b0_ok (ne := ne) (L := L) (E := E) (m := m) (H := H)) (L.ok hl) 0 ?_
    cases h
    exact fun a w hq => bkR (sqR (sgR (rtR hq)))

def sort_CheckSig_enc : (Int × AH) → Value
  | (r0, _) => (Value.int .i64 r0)

def sort_CheckSig_hp (_ : AH) : (Int × AH) → AH := fun r => r.2

noncomputable def B20 : Code := (Tryd.f20.body).getD .skip

noncomputable def sort_CheckSig_b0 (L : LC) (_a0_0 : Sl3) (_a0_1 : Sl3) (_a0_2 : Sl3) (_x2 : Sl3) (_x3 : Sl3) (s7 : Sl3) (H8 : AH) : Int → Option (Lp Int (Int × AH)) := fun v21_9 =>
  if v21_9 < (s7.n : Int) then
    Option.bind (idxA 1 s7 v21_9) fun p10 =>
    Option.bind (rd deS H8 p10) fun x11 =>
    Option.bind (sort_Name L x11) fun x12 =>
    if x12 = true then
      some (.next (IntKind.i64.wrap (v21_9 + 1)))
    else
      none
  else
    some (.brk v21_9)

def sort_CheckSig_b0_kn (_L : LC) (_a0_0 : Sl3) (_a0_1 : Sl3) (_a0_2 : Sl3) (x2 : Sl3) (x3 : Sl3) (s7 : Sl3) (_H8 : AH) : Int → KN := fun v21_9 => [(21, .val (Value.int .i64 v21_9)), (1, .loc 0 0), (3, .val (Sl3.v x2)), (4, .val (Sl3.v x3)), (19, .val (Sl3.v s7)), (20, .val (Value.int .i64 (s7.n : Int)))]

def sort_CheckSig_b0_ls (_L : LC) (a0_0 : Sl3) (a0_1 : Sl3) (a0_2 : Sl3) (_x2 : Sl3) (_x3 : Sl3) (_s7 : Sl3) (_H8 : AH) : Int → Lcs := fun _ => [some (33, [(Sl3.v a0_0), (Sl3.v a0_1), (Sl3.v a0_2)])]

noncomputable def sort_CheckSig (L : LC) (m : Nat) (H : AH) (a0_0 : Sl3) (a0_1 : Sl3) (a0_2 : Sl3) : Option (Int × AH) :=
  Option.bind (sort_many L H a0_0 a0_1 a0_2) fun x1 =>
  if x1 = true then
    none
  else
    Option.bind (sort_names L m H a0_0 a0_1 a0_2) fun (x2, x3, H4) =>
    Option.bind (slices_Clone L m H4 x2) fun (x5, H6) =>
    Option.bind (appS m 9 1 16 H6 x5 x3) fun (s7, H8) =>
    Option.bind (L.run (sort_CheckSig_b0 L a0_0 a0_1 a0_2 x2 x3 s7 H8) 0) fun o => match o with
    | .inl _ =>
      Option.bind (sort_twice L m H8 x2) fun (x14, H15) =>
      if x14 = true then
        none
      else
        Option.bind (sort_twice L m H15 x3) fun (x16, H17) =>
        if x16 = true then
          none
        else
          Option.bind (sort_open L m H17 a0_0 a0_1 a0_2) fun (x18, H19) =>
          Option.bind (sort_book_allSorts L m H19 x18) fun (x20, H21) =>
          if x20 = 0 then
            Option.bind (sort_book_leans L m H21 x18) fun (x22, H23) =>
            Option.bind (sort_book_nested L m H23 x18 x22) fun (x24, H25) =>
            if x24 = true then
              none
            else
              Option.bind (sort_book_ground L m H25 x18) fun (x26, H27) =>
              Option.bind (slices_Contains L H27 x26 false) fun x28 =>
              if x28 = true then
                none
              else
                some (0, H27)
          else
            none
    | .inr r => some r

theorem sort_CheckSig_b0_ok {ne : NE} {E : Ent} {m : Nat} {H : AH} {L : LC} {a0_0 : Sl3} {a0_1 : Sl3} {a0_2 : Sl3} {x2 : Sl3} {x3 : Sl3} {s7 : Sl3} {H8 : AH}  : ∀ s o, sort_CheckSig_b0 L a0_0 a0_1 a0_2 x2 x3 s7 H8 s = some o →
    WS Tryd.prog ne m E Tryd.f20.ntmps (cfst (cfst (csnd (cfst (csnd (csnd (csnd B20))))))) (sort_CheckSig_b0_kn L a0_0 a0_1 a0_2 x2 x3 s7 H8 s) (sort_CheckSig_b0_ls L a0_0 a0_1 a0_2 x2 x3 s7 H8 s) ((fun _ => H8) s) (lpS Tryd.prog ne m E Tryd.f20.ntmps (sort_CheckSig_b0_kn L a0_0 a0_1 a0_2 x2 x3 s7 H8) (sort_CheckSig_b0_ls L a0_0 a0_1 a0_2 x2 x3 s7 H8) (fun _ => H8) 0 (fun r => RT Tryd.prog ne m E Tryd.f20 (sort_CheckSig_enc r) (sort_CheckSig_hp H r)) o) := by
  rintro v21_9 o h
  unfold sort_CheckSig_b0 at h
  try dsimp only at h
  refine WS.sq ?_
  refine WS.rg ?_
  refine RS.mS 1 [(22, .val (Value.bool (decide (v21_9 < (s7.n : Int)))))] ?_
  refine RS.dn ?_
  refine WS.nxt ?_
  refine WS.sq ?_
  rcases ite_some h with ⟨hp, h⟩ | ⟨hp, h⟩
  · refine WS.fx 22 true (decide_eq_true hp) ?_
    refine WS.cT ?_
    refine WS.sk ?_
    refine WS.nxt ?_
    refine WS.sq ?_
    refine WS.bk 1 ?_
    refine WS.sq ?_
    refine WS.rg ?_
    obtain ⟨p10, hx, h⟩ := bind_some h
    refine RS.o (H' := H8) (some 23) (Value.pointer (some p10)) (Abs.run_idx (s := s7) (k := .i64) (t := 29) (e := 9) (x := .tmp 19) (y := .tmp 21) (by kernel_rfl) (by kernel_rfl) (by kernel_rfl) (by kernel_rfl) (by kernel_rfl) hx) ?_
    obtain ⟨x11, hx, h⟩ := bind_some h
    refine RS.o (H' := H8) (some 24) (Value.string x11) (Abs.run_load (t := 9) (x := .tmp 23) (a := p10) (by kernel_rfl) (by kernel_rfl) (by kernel_rfl) (rd_cell hx deS_inv)) ?_
    refine RS.mS 1 [(6, .val (Value.string x11))] ?_
    refine RS.dn ?_
    refine WS.nxt ?_
    refine WS.sq ?_
    refine WS.rg ?_
    refine RS.mS 1 [(25, .val (Value.string x11))] ?_
    obtain ⟨x12, hx, h⟩ := bind_some h
    refine RS.cl (some 26) (v := (Value.bool x12)) 13 #[(Value.string x11)] (sort_Name_ok hx) ?_
    refine RS.mS 1 [(27, .val (Value.bool (!x12)))] ?_
    refine RS.dn ?_
    refine WS.nxt ?_
    rcases ite_some h with ⟨hp, h⟩ | ⟨hp, h⟩
    · refine WS.fx 27 false (nb_not hp) ?_
      refine WS.cF ?_
      refine WS.sk ?_
      refine fun a w hs => bkN ((WS.nxt ?_ a w hs))
      refine WS.rg ?_
      refine RS.mS 2 [(21, .val (Value.int .i64 (IntKind.i64.wrap (v21_9 + 1)))), (28, .val (Value.int .i64 (IntKind.i64.wrap (v21_9 + 1))))] ?_
      refine RS.dn ?_
      cases h
      exact fun a w hs => lsN rfl (hs.sb 1)
    · refine WS.fx 27 true (nb_not' hp) ?_
      refine WS.cT ?_
      cases h
  · refine WS.fx 22 false (decide_eq_false hp) ?_
    refine WS.cF ?_
    refine WS.ex 0 ?_
    cases h
    exact fun a w hs => sqE (lsB rfl (hs.sb 1))

theorem sort_CheckSig_ok {L : LC} {ne : NE} {m : Nat} {H : AH} {a0_0 : Sl3} {a0_1 : Sl3} {a0_2 : Sl3} {r : (Int × AH)} (h : sort_CheckSig L m H a0_0 a0_1 a0_2 = some r) :
    CallS Tryd.prog ne m 20 #[(Value.agg #[(Sl3.v a0_0), (Sl3.v a0_1), (Sl3.v a0_2)])] H (sort_CheckSig_enc r) (sort_CheckSig_hp H r) := by
  refine CallS.mk (args := [(Value.agg #[(Sl3.v a0_0), (Sl3.v a0_1), (Sl3.v a0_2)])]) Tryd.func20 (B := B20) (by kernel_rfl) (fun E _ => ?_)
  unfold sort_CheckSig at h
  refine WS.sq ?_
  refine WS.rg ?_
  refine RS.mL 2 [(2, .val (Value.int .i64 0)), (1, .loc 0 0)] ([some (33, [(Sl3.v a0_0), (Sl3.v a0_1), (Sl3.v a0_2)])]) ?_
  refine RS.dn ?_
  refine WS.nxt ?_
  refine WS.sq ?_
  refine WS.sq ?_
  refine WS.rg ?_
  refine RS.mS 1 [(9, .val (Value.agg #[(Sl3.v a0_0), (Sl3.v a0_1), (Sl3.v a0_2)]))] ?_
  obtain ⟨x1, hx, h⟩ := bind_some h
  refine RS.cl (some 10) (v := (Value.bool x1)) 40 #[(Value.agg #[(Sl3.v a0_0), (Sl3.v a0_1), (Sl3.v a0_2)])] (sort_many_ok hx) ?_
  refine RS.dn ?_
  refine WS.nxt ?_
  rcases ite_some h with ⟨hp, h⟩ | ⟨hp, h⟩
  · refine WS.fx 10 true hp ?_
    refine WS.cT ?_
    cases h
  · refine WS.fx 10 false (b_not hp) ?_
    refine WS.cF ?_
    refine WS.sk ?_
    refine WS.nxt ?_
    refine WS.sq ?_
    refine WS.rg ?_
    refine RS.mS 1 [(12, .val (Value.agg #[(Sl3.v a0_0), (Sl3.v a0_1), (Sl3.v a0_2)]))] ?_
    obtain ⟨⟨x2, x3, H4⟩, hx, h⟩ := bind_some h
    try dsimp only at h
    refine RS.cl (some 13) (v := (Value.tuple #[(Sl3.v x2), (Sl3.v x3)])) 41 #[(Value.agg #[(Sl3.v a0_0), (Sl3.v a0_1), (Sl3.v a0_2)])] (sort_names_ok hx) ?_
    refine RS.mS 5 [(4, .val (Sl3.v x3)), (3, .val (Sl3.v x2)), (15, .val (Sl3.v x3)), (14, .val (Sl3.v x2)), (11, .val (Value.tuple #[(Sl3.v x2), (Sl3.v x3)]))] ?_
    refine RS.dn ?_
    refine WS.nxt ?_
    refine WS.sq ?_
    refine WS.sq ?_
    refine WS.rg ?_
    refine RS.mS 1 [(16, .val (Sl3.v x2))] ?_
    obtain ⟨⟨x5, H6⟩, hx, h⟩ := bind_some h
    try dsimp only at h
    refine RS.cl (some 17) (v := (Sl3.v x5)) 42 #[(Sl3.v x2)] (slices_Clone_ok hx) ?_
    refine RS.mS 1 [(18, .val (Sl3.v x3))] ?_
    obtain ⟨⟨s7, H8⟩, hx, h⟩ := bind_some h
    try dsimp only at h
    refine RS.o (H' := H8) (some 19) (Sl3.v s7) (Abs.run_app (x := .tmp 17) (y := .tmp 18) (ts := #[29, 29]) (s := x5) (z := x3) (by kernel_rfl) (by kernel_rfl) (by kernel_rfl) (by kernel_rfl) hx) ?_
    refine RS.mS 2 [(21, .val (Value.int .i64 0)), (20, .val (Value.int .i64 (s7.n : Int)))] ?_
    refine RS.dn ?_
    refine WS.nxt ?_
    refine WS.bk 0 ?_
    obtain ⟨o, hl, h⟩ := bind_some h
    rcases o with v21_13 | r
    · try dsimp only at h
      refine WS.lI (sort_CheckSig_b0_ok (ne := ne) (L := L) (E := E) (m := m) (H := H)) (L.ok hl) 1 ?_
      clear hl
      refine fun a w hs => bkE ((WS.nxt ?_ a w hs))
      refine WS.sq ?_
      refine WS.sq ?_
      refine WS.rg ?_
      refine RS.mS 1 [(29, .val (Sl3.v x2))] ?_
      obtain ⟨⟨x14, H15⟩, hx, h⟩ := bind_some h
      try dsimp only at h
      refine RS.cl (some 30) (v := (Value.bool x14)) 43 #[(Sl3.v x2)] (sort_twice_ok hx) ?_
      refine RS.mS 1 [(31, .val (Value.bool x14))] ?_
      rcases ite_some h with ⟨hp, h⟩ | ⟨hp, h⟩
      · refine RS.fx 31 true hp ?_
        cases h
      · refine RS.fx 31 false (b_not hp) ?_
        refine RS.mS 1 [(32, .val (Sl3.v x3))] ?_
        obtain ⟨⟨x16, H17⟩, hx, h⟩ := bind_some h
        try dsimp only at h
        refine RS.cl (some 33) (v := (Value.bool x16)) 43 #[(Sl3.v x3)] (sort_twice_ok hx) ?_
        refine RS.mS 1 [(34, .val (Value.bool x16))] ?_
        refine RS.dn ?_
        refine WS.nxt ?_
        rcases ite_some h with ⟨hp, h⟩ | ⟨hp, h⟩
        · refine WS.fx 34 true hp ?_
          refine WS.cT ?_
          cases h
        · refine WS.fx 34 false (b_not hp) ?_
          refine WS.cF ?_
          refine WS.sk ?_
          refine WS.nxt ?_
          refine WS.sq ?_
          refine WS.rg ?_
          refine RS.mS 1 [(35, .val (Value.agg #[(Sl3.v a0_0), (Sl3.v a0_1), (Sl3.v a0_2)]))] ?_
          obtain ⟨⟨x18, H19⟩, hx, h⟩ := bind_some h
          try dsimp only at h
          refine RS.cl (some 36) (v := (Value.pointer x18)) 36 #[(Value.agg #[(Sl3.v a0_0), (Sl3.v a0_1), (Sl3.v a0_2)])] (sort_open_ok hx) ?_
          refine RS.mS 1 [(7, .val (Value.pointer x18))] ?_
          refine RS.dn ?_
          refine WS.nxt ?_
          refine WS.sq ?_
          refine WS.sq ?_
          refine WS.rg ?_
          refine RS.mS 1 [(37, .val (Value.pointer x18))] ?_
          obtain ⟨⟨x20, H21⟩, hx, h⟩ := bind_some h
          try dsimp only at h
          refine RS.cl (some 38) (v := (Value.int .i64 x20)) 44 #[(Value.pointer x18)] (sort_book_allSorts_ok hx) ?_
          refine RS.mS 1 [(8, .val (Value.int .i64 x20))] ?_
          refine RS.dn ?_
          refine WS.nxt ?_
          refine WS.sq ?_
          refine WS.rg ?_
          refine RS.mS 2 [(40, .val (Value.bool (!decide (x20 = 0)))), (39, .val (Value.int .i64 x20))] ?_
          refine RS.dn ?_
          refine WS.nxt ?_
          rcases ite_some h with ⟨hp, h⟩ | ⟨hp, h⟩
          · refine WS.fx 40 false (dec_not hp) ?_
            refine WS.cF ?_
            refine WS.sk ?_
            refine WS.nxt ?_
            refine WS.sq ?_
            refine WS.sq ?_
            refine WS.rg ?_
            refine RS.mS 2 [(43, .val (Value.pointer x18)), (42, .val (Value.pointer x18))] ?_
            obtain ⟨⟨x22, H23⟩, hx, h⟩ := bind_some h
            try dsimp only at h
            refine RS.cl (some 44) (v := (Sl3.v x22)) 46 #[(Value.pointer x18)] (sort_book_leans_ok hx) ?_
            obtain ⟨⟨x24, H25⟩, hx, h⟩ := bind_some h
            try dsimp only at h
            refine RS.cl (some 45) (v := (Value.bool x24)) 45 #[(Value.pointer x18), (Sl3.v x22)] (sort_book_nested_ok hx) ?_
            refine RS.dn ?_
            refine WS.nxt ?_
            rcases ite_some h with ⟨hp, h⟩ | ⟨hp, h⟩
            · refine WS.fx 45 true hp ?_
              refine WS.cT ?_
              cases h
            · refine WS.fx 45 false (b_not hp) ?_
              refine WS.cF ?_
              refine WS.sk ?_
              refine WS.nxt ?_
              refine WS.sq ?_
              refine WS.sq ?_
              refine WS.rg ?_
              refine RS.mS 1 [(46, .val (Value.pointer x18))] ?_
              obtain ⟨⟨x26, H27⟩, hx, h⟩ := bind_some h
              try dsimp only at h
              refine RS.cl (some 47) (v := (Sl3.v x26)) 48 #[(Value.pointer x18)] (sort_book_ground_ok hx) ?_
              obtain ⟨x28, hx, h⟩ := bind_some h
              refine RS.cl (some 48) (v := (Value.bool x28)) 47 #[(Sl3.v x26), (Value.bool false)] (slices_Contains_ok hx) ?_
              refine RS.dn ?_
              refine WS.nxt ?_
              rcases ite_some h with ⟨hp, h⟩ | ⟨hp, h⟩
              · refine WS.fx 48 true hp ?_
                refine WS.cT ?_
                cases h
              · refine WS.fx 48 false (b_not hp) ?_
                refine WS.cF ?_
                refine WS.sk ?_
                refine WS.nxt ?_
                refine WS.sq ?_
                refine WS.rg ?_
                refine RS.mS 1 [(2, .val (Value.int .i64 0))] ?_
                refine RS.dn ?_
                refine WS.nxt ?_
                refine WS.rt ?_
                cases h
                exact fun a w hs => rtR (rS hs)
          · refine WS.fx 40 true (dec_not' hp) ?_
            refine WS.cT ?_
            cases h
    · try dsimp only at h
      refine WS.lR (sort_CheckSig_b0_ok (ne := ne) (L := L) (E := E) (m := m) (H := H)) (L.ok hl) 1 ?_
      cases h
      exact fun a w hq => bkR (sqR (rtR hq))

def sort_Check_enc : (Int × AH) → Value
  | (r0, _) => (Value.int .i64 r0)

def sort_Check_hp (_ : AH) : (Int × AH) → AH := fun r => r.2

noncomputable def B18 : Code := (Tryd.f18.body).getD .skip

noncomputable def sort_Check (L : LC) (m : Nat) (H : AH) (a0_0 : Int) (a0_1 : Int) (a0_2 : ByteArray) (a0_3 : Sl3) (a1_0 : Sl3) (a1_1 : Sl3) (a1_2 : Sl3) : Option (Int × AH) :=
  Option.bind (sort_open L (Nat.max m H.next) H a1_0 a1_1 a1_2) fun (x1, H2) =>
  Option.bind (sort_book_check L H2 x1 a0_0 a0_1 a0_2 a0_3) fun x3 =>
  some (x3, H2)

theorem sort_Check_ok {L : LC} {ne : NE} {m : Nat} {H : AH} {a0_0 : Int} {a0_1 : Int} {a0_2 : ByteArray} {a0_3 : Sl3} {a1_0 : Sl3} {a1_1 : Sl3} {a1_2 : Sl3} {r : (Int × AH)} (h : sort_Check L m H a0_0 a0_1 a0_2 a0_3 a1_0 a1_1 a1_2 = some r) :
    CallS Tryd.prog ne m 18 #[(Value.agg #[(Value.int .i64 a0_0), (Value.int .i64 a0_1), (Value.string a0_2), (Sl3.v a0_3)]), (Value.agg #[(Sl3.v a1_0), (Sl3.v a1_1), (Sl3.v a1_2)])] H (sort_Check_enc r) (sort_Check_hp H r) := by
  refine CallS.mk (args := [(Value.agg #[(Value.int .i64 a0_0), (Value.int .i64 a0_1), (Value.string a0_2), (Sl3.v a0_3)]), (Value.agg #[(Sl3.v a1_0), (Sl3.v a1_1), (Sl3.v a1_2)])]) Tryd.func18 (B := B18) (by kernel_rfl) (fun E _ => ?_)
  unfold sort_Check at h
  refine WS.sq ?_
  refine WS.rg ?_
  refine RS.mL 3 [(4, .val (Value.int .i64 0)), (3, .loc 1 0), (2, .loc 0 0)] ([some (28, [(Value.int .i64 a0_0), (Value.int .i64 a0_1), (Value.string a0_2), (Sl3.v a0_3)]), some (33, [(Sl3.v a1_0), (Sl3.v a1_1), (Sl3.v a1_2)])]) ?_
  refine RS.dn ?_
  refine WS.nxt ?_
  refine WS.sq ?_
  refine WS.dr [0, 2] [0, 1, 0, 7, 15] 5 (fun hcl => ?_)
  refine DA.tL 0 (some 5) (.val (Value.agg #[(Sl3.v a1_0), (Sl3.v a1_1), (Sl3.v a1_2)])) ?_
  refine DA.tL 2 (some 7) (.val (Value.agg #[(Value.int .i64 a0_0), (Value.int .i64 a0_1), (Value.string a0_2), (Sl3.v a0_3)])) ?_
  obtain ⟨⟨x1, H2⟩, hx, h⟩ := bind_some h
  try dsimp only at h
  refine DA.on 1 ?_
  refine DA.aCk 1 (some 6) false (v := (Value.pointer x1)) 36 #[(Value.agg #[(Sl3.v a1_0), (Sl3.v a1_1), (Sl3.v a1_2)])] (sort_open_ok hx) ?_
  obtain ⟨x3, hx, h⟩ := bind_some h
  refine DA.on 3 ?_
  refine DA.aC 3 (some 8) (v := (Value.int .i64 x3)) 37 #[(Value.pointer x1), (Value.agg #[(Value.int .i64 a0_0), (Value.int .i64 a0_1), (Value.string a0_2), (Sl3.v a0_3)])] (sort_book_check_ok hx) ?_
  refine DA.tP 4 (some 4) (Value.int .i64 x3) ?_
  refine DA.dn ?_
  refine WS.nxt ?_
  refine WS.rt ?_
  cases h
  exact fun a w hs => rtR (rS hs)

def sort_counting_enc : ((Option Addr) × AH) → Value
  | (r0, _) => (Value.pointer r0)

def sort_counting_hp (_ : AH) : ((Option Addr) × AH) → AH := fun r => r.2

noncomputable def B54 : Code := (Tryd.f54.body).getD .skip

noncomputable def sort_counting (L : LC) (m : Nat) (H : AH) (a0_0 : Sl3) (a0_1 : Sl3) (a0_2 : Sl3) (a1 : Int) : Option ((Option Addr) × AH) :=
  Option.bind (sort_open L m H a0_0 a0_1 a0_2) fun (x1, H2) =>
  Option.bind (sort_book_leans L m H2 x1) fun (x3, H4) =>
  Option.bind (newM H4) fun (p5, H6) =>
  Option.bind (newB 117 [(Value.pointer x1), (Value.int .i64 a1), (Sl3.v x3), (Value.map (some p5))] H6) fun (p7, H8) =>
  some ((some p7), H8)

theorem sort_counting_ok {L : LC} {ne : NE} {m : Nat} {H : AH} {a0_0 : Sl3} {a0_1 : Sl3} {a0_2 : Sl3} {a1 : Int} {r : ((Option Addr) × AH)} (h : sort_counting L m H a0_0 a0_1 a0_2 a1 = some r) :
    CallS Tryd.prog ne m 54 #[(Value.agg #[(Sl3.v a0_0), (Sl3.v a0_1), (Sl3.v a0_2)]), (Value.int .i64 a1)] H (sort_counting_enc r) (sort_counting_hp H r) := by
  refine CallS.mk (args := [(Value.agg #[(Sl3.v a0_0), (Sl3.v a0_1), (Sl3.v a0_2)]), (Value.int .i64 a1)]) Tryd.func54 (B := B54) (by kernel_rfl) (fun E _ => ?_)
  unfold sort_counting at h
  refine WS.sq ?_
  refine WS.rg ?_
  refine RS.mL 2 [(4, .val (Value.pointer none)), (2, .loc 0 0)] ([some (33, [(Sl3.v a0_0), (Sl3.v a0_1), (Sl3.v a0_2)])]) ?_
  refine RS.dn ?_
  refine WS.nxt ?_
  refine WS.sq ?_
  refine WS.rg ?_
  refine RS.mS 1 [(6, .val (Value.agg #[(Sl3.v a0_0), (Sl3.v a0_1), (Sl3.v a0_2)]))] ?_
  obtain ⟨⟨x1, H2⟩, hx, h⟩ := bind_some h
  try dsimp only at h
  refine RS.cl (some 7) (v := (Value.pointer x1)) 36 #[(Value.agg #[(Sl3.v a0_0), (Sl3.v a0_1), (Sl3.v a0_2)])] (sort_open_ok hx) ?_
  refine RS.mS 1 [(5, .val (Value.pointer x1))] ?_
  refine RS.dn ?_
  refine WS.nxt ?_
  refine WS.sq ?_
  refine WS.rg ?_
  refine RS.mS 3 [(10, .val (Value.pointer x1)), (9, .val (Value.int .i64 a1)), (8, .val (Value.pointer x1))] ?_
  obtain ⟨⟨x3, H4⟩, hx, h⟩ := bind_some h
  try dsimp only at h
  refine RS.cl (some 11) (v := (Sl3.v x3)) 46 #[(Value.pointer x1)] (sort_book_leans_ok hx) ?_
  obtain ⟨⟨p5, H6⟩, hx, h⟩ := bind_some h
  try dsimp only at h
  refine RS.o (H' := H6) (some 12) (Value.map (some p5)) (Abs.run_newM (by kernel_rfl) hx) ?_
  refine RS.mS 1 [(13, .val (Value.agg #[(Value.pointer x1), (Value.int .i64 a1), (Sl3.v x3), (Value.map (some p5))]))] ?_
  obtain ⟨⟨p7, H8⟩, hx, h⟩ := bind_some h
  try dsimp only at h
  refine RS.o (H' := H8) (some 14) (Value.pointer (some p7)) (Abs.run_newB (by kernel_rfl) hx) ?_
  refine RS.mS 1 [(4, .val (Value.pointer (some p7)))] ?_
  refine RS.dn ?_
  refine WS.nxt ?_
  refine WS.rt ?_
  cases h
  exact fun a w hs => rtR (rS hs)

end Go.Proofs.YtccbilfbhecdaaaDoor.Aw


namespace Go.Proofs.YtccbilfbhecdaaaDoor.Aw
open Go Go.Abs
set_option maxRecDepth 100000

def sort_counter_sort_enc : (Int × AH) → Value
  | (r0, _) => (Value.int .i64 r0)

def sort_counter_sort_hp (_ : AH) : (Int × AH) → AH := fun r => r.2

def sort_counter_data_enc : (Int × AH) → Value
  | (r0, _) => (Value.int .i64 r0)

def sort_counter_data_hp (_ : AH) : (Int × AH) → AH := fun r => r.2

noncomputable def B55 : Code := (Tryd.f55.body).getD .skip

noncomputable def sort_counter_sort_body (_L : LC) (rec_sort_counter_data : Nat → AH → (Option Addr) → Int → Option (Int × AH)) (m : Nat) (H : AH) (a0 : Option Addr) (a1_0 : Int) (_a1_1 : Int) (a1_2 : ByteArray) (_a1_3 : Sl3) : Option (Int × AH) :=
  if a1_0 = 1 then
    none
  else
    if a1_0 = 3 then
      none
    else
      if a1_0 = 4 then
        none
      else
        if a1_0 = 6 then
          Option.bind a0 fun q1 =>
          Option.bind (rd deP H (Addr.add q1 0)) fun x2 =>
          Option.bind x2 fun q3 =>
          Option.bind (rd deM H (Addr.add q3 3)) fun x4 =>
          Option.bind (lk1 Tryd.prog 94 (deI .i64) H x4 (Value.agg #[(Value.int .i64 a1_0), (Value.string a1_2)])) fun x5 =>
          Option.bind (rd deM H (Addr.add q1 3)) fun x6 =>
          Option.bind (lkM Tryd.prog 115 (deI .i64) H x6 (Value.int .i64 x5)) fun (_, b8) =>
          if b8 = true then
            none
          else
            Option.bind (rec_sort_counter_data m H (some q1) x5) fun (x9, H10) =>
            Option.bind (rd deM H10 (Addr.add q1 3)) fun x11 =>
            Option.bind (upM Tryd.prog m 115 H10 x11 (Value.int .i64 x5) (Value.int .i64 x9)) fun H12 =>
            Option.bind (rd (deI .i64) H12 (Addr.add q1 1)) fun x13 =>
            if x9 > x13 then
              none
            else
              some (x9, H12)
        else
          none

noncomputable def B88 : Code := (Tryd.f88.body).getD .skip

noncomputable def sort_counter_data_b1 (_L : LC) (_q1 : Addr) (_x11 : Sl3) (_v5_13 : Int) (_v34_14 : Int) (_x16_0 : ByteArray) (x16_1 : Sl3) : (AH × Int × Int) → Option (Lp (AH × Int × Int) (Int × AH)) := fun (H17, v8_18, v41_19) =>
  if v41_19 < (x16_1.n : Int) then
    none
  else
    some (.brk (H17, v8_18, v41_19))

def sort_counter_data_b1_kn (_L : LC) (q1 : Addr) (x11 : Sl3) (v5_13 : Int) (v34_14 : Int) (_x16_0 : ByteArray) (x16_1 : Sl3) : (AH × Int × Int) → KN := fun (_, v8_18, v41_19) => [(8, .val (Value.int .i64 v8_18)), (41, .val (Value.int .i64 v41_19)), (0, .val (Value.pointer (some q1))), (5, .val (Value.int .i64 v5_13)), (32, .val (Sl3.v x11)), (33, .val (Value.int .i64 (x11.n : Int))), (34, .val (Value.int .i64 v34_14)), (39, .val (Sl3.v x16_1)), (40, .val (Value.int .i64 (x16_1.n : Int)))]

def sort_counter_data_b1_ls (_L : LC) (_q1 : Addr) (_x11 : Sl3) (_v5_13 : Int) (_v34_14 : Int) (x16_0 : ByteArray) (x16_1 : Sl3) : (AH × Int × Int) → Lcs := fun (_, _, _) => [some (50, [(Value.string x16_0), (Sl3.v x16_1)])]

noncomputable def sort_counter_data_b0 (L : LC) (q1 : Addr) (x11 : Sl3) : (AH × Int × Int) → Option (Lp (AH × Int × Int) (Int × AH)) := fun (H12, v5_13, v34_14) =>
  if v34_14 < (x11.n : Int) then
    Option.bind (idxA 2 x11 v34_14) fun p15 =>
    Option.bind (rd deS H12 (Addr.add p15 0)) fun x16_0 =>
    Option.bind (rd deSl H12 (Addr.add p15 1)) fun x16_1 =>
    Option.bind (L.run (sort_counter_data_b1 L q1 x11 v5_13 v34_14 x16_0 x16_1) (H12, 1, 0)) fun o => match o with
    | .inl (H20, v8_21, _) =>
      if v8_21 = 0 then
        none
      else
        Option.bind (rd (deI .i64) H20 (Addr.add q1 1)) fun x23 =>
        if v5_13 > (IntKind.i64.wrap (x23 - v8_21)) then
          none
        else
          some (.next (H20, (IntKind.i64.wrap (v5_13 + v8_21)), (IntKind.i64.wrap (v34_14 + 1))))
    | .inr r => some (.ret r)
  else
    some (.brk (H12, v5_13, v34_14))

def sort_counter_data_b0_kn (_L : LC) (q1 : Addr) (x11 : Sl3) : (AH × Int × Int) → KN := fun (_, v5_13, v34_14) => [(5, .val (Value.int .i64 v5_13)), (34, .val (Value.int .i64 v34_14)), (0, .val (Value.pointer (some q1))), (32, .val (Sl3.v x11)), (33, .val (Value.int .i64 (x11.n : Int)))]

def sort_counter_data_b0_ls (_L : LC) (_q1 : Addr) (_x11 : Sl3) : (AH × Int × Int) → Lcs := fun (_, _, _) => []

noncomputable def sort_counter_data_body (L : LC) (_m : Nat) (H : AH) (a0 : Option Addr) (a1 : Int) : Option (Int × AH) :=
  Option.bind a0 fun q1 =>
  Option.bind (rd deSl H (Addr.add q1 2)) fun x2 =>
  Option.bind (idxA 1 x2 a1) fun p3 =>
  Option.bind (rd deSl H p3) fun x4 =>
  Option.bind (idxA 1 x4 a1) fun p5 =>
  Option.bind (rd deB H p5) fun x6 =>
  if x6 = true then
    none
  else
    Option.bind (rd deP H (Addr.add q1 0)) fun x7 =>
    Option.bind x7 fun q8 =>
    Option.bind (rd deSl H (Addr.add (Addr.add q8 0) 1)) fun x9 =>
    Option.bind (idxA 2 x9 a1) fun p10 =>
    Option.bind (rd deSl H (Addr.add p10 1)) fun x11 =>
    Option.bind (L.run (sort_counter_data_b0 L q1 x11) (H, 0, 0)) fun o => match o with
    | .inl (H24, v5_25, _) =>
      some (v5_25, H24)
    | .inr r => some r

noncomputable def fam_sort_counter_sort (L : LC) (n : Nat) : (Nat → AH → (Option Addr) → Int → Int → ByteArray → Sl3 → Option (Int × AH)) × (Nat → AH → (Option Addr) → Int → Option (Int × AH)) := Nat.rec (motive := fun _ => (Nat → AH → (Option Addr) → Int → Int → ByteArray → Sl3 → Option (Int × AH)) × (Nat → AH → (Option Addr) → Int → Option (Int × AH))) ((fun _ _ _ _ _ _ _ => none), (fun _ _ _ _ => none)) (fun _ p => (sort_counter_sort_body L p.2, sort_counter_data_body L)) n

noncomputable def sort_counter_sort (L : LC) (m : Nat) (H : AH) (a0 : Option Addr) (a1_0 : Int) (a1_1 : Int) (a1_2 : ByteArray) (a1_3 : Sl3) : Option (Int × AH) := ((fam_sort_counter_sort L L.fuel).1) m H a0 a1_0 a1_1 a1_2 a1_3

theorem sort_counter_sort_body_ok {L : LC} {ne : NE} {rec_sort_counter_data : Nat → AH → (Option Addr) → Int → Option (Int × AH)} (hrec_sort_counter_data : ∀ (m : Nat) (H : AH) (a0 : Option Addr) (a1 : Int) (r : (Int × AH)), rec_sort_counter_data m H a0 a1 = some r → CallS Tryd.prog ne m 88 #[(Value.pointer a0), (Value.int .i64 a1)] H (sort_counter_data_enc r) (sort_counter_data_hp H r)) {m : Nat} {H : AH} {a0 : Option Addr} {a1_0 : Int} {a1_1 : Int} {a1_2 : ByteArray} {a1_3 : Sl3} {r : (Int × AH)} (h : sort_counter_sort_body L rec_sort_counter_data m H a0 a1_0 a1_1 a1_2 a1_3 = some r) :
    CallS Tryd.prog ne m 55 #[(Value.pointer a0), (Value.agg #[(Value.int .i64 a1_0), (Value.int .i64 a1_1), (Value.string a1_2), (Sl3.v a1_3)])] H (sort_counter_sort_enc r) (sort_counter_sort_hp H r) := by
  refine CallS.mk (args := [(Value.pointer a0), (Value.agg #[(Value.int .i64 a1_0), (Value.int .i64 a1_1), (Value.string a1_2), (Sl3.v a1_3)])]) Tryd.func55 (B := B55) (by kernel_rfl) (fun E _ => ?_)
  unfold sort_counter_sort_body at h
  refine WS.sq ?_
  refine WS.rg ?_
  refine RS.mL 2 [(4, .val (Value.int .i64 0)), (3, .loc 0 0)] ([some (28, [(Value.int .i64 a1_0), (Value.int .i64 a1_1), (Value.string a1_2), (Sl3.v a1_3)])]) ?_
  refine RS.dn ?_
  refine WS.nxt ?_
  refine WS.sq ?_
  refine WS.rg ?_
  refine RS.mS 1 [(5, .val (Value.int .i64 0))] ?_
  refine RS.dn ?_
  refine WS.nxt ?_
  refine WS.sq ?_
  refine WS.sq ?_
  refine WS.rg ?_
  refine RS.mS 2 [(10, .val (Value.int .i64 a1_0)), (9, .loc 0 0)] ?_
  refine RS.dn ?_
  refine WS.nxt ?_
  refine WS.bk 0 ?_
  refine WS.sq ?_
  refine WS.rg ?_
  refine RS.mS 2 [(11, .val (Value.bool (decide (a1_0 = 1)))), (12, .val (Value.bool (decide (a1_0 = 1))))] ?_
  refine RS.dn ?_
  refine WS.nxt ?_
  rcases ite_some h with ⟨hp, h⟩ | ⟨hp, h⟩
  · refine WS.fx 11 true (decide_eq_true hp) ?_
    refine WS.cT ?_
    cases h
  · refine WS.fx 11 false (decide_eq_false hp) ?_
    refine WS.cF ?_
    refine WS.sq ?_
    refine WS.rg ?_
    refine RS.mS 2 [(13, .val (Value.bool (decide (a1_0 = 3)))), (14, .val (Value.bool (decide (a1_0 = 3))))] ?_
    refine RS.dn ?_
    refine WS.nxt ?_
    rcases ite_some h with ⟨hp, h⟩ | ⟨hp, h⟩
    · refine WS.fx 13 true (decide_eq_true hp) ?_
      refine WS.cT ?_
      cases h
    · refine WS.fx 13 false (decide_eq_false hp) ?_
      refine WS.cF ?_
      refine WS.sq ?_
      refine WS.rg ?_
      refine RS.mS 2 [(23, .val (Value.bool (decide (a1_0 = 4)))), (24, .val (Value.bool (decide (a1_0 = 4))))] ?_
      refine RS.dn ?_
      refine WS.nxt ?_
      rcases ite_some h with ⟨hp, h⟩ | ⟨hp, h⟩
      · refine WS.fx 23 true (decide_eq_true hp) ?_
        refine WS.cT ?_
        cases h
      · refine WS.fx 23 false (decide_eq_false hp) ?_
        refine WS.cF ?_
        refine WS.sq ?_
        refine WS.rg ?_
        refine RS.mS 2 [(37, .val (Value.bool (decide (a1_0 = 6)))), (38, .val (Value.bool (decide (a1_0 = 6))))] ?_
        refine RS.dn ?_
        refine WS.nxt ?_
        rcases ite_some h with ⟨hp, h⟩ | ⟨hp, h⟩
        · refine WS.fx 37 true (decide_eq_true hp) ?_
          refine WS.cT ?_
          refine WS.sq ?_
          refine WS.dr [0, 1, 2, 3, 4, 5, 6, 7, 8, 9, 10, 11, 12] [0, 1, 3, 7, 15, 31, 63, 0, 128, 0, 512, 1920, 4095, 8191] 14 (fun hcl => ?_)
          refine DA.tK 0 (some 39) (Value.pointer a0) ?_
          obtain ⟨q1, hx, hq1⟩ := bind_some h
          subst hx
          have h := hq1
          refine DA.tK 1 (some 40) (Value.pointer (some q1)) ?_
          refine DA.tK 2 (some 41) (Value.pointer (some (Addr.add q1 0))) ?_
          obtain ⟨x2, hx, h⟩ := bind_some h
          refine DA.tD 3 (some 42) (Value.pointer x2) (Abs.det_load (t := 66) (x := .tmp 41) (a := (Addr.add q1 0)) (by kernel_rfl) (by kernel_rfl) (by kernel_rfl) (by kernel_rfl) (rd_cell hx deP_inv)) ?_
          obtain ⟨q3, hx, hq3⟩ := bind_some h
          subst hx
          have h := hq3
          refine DA.tK 4 (some 43) (Value.pointer (some q3)) ?_
          refine DA.tK 5 (some 44) (Value.pointer (some (Addr.add q3 3))) ?_
          obtain ⟨x4, hx, h⟩ := bind_some h
          refine DA.tD 6 (some 45) (Value.map x4) (Abs.det_load (t := 94) (x := .tmp 44) (a := (Addr.add q3 3)) (by kernel_rfl) (by kernel_rfl) (by kernel_rfl) (by kernel_rfl) (rd_cell hx deM_inv)) ?_
          refine DA.tL 7 (some 46) (.loc 0 0) ?_
          refine DA.tL 8 (some 47) (.val (Value.int .i64 a1_0)) ?_
          refine DA.tL 9 (some 48) (.loc 0 2) ?_
          refine DA.tL 10 (some 49) (.val (Value.string a1_2)) ?_
          refine DA.tK 11 (some 50) (Value.agg #[(Value.int .i64 a1_0), (Value.string a1_2)]) ?_
          obtain ⟨x5, hx, h⟩ := bind_some h
          refine DA.tD 12 (some 51) (Value.int .i64 x5) (Abs.det_look (t := 94) (x := .tmp 45) (y := .tmp 50) (mm := x4) (k := (Value.agg #[(Value.int .i64 a1_0), (Value.string a1_2)])) (by kernel_rfl) (by kernel_rfl) (by kernel_rfl) (by kernel_rfl) (lk1_eq hx deI_inv)) ?_
          refine DA.tP 13 (some 6) (Value.int .i64 x5) ?_
          refine DA.dn ?_
          refine WS.nxt ?_
          refine WS.sq ?_
          refine WS.rg ?_
          refine RS.mS 3 [(55, .val (Value.pointer (some (Addr.add q1 3)))), (54, .val (Value.pointer (some q1))), (53, .val (Value.pointer (some q1)))] ?_
          obtain ⟨x6, hx, h⟩ := bind_some h
          refine RS.o (H' := H) (some 56) (Value.map x6) (Abs.run_load (t := 115) (x := .tmp 55) (a := (Addr.add q1 3)) (by kernel_rfl) (by kernel_rfl) (by kernel_rfl) (rd_cell hx deM_inv)) ?_
          refine RS.mS 1 [(57, .val (Value.int .i64 x5))] ?_
          obtain ⟨⟨x7, b8⟩, hx, h⟩ := bind_some h
          try dsimp only at h
          refine RS.o (H' := H) (some 58) (Value.tuple #[(Value.int .i64 x7), (Value.bool b8)]) (Abs.run_look (t := 115) (x := .tmp 56) (y := .tmp 57) (mm := x6) (k := (Value.int .i64 x5)) (by kernel_rfl) (by kernel_rfl) (by kernel_rfl) (by kernel_rfl) (lkM_eq hx deI_inv)) ?_
          refine RS.mS 5 [(8, .val (Value.bool b8)), (7, .val (Value.int .i64 x7)), (60, .val (Value.bool b8)), (59, .val (Value.int .i64 x7)), (52, .val (Value.tuple #[(Value.int .i64 x7), (Value.bool b8)]))] ?_
          refine RS.dn ?_
          refine WS.nxt ?_
          refine WS.sq ?_
          refine WS.sq ?_
          refine WS.rg ?_
          refine RS.mS 2 [(62, .val (Value.bool (!b8))), (61, .val (Value.bool b8))] ?_
          refine RS.dn ?_
          refine WS.nxt ?_
          rcases ite_some h with ⟨hp, h⟩ | ⟨hp, h⟩
          · refine WS.fx 62 false (nb_not hp) ?_
            refine WS.cF ?_
            cases h
          · refine WS.fx 62 true (nb_not' hp) ?_
            refine WS.cT ?_
            refine WS.sq ?_
            refine WS.rg ?_
            refine RS.mS 2 [(64, .val (Value.int .i64 x5)), (63, .val (Value.pointer (some q1)))] ?_
            obtain ⟨⟨x9, H10⟩, hx, h⟩ := bind_some h
            try dsimp only at h
            refine RS.cl (some 65) (v := (Value.int .i64 x9)) 88 #[(Value.pointer (some q1)), (Value.int .i64 x5)] (hrec_sort_counter_data _ _ _ _ _ hx) ?_
            refine RS.mS 1 [(7, .val (Value.int .i64 x9))] ?_
            refine RS.dn ?_
            refine WS.nxt ?_
            refine WS.rg ?_
            refine RS.mS 3 [(68, .val (Value.pointer (some (Addr.add q1 3)))), (67, .val (Value.pointer (some q1))), (66, .val (Value.pointer (some q1)))] ?_
            obtain ⟨x11, hx, h⟩ := bind_some h
            refine RS.o (H' := H10) (some 69) (Value.map x11) (Abs.run_load (t := 115) (x := .tmp 68) (a := (Addr.add q1 3)) (by kernel_rfl) (by kernel_rfl) (by kernel_rfl) (rd_cell hx deM_inv)) ?_
            refine RS.mS 2 [(71, .val (Value.int .i64 x9)), (70, .val (Value.int .i64 x5))] ?_
            obtain ⟨H12, hx, h⟩ := bind_some h
            refine RS.o (H' := H12) none undef (Abs.run_upM (t := 115) (x := .tmp 69) (y := .tmp 70) (z := .tmp 71) (mm := x11) (k := (Value.int .i64 x5)) (v := (Value.int .i64 x9)) (by kernel_rfl) (by kernel_rfl) (by kernel_rfl) (by kernel_rfl) (by kernel_rfl) hx) ?_
            refine RS.dn ?_
            refine WS.nxt ?_
            refine WS.rg ?_
            refine RS.mS 2 [(5, .val (Value.int .i64 x9)), (72, .val (Value.int .i64 x9))] ?_
            refine RS.dn ?_
            refine fun a w hs => bkN ((WS.nxt ?_ a w hs))
            refine WS.sq ?_
            refine WS.sq ?_
            refine WS.rg ?_
            refine RS.mS 4 [(76, .val (Value.pointer (some (Addr.add q1 1)))), (75, .val (Value.pointer (some q1))), (74, .val (Value.pointer (some q1))), (73, .val (Value.int .i64 x9))] ?_
            obtain ⟨x13, hx, h⟩ := bind_some h
            refine RS.o (H' := H12) (some 77) (Value.int .i64 x13) (Abs.run_load (t := 3) (x := .tmp 76) (a := (Addr.add q1 1)) (by kernel_rfl) (by kernel_rfl) (by kernel_rfl) (rd_cell hx deI_inv)) ?_
            refine RS.mS 1 [(78, .val (Value.bool (decide (x9 > x13))))] ?_
            refine RS.dn ?_
            refine WS.nxt ?_
            rcases ite_some h with ⟨hp, h⟩ | ⟨hp, h⟩
            · refine WS.fx 78 true (decide_eq_true hp) ?_
              refine WS.cT ?_
              cases h
            · refine WS.fx 78 false (decide_eq_false hp) ?_
              refine WS.cF ?_
              refine WS.sk ?_
              refine WS.nxt ?_
              refine WS.sq ?_
              refine WS.rg ?_
              refine RS.mS 2 [(4, .val (Value.int .i64 x9)), (79, .val (Value.int .i64 x9))] ?_
              refine RS.dn ?_
              refine WS.nxt ?_
              refine WS.rt ?_
              cases h
              exact fun a w hs => rtR (rS hs)
        · refine WS.fx 37 false (decide_eq_false hp) ?_
          refine WS.cF ?_
          cases h

theorem sort_counter_data_b1_ok {ne : NE} {E : Ent} {m : Nat} {H : AH} {L : LC} {q1 : Addr} {x11 : Sl3} {v5_13 : Int} {v34_14 : Int} {x16_0 : ByteArray} {x16_1 : Sl3}  : ∀ s o, sort_counter_data_b1 L q1 x11 v5_13 v34_14 x16_0 x16_1 s = some o →
    WS Tryd.prog ne m E Tryd.f88.ntmps (cfst (cfst (csnd (cfst (csnd (csnd (cfst (cfst (csnd (csnd (cfst (cfst (csnd (cfst (csnd (csnd (csnd B88))))))))))))))))) (sort_counter_data_b1_kn L q1 x11 v5_13 v34_14 x16_0 x16_1 s) (sort_counter_data_b1_ls L q1 x11 v5_13 v34_14 x16_0 x16_1 s) ((fun s => s.1) s) (lpS Tryd.prog ne m E Tryd.f88.ntmps (sort_counter_data_b1_kn L q1 x11 v5_13 v34_14 x16_0 x16_1) (sort_counter_data_b1_ls L q1 x11 v5_13 v34_14 x16_0 x16_1) (fun s => s.1) 2 (fun r => RT Tryd.prog ne m E Tryd.f88 (sort_counter_data_enc r) (sort_counter_data_hp H r)) o) := by
  rintro ⟨H17, v8_18, v41_19⟩ o h
  unfold sort_counter_data_b1 at h
  try dsimp only at h
  refine WS.sq ?_
  refine WS.rg ?_
  refine RS.mS 1 [(42, .val (Value.bool (decide (v41_19 < (x16_1.n : Int)))))] ?_
  refine RS.dn ?_
  refine WS.nxt ?_
  refine WS.sq ?_
  rcases ite_some h with ⟨hp, h⟩ | ⟨hp, h⟩
  · refine WS.fx 42 true (decide_eq_true hp) ?_
    refine WS.cT ?_
    cases h
  · refine WS.fx 42 false (decide_eq_false hp) ?_
    refine WS.cF ?_
    refine WS.ex 2 ?_
    cases h
    exact fun a w hs => sqE (lsB rfl (hs.sb 1))

theorem sort_counter_data_b0_ok {ne : NE} {E : Ent} {m : Nat} {H : AH} {L : LC} {q1 : Addr} {x11 : Sl3}  : ∀ s o, sort_counter_data_b0 L q1 x11 s = some o →
    WS Tryd.prog ne m E Tryd.f88.ntmps (cfst (cfst (csnd (cfst (csnd (csnd (csnd B88))))))) (sort_counter_data_b0_kn L q1 x11 s) (sort_counter_data_b0_ls L q1 x11 s) ((fun s => s.1) s) (lpS Tryd.prog ne m E Tryd.f88.ntmps (sort_counter_data_b0_kn L q1 x11) (sort_counter_data_b0_ls L q1 x11) (fun s => s.1) 0 (fun r => RT Tryd.prog ne m E Tryd.f88 (sort_counter_data_enc r) (sort_counter_data_hp H r)) o) := by
  rintro ⟨H12, v5_13, v34_14⟩ o h
  unfold sort_counter_data_b0 at h
  try dsimp only at h
  refine WS.sq ?_
  refine WS.rg ?_
  refine RS.mS 1 [(35, .val (Value.bool (decide (v34_14 < (x11.n : Int)))))] ?_
  refine RS.dn ?_
  refine WS.nxt ?_
  refine WS.sq ?_
  rcases ite_some h with ⟨hp, h⟩ | ⟨hp, h⟩
  · refine WS.fx 35 true (decide_eq_true hp) ?_
    refine WS.cT ?_
    refine WS.sk ?_
    refine WS.nxt ?_
    refine WS.sq ?_
    refine WS.bk 1 ?_
    refine WS.sq ?_
    refine WS.rg ?_
    obtain ⟨p15, hx, h⟩ := bind_some h
    refine RS.o (H' := H12) (some 36) (Value.pointer (some p15)) (Abs.run_idx (s := x11) (k := .i64) (t := 44) (e := 50) (x := .tmp 32) (y := .tmp 34) (by kernel_rfl) (by kernel_rfl) (by kernel_rfl) (by kernel_rfl) (by kernel_rfl) hx) ?_
    obtain ⟨x16_0, hx0, h⟩ := bind_some h
    obtain ⟨x16_1, hx1, h⟩ := bind_some h
    refine RS.o (H' := H12) (some 37) (Value.agg #[(Value.string x16_0), (Sl3.v x16_1)]) (Abs.run_loadAg (t := 50) (x := .tmp 36) (a := p15) (k := 2) (by kernel_rfl) (by kernel_rfl) (by kernel_rfl) (by kernel_rfl) (rdc_cons (rd_cell hx0 deS_inv) (rdc_cons (rd_cell hx1 deSl_inv) rdc_nil))) ?_
    refine RS.mL 2 [(7, .loc 0 0)] ([some (50, [(Value.string x16_0), (Sl3.v x16_1)])]) ?_
    refine RS.dn ?_
    refine WS.nxt ?_
    refine WS.sq ?_
    refine WS.rg ?_
    refine RS.mS 1 [(8, .val (Value.int .i64 1))] ?_
    refine RS.dn ?_
    refine WS.nxt ?_
    refine WS.sq ?_
    refine WS.sq ?_
    refine WS.rg ?_
    refine RS.mS 4 [(41, .val (Value.int .i64 0)), (40, .val (Value.int .i64 (x16_1.n : Int))), (39, .val (Sl3.v x16_1)), (38, .loc 0 1)] ?_
    refine RS.dn ?_
    refine WS.nxt ?_
    refine WS.bk 2 ?_
    obtain ⟨o, hl, h⟩ := bind_some h
    rcases o with ⟨H20, v8_21, v41_22⟩ | r
    · try dsimp only at h
      refine WS.lI (sort_counter_data_b1_ok (ne := ne) (L := L) (E := E) (m := m) (H := H)) (L.ok hl) 1 ?_
      clear hl
      refine fun a w hs => bkE ((WS.nxt ?_ a w hs))
      refine WS.sq ?_
      refine WS.sq ?_
      refine WS.rg ?_
      refine RS.mS 3 [(55, .val (Value.bool (decide (v8_21 = 0)))), (54, .val (Value.bool (decide (v8_21 = 0)))), (53, .val (Value.int .i64 v8_21))] ?_
      rcases ite_some h with ⟨hp, h⟩ | ⟨hp, h⟩
      · refine RS.fx 55 true (decide_eq_true hp) ?_
        cases h
      · refine RS.fx 55 false (decide_eq_false hp) ?_
        refine RS.mS 4 [(59, .val (Value.pointer (some (Addr.add q1 1)))), (58, .val (Value.pointer (some q1))), (57, .val (Value.pointer (some q1))), (56, .val (Value.int .i64 v5_13))] ?_
        obtain ⟨x23, hx, h⟩ := bind_some h
        refine RS.o (H' := H20) (some 60) (Value.int .i64 x23) (Abs.run_load (t := 3) (x := .tmp 59) (a := (Addr.add q1 1)) (by kernel_rfl) (by kernel_rfl) (by kernel_rfl) (rd_cell hx deI_inv)) ?_
        refine RS.mS 4 [(64, .val (Value.bool (decide (v5_13 > (IntKind.i64.wrap (x23 - v8_21)))))), (63, .val (Value.bool (decide (v5_13 > (IntKind.i64.wrap (x23 - v8_21)))))), (62, .val (Value.int .i64 (IntKind.i64.wrap (x23 - v8_21)))), (61, .val (Value.int .i64 v8_21))] ?_
        refine RS.dn ?_
        refine WS.nxt ?_
        rcases ite_some h with ⟨hp, h⟩ | ⟨hp, h⟩
        · refine WS.fx 64 true (decide_eq_true hp) ?_
          refine WS.cT ?_
          cases h
        · refine WS.fx 64 false (decide_eq_false hp) ?_
          refine WS.cF ?_
          refine WS.sk ?_
          refine WS.nxt ?_
          refine WS.rg ?_
          refine RS.mS 4 [(5, .val (Value.int .i64 (IntKind.i64.wrap (v5_13 + v8_21)))), (67, .val (Value.int .i64 (IntKind.i64.wrap (v5_13 + v8_21)))), (66, .val (Value.int .i64 v8_21)), (65, .val (Value.int .i64 v5_13))] ?_
          refine RS.dn ?_
          refine fun a w hs => bkN ((WS.nxt ?_ a w hs))
          refine WS.rg ?_
          refine RS.mS 2 [(34, .val (Value.int .i64 (IntKind.i64.wrap (v34_14 + 1)))), (68, .val (Value.int .i64 (IntKind.i64.wrap (v34_14 + 1))))] ?_
          refine RS.dn ?_
          cases h
          exact fun a w hs => lsN rfl (hs.sb 0)
    · try dsimp only at h
      refine WS.lR (sort_counter_data_b1_ok (ne := ne) (L := L) (E := E) (m := m) (H := H)) (L.ok hl) 1 ?_
      cases h
      exact fun a w hq => bkR (sqR (bkR (sqR (lsR rfl hq))))
  · refine WS.fx 35 false (decide_eq_false hp) ?_
    refine WS.cF ?_
    refine WS.ex 0 ?_
    cases h
    exact fun a w hs => sqE (lsB rfl (hs.sb 0))

theorem sort_counter_data_body_ok {L : LC} {ne : NE} {m : Nat} {H : AH} {a0 : Option Addr} {a1 : Int} {r : (Int × AH)} (h : sort_counter_data_body L m H a0 a1 = some r) :
    CallS Tryd.prog ne m 88 #[(Value.pointer a0), (Value.int .i64 a1)] H (sort_counter_data_enc r) (sort_counter_data_hp H r) := by
  refine CallS.mk (args := [(Value.pointer a0), (Value.int .i64 a1)]) Tryd.func88 (B := B88) (by kernel_rfl) (fun E _ => ?_)
  unfold sort_counter_data_body at h
  refine WS.sq ?_
  refine WS.rg ?_
  refine RS.mS 1 [(4, .val (Value.int .i64 0))] ?_
  refine RS.dn ?_
  refine WS.nxt ?_
  refine WS.sq ?_
  refine WS.sq ?_
  refine WS.rg ?_
  refine RS.mS 1 [(11, .val (Value.pointer a0))] ?_
  obtain ⟨q1, hx, hq1⟩ := bind_some h
  subst hx
  have h := hq1
  refine RS.mS 2 [(13, .val (Value.pointer (some (Addr.add q1 2)))), (12, .val (Value.pointer (some q1)))] ?_
  obtain ⟨x2, hx, h⟩ := bind_some h
  refine RS.o (H' := H) (some 14) (Sl3.v x2) (Abs.run_load (t := 76) (x := .tmp 13) (a := (Addr.add q1 2)) (by kernel_rfl) (by kernel_rfl) (by kernel_rfl) (rd_cell hx deSl_inv)) ?_
  refine RS.mS 1 [(15, .val (Value.int .i64 a1))] ?_
  obtain ⟨p3, hx, h⟩ := bind_some h
  refine RS.o (H' := H) (some 16) (Value.pointer (some p3)) (Abs.run_idx (s := x2) (k := .i64) (t := 76) (e := 56) (x := .tmp 14) (y := .tmp 15) (by kernel_rfl) (by kernel_rfl) (by kernel_rfl) (by kernel_rfl) (by kernel_rfl) hx) ?_
  obtain ⟨x4, hx, h⟩ := bind_some h
  refine RS.o (H' := H) (some 17) (Sl3.v x4) (Abs.run_load (t := 56) (x := .tmp 16) (a := p3) (by kernel_rfl) (by kernel_rfl) (by kernel_rfl) (rd_cell hx deSl_inv)) ?_
  refine RS.mS 1 [(18, .val (Value.int .i64 a1))] ?_
  obtain ⟨p5, hx, h⟩ := bind_some h
  refine RS.o (H' := H) (some 19) (Value.pointer (some p5)) (Abs.run_idx (s := x4) (k := .i64) (t := 56) (e := 4) (x := .tmp 17) (y := .tmp 18) (by kernel_rfl) (by kernel_rfl) (by kernel_rfl) (by kernel_rfl) (by kernel_rfl) hx) ?_
  obtain ⟨x6, hx, h⟩ := bind_some h
  refine RS.o (H' := H) (some 20) (Value.bool x6) (Abs.run_load (t := 4) (x := .tmp 19) (a := p5) (by kernel_rfl) (by kernel_rfl) (by kernel_rfl) (rd_cell hx deB_inv)) ?_
  refine RS.dn ?_
  refine WS.nxt ?_
  rcases ite_some h with ⟨hp, h⟩ | ⟨hp, h⟩
  · refine WS.fx 20 true hp ?_
    refine WS.cT ?_
    cases h
  · refine WS.fx 20 false (b_not hp) ?_
    refine WS.cF ?_
    refine WS.sk ?_
    refine WS.nxt ?_
    refine WS.sq ?_
    refine WS.rg ?_
    refine RS.mS 1 [(5, .val (Value.int .i64 0))] ?_
    refine RS.dn ?_
    refine WS.nxt ?_
    refine WS.sq ?_
    refine WS.sq ?_
    refine WS.rg ?_
    refine RS.mS 3 [(23, .val (Value.pointer (some (Addr.add q1 0)))), (22, .val (Value.pointer (some q1))), (21, .val (Value.pointer (some q1)))] ?_
    obtain ⟨x7, hx, h⟩ := bind_some h
    refine RS.o (H' := H) (some 24) (Value.pointer x7) (Abs.run_load (t := 66) (x := .tmp 23) (a := (Addr.add q1 0)) (by kernel_rfl) (by kernel_rfl) (by kernel_rfl) (rd_cell hx deP_inv)) ?_
    obtain ⟨q8, hx, hq8⟩ := bind_some h
    subst hx
    have h := hq8
    refine RS.mS 3 [(27, .val (Value.pointer (some (Addr.add (Addr.add q8 0) 1)))), (26, .val (Value.pointer (some (Addr.add q8 0)))), (25, .val (Value.pointer (some q8)))] ?_
    obtain ⟨x9, hx, h⟩ := bind_some h
    refine RS.o (H' := H) (some 28) (Sl3.v x9) (Abs.run_load (t := 30) (x := .tmp 27) (a := (Addr.add (Addr.add q8 0) 1)) (by kernel_rfl) (by kernel_rfl) (by kernel_rfl) (rd_cell hx deSl_inv)) ?_
    refine RS.mS 1 [(29, .val (Value.int .i64 a1))] ?_
    obtain ⟨p10, hx, h⟩ := bind_some h
    refine RS.o (H' := H) (some 30) (Value.pointer (some p10)) (Abs.run_idx (s := x9) (k := .i64) (t := 30) (e := 46) (x := .tmp 28) (y := .tmp 29) (by kernel_rfl) (by kernel_rfl) (by kernel_rfl) (by kernel_rfl) (by kernel_rfl) hx) ?_
    refine RS.mS 1 [(31, .val (Value.pointer (some (Addr.add p10 1))))] ?_
    obtain ⟨x11, hx, h⟩ := bind_some h
    refine RS.o (H' := H) (some 32) (Sl3.v x11) (Abs.run_load (t := 44) (x := .tmp 31) (a := (Addr.add p10 1)) (by kernel_rfl) (by kernel_rfl) (by kernel_rfl) (rd_cell hx deSl_inv)) ?_
    refine RS.mS 2 [(34, .val (Value.int .i64 0)), (33, .val (Value.int .i64 (x11.n : Int)))] ?_
    refine RS.dn ?_
    refine WS.nxt ?_
    refine WS.bk 0 ?_
    obtain ⟨o, hl, h⟩ := bind_some h
    rcases o with ⟨H24, v5_25, v34_26⟩ | r
    · try dsimp only at h
      refine WS.lI (sort_counter_data_b0_ok (ne := ne) (L := L) (E := E) (m := m) (H := H)) (L.ok hl) 0 ?_
      clear hl
      refine fun a w hs => bkE ((WS.nxt ?_ a w hs))
      refine WS.sq ?_
      refine WS.rg ?_
      refine RS.mS 2 [(4, .val (Value.int .i64 v5_25)), (69, .val (Value.int .i64 v5_25))] ?_
      refine RS.dn ?_
      refine WS.nxt ?_
      refine WS.rt ?_
      cases h
      exact fun a w hs => rtR (rS hs)
    · try dsimp only at h
      refine WS.lR (sort_counter_data_b0_ok (ne := ne) (L := L) (E := E) (m := m) (H := H)) (L.ok hl) 0 ?_
      cases h
      exact fun a w hq => bkR (sqR (rtR hq))

theorem fam_sort_counter_sort_ok {L : LC} {ne : NE} : ∀ n, (∀ (m : Nat) (H : AH) (a0 : Option Addr) (a1_0 : Int) (a1_1 : Int) (a1_2 : ByteArray) (a1_3 : Sl3) (r : (Int × AH)), ((fam_sort_counter_sort L n).1) m H a0 a1_0 a1_1 a1_2 a1_3 = some r → CallS Tryd.prog ne m 55 #[(Value.pointer a0), (Value.agg #[(Value.int .i64 a1_0), (Value.int .i64 a1_1), (Value.string a1_2), (Sl3.v a1_3)])] H (sort_counter_sort_enc r) (sort_counter_sort_hp H r)) ∧ (∀ (m : Nat) (H : AH) (a0 : Option Addr) (a1 : Int) (r : (Int × AH)), ((fam_sort_counter_sort L n).2) m H a0 a1 = some r → CallS Tryd.prog ne m 88 #[(Value.pointer a0), (Value.int .i64 a1)] H (sort_counter_data_enc r) (sort_counter_data_hp H r)) := by
  intro n
  induction n with
  | zero => exact ⟨(fun _ _ _ _ _ _ _ _ h => (Option.some_ne_none _ h.symm).elim), (fun _ _ _ _ _ h => (Option.some_ne_none _ h.symm).elim)⟩
  | succ n ih => exact ⟨(fun _ _ _ _ _ _ _ _ h => sort_counter_sort_body_ok (L := L) ih.2 h), (fun _ _ _ _ _ h => sort_counter_data_body_ok (L := L)  h)⟩

theorem sort_counter_sort_ok {L : LC} {ne : NE} {m : Nat} {H : AH} {a0 : Option Addr} {a1_0 : Int} {a1_1 : Int} {a1_2 : ByteArray} {a1_3 : Sl3} {r : (Int × AH)} (h : sort_counter_sort L m H a0 a1_0 a1_1 a1_2 a1_3 = some r) :
    CallS Tryd.prog ne m 55 #[(Value.pointer a0), (Value.agg #[(Value.int .i64 a1_0), (Value.int .i64 a1_1), (Value.string a1_2), (Sl3.v a1_3)])] H (sort_counter_sort_enc r) (sort_counter_sort_hp H r) :=
  ((fam_sort_counter_sort_ok _).1) _ _ _ _ _ _ _ _ h

def sort_Count_enc : (Int × Bool × AH) → Value
  | (r0, r1, _) => (Value.tuple #[(Value.int .i64 r0), (Value.bool r1)])

def sort_Count_hp (_ : AH) : (Int × Bool × AH) → AH := fun r => r.2.2

noncomputable def B22 : Code := (Tryd.f22.body).getD .skip

noncomputable def sort_Count (L : LC) (m : Nat) (H : AH) (a0_0 : Int) (a0_1 : Int) (a0_2 : ByteArray) (a0_3 : Sl3) (a1_0 : Sl3) (a1_1 : Sl3) (a1_2 : Sl3) (a2 : Int) : Option (Int × Bool × AH) :=
  if a2 < 1 then
    none
  else
    Option.bind (sort_CheckSig L m H a1_0 a1_1 a1_2) fun (x1, H2) =>
    if x1 = 0 then
      Option.bind (sort_Check L m H2 a0_0 a0_1 a0_2 a0_3 a1_0 a1_1 a1_2) fun (x3, H4) =>
      if x3 = 0 then
        Option.bind (sort_counting L (Nat.max m H4.next) H4 a1_0 a1_1 a1_2 a2) fun (x5, H6) =>
        Option.bind (sort_counter_sort L m H6 x5 a0_0 a0_1 a0_2 a0_3) fun (x7, H8) =>
        some (x7, (decide (x7 > 0)), H8)
      else
        none
    else
      none

theorem sort_Count_ok {L : LC} {ne : NE} {m : Nat} {H : AH} {a0_0 : Int} {a0_1 : Int} {a0_2 : ByteArray} {a0_3 : Sl3} {a1_0 : Sl3} {a1_1 : Sl3} {a1_2 : Sl3} {a2 : Int} {r : (Int × Bool × AH)} (h : sort_Count L m H a0_0 a0_1 a0_2 a0_3 a1_0 a1_1 a1_2 a2 = some r) :
    CallS Tryd.prog ne m 22 #[(Value.agg #[(Value.int .i64 a0_0), (Value.int .i64 a0_1), (Value.string a0_2), (Sl3.v a0_3)]), (Value.agg #[(Sl3.v a1_0), (Sl3.v a1_1), (Sl3.v a1_2)]), (Value.int .i64 a2)] H (sort_Count_enc r) (sort_Count_hp H r) := by
  refine CallS.mk (args := [(Value.agg #[(Value.int .i64 a0_0), (Value.int .i64 a0_1), (Value.string a0_2), (Sl3.v a0_3)]), (Value.agg #[(Sl3.v a1_0), (Sl3.v a1_1), (Sl3.v a1_2)]), (Value.int .i64 a2)]) Tryd.func22 (B := B22) (by kernel_rfl) (fun E _ => ?_)
  unfold sort_Count at h
  refine WS.sq ?_
  refine WS.rg ?_
  refine RS.mL 4 [(7, .val (Value.bool false)), (6, .val (Value.int .i64 0)), (4, .loc 1 0), (3, .loc 0 0)] ([some (28, [(Value.int .i64 a0_0), (Value.int .i64 a0_1), (Value.string a0_2), (Sl3.v a0_3)]), some (33, [(Sl3.v a1_0), (Sl3.v a1_1), (Sl3.v a1_2)])]) ?_
  refine RS.dn ?_
  refine WS.nxt ?_
  refine WS.sq ?_
  refine WS.sq ?_
  refine WS.rg ?_
  refine RS.mS 3 [(11, .val (Value.bool (decide (a2 < 1)))), (10, .val (Value.bool (decide (a2 < 1)))), (9, .val (Value.int .i64 a2))] ?_
  rcases ite_some h with ⟨hp, h⟩ | ⟨hp, h⟩
  · refine RS.fx 11 true (decide_eq_true hp) ?_
    cases h
  · refine RS.fx 11 false (decide_eq_false hp) ?_
    refine RS.mS 1 [(12, .val (Value.agg #[(Sl3.v a1_0), (Sl3.v a1_1), (Sl3.v a1_2)]))] ?_
    obtain ⟨⟨x1, H2⟩, hx, h⟩ := bind_some h
    try dsimp only at h
    refine RS.cl (some 13) (v := (Value.int .i64 x1)) 20 #[(Value.agg #[(Sl3.v a1_0), (Sl3.v a1_1), (Sl3.v a1_2)])] (sort_CheckSig_ok hx) ?_
    refine RS.mS 3 [(16, .val (Value.bool (!decide (x1 = 0)))), (15, .val (Value.bool (!decide (x1 = 0)))), (14, .val (Value.bool (!decide (x1 = 0))))] ?_
    rcases ite_some h with ⟨hp, h⟩ | ⟨hp, h⟩
    · refine RS.fx 16 false (dec_not hp) ?_
      refine RS.mS 2 [(18, .val (Value.agg #[(Sl3.v a1_0), (Sl3.v a1_1), (Sl3.v a1_2)])), (17, .val (Value.agg #[(Value.int .i64 a0_0), (Value.int .i64 a0_1), (Value.string a0_2), (Sl3.v a0_3)]))] ?_
      obtain ⟨⟨x3, H4⟩, hx, h⟩ := bind_some h
      try dsimp only at h
      refine RS.cl (some 19) (v := (Value.int .i64 x3)) 18 #[(Value.agg #[(Value.int .i64 a0_0), (Value.int .i64 a0_1), (Value.string a0_2), (Sl3.v a0_3)]), (Value.agg #[(Sl3.v a1_0), (Sl3.v a1_1), (Sl3.v a1_2)])] (sort_Check_ok hx) ?_
      refine RS.mS 2 [(21, .val (Value.bool (!decide (x3 = 0)))), (20, .val (Value.bool (!decide (x3 = 0))))] ?_
      refine RS.dn ?_
      refine WS.nxt ?_
      rcases ite_some h with ⟨hp, h⟩ | ⟨hp, h⟩
      · refine WS.fx 21 false (dec_not hp) ?_
        refine WS.cF ?_
        refine WS.sk ?_
        refine WS.nxt ?_
        refine WS.sq ?_
        refine WS.dr [0, 3] [0, 0, 3, 0, 15, 31] 6 (fun hcl => ?_)
        refine DA.tL 0 (some 22) (.val (Value.agg #[(Sl3.v a1_0), (Sl3.v a1_1), (Sl3.v a1_2)])) ?_
        refine DA.tL 3 (some 25) (.val (Value.agg #[(Value.int .i64 a0_0), (Value.int .i64 a0_1), (Value.string a0_2), (Sl3.v a0_3)])) ?_
        refine DA.tP 1 (some 23) (Value.int .i64 a2) ?_
        obtain ⟨⟨x5, H6⟩, hx, h⟩ := bind_some h
        try dsimp only at h
        refine DA.on 2 ?_
        refine DA.aCk 2 (some 24) false (v := (Value.pointer x5)) 54 #[(Value.agg #[(Sl3.v a1_0), (Sl3.v a1_1), (Sl3.v a1_2)]), (Value.int .i64 a2)] (sort_counting_ok hx) ?_
        obtain ⟨⟨x7, H8⟩, hx, h⟩ := bind_some h
        try dsimp only at h
        refine DA.on 4 ?_
        refine DA.aC 4 (some 26) (v := (Value.int .i64 x7)) 55 #[(Value.pointer x5), (Value.agg #[(Value.int .i64 a0_0), (Value.int .i64 a0_1), (Value.string a0_2), (Sl3.v a0_3)])] (sort_counter_sort_ok hx) ?_
        refine DA.tP 5 (some 8) (Value.int .i64 x7) ?_
        refine DA.dn ?_
        refine WS.nxt ?_
        refine WS.sq ?_
        refine WS.rg ?_
        refine RS.mS 5 [(7, .val (Value.bool (decide (x7 > 0)))), (6, .val (Value.int .i64 x7)), (29, .val (Value.bool (decide (x7 > 0)))), (28, .val (Value.int .i64 x7)), (27, .val (Value.int .i64 x7))] ?_
        refine RS.dn ?_
        refine WS.nxt ?_
        refine WS.rt ?_
        cases h
        exact fun a w hs => rtR (rS hs)
      · refine WS.fx 21 true (dec_not' hp) ?_
        refine WS.cT ?_
        cases h
    · refine RS.fx 16 true (dec_not' hp) ?_
      cases h

def sort_ends_sort_enc : (Bool × AH) → Value
  | (r0, _) => (Value.bool r0)

def sort_ends_sort_hp (_ : AH) : (Bool × AH) → AH := fun r => r.2

def sort_ends_data_enc : (Bool × AH) → Value
  | (r0, _) => (Value.bool r0)

def sort_ends_data_hp (_ : AH) : (Bool × AH) → AH := fun r => r.2

noncomputable def B56 : Code := (Tryd.f56.body).getD .skip

noncomputable def sort_ends_sort_body (_L : LC) (rec_sort_ends_data : Nat → AH → (Option Addr) → Int → Option (Bool × AH)) (m : Nat) (H : AH) (a0 : Option Addr) (a1_0 : Int) (_a1_1 : Int) (a1_2 : ByteArray) (_a1_3 : Sl3) : Option (Bool × AH) :=
  if a1_0 = 1 then
    none
  else
    if a1_0 = 3 then
      none
    else
      if a1_0 = 4 then
        none
      else
        if a1_0 = 6 then
          Option.bind a0 fun q1 =>
          Option.bind (rd deP H (Addr.add q1 0)) fun x2 =>
          Option.bind x2 fun q3 =>
          Option.bind (rd deP H (Addr.add q3 0)) fun x4 =>
          Option.bind x4 fun q5 =>
          Option.bind (rd deM H (Addr.add q5 3)) fun x6 =>
          Option.bind (lk1 Tryd.prog 94 (deI .i64) H x6 (Value.agg #[(Value.int .i64 a1_0), (Value.string a1_2)])) fun x7 =>
          Option.bind (rd deM H (Addr.add q1 1)) fun x8 =>
          Option.bind (lkM Tryd.prog 84 deB H x8 (Value.int .i64 x7)) fun (_, b10) =>
          if b10 = true then
            none
          else
            Option.bind (rec_sort_ends_data m H (some q1) x7) fun (x11, H12) =>
            Option.bind (rd deM H12 (Addr.add q1 1)) fun x13 =>
            Option.bind (upM Tryd.prog m 84 H12 x13 (Value.int .i64 x7) (Value.bool x11)) fun H14 =>
            some (x11, H14)
        else
          none

noncomputable def B89 : Code := (Tryd.f89.body).getD .skip

noncomputable def sort_ends_data_body (_L : LC) (_m : Nat) (H : AH) (a0 : Option Addr) (a1 : Int) : Option (Bool × AH) :=
  Option.bind a0 fun q1 =>
  Option.bind (rd deP H (Addr.add q1 0)) fun x2 =>
  Option.bind x2 fun q3 =>
  Option.bind (rd deSl H (Addr.add q3 2)) fun x4 =>
  Option.bind (idxA 1 x4 a1) fun p5 =>
  Option.bind (rd deSl H p5) fun x6 =>
  Option.bind (idxA 1 x6 a1) fun p7 =>
  Option.bind (rd deB H p7) fun x8 =>
  if x8 = true then
    some (false, H)
  else
    none

noncomputable def fam_sort_ends_sort (L : LC) (n : Nat) : (Nat → AH → (Option Addr) → Int → Int → ByteArray → Sl3 → Option (Bool × AH)) × (Nat → AH → (Option Addr) → Int → Option (Bool × AH)) := Nat.rec (motive := fun _ => (Nat → AH → (Option Addr) → Int → Int → ByteArray → Sl3 → Option (Bool × AH)) × (Nat → AH → (Option Addr) → Int → Option (Bool × AH))) ((fun _ _ _ _ _ _ _ => none), (fun _ _ _ _ => none)) (fun _ p => (sort_ends_sort_body L p.2, sort_ends_data_body L)) n

noncomputable def sort_ends_sort (L : LC) (m : Nat) (H : AH) (a0 : Option Addr) (a1_0 : Int) (a1_1 : Int) (a1_2 : ByteArray) (a1_3 : Sl3) : Option (Bool × AH) := ((fam_sort_ends_sort L L.fuel).1) m H a0 a1_0 a1_1 a1_2 a1_3

theorem sort_ends_sort_body_ok {L : LC} {ne : NE} {rec_sort_ends_data : Nat → AH → (Option Addr) → Int → Option (Bool × AH)} (hrec_sort_ends_data : ∀ (m : Nat) (H : AH) (a0 : Option Addr) (a1 : Int) (r : (Bool × AH)), rec_sort_ends_data m H a0 a1 = some r → CallS Tryd.prog ne m 89 #[(Value.pointer a0), (Value.int .i64 a1)] H (sort_ends_data_enc r) (sort_ends_data_hp H r)) {m : Nat} {H : AH} {a0 : Option Addr} {a1_0 : Int} {a1_1 : Int} {a1_2 : ByteArray} {a1_3 : Sl3} {r : (Bool × AH)} (h : sort_ends_sort_body L rec_sort_ends_data m H a0 a1_0 a1_1 a1_2 a1_3 = some r) :
    CallS Tryd.prog ne m 56 #[(Value.pointer a0), (Value.agg #[(Value.int .i64 a1_0), (Value.int .i64 a1_1), (Value.string a1_2), (Sl3.v a1_3)])] H (sort_ends_sort_enc r) (sort_ends_sort_hp H r) := by
  refine CallS.mk (args := [(Value.pointer a0), (Value.agg #[(Value.int .i64 a1_0), (Value.int .i64 a1_1), (Value.string a1_2), (Sl3.v a1_3)])]) Tryd.func56 (B := B56) (by kernel_rfl) (fun E _ => ?_)
  unfold sort_ends_sort_body at h
  refine WS.sq ?_
  refine WS.rg ?_
  refine RS.mL 2 [(4, .val (Value.bool false)), (3, .loc 0 0)] ([some (28, [(Value.int .i64 a1_0), (Value.int .i64 a1_1), (Value.string a1_2), (Sl3.v a1_3)])]) ?_
  refine RS.dn ?_
  refine WS.nxt ?_
  refine WS.sq ?_
  refine WS.sq ?_
  refine WS.rg ?_
  refine RS.mS 2 [(9, .val (Value.int .i64 a1_0)), (8, .loc 0 0)] ?_
  refine RS.dn ?_
  refine WS.nxt ?_
  refine WS.bk 0 ?_
  refine WS.sq ?_
  refine WS.sq ?_
  refine WS.rg ?_
  refine RS.mS 2 [(10, .val (Value.bool (decide (a1_0 = 1)))), (11, .val (Value.bool (decide (a1_0 = 1))))] ?_
  refine RS.dn ?_
  refine WS.nxt ?_
  rcases ite_some h with ⟨hp, h⟩ | ⟨hp, h⟩
  · refine WS.fx 10 true (decide_eq_true hp) ?_
    refine WS.cT ?_
    cases h
  · refine WS.fx 10 false (decide_eq_false hp) ?_
    refine WS.cF ?_
    refine WS.rg ?_
    refine RS.mS 2 [(10, .val (Value.bool (decide (a1_0 = 3)))), (12, .val (Value.bool (decide (a1_0 = 3))))] ?_
    refine RS.dn ?_
    refine WS.nxt ?_
    rcases ite_some h with ⟨hp, h⟩ | ⟨hp, h⟩
    · refine WS.fx 10 true (decide_eq_true hp) ?_
      refine WS.cT ?_
      cases h
    · refine WS.fx 10 false (decide_eq_false hp) ?_
      refine WS.cF ?_
      refine WS.sq ?_
      refine WS.rg ?_
      refine RS.mS 2 [(13, .val (Value.bool (decide (a1_0 = 4)))), (14, .val (Value.bool (decide (a1_0 = 4))))] ?_
      refine RS.dn ?_
      refine WS.nxt ?_
      rcases ite_some h with ⟨hp, h⟩ | ⟨hp, h⟩
      · refine WS.fx 13 true (decide_eq_true hp) ?_
        refine WS.cT ?_
        cases h
      · refine WS.fx 13 false (decide_eq_false hp) ?_
        refine WS.cF ?_
        refine WS.sq ?_
        refine WS.rg ?_
        refine RS.mS 2 [(41, .val (Value.bool (decide (a1_0 = 6)))), (42, .val (Value.bool (decide (a1_0 = 6))))] ?_
        refine RS.dn ?_
        refine WS.nxt ?_
        rcases ite_some h with ⟨hp, h⟩ | ⟨hp, h⟩
        · refine WS.fx 41 true (decide_eq_true hp) ?_
          refine WS.cT ?_
          refine WS.sq ?_
          refine WS.dr [0, 1, 2, 3, 4, 5, 6, 7, 8, 9, 10, 11, 12, 13, 14, 15] [0, 1, 3, 7, 15, 31, 63, 127, 255, 511, 0, 1024, 0, 4096, 15360, 32767, 65535] 17 (fun hcl => ?_)
          refine DA.tK 0 (some 43) (Value.pointer a0) ?_
          obtain ⟨q1, hx, hq1⟩ := bind_some h
          subst hx
          have h := hq1
          refine DA.tK 1 (some 44) (Value.pointer (some q1)) ?_
          refine DA.tK 2 (some 45) (Value.pointer (some (Addr.add q1 0))) ?_
          obtain ⟨x2, hx, h⟩ := bind_some h
          refine DA.tD 3 (some 46) (Value.pointer x2) (Abs.det_load (t := 81) (x := .tmp 45) (a := (Addr.add q1 0)) (by kernel_rfl) (by kernel_rfl) (by kernel_rfl) (by kernel_rfl) (rd_cell hx deP_inv)) ?_
          obtain ⟨q3, hx, hq3⟩ := bind_some h
          subst hx
          have h := hq3
          refine DA.tK 4 (some 47) (Value.pointer (some q3)) ?_
          refine DA.tK 5 (some 48) (Value.pointer (some (Addr.add q3 0))) ?_
          obtain ⟨x4, hx, h⟩ := bind_some h
          refine DA.tD 6 (some 49) (Value.pointer x4) (Abs.det_load (t := 66) (x := .tmp 48) (a := (Addr.add q3 0)) (by kernel_rfl) (by kernel_rfl) (by kernel_rfl) (by kernel_rfl) (rd_cell hx deP_inv)) ?_
          obtain ⟨q5, hx, hq5⟩ := bind_some h
          subst hx
          have h := hq5
          refine DA.tK 7 (some 50) (Value.pointer (some q5)) ?_
          refine DA.tK 8 (some 51) (Value.pointer (some (Addr.add q5 3))) ?_
          obtain ⟨x6, hx, h⟩ := bind_some h
          refine DA.tD 9 (some 52) (Value.map x6) (Abs.det_load (t := 94) (x := .tmp 51) (a := (Addr.add q5 3)) (by kernel_rfl) (by kernel_rfl) (by kernel_rfl) (by kernel_rfl) (rd_cell hx deM_inv)) ?_
          refine DA.tL 10 (some 53) (.loc 0 0) ?_
          refine DA.tL 11 (some 54) (.val (Value.int .i64 a1_0)) ?_
          refine DA.tL 12 (some 55) (.loc 0 2) ?_
          refine DA.tL 13 (some 56) (.val (Value.string a1_2)) ?_
          refine DA.tK 14 (some 57) (Value.agg #[(Value.int .i64 a1_0), (Value.string a1_2)]) ?_
          obtain ⟨x7, hx, h⟩ := bind_some h
          refine DA.tD 15 (some 58) (Value.int .i64 x7) (Abs.det_look (t := 94) (x := .tmp 52) (y := .tmp 57) (mm := x6) (k := (Value.agg #[(Value.int .i64 a1_0), (Value.string a1_2)])) (by kernel_rfl) (by kernel_rfl) (by kernel_rfl) (by kernel_rfl) (lk1_eq hx deI_inv)) ?_
          refine DA.tP 16 (some 5) (Value.int .i64 x7) ?_
          refine DA.dn ?_
          refine WS.nxt ?_
          refine WS.sq ?_
          refine WS.rg ?_
          refine RS.mS 3 [(62, .val (Value.pointer (some (Addr.add q1 1)))), (61, .val (Value.pointer (some q1))), (60, .val (Value.pointer (some q1)))] ?_
          obtain ⟨x8, hx, h⟩ := bind_some h
          refine RS.o (H' := H) (some 63) (Value.map x8) (Abs.run_load (t := 84) (x := .tmp 62) (a := (Addr.add q1 1)) (by kernel_rfl) (by kernel_rfl) (by kernel_rfl) (rd_cell hx deM_inv)) ?_
          refine RS.mS 1 [(64, .val (Value.int .i64 x7))] ?_
          obtain ⟨⟨x9, b10⟩, hx, h⟩ := bind_some h
          try dsimp only at h
          refine RS.o (H' := H) (some 65) (Value.tuple #[(Value.bool x9), (Value.bool b10)]) (Abs.run_look (t := 84) (x := .tmp 63) (y := .tmp 64) (mm := x8) (k := (Value.int .i64 x7)) (by kernel_rfl) (by kernel_rfl) (by kernel_rfl) (by kernel_rfl) (lkM_eq hx deB_inv)) ?_
          refine RS.mS 5 [(7, .val (Value.bool b10)), (6, .val (Value.bool x9)), (67, .val (Value.bool b10)), (66, .val (Value.bool x9)), (59, .val (Value.tuple #[(Value.bool x9), (Value.bool b10)]))] ?_
          refine RS.dn ?_
          refine WS.nxt ?_
          refine WS.sq ?_
          refine WS.sq ?_
          refine WS.rg ?_
          refine RS.mS 2 [(69, .val (Value.bool (!b10))), (68, .val (Value.bool b10))] ?_
          refine RS.dn ?_
          refine WS.nxt ?_
          rcases ite_some h with ⟨hp, h⟩ | ⟨hp, h⟩
          · refine WS.fx 69 false (nb_not hp) ?_
            refine WS.cF ?_
            cases h
          · refine WS.fx 69 true (nb_not' hp) ?_
            refine WS.cT ?_
            refine WS.sq ?_
            refine WS.rg ?_
            refine RS.mS 2 [(71, .val (Value.int .i64 x7)), (70, .val (Value.pointer (some q1)))] ?_
            obtain ⟨⟨x11, H12⟩, hx, h⟩ := bind_some h
            try dsimp only at h
            refine RS.cl (some 72) (v := (Value.bool x11)) 89 #[(Value.pointer (some q1)), (Value.int .i64 x7)] (hrec_sort_ends_data _ _ _ _ _ hx) ?_
            refine RS.mS 1 [(6, .val (Value.bool x11))] ?_
            refine RS.dn ?_
            refine WS.nxt ?_
            refine WS.rg ?_
            refine RS.mS 3 [(75, .val (Value.pointer (some (Addr.add q1 1)))), (74, .val (Value.pointer (some q1))), (73, .val (Value.pointer (some q1)))] ?_
            obtain ⟨x13, hx, h⟩ := bind_some h
            refine RS.o (H' := H12) (some 76) (Value.map x13) (Abs.run_load (t := 84) (x := .tmp 75) (a := (Addr.add q1 1)) (by kernel_rfl) (by kernel_rfl) (by kernel_rfl) (rd_cell hx deM_inv)) ?_
            refine RS.mS 2 [(78, .val (Value.bool x11)), (77, .val (Value.int .i64 x7))] ?_
            obtain ⟨H14, hx, h⟩ := bind_some h
            refine RS.o (H' := H14) none undef (Abs.run_upM (t := 84) (x := .tmp 76) (y := .tmp 77) (z := .tmp 78) (mm := x13) (k := (Value.int .i64 x7)) (v := (Value.bool x11)) (by kernel_rfl) (by kernel_rfl) (by kernel_rfl) (by kernel_rfl) (by kernel_rfl) hx) ?_
            refine RS.dn ?_
            refine WS.nxt ?_
            refine WS.sq ?_
            refine WS.rg ?_
            refine RS.mS 2 [(4, .val (Value.bool x11)), (79, .val (Value.bool x11))] ?_
            refine RS.dn ?_
            refine WS.nxt ?_
            refine WS.rt ?_
            cases h
            exact fun a w hs => bkR (sqR (rtR (rS hs)))
        · refine WS.fx 41 false (decide_eq_false hp) ?_
          refine WS.cF ?_
          cases h

theorem sort_ends_data_body_ok {L : LC} {ne : NE} {m : Nat} {H : AH} {a0 : Option Addr} {a1 : Int} {r : (Bool × AH)} (h : sort_ends_data_body L m H a0 a1 = some r) :
    CallS Tryd.prog ne m 89 #[(Value.pointer a0), (Value.int .i64 a1)] H (sort_ends_data_enc r) (sort_ends_data_hp H r) := by
  refine CallS.mk (args := [(Value.pointer a0), (Value.int .i64 a1)]) Tryd.func89 (B := B89) (by kernel_rfl) (fun E _ => ?_)
  unfold sort_ends_data_body at h
  refine WS.sq ?_
  refine WS.rg ?_
  refine RS.mS 1 [(4, .val (Value.bool false))] ?_
  refine RS.dn ?_
  refine WS.nxt ?_
  refine WS.sq ?_
  refine WS.sq ?_
  refine WS.rg ?_
  refine RS.mS 1 [(9, .val (Value.pointer a0))] ?_
  obtain ⟨q1, hx, hq1⟩ := bind_some h
  subst hx
  have h := hq1
  refine RS.mS 2 [(11, .val (Value.pointer (some (Addr.add q1 0)))), (10, .val (Value.pointer (some q1)))] ?_
  obtain ⟨x2, hx, h⟩ := bind_some h
  refine RS.o (H' := H) (some 12) (Value.pointer x2) (Abs.run_load (t := 81) (x := .tmp 11) (a := (Addr.add q1 0)) (by kernel_rfl) (by kernel_rfl) (by kernel_rfl) (rd_cell hx deP_inv)) ?_
  obtain ⟨q3, hx, hq3⟩ := bind_some h
  subst hx
  have h := hq3
  refine RS.mS 2 [(14, .val (Value.pointer (some (Addr.add q3 2)))), (13, .val (Value.pointer (some q3)))] ?_
  obtain ⟨x4, hx, h⟩ := bind_some h
  refine RS.o (H' := H) (some 15) (Sl3.v x4) (Abs.run_load (t := 76) (x := .tmp 14) (a := (Addr.add q3 2)) (by kernel_rfl) (by kernel_rfl) (by kernel_rfl) (rd_cell hx deSl_inv)) ?_
  refine RS.mS 1 [(16, .val (Value.int .i64 a1))] ?_
  obtain ⟨p5, hx, h⟩ := bind_some h
  refine RS.o (H' := H) (some 17) (Value.pointer (some p5)) (Abs.run_idx (s := x4) (k := .i64) (t := 76) (e := 56) (x := .tmp 15) (y := .tmp 16) (by kernel_rfl) (by kernel_rfl) (by kernel_rfl) (by kernel_rfl) (by kernel_rfl) hx) ?_
  obtain ⟨x6, hx, h⟩ := bind_some h
  refine RS.o (H' := H) (some 18) (Sl3.v x6) (Abs.run_load (t := 56) (x := .tmp 17) (a := p5) (by kernel_rfl) (by kernel_rfl) (by kernel_rfl) (rd_cell hx deSl_inv)) ?_
  refine RS.mS 1 [(19, .val (Value.int .i64 a1))] ?_
  obtain ⟨p7, hx, h⟩ := bind_some h
  refine RS.o (H' := H) (some 20) (Value.pointer (some p7)) (Abs.run_idx (s := x6) (k := .i64) (t := 56) (e := 4) (x := .tmp 18) (y := .tmp 19) (by kernel_rfl) (by kernel_rfl) (by kernel_rfl) (by kernel_rfl) (by kernel_rfl) hx) ?_
  obtain ⟨x8, hx, h⟩ := bind_some h
  refine RS.o (H' := H) (some 21) (Value.bool x8) (Abs.run_load (t := 4) (x := .tmp 20) (a := p7) (by kernel_rfl) (by kernel_rfl) (by kernel_rfl) (rd_cell hx deB_inv)) ?_
  refine RS.dn ?_
  refine WS.nxt ?_
  rcases ite_some h with ⟨hp, h⟩ | ⟨hp, h⟩
  · refine WS.fx 21 true hp ?_
    refine WS.cT ?_
    refine WS.sq ?_
    refine WS.rg ?_
    refine RS.mS 1 [(4, .val (Value.bool false))] ?_
    refine RS.dn ?_
    refine WS.nxt ?_
    refine WS.rt ?_
    cases h
    exact fun a w hs => sqR (rtR (rS hs))
  · refine WS.fx 21 false (b_not hp) ?_
    refine WS.cF ?_
    cases h

theorem fam_sort_ends_sort_ok {L : LC} {ne : NE} : ∀ n, (∀ (m : Nat) (H : AH) (a0 : Option Addr) (a1_0 : Int) (a1_1 : Int) (a1_2 : ByteArray) (a1_3 : Sl3) (r : (Bool × AH)), ((fam_sort_ends_sort L n).1) m H a0 a1_0 a1_1 a1_2 a1_3 = some r → CallS Tryd.prog ne m 56 #[(Value.pointer a0), (Value.agg #[(Value.int .i64 a1_0), (Value.int .i64 a1_1), (Value.string a1_2), (Sl3.v a1_3)])] H (sort_ends_sort_enc r) (sort_ends_sort_hp H r)) ∧ (∀ (m : Nat) (H : AH) (a0 : Option Addr) (a1 : Int) (r : (Bool × AH)), ((fam_sort_ends_sort L n).2) m H a0 a1 = some r → CallS Tryd.prog ne m 89 #[(Value.pointer a0), (Value.int .i64 a1)] H (sort_ends_data_enc r) (sort_ends_data_hp H r)) := by
  intro n
  induction n with
  | zero => exact ⟨(fun _ _ _ _ _ _ _ _ h => (Option.some_ne_none _ h.symm).elim), (fun _ _ _ _ _ h => (Option.some_ne_none _ h.symm).elim)⟩
  | succ n ih => exact ⟨(fun _ _ _ _ _ _ _ _ h => sort_ends_sort_body_ok (L := L) ih.2 h), (fun _ _ _ _ _ h => sort_ends_data_body_ok (L := L)  h)⟩

theorem sort_ends_sort_ok {L : LC} {ne : NE} {m : Nat} {H : AH} {a0 : Option Addr} {a1_0 : Int} {a1_1 : Int} {a1_2 : ByteArray} {a1_3 : Sl3} {r : (Bool × AH)} (h : sort_ends_sort L m H a0 a1_0 a1_1 a1_2 a1_3 = some r) :
    CallS Tryd.prog ne m 56 #[(Value.pointer a0), (Value.agg #[(Value.int .i64 a1_0), (Value.int .i64 a1_1), (Value.string a1_2), (Sl3.v a1_3)])] H (sort_ends_sort_enc r) (sort_ends_sort_hp H r) :=
  ((fam_sort_ends_sort_ok _).1) _ _ _ _ _ _ _ _ h

def sort_Finite_enc : (Bool × AH) → Value
  | (r0, _) => (Value.bool r0)

def sort_Finite_hp (_ : AH) : (Bool × AH) → AH := fun r => r.2

noncomputable def B23 : Code := (Tryd.f23.body).getD .skip

noncomputable def sort_Finite (L : LC) (m : Nat) (H : AH) (a0_0 : Int) (a0_1 : Int) (a0_2 : ByteArray) (a0_3 : Sl3) (a1_0 : Sl3) (a1_1 : Sl3) (a1_2 : Sl3) : Option (Bool × AH) :=
  Option.bind (sort_CheckSig L m H a1_0 a1_1 a1_2) fun (x1, H2) =>
  if x1 = 0 then
    Option.bind (sort_Check L m H2 a0_0 a0_1 a0_2 a0_3 a1_0 a1_1 a1_2) fun (x3, H4) =>
    if x3 = 0 then
      Option.bind (sort_counting L m H4 a1_0 a1_1 a1_2 1) fun (x5, H6) =>
      Option.bind (newM H6) fun (p7, H8) =>
      Option.bind (newB 86 [(Value.pointer x5), (Value.map (some p7))] H8) fun (p9, H10) =>
      Option.bind (sort_ends_sort L m H10 (some p9) a0_0 a0_1 a0_2 a0_3) fun (x11, H12) =>
      some (x11, H12)
    else
      none
  else
    none

theorem sort_Finite_ok {L : LC} {ne : NE} {m : Nat} {H : AH} {a0_0 : Int} {a0_1 : Int} {a0_2 : ByteArray} {a0_3 : Sl3} {a1_0 : Sl3} {a1_1 : Sl3} {a1_2 : Sl3} {r : (Bool × AH)} (h : sort_Finite L m H a0_0 a0_1 a0_2 a0_3 a1_0 a1_1 a1_2 = some r) :
    CallS Tryd.prog ne m 23 #[(Value.agg #[(Value.int .i64 a0_0), (Value.int .i64 a0_1), (Value.string a0_2), (Sl3.v a0_3)]), (Value.agg #[(Sl3.v a1_0), (Sl3.v a1_1), (Sl3.v a1_2)])] H (sort_Finite_enc r) (sort_Finite_hp H r) := by
  refine CallS.mk (args := [(Value.agg #[(Value.int .i64 a0_0), (Value.int .i64 a0_1), (Value.string a0_2), (Sl3.v a0_3)]), (Value.agg #[(Sl3.v a1_0), (Sl3.v a1_1), (Sl3.v a1_2)])]) Tryd.func23 (B := B23) (by kernel_rfl) (fun E _ => ?_)
  unfold sort_Finite at h
  refine WS.sq ?_
  refine WS.rg ?_
  refine RS.mL 3 [(4, .val (Value.bool false)), (3, .loc 1 0), (2, .loc 0 0)] ([some (28, [(Value.int .i64 a0_0), (Value.int .i64 a0_1), (Value.string a0_2), (Sl3.v a0_3)]), some (33, [(Sl3.v a1_0), (Sl3.v a1_1), (Sl3.v a1_2)])]) ?_
  refine RS.dn ?_
  refine WS.nxt ?_
  refine WS.sq ?_
  refine WS.sq ?_
  refine WS.rg ?_
  refine RS.mS 1 [(6, .val (Value.agg #[(Sl3.v a1_0), (Sl3.v a1_1), (Sl3.v a1_2)]))] ?_
  obtain ⟨⟨x1, H2⟩, hx, h⟩ := bind_some h
  try dsimp only at h
  refine RS.cl (some 7) (v := (Value.int .i64 x1)) 20 #[(Value.agg #[(Sl3.v a1_0), (Sl3.v a1_1), (Sl3.v a1_2)])] (sort_CheckSig_ok hx) ?_
  refine RS.mS 2 [(9, .val (Value.bool (!decide (x1 = 0)))), (8, .val (Value.bool (!decide (x1 = 0))))] ?_
  rcases ite_some h with ⟨hp, h⟩ | ⟨hp, h⟩
  · refine RS.fx 9 false (dec_not hp) ?_
    refine RS.mS 2 [(11, .val (Value.agg #[(Sl3.v a1_0), (Sl3.v a1_1), (Sl3.v a1_2)])), (10, .val (Value.agg #[(Value.int .i64 a0_0), (Value.int .i64 a0_1), (Value.string a0_2), (Sl3.v a0_3)]))] ?_
    obtain ⟨⟨x3, H4⟩, hx, h⟩ := bind_some h
    try dsimp only at h
    refine RS.cl (some 12) (v := (Value.int .i64 x3)) 18 #[(Value.agg #[(Value.int .i64 a0_0), (Value.int .i64 a0_1), (Value.string a0_2), (Sl3.v a0_3)]), (Value.agg #[(Sl3.v a1_0), (Sl3.v a1_1), (Sl3.v a1_2)])] (sort_Check_ok hx) ?_
    refine RS.mS 2 [(14, .val (Value.bool (!decide (x3 = 0)))), (13, .val (Value.bool (!decide (x3 = 0))))] ?_
    refine RS.dn ?_
    refine WS.nxt ?_
    rcases ite_some h with ⟨hp, h⟩ | ⟨hp, h⟩
    · refine WS.fx 14 false (dec_not hp) ?_
      refine WS.cF ?_
      refine WS.sk ?_
      refine WS.nxt ?_
      refine WS.sq ?_
      refine WS.rg ?_
      refine RS.mS 1 [(15, .val (Value.agg #[(Sl3.v a1_0), (Sl3.v a1_1), (Sl3.v a1_2)]))] ?_
      obtain ⟨⟨x5, H6⟩, hx, h⟩ := bind_some h
      try dsimp only at h
      refine RS.cl (some 16) (v := (Value.pointer x5)) 54 #[(Value.agg #[(Sl3.v a1_0), (Sl3.v a1_1), (Sl3.v a1_2)]), (Value.int .i64 1)] (sort_counting_ok hx) ?_
      obtain ⟨⟨p7, H8⟩, hx, h⟩ := bind_some h
      try dsimp only at h
      refine RS.o (H' := H8) (some 17) (Value.map (some p7)) (Abs.run_newM (by kernel_rfl) hx) ?_
      refine RS.mS 1 [(18, .val (Value.agg #[(Value.pointer x5), (Value.map (some p7))]))] ?_
      obtain ⟨⟨p9, H10⟩, hx, h⟩ := bind_some h
      try dsimp only at h
      refine RS.o (H' := H10) (some 19) (Value.pointer (some p9)) (Abs.run_newB (by kernel_rfl) hx) ?_
      refine RS.mS 1 [(5, .val (Value.pointer (some p9)))] ?_
      refine RS.dn ?_
      refine WS.nxt ?_
      refine WS.sq ?_
      refine WS.rg ?_
      refine RS.mS 2 [(21, .val (Value.agg #[(Value.int .i64 a0_0), (Value.int .i64 a0_1), (Value.string a0_2), (Sl3.v a0_3)])), (20, .val (Value.pointer (some p9)))] ?_
      obtain ⟨⟨x11, H12⟩, hx, h⟩ := bind_some h
      try dsimp only at h
      refine RS.cl (some 22) (v := (Value.bool x11)) 56 #[(Value.pointer (some p9)), (Value.agg #[(Value.int .i64 a0_0), (Value.int .i64 a0_1), (Value.string a0_2), (Sl3.v a0_3)])] (sort_ends_sort_ok hx) ?_
      refine RS.mS 1 [(4, .val (Value.bool x11))] ?_
      refine RS.dn ?_
      refine WS.nxt ?_
      refine WS.rt ?_
      cases h
      exact fun a w hs => rtR (rS hs)
    · refine WS.fx 14 true (dec_not' hp) ?_
      refine WS.cT ?_
      cases h
  · refine RS.fx 9 true (dec_not' hp) ?_
    cases h

end Go.Proofs.YtccbilfbhecdaaaDoor.Aw


namespace Go.Proofs.YtccbilfbhecdaaaDoor.Aw
open Go Go.Abs
set_option maxRecDepth 100000

def strconv_small_enc : ByteArray → Value
  | r0 => (Value.string r0)

def strconv_small_hp (H : AH) : ByteArray → AH := fun _ => H

noncomputable def B106 : Code := (Tryd.f106.body).getD .skip

noncomputable def strconv_small (_L : LC) (a0 : Int) : Option ByteArray :=
  if a0 < 10 then
    Option.bind (strC (⟨#[48, 49, 50, 51, 52, 53, 54, 55, 56, 57, 97, 98, 99, 100, 101, 102, 103, 104, 105, 106, 107, 108, 109, 110, 111, 112, 113, 114, 115, 116, 117, 118, 119, 120, 121, 122]⟩ : ByteArray) (some a0) (some (IntKind.i64.wrap (a0 + 1)))) fun s1 =>
    some s1
  else
    Option.bind (strC (⟨#[48, 48, 48, 49, 48, 50, 48, 51, 48, 52, 48, 53, 48, 54, 48, 55, 48, 56, 48, 57, 49, 48, 49, 49, 49, 50, 49, 51, 49, 52, 49, 53, 49, 54, 49, 55, 49, 56, 49, 57, 50, 48, 50, 49, 50, 50, 50, 51, 50, 52, 50, 53, 50, 54, 50, 55, 50, 56, 50, 57, 51, 48, 51, 49, 51, 50, 51, 51, 51, 52, 51, 53, 51, 54, 51, 55, 51, 56, 51, 57, 52, 48, 52, 49, 52, 50, 52, 51, 52, 52, 52, 53, 52, 54, 52, 55, 52, 56, 52, 57, 53, 48, 53, 49, 53, 50, 53, 51, 53, 52, 53, 53, 53, 54, 53, 55, 53, 56, 53, 57, 54, 48, 54, 49, 54, 50, 54, 51, 54, 52, 54, 53, 54, 54, 54, 55, 54, 56, 54, 57, 55, 48, 55, 49, 55, 50, 55, 51, 55, 52, 55, 53, 55, 54, 55, 55, 55, 56, 55, 57, 56, 48, 56, 49, 56, 50, 56, 51, 56, 52, 56, 53, 56, 54, 56, 55, 56, 56, 56, 57, 57, 48, 57, 49, 57, 50, 57, 51, 57, 52, 57, 53, 57, 54, 57, 55, 57, 56, 57, 57]⟩ : ByteArray) (some (IntKind.i64.wrap (a0 * 2))) (some (IntKind.i64.wrap ((IntKind.i64.wrap (a0 * 2)) + 2)))) fun s2 =>
    some s2

theorem strconv_small_ok {L : LC} {ne : NE} {m : Nat} {H : AH} {a0 : Int} {r : ByteArray} (h : strconv_small L a0 = some r) :
    CallS Tryd.prog ne m 106 #[(Value.int .i64 a0)] H (strconv_small_enc r) (strconv_small_hp H r) := by
  refine CallS.mk (args := [(Value.int .i64 a0)]) Tryd.func106 (B := B106) (by kernel_rfl) (fun E _ => ?_)
  unfold strconv_small at h
  refine WS.sq ?_
  refine WS.rg ?_
  refine RS.mS 1 [(2, .val (Value.string (⟨#[]⟩ : ByteArray)))] ?_
  refine RS.dn ?_
  refine WS.nxt ?_
  refine WS.sq ?_
  refine WS.sq ?_
  refine WS.rg ?_
  refine RS.mS 2 [(4, .val (Value.bool (decide (a0 < 10)))), (3, .val (Value.int .i64 a0))] ?_
  refine RS.dn ?_
  refine WS.nxt ?_
  rcases ite_some h with ⟨hp, h⟩ | ⟨hp, h⟩
  · refine WS.fx 4 true (decide_eq_true hp) ?_
    refine WS.cT ?_
    refine WS.sq ?_
    refine WS.rg ?_
    refine RS.mS 3 [(7, .val (Value.int .i64 (IntKind.i64.wrap (a0 + 1)))), (6, .val (Value.int .i64 a0)), (5, .val (Value.int .i64 a0))] ?_
    obtain ⟨s1, hx, h⟩ := bind_some h
    refine RS.o (H' := H) (some 8) (Value.string s1) (Abs.run_strC (t := 9) (x := .const (Value.string (⟨#[48, 49, 50, 51, 52, 53, 54, 55, 56, 57, 97, 98, 99, 100, 101, 102, 103, 104, 105, 106, 107, 108, 109, 110, 111, 112, 113, 114, 115, 116, 117, 118, 119, 120, 121, 122]⟩ : ByteArray))) (lo := (some (.tmp 5))) (hi := (some (.tmp 7))) (s := (⟨#[48, 49, 50, 51, 52, 53, 54, 55, 56, 57, 97, 98, 99, 100, 101, 102, 103, 104, 105, 106, 107, 108, 109, 110, 111, 112, 113, 114, 115, 116, 117, 118, 119, 120, 121, 122]⟩ : ByteArray)) (k1 := .i64) (k2 := .i64) (by kernel_rfl) (by kernel_rfl) (by kernel_rfl) (by kernel_rfl) (by kernel_rfl) hx) ?_
    refine RS.mS 1 [(2, .val (Value.string s1))] ?_
    refine RS.dn ?_
    refine WS.nxt ?_
    refine WS.rt ?_
    cases h
    exact fun a w hs => sqR (rtR (rS hs))
  · refine WS.fx 4 false (decide_eq_false hp) ?_
    refine WS.cF ?_
    refine WS.sk ?_
    refine WS.nxt ?_
    refine WS.sq ?_
    refine WS.rg ?_
    refine RS.mS 5 [(13, .val (Value.int .i64 (IntKind.i64.wrap ((IntKind.i64.wrap (a0 * 2)) + 2)))), (12, .val (Value.int .i64 (IntKind.i64.wrap (a0 * 2)))), (11, .val (Value.int .i64 a0)), (10, .val (Value.int .i64 (IntKind.i64.wrap (a0 * 2)))), (9, .val (Value.int .i64 a0))] ?_
    obtain ⟨s2, hx, h⟩ := bind_some h
    refine RS.o (H' := H) (some 14) (Value.string s2) (Abs.run_strC (t := 9) (x := .const (Value.string (⟨#[48, 48, 48, 49, 48, 50, 48, 51, 48, 52, 48, 53, 48, 54, 48, 55, 48, 56, 48, 57, 49, 48, 49, 49, 49, 50, 49, 51, 49, 52, 49, 53, 49, 54, 49, 55, 49, 56, 49, 57, 50, 48, 50, 49, 50, 50, 50, 51, 50, 52, 50, 53, 50, 54, 50, 55, 50, 56, 50, 57, 51, 48, 51, 49, 51, 50, 51, 51, 51, 52, 51, 53, 51, 54, 51, 55, 51, 56, 51, 57, 52, 48, 52, 49, 52, 50, 52, 51, 52, 52, 52, 53, 52, 54, 52, 55, 52, 56, 52, 57, 53, 48, 53, 49, 53, 50, 53, 51, 53, 52, 53, 53, 53, 54, 53, 55, 53, 56, 53, 57, 54, 48, 54, 49, 54, 50, 54, 51, 54, 52, 54, 53, 54, 54, 54, 55, 54, 56, 54, 57, 55, 48, 55, 49, 55, 50, 55, 51, 55, 52, 55, 53, 55, 54, 55, 55, 55, 56, 55, 57, 56, 48, 56, 49, 56, 50, 56, 51, 56, 52, 56, 53, 56, 54, 56, 55, 56, 56, 56, 57, 57, 48, 57, 49, 57, 50, 57, 51, 57, 52, 57, 53, 57, 54, 57, 55, 57, 56, 57, 57]⟩ : ByteArray))) (lo := (some (.tmp 10))) (hi := (some (.tmp 13))) (s := (⟨#[48, 48, 48, 49, 48, 50, 48, 51, 48, 52, 48, 53, 48, 54, 48, 55, 48, 56, 48, 57, 49, 48, 49, 49, 49, 50, 49, 51, 49, 52, 49, 53, 49, 54, 49, 55, 49, 56, 49, 57, 50, 48, 50, 49, 50, 50, 50, 51, 50, 52, 50, 53, 50, 54, 50, 55, 50, 56, 50, 57, 51, 48, 51, 49, 51, 50, 51, 51, 51, 52, 51, 53, 51, 54, 51, 55, 51, 56, 51, 57, 52, 48, 52, 49, 52, 50, 52, 51, 52, 52, 52, 53, 52, 54, 52, 55, 52, 56, 52, 57, 53, 48, 53, 49, 53, 50, 53, 51, 53, 52, 53, 53, 53, 54, 53, 55, 53, 56, 53, 57, 54, 48, 54, 49, 54, 50, 54, 51, 54, 52, 54, 53, 54, 54, 54, 55, 54, 56, 54, 57, 55, 48, 55, 49, 55, 50, 55, 51, 55, 52, 55, 53, 55, 54, 55, 55, 55, 56, 55, 57, 56, 48, 56, 49, 56, 50, 56, 51, 56, 52, 56, 53, 56, 54, 56, 55, 56, 56, 56, 57, 57, 48, 57, 49, 57, 50, 57, 51, 57, 52, 57, 53, 57, 54, 57, 55, 57, 56, 57, 57]⟩ : ByteArray)) (k1 := .i64) (k2 := .i64) (by kernel_rfl) (by kernel_rfl) (by kernel_rfl) (by kernel_rfl) (by kernel_rfl) hx) ?_
    refine RS.mS 1 [(2, .val (Value.string s2))] ?_
    refine RS.dn ?_
    refine WS.nxt ?_
    refine WS.rt ?_
    cases h
    exact fun a w hs => rtR (rS hs)

def strconv_log10Pow2_enc : Int → Value
  | r0 => (Value.int .i64 r0)

def strconv_log10Pow2_hp (H : AH) : Int → AH := fun _ => H

noncomputable def B112 : Code := (Tryd.f112.body).getD .skip

noncomputable def strconv_log10Pow2 (_L : LC) (a0 : Int) : Option Int :=
  some (ishr .i64 (IntKind.i64.wrap (a0 * 78913)) 18)

theorem strconv_log10Pow2_ok {L : LC} {ne : NE} {m : Nat} {H : AH} {a0 : Int} {r : Int} (h : strconv_log10Pow2 L a0 = some r) :
    CallS Tryd.prog ne m 112 #[(Value.int .i64 a0)] H (strconv_log10Pow2_enc r) (strconv_log10Pow2_hp H r) := by
  refine CallS.mk (args := [(Value.int .i64 a0)]) Tryd.func112 (B := B112) (by kernel_rfl) (fun E _ => ?_)
  unfold strconv_log10Pow2 at h
  refine WS.sq ?_
  refine WS.rg ?_
  refine RS.mS 1 [(2, .val (Value.int .i64 0))] ?_
  refine RS.dn ?_
  refine WS.nxt ?_
  refine WS.sq ?_
  refine WS.rg ?_
  refine RS.mS 4 [(2, .val (Value.int .i64 (ishr .i64 (IntKind.i64.wrap (a0 * 78913)) 18))), (5, .val (Value.int .i64 (ishr .i64 (IntKind.i64.wrap (a0 * 78913)) 18))), (4, .val (Value.int .i64 (IntKind.i64.wrap (a0 * 78913)))), (3, .val (Value.int .i64 a0))] ?_
  refine RS.dn ?_
  refine WS.nxt ?_
  refine WS.rt ?_
  cases h
  exact fun a w hs => rtR (rS hs)

def bits_Len64_enc : Int → Value
  | r0 => (Value.int .i64 r0)

def bits_Len64_hp (H : AH) : Int → AH := fun _ => H

noncomputable def B113 : Code := (Tryd.f113.body).getD .skip

noncomputable def bits_Len64 (_L : LC) (a0 : Int) : Option Int :=
  if a0 ≥ 4294967296 then
    none
  else
    if a0 ≥ 65536 then
      none
    else
      Option.bind (α := (Int × Int)) (
        if a0 ≥ 256 then
          some ((ishr .u64 a0 8), (IntKind.i64.wrap (0 + 8)))
        else
          some (a0, 0)) fun (v0_1, v2_2) =>
      Option.bind (bytA (⟨#[0, 1, 2, 2, 3, 3, 3, 3, 4, 4, 4, 4, 4, 4, 4, 4, 5, 5, 5, 5, 5, 5, 5, 5, 5, 5, 5, 5, 5, 5, 5, 5, 6, 6, 6, 6, 6, 6, 6, 6, 6, 6, 6, 6, 6, 6, 6, 6, 6, 6, 6, 6, 6, 6, 6, 6, 6, 6, 6, 6, 6, 6, 6, 6, 7, 7, 7, 7, 7, 7, 7, 7, 7, 7, 7, 7, 7, 7, 7, 7, 7, 7, 7, 7, 7, 7, 7, 7, 7, 7, 7, 7, 7, 7, 7, 7, 7, 7, 7, 7, 7, 7, 7, 7, 7, 7, 7, 7, 7, 7, 7, 7, 7, 7, 7, 7, 7, 7, 7, 7, 7, 7, 7, 7, 7, 7, 7, 7, 8, 8, 8, 8, 8, 8, 8, 8, 8, 8, 8, 8, 8, 8, 8, 8, 8, 8, 8, 8, 8, 8, 8, 8, 8, 8, 8, 8, 8, 8, 8, 8, 8, 8, 8, 8, 8, 8, 8, 8, 8, 8, 8, 8, 8, 8, 8, 8, 8, 8, 8, 8, 8, 8, 8, 8, 8, 8, 8, 8, 8, 8, 8, 8, 8, 8, 8, 8, 8, 8, 8, 8, 8, 8, 8, 8, 8, 8, 8, 8, 8, 8, 8, 8, 8, 8, 8, 8, 8, 8, 8, 8, 8, 8, 8, 8, 8, 8, 8, 8, 8, 8, 8, 8, 8, 8, 8, 8, 8, 8, 8, 8, 8, 8, 8, 8, 8, 8, 8, 8, 8, 8, 8, 8, 8, 8, 8, 8]⟩ : ByteArray) (IntKind.u8.wrap v0_1)) fun x3 =>
      some (IntKind.i64.wrap (v2_2 + (IntKind.i64.wrap x3)))

theorem bits_Len64_ok {L : LC} {ne : NE} {m : Nat} {H : AH} {a0 : Int} {r : Int} (h : bits_Len64 L a0 = some r) :
    CallS Tryd.prog ne m 113 #[(Value.int .u64 a0)] H (bits_Len64_enc r) (bits_Len64_hp H r) := by
  refine CallS.mk (args := [(Value.int .u64 a0)]) Tryd.func113 (B := B113) (by kernel_rfl) (fun E _ => ?_)
  unfold bits_Len64 at h
  refine WS.sq ?_
  refine WS.rg ?_
  refine RS.mS 1 [(2, .val (Value.int .i64 0))] ?_
  refine RS.dn ?_
  refine WS.nxt ?_
  refine WS.sq ?_
  refine WS.sq ?_
  refine WS.rg ?_
  refine RS.mS 2 [(4, .val (Value.bool (decide (a0 ≥ 4294967296)))), (3, .val (Value.int .u64 a0))] ?_
  refine RS.dn ?_
  refine WS.nxt ?_
  rcases ite_some h with ⟨hp, h⟩ | ⟨hp, h⟩
  · refine WS.fx 4 true (decide_eq_true hp) ?_
    refine WS.cT ?_
    cases h
  · refine WS.fx 4 false (decide_eq_false hp) ?_
    refine WS.cF ?_
    refine WS.sk ?_
    refine WS.nxt ?_
    refine WS.sq ?_
    refine WS.sq ?_
    refine WS.rg ?_
    refine RS.mS 2 [(8, .val (Value.bool (decide (a0 ≥ 65536)))), (7, .val (Value.int .u64 a0))] ?_
    refine RS.dn ?_
    refine WS.nxt ?_
    rcases ite_some h with ⟨hp, h⟩ | ⟨hp, h⟩
    · refine WS.fx 8 true (decide_eq_true hp) ?_
      refine WS.cT ?_
      cases h
    · refine WS.fx 8 false (decide_eq_false hp) ?_
      refine WS.cF ?_
      refine WS.sk ?_
      refine WS.nxt ?_
      obtain ⟨⟨v0_1, v2_2⟩, hx, h⟩ := bind_some h
      try dsimp only at h
      refine WS.sq ?_
      refine WS.join ([(0, .val (Value.int .u64 v0_1)), (2, .val (Value.int .i64 v2_2))]) ([]) H ?_ (fun a w hs => WS.nxt ?_ a w hs)
      · clear h; rename _ => h
        refine WS.sq ?_
        refine WS.rg ?_
        refine RS.mS 2 [(14, .val (Value.bool (decide (a0 ≥ 256)))), (13, .val (Value.int .u64 a0))] ?_
        refine RS.dn ?_
        refine WS.nxt ?_
        rcases ite_some h with ⟨hp, h⟩ | ⟨hp, h⟩
        · refine WS.fx 14 true (decide_eq_true hp) ?_
          refine WS.cT ?_
          refine WS.sq ?_
          refine WS.rg ?_
          refine RS.mS 3 [(0, .val (Value.int .u64 (ishr .u64 a0 8))), (16, .val (Value.int .u64 (ishr .u64 a0 8))), (15, .val (Value.int .u64 a0))] ?_
          refine RS.dn ?_
          refine WS.nxt ?_
          refine WS.rg ?_
          refine RS.mS 3 [(2, .val (Value.int .i64 (IntKind.i64.wrap (0 + 8)))), (18, .val (Value.int .i64 (IntKind.i64.wrap (0 + 8)))), (17, .val (Value.int .i64 0))] ?_
          refine RS.dn ?_
          cases h
          exact fun a w hs => (jsN (hs.sb 0))
        · refine WS.fx 14 false (decide_eq_false hp) ?_
          refine WS.cF ?_
          refine WS.sk ?_
          cases h
          exact fun a w hs => (jsN (hs.sb 0))
      · clear hx
        refine WS.sq ?_
        refine WS.rg ?_
        refine RS.mS 3 [(21, .val (Value.int .u8 (IntKind.u8.wrap v0_1))), (20, .val (Value.int .u64 v0_1)), (19, .val (Value.int .i64 v2_2))] ?_
        obtain ⟨x3, hx, h⟩ := bind_some h
        refine RS.o (H' := H) (some 22) (Value.int .u8 x3) (Abs.run_byt (t := 9) (x := .const (Value.string (⟨#[0, 1, 2, 2, 3, 3, 3, 3, 4, 4, 4, 4, 4, 4, 4, 4, 5, 5, 5, 5, 5, 5, 5, 5, 5, 5, 5, 5, 5, 5, 5, 5, 6, 6, 6, 6, 6, 6, 6, 6, 6, 6, 6, 6, 6, 6, 6, 6, 6, 6, 6, 6, 6, 6, 6, 6, 6, 6, 6, 6, 6, 6, 6, 6, 7, 7, 7, 7, 7, 7, 7, 7, 7, 7, 7, 7, 7, 7, 7, 7, 7, 7, 7, 7, 7, 7, 7, 7, 7, 7, 7, 7, 7, 7, 7, 7, 7, 7, 7, 7, 7, 7, 7, 7, 7, 7, 7, 7, 7, 7, 7, 7, 7, 7, 7, 7, 7, 7, 7, 7, 7, 7, 7, 7, 7, 7, 7, 7, 8, 8, 8, 8, 8, 8, 8, 8, 8, 8, 8, 8, 8, 8, 8, 8, 8, 8, 8, 8, 8, 8, 8, 8, 8, 8, 8, 8, 8, 8, 8, 8, 8, 8, 8, 8, 8, 8, 8, 8, 8, 8, 8, 8, 8, 8, 8, 8, 8, 8, 8, 8, 8, 8, 8, 8, 8, 8, 8, 8, 8, 8, 8, 8, 8, 8, 8, 8, 8, 8, 8, 8, 8, 8, 8, 8, 8, 8, 8, 8, 8, 8, 8, 8, 8, 8, 8, 8, 8, 8, 8, 8, 8, 8, 8, 8, 8, 8, 8, 8, 8, 8, 8, 8, 8, 8, 8, 8, 8, 8, 8, 8, 8, 8, 8, 8, 8, 8, 8, 8, 8, 8, 8, 8, 8, 8, 8, 8]⟩ : ByteArray))) (y := .tmp 21) (s := (⟨#[0, 1, 2, 2, 3, 3, 3, 3, 4, 4, 4, 4, 4, 4, 4, 4, 5, 5, 5, 5, 5, 5, 5, 5, 5, 5, 5, 5, 5, 5, 5, 5, 6, 6, 6, 6, 6, 6, 6, 6, 6, 6, 6, 6, 6, 6, 6, 6, 6, 6, 6, 6, 6, 6, 6, 6, 6, 6, 6, 6, 6, 6, 6, 6, 7, 7, 7, 7, 7, 7, 7, 7, 7, 7, 7, 7, 7, 7, 7, 7, 7, 7, 7, 7, 7, 7, 7, 7, 7, 7, 7, 7, 7, 7, 7, 7, 7, 7, 7, 7, 7, 7, 7, 7, 7, 7, 7, 7, 7, 7, 7, 7, 7, 7, 7, 7, 7, 7, 7, 7, 7, 7, 7, 7, 7, 7, 7, 7, 8, 8, 8, 8, 8, 8, 8, 8, 8, 8, 8, 8, 8, 8, 8, 8, 8, 8, 8, 8, 8, 8, 8, 8, 8, 8, 8, 8, 8, 8, 8, 8, 8, 8, 8, 8, 8, 8, 8, 8, 8, 8, 8, 8, 8, 8, 8, 8, 8, 8, 8, 8, 8, 8, 8, 8, 8, 8, 8, 8, 8, 8, 8, 8, 8, 8, 8, 8, 8, 8, 8, 8, 8, 8, 8, 8, 8, 8, 8, 8, 8, 8, 8, 8, 8, 8, 8, 8, 8, 8, 8, 8, 8, 8, 8, 8, 8, 8, 8, 8, 8, 8, 8, 8, 8, 8, 8, 8, 8, 8, 8, 8, 8, 8, 8, 8, 8, 8, 8, 8, 8, 8, 8, 8, 8, 8, 8, 8]⟩ : ByteArray)) (k := .u8) (i := (IntKind.u8.wrap v0_1)) (by kernel_rfl) (by kernel_rfl) (by kernel_rfl) (by kernel_rfl) hx) ?_
        refine RS.mS 3 [(2, .val (Value.int .i64 (IntKind.i64.wrap (v2_2 + (IntKind.i64.wrap x3))))), (24, .val (Value.int .i64 (IntKind.i64.wrap (v2_2 + (IntKind.i64.wrap x3))))), (23, .val (Value.int .i64 (IntKind.i64.wrap x3)))] ?_
        refine RS.dn ?_
        refine WS.nxt ?_
        refine WS.rt ?_
        cases h
        exact fun a w hs => rtR (rS hs)

def strconv_bool2_enc : Int → Value
  | r0 => (Value.int .i64 r0)

def strconv_bool2_hp (H : AH) : Int → AH := fun _ => H

noncomputable def B114 : Code := (Tryd.f114.body).getD .skip

noncomputable def strconv_bool2 (_L : LC) (a0 : Bool) : Option Int :=
  if a0 = true then
    some 1
  else
    some 0

theorem strconv_bool2_ok {L : LC} {ne : NE} {m : Nat} {H : AH} {a0 : Bool} {r : Int} (h : strconv_bool2 L a0 = some r) :
    CallS Tryd.prog ne m 114 #[(Value.bool a0)] H (strconv_bool2_enc r) (strconv_bool2_hp H r) := by
  refine CallS.mk (args := [(Value.bool a0)]) Tryd.func114 (B := B114) (by kernel_rfl) (fun E _ => ?_)
  unfold strconv_bool2 at h
  refine WS.sq ?_
  refine WS.rg ?_
  refine RS.mS 1 [(2, .val (Value.int .i64 0))] ?_
  refine RS.dn ?_
  refine WS.nxt ?_
  refine WS.sq ?_
  refine WS.sq ?_
  refine WS.rg ?_
  refine RS.mS 1 [(3, .val (Value.bool a0))] ?_
  refine RS.dn ?_
  refine WS.nxt ?_
  rcases ite_some h with ⟨hp, h⟩ | ⟨hp, h⟩
  · refine WS.fx 3 true hp ?_
    refine WS.cT ?_
    refine WS.sq ?_
    refine WS.rg ?_
    refine RS.mS 1 [(2, .val (Value.int .i64 1))] ?_
    refine RS.dn ?_
    refine WS.nxt ?_
    refine WS.rt ?_
    cases h
    exact fun a w hs => sqR (rtR (rS hs))
  · refine WS.fx 3 false (b_not hp) ?_
    refine WS.cF ?_
    refine WS.sk ?_
    refine WS.nxt ?_
    refine WS.sq ?_
    refine WS.rg ?_
    refine RS.mS 1 [(2, .val (Value.int .i64 0))] ?_
    refine RS.dn ?_
    refine WS.nxt ?_
    refine WS.rt ?_
    cases h
    exact fun a w hs => rtR (rS hs)

def strconv_numDigits_enc : Int → Value
  | r0 => (Value.int .i64 r0)

def strconv_numDigits_hp (H : AH) : Int → AH := fun _ => H

noncomputable def B107 : Code := (Tryd.f107.body).getD .skip

noncomputable def strconv_numDigits (L : LC) (H : AH) (a0 : Int) : Option Int :=
  Option.bind (bits_Len64 L a0) fun x1 =>
  Option.bind (strconv_log10Pow2 L x1) fun x2 =>
  Option.bind (idxR 1 20 (⟨3, 0, none⟩ : Addr) x2) fun p3 =>
  Option.bind (rd (deI .u64) H p3) fun x4 =>
  Option.bind (strconv_bool2 L (decide (a0 ≥ x4))) fun x5 =>
  some (IntKind.i64.wrap (x2 + x5))

theorem strconv_numDigits_ok {L : LC} {ne : NE} {m : Nat} {H : AH} {a0 : Int} {r : Int} (h : strconv_numDigits L H a0 = some r) :
    CallS Tryd.prog ne m 107 #[(Value.int .u64 a0)] H (strconv_numDigits_enc r) (strconv_numDigits_hp H r) := by
  refine CallS.mk (args := [(Value.int .u64 a0)]) Tryd.func107 (B := B107) (by kernel_rfl) (fun E _ => ?_)
  unfold strconv_numDigits at h
  refine WS.sq ?_
  refine WS.rg ?_
  refine RS.mS 1 [(2, .val (Value.int .i64 0))] ?_
  refine RS.dn ?_
  refine WS.nxt ?_
  refine WS.sq ?_
  refine WS.rg ?_
  refine RS.mS 1 [(4, .val (Value.int .u64 a0))] ?_
  obtain ⟨x1, hx, h⟩ := bind_some h
  refine RS.cl (some 5) (v := (Value.int .i64 x1)) 113 #[(Value.int .u64 a0)] (bits_Len64_ok hx) ?_
  obtain ⟨x2, hx, h⟩ := bind_some h
  refine RS.cl (some 6) (v := (Value.int .i64 x2)) 112 #[(Value.int .i64 x1)] (strconv_log10Pow2_ok hx) ?_
  refine RS.mS 1 [(3, .val (Value.int .i64 x2))] ?_
  refine RS.dn ?_
  refine WS.nxt ?_
  refine WS.sq ?_
  refine WS.rg ?_
  refine RS.mS 3 [(9, .val (Value.int .i64 x2)), (8, .val (Value.int .u64 a0)), (7, .val (Value.int .i64 x2))] ?_
  obtain ⟨p3, hx, h⟩ := bind_some h
  refine RS.o (H' := H) (some 10) (Value.pointer (some p3)) (Abs.run_idxR (a := (⟨3, 0, none⟩ : Addr)) (k := .i64) (t := 159) (e := 141) (x := .global 3) (y := .tmp 9) (by kernel_rfl) (by kernel_rfl) (by kernel_rfl) (by kernel_rfl) (by kernel_rfl) hx) ?_
  obtain ⟨x4, hx, h⟩ := bind_some h
  refine RS.o (H' := H) (some 11) (Value.int .u64 x4) (Abs.run_load (t := 141) (x := .tmp 10) (a := p3) (by kernel_rfl) (by kernel_rfl) (by kernel_rfl) (rd_cell hx deI_inv)) ?_
  refine RS.mS 1 [(12, .val (Value.bool (decide (a0 ≥ x4))))] ?_
  obtain ⟨x5, hx, h⟩ := bind_some h
  refine RS.cl (some 13) (v := (Value.int .i64 x5)) 114 #[(Value.bool (decide (a0 ≥ x4)))] (strconv_bool2_ok hx) ?_
  refine RS.mS 2 [(2, .val (Value.int .i64 (IntKind.i64.wrap (x2 + x5)))), (14, .val (Value.int .i64 (IntKind.i64.wrap (x2 + x5))))] ?_
  refine RS.dn ?_
  refine WS.nxt ?_
  refine WS.rt ?_
  cases h
  exact fun a w hs => rtR (rS hs)

def strconv_formatBase10_enc : AH → Value
  | _ => (Value.tuple #[])

def strconv_formatBase10_hp (_ : AH) : AH → AH := fun r => r

noncomputable def B108 : Code := (Tryd.f108.body).getD .skip

noncomputable def strconv_formatBase10_b0 (_L : LC) (_a0 : Sl3) : (AH × Int × Int) → Option (Lp (AH × Int × Int) AH) := fun (H1, v1_2, v4_3) =>
  if v4_3 ≥ 8 then
    none
  else
    some (.brk (H1, v1_2, v4_3))

def strconv_formatBase10_b0_kn (_L : LC) (a0 : Sl3) : (AH × Int × Int) → KN := fun (_, v1_2, v4_3) => [(1, .val (Value.int .u64 v1_2)), (4, .val (Value.int .i64 v4_3)), (0, .val (Sl3.v a0))]

def strconv_formatBase10_b0_ls (_L : LC) (_a0 : Sl3) : (AH × Int × Int) → Lcs := fun (_, _, _) => []

noncomputable def strconv_formatBase10 (L : LC) (m : Nat) (H : AH) (a0 : Sl3) (a1 : Int) : Option AH :=
  Option.bind (L.run (strconv_formatBase10_b0 L a0) (H, a1, (a0.n : Int))) fun o => match o with
  | .inl (H4, v1_5, v4_6) =>
    Option.bind (α := (AH × Int × Int)) (
      if v4_6 ≥ 4 then
        Option.bind (bytA (⟨#[48, 48, 48, 49, 48, 50, 48, 51, 48, 52, 48, 53, 48, 54, 48, 55, 48, 56, 48, 57, 49, 48, 49, 49, 49, 50, 49, 51, 49, 52, 49, 53, 49, 54, 49, 55, 49, 56, 49, 57, 50, 48, 50, 49, 50, 50, 50, 51, 50, 52, 50, 53, 50, 54, 50, 55, 50, 56, 50, 57, 51, 48, 51, 49, 51, 50, 51, 51, 51, 52, 51, 53, 51, 54, 51, 55, 51, 56, 51, 57, 52, 48, 52, 49, 52, 50, 52, 51, 52, 52, 52, 53, 52, 54, 52, 55, 52, 56, 52, 57, 53, 48, 53, 49, 53, 50, 53, 51, 53, 52, 53, 53, 53, 54, 53, 55, 53, 56, 53, 57, 54, 48, 54, 49, 54, 50, 54, 51, 54, 52, 54, 53, 54, 54, 54, 55, 54, 56, 54, 57, 55, 48, 55, 49, 55, 50, 55, 51, 55, 52, 55, 53, 55, 54, 55, 55, 55, 56, 55, 57, 56, 48, 56, 49, 56, 50, 56, 51, 56, 52, 56, 53, 56, 54, 56, 55, 56, 56, 56, 57, 57, 48, 57, 49, 57, 50, 57, 51, 57, 52, 57, 53, 57, 54, 57, 55, 57, 56, 57, 57]⟩ : ByteArray) (IntKind.u32.wrap ((IntKind.u32.wrap ((Int.tmod (Int.tmod (IntKind.u32.wrap v1_5) 10000) 100) * 2)) + 1))) fun x10 =>
        Option.bind (bytA (⟨#[48, 48, 48, 49, 48, 50, 48, 51, 48, 52, 48, 53, 48, 54, 48, 55, 48, 56, 48, 57, 49, 48, 49, 49, 49, 50, 49, 51, 49, 52, 49, 53, 49, 54, 49, 55, 49, 56, 49, 57, 50, 48, 50, 49, 50, 50, 50, 51, 50, 52, 50, 53, 50, 54, 50, 55, 50, 56, 50, 57, 51, 48, 51, 49, 51, 50, 51, 51, 51, 52, 51, 53, 51, 54, 51, 55, 51, 56, 51, 57, 52, 48, 52, 49, 52, 50, 52, 51, 52, 52, 52, 53, 52, 54, 52, 55, 52, 56, 52, 57, 53, 48, 53, 49, 53, 50, 53, 51, 53, 52, 53, 53, 53, 54, 53, 55, 53, 56, 53, 57, 54, 48, 54, 49, 54, 50, 54, 51, 54, 52, 54, 53, 54, 54, 54, 55, 54, 56, 54, 57, 55, 48, 55, 49, 55, 50, 55, 51, 55, 52, 55, 53, 55, 54, 55, 55, 55, 56, 55, 57, 56, 48, 56, 49, 56, 50, 56, 51, 56, 52, 56, 53, 56, 54, 56, 55, 56, 56, 56, 57, 57, 48, 57, 49, 57, 50, 57, 51, 57, 52, 57, 53, 57, 54, 57, 55, 57, 56, 57, 57]⟩ : ByteArray) (IntKind.u32.wrap ((Int.tmod (Int.tmod (IntKind.u32.wrap v1_5) 10000) 100) * 2))) fun x11 =>
        Option.bind (idxA 1 a0 (IntKind.i64.wrap (v4_6 - 1))) fun p12 =>
        Option.bind (H4.setCell m p12 (Value.int .u8 x10)) fun H13 =>
        Option.bind (idxA 1 a0 (IntKind.i64.wrap (v4_6 - 2))) fun p14 =>
        Option.bind (H13.setCell m p14 (Value.int .u8 x11)) fun H15 =>
        Option.bind (bytA (⟨#[48, 48, 48, 49, 48, 50, 48, 51, 48, 52, 48, 53, 48, 54, 48, 55, 48, 56, 48, 57, 49, 48, 49, 49, 49, 50, 49, 51, 49, 52, 49, 53, 49, 54, 49, 55, 49, 56, 49, 57, 50, 48, 50, 49, 50, 50, 50, 51, 50, 52, 50, 53, 50, 54, 50, 55, 50, 56, 50, 57, 51, 48, 51, 49, 51, 50, 51, 51, 51, 52, 51, 53, 51, 54, 51, 55, 51, 56, 51, 57, 52, 48, 52, 49, 52, 50, 52, 51, 52, 52, 52, 53, 52, 54, 52, 55, 52, 56, 52, 57, 53, 48, 53, 49, 53, 50, 53, 51, 53, 52, 53, 53, 53, 54, 53, 55, 53, 56, 53, 57, 54, 48, 54, 49, 54, 50, 54, 51, 54, 52, 54, 53, 54, 54, 54, 55, 54, 56, 54, 57, 55, 48, 55, 49, 55, 50, 55, 51, 55, 52, 55, 53, 55, 54, 55, 55, 55, 56, 55, 57, 56, 48, 56, 49, 56, 50, 56, 51, 56, 52, 56, 53, 56, 54, 56, 55, 56, 56, 56, 57, 57, 48, 57, 49, 57, 50, 57, 51, 57, 52, 57, 53, 57, 54, 57, 55, 57, 56, 57, 57]⟩ : ByteArray) (IntKind.u32.wrap ((IntKind.u32.wrap ((IntKind.u32.wrap (Int.tdiv (Int.tmod (IntKind.u32.wrap v1_5) 10000) 100)) * 2)) + 1))) fun x16 =>
        Option.bind (bytA (⟨#[48, 48, 48, 49, 48, 50, 48, 51, 48, 52, 48, 53, 48, 54, 48, 55, 48, 56, 48, 57, 49, 48, 49, 49, 49, 50, 49, 51, 49, 52, 49, 53, 49, 54, 49, 55, 49, 56, 49, 57, 50, 48, 50, 49, 50, 50, 50, 51, 50, 52, 50, 53, 50, 54, 50, 55, 50, 56, 50, 57, 51, 48, 51, 49, 51, 50, 51, 51, 51, 52, 51, 53, 51, 54, 51, 55, 51, 56, 51, 57, 52, 48, 52, 49, 52, 50, 52, 51, 52, 52, 52, 53, 52, 54, 52, 55, 52, 56, 52, 57, 53, 48, 53, 49, 53, 50, 53, 51, 53, 52, 53, 53, 53, 54, 53, 55, 53, 56, 53, 57, 54, 48, 54, 49, 54, 50, 54, 51, 54, 52, 54, 53, 54, 54, 54, 55, 54, 56, 54, 57, 55, 48, 55, 49, 55, 50, 55, 51, 55, 52, 55, 53, 55, 54, 55, 55, 55, 56, 55, 57, 56, 48, 56, 49, 56, 50, 56, 51, 56, 52, 56, 53, 56, 54, 56, 55, 56, 56, 56, 57, 57, 48, 57, 49, 57, 50, 57, 51, 57, 52, 57, 53, 57, 54, 57, 55, 57, 56, 57, 57]⟩ : ByteArray) (IntKind.u32.wrap ((IntKind.u32.wrap (Int.tdiv (Int.tmod (IntKind.u32.wrap v1_5) 10000) 100)) * 2))) fun x17 =>
        Option.bind (idxA 1 a0 (IntKind.i64.wrap (v4_6 - 3))) fun p18 =>
        Option.bind (H15.setCell m p18 (Value.int .u8 x16)) fun H19 =>
        Option.bind (idxA 1 a0 (IntKind.i64.wrap (v4_6 - 4))) fun p20 =>
        Option.bind (H19.setCell m p20 (Value.int .u8 x17)) fun H21 =>
        some (H21, (IntKind.i64.wrap (v4_6 - 4)), (IntKind.u32.wrap (Int.tdiv (IntKind.u32.wrap v1_5) 10000)))
      else
        some (H4, v4_6, (IntKind.u32.wrap v1_5))) fun (H7, v4_8, v12_9) =>
    Option.bind (α := (AH × Int × Int)) (
      if v4_8 ≥ 2 then
        Option.bind (bytA (⟨#[48, 48, 48, 49, 48, 50, 48, 51, 48, 52, 48, 53, 48, 54, 48, 55, 48, 56, 48, 57, 49, 48, 49, 49, 49, 50, 49, 51, 49, 52, 49, 53, 49, 54, 49, 55, 49, 56, 49, 57, 50, 48, 50, 49, 50, 50, 50, 51, 50, 52, 50, 53, 50, 54, 50, 55, 50, 56, 50, 57, 51, 48, 51, 49, 51, 50, 51, 51, 51, 52, 51, 53, 51, 54, 51, 55, 51, 56, 51, 57, 52, 48, 52, 49, 52, 50, 52, 51, 52, 52, 52, 53, 52, 54, 52, 55, 52, 56, 52, 57, 53, 48, 53, 49, 53, 50, 53, 51, 53, 52, 53, 53, 53, 54, 53, 55, 53, 56, 53, 57, 54, 48, 54, 49, 54, 50, 54, 51, 54, 52, 54, 53, 54, 54, 54, 55, 54, 56, 54, 57, 55, 48, 55, 49, 55, 50, 55, 51, 55, 52, 55, 53, 55, 54, 55, 55, 55, 56, 55, 57, 56, 48, 56, 49, 56, 50, 56, 51, 56, 52, 56, 53, 56, 54, 56, 55, 56, 56, 56, 57, 57, 48, 57, 49, 57, 50, 57, 51, 57, 52, 57, 53, 57, 54, 57, 55, 57, 56, 57, 57]⟩ : ByteArray) (IntKind.u32.wrap ((IntKind.u32.wrap ((Int.tmod v12_9 100) * 2)) + 1))) fun x25 =>
        Option.bind (bytA (⟨#[48, 48, 48, 49, 48, 50, 48, 51, 48, 52, 48, 53, 48, 54, 48, 55, 48, 56, 48, 57, 49, 48, 49, 49, 49, 50, 49, 51, 49, 52, 49, 53, 49, 54, 49, 55, 49, 56, 49, 57, 50, 48, 50, 49, 50, 50, 50, 51, 50, 52, 50, 53, 50, 54, 50, 55, 50, 56, 50, 57, 51, 48, 51, 49, 51, 50, 51, 51, 51, 52, 51, 53, 51, 54, 51, 55, 51, 56, 51, 57, 52, 48, 52, 49, 52, 50, 52, 51, 52, 52, 52, 53, 52, 54, 52, 55, 52, 56, 52, 57, 53, 48, 53, 49, 53, 50, 53, 51, 53, 52, 53, 53, 53, 54, 53, 55, 53, 56, 53, 57, 54, 48, 54, 49, 54, 50, 54, 51, 54, 52, 54, 53, 54, 54, 54, 55, 54, 56, 54, 57, 55, 48, 55, 49, 55, 50, 55, 51, 55, 52, 55, 53, 55, 54, 55, 55, 55, 56, 55, 57, 56, 48, 56, 49, 56, 50, 56, 51, 56, 52, 56, 53, 56, 54, 56, 55, 56, 56, 56, 57, 57, 48, 57, 49, 57, 50, 57, 51, 57, 52, 57, 53, 57, 54, 57, 55, 57, 56, 57, 57]⟩ : ByteArray) (IntKind.u32.wrap ((Int.tmod v12_9 100) * 2))) fun x26 =>
        Option.bind (idxA 1 a0 (IntKind.i64.wrap (v4_8 - 1))) fun p27 =>
        Option.bind (H7.setCell m p27 (Value.int .u8 x25)) fun H28 =>
        Option.bind (idxA 1 a0 (IntKind.i64.wrap (v4_8 - 2))) fun p29 =>
        Option.bind (H28.setCell m p29 (Value.int .u8 x26)) fun H30 =>
        some (H30, (IntKind.i64.wrap (v4_8 - 2)), (IntKind.u32.wrap (Int.tdiv v12_9 100)))
      else
        some (H7, v4_8, v12_9)) fun (H22, v4_23, v12_24) =>
    if v4_23 > 0 then
      Option.bind (idxA 1 a0 0) fun p31 =>
      Option.bind (H22.setCell m p31 (Value.int .u8 (IntKind.u8.wrap (IntKind.u32.wrap (48 + v12_24))))) fun H32 =>
      some H32
    else
      some H22
  | .inr r => some r

theorem strconv_formatBase10_b0_ok {ne : NE} {E : Ent} {m : Nat} {H : AH} {L : LC} {a0 : Sl3}  : ∀ s o, strconv_formatBase10_b0 L a0 s = some o →
    WS Tryd.prog ne m E Tryd.f108.ntmps (cfst (cfst (cfst (csnd B108)))) (strconv_formatBase10_b0_kn L a0 s) (strconv_formatBase10_b0_ls L a0 s) ((fun s => s.1) s) (lpS Tryd.prog ne m E Tryd.f108.ntmps (strconv_formatBase10_b0_kn L a0) (strconv_formatBase10_b0_ls L a0) (fun s => s.1) 0 (fun r => RT Tryd.prog ne m E Tryd.f108 (strconv_formatBase10_enc r) (strconv_formatBase10_hp H r)) o) := by
  rintro ⟨H1, v1_2, v4_3⟩ o h
  unfold strconv_formatBase10_b0 at h
  try dsimp only at h
  refine WS.sq ?_
  refine WS.sq ?_
  refine WS.rg ?_
  refine RS.mS 2 [(20, .val (Value.bool (decide (v4_3 ≥ 8)))), (19, .val (Value.int .i64 v4_3))] ?_
  refine RS.dn ?_
  refine WS.nxt ?_
  rcases ite_some h with ⟨hp, h⟩ | ⟨hp, h⟩
  · refine WS.fx 20 true (decide_eq_true hp) ?_
    refine WS.cT ?_
    cases h
  · refine WS.fx 20 false (decide_eq_false hp) ?_
    refine WS.cF ?_
    refine WS.ex 0 ?_
    cases h
    exact fun a w hs => sqE (lsB rfl (hs.sb 0))

theorem strconv_formatBase10_ok {L : LC} {ne : NE} {m : Nat} {H : AH} {a0 : Sl3} {a1 : Int} {r : AH} (h : strconv_formatBase10 L m H a0 a1 = some r) :
    CallS Tryd.prog ne m 108 #[(Sl3.v a0), (Value.int .u64 a1)] H (strconv_formatBase10_enc r) (strconv_formatBase10_hp H r) := by
  refine CallS.mk (args := [(Sl3.v a0), (Value.int .u64 a1)]) Tryd.func108 (B := B108) (by kernel_rfl) (fun E _ => ?_)
  unfold strconv_formatBase10 at h
  refine WS.sq ?_
  refine WS.rg ?_
  refine RS.mS 3 [(4, .val (Value.int .i64 (a0.n : Int))), (18, .val (Value.int .i64 (a0.n : Int))), (17, .val (Sl3.v a0))] ?_
  refine RS.dn ?_
  refine WS.nxt ?_
  refine WS.sq ?_
  refine WS.bk 0 ?_
  obtain ⟨o, hl, h⟩ := bind_some h
  rcases o with ⟨H4, v1_5, v4_6⟩ | r
  · try dsimp only at h
    refine WS.lI (strconv_formatBase10_b0_ok (ne := ne) (L := L) (E := E) (m := m) (H := H)) (L.ok hl) 0 ?_
    clear hl
    refine fun a w hs => bkE ((WS.nxt ?_ a w hs))
    refine WS.sq ?_
    refine WS.rg ?_
    refine RS.mS 3 [(12, .val (Value.int .u32 (IntKind.u32.wrap v1_5))), (97, .val (Value.int .u32 (IntKind.u32.wrap v1_5))), (96, .val (Value.int .u64 v1_5))] ?_
    refine RS.dn ?_
    refine WS.nxt ?_
    obtain ⟨⟨H7, v4_8, v12_9⟩, hx, h⟩ := bind_some h
    try dsimp only at h
    refine WS.sq ?_
    refine WS.join ([(4, .val (Value.int .i64 v4_8)), (12, .val (Value.int .u32 v12_9)), (0, .val (Sl3.v a0))]) ([]) H7 ?_ (fun a w hs => WS.nxt ?_ a w hs)
    · clear h; rename _ => h
      refine WS.sq ?_
      refine WS.rg ?_
      refine RS.mS 2 [(99, .val (Value.bool (decide (v4_6 ≥ 4)))), (98, .val (Value.int .i64 v4_6))] ?_
      refine RS.dn ?_
      refine WS.nxt ?_
      rcases ite_some h with ⟨hp, h⟩ | ⟨hp, h⟩
      · refine WS.fx 99 true (decide_eq_true hp) ?_
        refine WS.cT ?_
        refine WS.sq ?_
        refine WS.rg ?_
        refine RS.mS 3 [(13, .val (Value.int .u32 (Int.tmod (IntKind.u32.wrap v1_5) 10000))), (101, .val (Value.int .u32 (Int.tmod (IntKind.u32.wrap v1_5) 10000))), (100, .val (Value.int .u32 (IntKind.u32.wrap v1_5)))] ?_
        refine RS.dn ?_
        refine WS.nxt ?_
        refine WS.sq ?_
        refine WS.rg ?_
        refine RS.mS 3 [(12, .val (Value.int .u32 (IntKind.u32.wrap (Int.tdiv (IntKind.u32.wrap v1_5) 10000)))), (103, .val (Value.int .u32 (IntKind.u32.wrap (Int.tdiv (IntKind.u32.wrap v1_5) 10000)))), (102, .val (Value.int .u32 (IntKind.u32.wrap v1_5)))] ?_
        refine RS.dn ?_
        refine WS.nxt ?_
        refine WS.sq ?_
        refine WS.rg ?_
        refine RS.mS 8 [(15, .val (Value.int .u32 (IntKind.u32.wrap ((Int.tmod (Int.tmod (IntKind.u32.wrap v1_5) 10000) 100) * 2)))), (14, .val (Value.int .u32 (IntKind.u32.wrap ((IntKind.u32.wrap (Int.tdiv (Int.tmod (IntKind.u32.wrap v1_5) 10000) 100)) * 2)))), (109, .val (Value.int .u32 (IntKind.u32.wrap ((Int.tmod (Int.tmod (IntKind.u32.wrap v1_5) 10000) 100) * 2)))), (108, .val (Value.int .u32 (Int.tmod (Int.tmod (IntKind.u32.wrap v1_5) 10000) 100))), (107, .val (Value.int .u32 (Int.tmod (IntKind.u32.wrap v1_5) 10000))), (106, .val (Value.int .u32 (IntKind.u32.wrap ((IntKind.u32.wrap (Int.tdiv (Int.tmod (IntKind.u32.wrap v1_5) 10000) 100)) * 2)))), (105, .val (Value.int .u32 (IntKind.u32.wrap (Int.tdiv (Int.tmod (IntKind.u32.wrap v1_5) 10000) 100)))), (104, .val (Value.int .u32 (Int.tmod (IntKind.u32.wrap v1_5) 10000)))] ?_
        refine RS.dn ?_
        refine WS.nxt ?_
        refine WS.sq ?_
        refine WS.dr [] [0, 0, 2, 0, 0, 16, 0, 64, 192, 0, 512, 455, 2503, 8191, 16383] 15 (fun hcl => ?_)
        refine DA.tP 0 (some 110) (Sl3.v a0) ?_
        refine DA.tP 1 (some 111) (Value.int .i64 v4_6) ?_
        refine DA.tP 2 (some 112) (Value.int .i64 (IntKind.i64.wrap (v4_6 - 1))) ?_
        refine DA.tP 3 (some 113) (Sl3.v a0) ?_
        refine DA.tP 4 (some 114) (Value.int .i64 v4_6) ?_
        refine DA.tP 5 (some 115) (Value.int .i64 (IntKind.i64.wrap (v4_6 - 2))) ?_
        refine DA.tP 6 (some 116) (Value.int .u32 (IntKind.u32.wrap ((Int.tmod (Int.tmod (IntKind.u32.wrap v1_5) 10000) 100) * 2))) ?_
        refine DA.tP 7 (some 117) (Value.int .u32 (IntKind.u32.wrap ((IntKind.u32.wrap ((Int.tmod (Int.tmod (IntKind.u32.wrap v1_5) 10000) 100) * 2)) + 1))) ?_
        obtain ⟨x10, hx, h⟩ := bind_some h
        refine DA.tPx 8 (some 118) (Value.int .u8 x10) (Abs.det_byt (t := 9) (x := .const (Value.string (⟨#[48, 48, 48, 49, 48, 50, 48, 51, 48, 52, 48, 53, 48, 54, 48, 55, 48, 56, 48, 57, 49, 48, 49, 49, 49, 50, 49, 51, 49, 52, 49, 53, 49, 54, 49, 55, 49, 56, 49, 57, 50, 48, 50, 49, 50, 50, 50, 51, 50, 52, 50, 53, 50, 54, 50, 55, 50, 56, 50, 57, 51, 48, 51, 49, 51, 50, 51, 51, 51, 52, 51, 53, 51, 54, 51, 55, 51, 56, 51, 57, 52, 48, 52, 49, 52, 50, 52, 51, 52, 52, 52, 53, 52, 54, 52, 55, 52, 56, 52, 57, 53, 48, 53, 49, 53, 50, 53, 51, 53, 52, 53, 53, 53, 54, 53, 55, 53, 56, 53, 57, 54, 48, 54, 49, 54, 50, 54, 51, 54, 52, 54, 53, 54, 54, 54, 55, 54, 56, 54, 57, 55, 48, 55, 49, 55, 50, 55, 51, 55, 52, 55, 53, 55, 54, 55, 55, 55, 56, 55, 57, 56, 48, 56, 49, 56, 50, 56, 51, 56, 52, 56, 53, 56, 54, 56, 55, 56, 56, 56, 57, 57, 48, 57, 49, 57, 50, 57, 51, 57, 52, 57, 53, 57, 54, 57, 55, 57, 56, 57, 57]⟩ : ByteArray))) (y := .tmp 117) (s := (⟨#[48, 48, 48, 49, 48, 50, 48, 51, 48, 52, 48, 53, 48, 54, 48, 55, 48, 56, 48, 57, 49, 48, 49, 49, 49, 50, 49, 51, 49, 52, 49, 53, 49, 54, 49, 55, 49, 56, 49, 57, 50, 48, 50, 49, 50, 50, 50, 51, 50, 52, 50, 53, 50, 54, 50, 55, 50, 56, 50, 57, 51, 48, 51, 49, 51, 50, 51, 51, 51, 52, 51, 53, 51, 54, 51, 55, 51, 56, 51, 57, 52, 48, 52, 49, 52, 50, 52, 51, 52, 52, 52, 53, 52, 54, 52, 55, 52, 56, 52, 57, 53, 48, 53, 49, 53, 50, 53, 51, 53, 52, 53, 53, 53, 54, 53, 55, 53, 56, 53, 57, 54, 48, 54, 49, 54, 50, 54, 51, 54, 52, 54, 53, 54, 54, 54, 55, 54, 56, 54, 57, 55, 48, 55, 49, 55, 50, 55, 51, 55, 52, 55, 53, 55, 54, 55, 55, 55, 56, 55, 57, 56, 48, 56, 49, 56, 50, 56, 51, 56, 52, 56, 53, 56, 54, 56, 55, 56, 56, 56, 57, 57, 48, 57, 49, 57, 50, 57, 51, 57, 52, 57, 53, 57, 54, 57, 55, 57, 56, 57, 57]⟩ : ByteArray)) (k := .u32) (i := (IntKind.u32.wrap ((IntKind.u32.wrap ((Int.tmod (Int.tmod (IntKind.u32.wrap v1_5) 10000) 100) * 2)) + 1))) (by kernel_rfl) (by kernel_rfl) (by kernel_rfl) (by kernel_rfl) hx) ?_
        refine DA.tP 9 (some 119) (Value.int .u32 (IntKind.u32.wrap ((Int.tmod (Int.tmod (IntKind.u32.wrap v1_5) 10000) 100) * 2))) ?_
        obtain ⟨x11, hx, h⟩ := bind_some h
        refine DA.tPx 10 (some 120) (Value.int .u8 x11) (Abs.det_byt (t := 9) (x := .const (Value.string (⟨#[48, 48, 48, 49, 48, 50, 48, 51, 48, 52, 48, 53, 48, 54, 48, 55, 48, 56, 48, 57, 49, 48, 49, 49, 49, 50, 49, 51, 49, 52, 49, 53, 49, 54, 49, 55, 49, 56, 49, 57, 50, 48, 50, 49, 50, 50, 50, 51, 50, 52, 50, 53, 50, 54, 50, 55, 50, 56, 50, 57, 51, 48, 51, 49, 51, 50, 51, 51, 51, 52, 51, 53, 51, 54, 51, 55, 51, 56, 51, 57, 52, 48, 52, 49, 52, 50, 52, 51, 52, 52, 52, 53, 52, 54, 52, 55, 52, 56, 52, 57, 53, 48, 53, 49, 53, 50, 53, 51, 53, 52, 53, 53, 53, 54, 53, 55, 53, 56, 53, 57, 54, 48, 54, 49, 54, 50, 54, 51, 54, 52, 54, 53, 54, 54, 54, 55, 54, 56, 54, 57, 55, 48, 55, 49, 55, 50, 55, 51, 55, 52, 55, 53, 55, 54, 55, 55, 55, 56, 55, 57, 56, 48, 56, 49, 56, 50, 56, 51, 56, 52, 56, 53, 56, 54, 56, 55, 56, 56, 56, 57, 57, 48, 57, 49, 57, 50, 57, 51, 57, 52, 57, 53, 57, 54, 57, 55, 57, 56, 57, 57]⟩ : ByteArray))) (y := .tmp 119) (s := (⟨#[48, 48, 48, 49, 48, 50, 48, 51, 48, 52, 48, 53, 48, 54, 48, 55, 48, 56, 48, 57, 49, 48, 49, 49, 49, 50, 49, 51, 49, 52, 49, 53, 49, 54, 49, 55, 49, 56, 49, 57, 50, 48, 50, 49, 50, 50, 50, 51, 50, 52, 50, 53, 50, 54, 50, 55, 50, 56, 50, 57, 51, 48, 51, 49, 51, 50, 51, 51, 51, 52, 51, 53, 51, 54, 51, 55, 51, 56, 51, 57, 52, 48, 52, 49, 52, 50, 52, 51, 52, 52, 52, 53, 52, 54, 52, 55, 52, 56, 52, 57, 53, 48, 53, 49, 53, 50, 53, 51, 53, 52, 53, 53, 53, 54, 53, 55, 53, 56, 53, 57, 54, 48, 54, 49, 54, 50, 54, 51, 54, 52, 54, 53, 54, 54, 54, 55, 54, 56, 54, 57, 55, 48, 55, 49, 55, 50, 55, 51, 55, 52, 55, 53, 55, 54, 55, 55, 55, 56, 55, 57, 56, 48, 56, 49, 56, 50, 56, 51, 56, 52, 56, 53, 56, 54, 56, 55, 56, 56, 56, 57, 57, 48, 57, 49, 57, 50, 57, 51, 57, 52, 57, 53, 57, 54, 57, 55, 57, 56, 57, 57]⟩ : ByteArray)) (k := .u32) (i := (IntKind.u32.wrap ((Int.tmod (Int.tmod (IntKind.u32.wrap v1_5) 10000) 100) * 2))) (by kernel_rfl) (by kernel_rfl) (by kernel_rfl) (by kernel_rfl) hx) ?_
        obtain ⟨p12, hx, h⟩ := bind_some h
        refine DA.tPx 11 (some 121) (Value.pointer (some p12)) (Abs.det_idx (s := a0) (k := .i64) (t := 144) (e := 5) (x := .tmp 110) (y := .tmp 112) (by kernel_rfl) (by kernel_rfl) (by kernel_rfl) (by kernel_rfl) (by kernel_rfl) hx) ?_
        obtain ⟨H13, hx, h⟩ := bind_some h
        refine DA.on 12 ?_
        refine DA.aH (H' := H13) 12 none undef (Abs.run_store1 (t := 5) (x := .tmp 121) (y := .tmp 118) (a := p12) (v := (Value.int .u8 x10)) (by kernel_rfl) (by kernel_rfl) (by kernel_rfl) (by kernel_rfl) (by kernel_rfl) hx) ?_
        obtain ⟨p14, hx, h⟩ := bind_some h
        refine DA.tPx 13 (some 122) (Value.pointer (some p14)) (Abs.det_idx (s := a0) (k := .i64) (t := 144) (e := 5) (x := .tmp 113) (y := .tmp 115) (by kernel_rfl) (by kernel_rfl) (by kernel_rfl) (by kernel_rfl) (by kernel_rfl) hx) ?_
        obtain ⟨H15, hx, h⟩ := bind_some h
        refine DA.on 14 ?_
        refine DA.aH (H' := H15) 14 none undef (Abs.run_store1 (t := 5) (x := .tmp 122) (y := .tmp 120) (a := p14) (v := (Value.int .u8 x11)) (by kernel_rfl) (by kernel_rfl) (by kernel_rfl) (by kernel_rfl) (by kernel_rfl) hx) ?_
        refine DA.dn ?_
        refine WS.nxt ?_
        refine WS.sq ?_
        refine WS.dr [] [0, 0, 2, 0, 0, 16, 0, 64, 192, 0, 512, 455, 2503, 8191, 16383] 15 (fun hcl => ?_)
        refine DA.tP 0 (some 123) (Sl3.v a0) ?_
        refine DA.tP 1 (some 124) (Value.int .i64 v4_6) ?_
        refine DA.tP 2 (some 125) (Value.int .i64 (IntKind.i64.wrap (v4_6 - 3))) ?_
        refine DA.tP 3 (some 126) (Sl3.v a0) ?_
        refine DA.tP 4 (some 127) (Value.int .i64 v4_6) ?_
        refine DA.tP 5 (some 128) (Value.int .i64 (IntKind.i64.wrap (v4_6 - 4))) ?_
        refine DA.tP 6 (some 129) (Value.int .u32 (IntKind.u32.wrap ((IntKind.u32.wrap (Int.tdiv (Int.tmod (IntKind.u32.wrap v1_5) 10000) 100)) * 2))) ?_
        refine DA.tP 7 (some 130) (Value.int .u32 (IntKind.u32.wrap ((IntKind.u32.wrap ((IntKind.u32.wrap (Int.tdiv (Int.tmod (IntKind.u32.wrap v1_5) 10000) 100)) * 2)) + 1))) ?_
        obtain ⟨x16, hx, h⟩ := bind_some h
        refine DA.tPx 8 (some 131) (Value.int .u8 x16) (Abs.det_byt (t := 9) (x := .const (Value.string (⟨#[48, 48, 48, 49, 48, 50, 48, 51, 48, 52, 48, 53, 48, 54, 48, 55, 48, 56, 48, 57, 49, 48, 49, 49, 49, 50, 49, 51, 49, 52, 49, 53, 49, 54, 49, 55, 49, 56, 49, 57, 50, 48, 50, 49, 50, 50, 50, 51, 50, 52, 50, 53, 50, 54, 50, 55, 50, 56, 50, 57, 51, 48, 51, 49, 51, 50, 51, 51, 51, 52, 51, 53, 51, 54, 51, 55, 51, 56, 51, 57, 52, 48, 52, 49, 52, 50, 52, 51, 52, 52, 52, 53, 52, 54, 52, 55, 52, 56, 52, 57, 53, 48, 53, 49, 53, 50, 53, 51, 53, 52, 53, 53, 53, 54, 53, 55, 53, 56, 53, 57, 54, 48, 54, 49, 54, 50, 54, 51, 54, 52, 54, 53, 54, 54, 54, 55, 54, 56, 54, 57, 55, 48, 55, 49, 55, 50, 55, 51, 55, 52, 55, 53, 55, 54, 55, 55, 55, 56, 55, 57, 56, 48, 56, 49, 56, 50, 56, 51, 56, 52, 56, 53, 56, 54, 56, 55, 56, 56, 56, 57, 57, 48, 57, 49, 57, 50, 57, 51, 57, 52, 57, 53, 57, 54, 57, 55, 57, 56, 57, 57]⟩ : ByteArray))) (y := .tmp 130) (s := (⟨#[48, 48, 48, 49, 48, 50, 48, 51, 48, 52, 48, 53, 48, 54, 48, 55, 48, 56, 48, 57, 49, 48, 49, 49, 49, 50, 49, 51, 49, 52, 49, 53, 49, 54, 49, 55, 49, 56, 49, 57, 50, 48, 50, 49, 50, 50, 50, 51, 50, 52, 50, 53, 50, 54, 50, 55, 50, 56, 50, 57, 51, 48, 51, 49, 51, 50, 51, 51, 51, 52, 51, 53, 51, 54, 51, 55, 51, 56, 51, 57, 52, 48, 52, 49, 52, 50, 52, 51, 52, 52, 52, 53, 52, 54, 52, 55, 52, 56, 52, 57, 53, 48, 53, 49, 53, 50, 53, 51, 53, 52, 53, 53, 53, 54, 53, 55, 53, 56, 53, 57, 54, 48, 54, 49, 54, 50, 54, 51, 54, 52, 54, 53, 54, 54, 54, 55, 54, 56, 54, 57, 55, 48, 55, 49, 55, 50, 55, 51, 55, 52, 55, 53, 55, 54, 55, 55, 55, 56, 55, 57, 56, 48, 56, 49, 56, 50, 56, 51, 56, 52, 56, 53, 56, 54, 56, 55, 56, 56, 56, 57, 57, 48, 57, 49, 57, 50, 57, 51, 57, 52, 57, 53, 57, 54, 57, 55, 57, 56, 57, 57]⟩ : ByteArray)) (k := .u32) (i := (IntKind.u32.wrap ((IntKind.u32.wrap ((IntKind.u32.wrap (Int.tdiv (Int.tmod (IntKind.u32.wrap v1_5) 10000) 100)) * 2)) + 1))) (by kernel_rfl) (by kernel_rfl) (by kernel_rfl) (by kernel_rfl) hx) ?_
        refine DA.tP 9 (some 132) (Value.int .u32 (IntKind.u32.wrap ((IntKind.u32.wrap (Int.tdiv (Int.tmod (IntKind.u32.wrap v1_5) 10000) 100)) * 2))) ?_
        obtain ⟨x17, hx, h⟩ := bind_some h
        refine DA.tPx 10 (some 133) (Value.int .u8 x17) (Abs.det_byt (t := 9) (x := .const (Value.string (⟨#[48, 48, 48, 49, 48, 50, 48, 51, 48, 52, 48, 53, 48, 54, 48, 55, 48, 56, 48, 57, 49, 48, 49, 49, 49, 50, 49, 51, 49, 52, 49, 53, 49, 54, 49, 55, 49, 56, 49, 57, 50, 48, 50, 49, 50, 50, 50, 51, 50, 52, 50, 53, 50, 54, 50, 55, 50, 56, 50, 57, 51, 48, 51, 49, 51, 50, 51, 51, 51, 52, 51, 53, 51, 54, 51, 55, 51, 56, 51, 57, 52, 48, 52, 49, 52, 50, 52, 51, 52, 52, 52, 53, 52, 54, 52, 55, 52, 56, 52, 57, 53, 48, 53, 49, 53, 50, 53, 51, 53, 52, 53, 53, 53, 54, 53, 55, 53, 56, 53, 57, 54, 48, 54, 49, 54, 50, 54, 51, 54, 52, 54, 53, 54, 54, 54, 55, 54, 56, 54, 57, 55, 48, 55, 49, 55, 50, 55, 51, 55, 52, 55, 53, 55, 54, 55, 55, 55, 56, 55, 57, 56, 48, 56, 49, 56, 50, 56, 51, 56, 52, 56, 53, 56, 54, 56, 55, 56, 56, 56, 57, 57, 48, 57, 49, 57, 50, 57, 51, 57, 52, 57, 53, 57, 54, 57, 55, 57, 56, 57, 57]⟩ : ByteArray))) (y := .tmp 132) (s := (⟨#[48, 48, 48, 49, 48, 50, 48, 51, 48, 52, 48, 53, 48, 54, 48, 55, 48, 56, 48, 57, 49, 48, 49, 49, 49, 50, 49, 51, 49, 52, 49, 53, 49, 54, 49, 55, 49, 56, 49, 57, 50, 48, 50, 49, 50, 50, 50, 51, 50, 52, 50, 53, 50, 54, 50, 55, 50, 56, 50, 57, 51, 48, 51, 49, 51, 50, 51, 51, 51, 52, 51, 53, 51, 54, 51, 55, 51, 56, 51, 57, 52, 48, 52, 49, 52, 50, 52, 51, 52, 52, 52, 53, 52, 54, 52, 55, 52, 56, 52, 57, 53, 48, 53, 49, 53, 50, 53, 51, 53, 52, 53, 53, 53, 54, 53, 55, 53, 56, 53, 57, 54, 48, 54, 49, 54, 50, 54, 51, 54, 52, 54, 53, 54, 54, 54, 55, 54, 56, 54, 57, 55, 48, 55, 49, 55, 50, 55, 51, 55, 52, 55, 53, 55, 54, 55, 55, 55, 56, 55, 57, 56, 48, 56, 49, 56, 50, 56, 51, 56, 52, 56, 53, 56, 54, 56, 55, 56, 56, 56, 57, 57, 48, 57, 49, 57, 50, 57, 51, 57, 52, 57, 53, 57, 54, 57, 55, 57, 56, 57, 57]⟩ : ByteArray)) (k := .u32) (i := (IntKind.u32.wrap ((IntKind.u32.wrap (Int.tdiv (Int.tmod (IntKind.u32.wrap v1_5) 10000) 100)) * 2))) (by kernel_rfl) (by kernel_rfl) (by kernel_rfl) (by kernel_rfl) hx) ?_
        obtain ⟨p18, hx, h⟩ := bind_some h
        refine DA.tPx 11 (some 134) (Value.pointer (some p18)) (Abs.det_idx (s := a0) (k := .i64) (t := 144) (e := 5) (x := .tmp 123) (y := .tmp 125) (by kernel_rfl) (by kernel_rfl) (by kernel_rfl) (by kernel_rfl) (by kernel_rfl) hx) ?_
        obtain ⟨H19, hx, h⟩ := bind_some h
        refine DA.on 12 ?_
        refine DA.aH (H' := H19) 12 none undef (Abs.run_store1 (t := 5) (x := .tmp 134) (y := .tmp 131) (a := p18) (v := (Value.int .u8 x16)) (by kernel_rfl) (by kernel_rfl) (by kernel_rfl) (by kernel_rfl) (by kernel_rfl) hx) ?_
        obtain ⟨p20, hx, h⟩ := bind_some h
        refine DA.tPx 13 (some 135) (Value.pointer (some p20)) (Abs.det_idx (s := a0) (k := .i64) (t := 144) (e := 5) (x := .tmp 126) (y := .tmp 128) (by kernel_rfl) (by kernel_rfl) (by kernel_rfl) (by kernel_rfl) (by kernel_rfl) hx) ?_
        obtain ⟨H21, hx, h⟩ := bind_some h
        refine DA.on 14 ?_
        refine DA.aH (H' := H21) 14 none undef (Abs.run_store1 (t := 5) (x := .tmp 135) (y := .tmp 133) (a := p20) (v := (Value.int .u8 x17)) (by kernel_rfl) (by kernel_rfl) (by kernel_rfl) (by kernel_rfl) (by kernel_rfl) hx) ?_
        refine DA.dn ?_
        refine WS.nxt ?_
        refine WS.rg ?_
        refine RS.mS 3 [(4, .val (Value.int .i64 (IntKind.i64.wrap (v4_6 - 4)))), (137, .val (Value.int .i64 (IntKind.i64.wrap (v4_6 - 4)))), (136, .val (Value.int .i64 v4_6))] ?_
        refine RS.dn ?_
        cases h
        exact fun a w hs => (jsN (hs.sb 0))
      · refine WS.fx 99 false (decide_eq_false hp) ?_
        refine WS.cF ?_
        refine WS.sk ?_
        cases h
        exact fun a w hs => (jsN (hs.sb 0))
    · clear hx
      obtain ⟨⟨H22, v4_23, v12_24⟩, hx, h⟩ := bind_some h
      try dsimp only at h
      refine WS.sq ?_
      refine WS.join ([(4, .val (Value.int .i64 v4_23)), (12, .val (Value.int .u32 v12_24)), (0, .val (Sl3.v a0))]) ([]) H22 ?_ (fun a w hs => WS.nxt ?_ a w hs)
      · clear h; rename _ => h
        refine WS.sq ?_
        refine WS.rg ?_
        refine RS.mS 2 [(139, .val (Value.bool (decide (v4_8 ≥ 2)))), (138, .val (Value.int .i64 v4_8))] ?_
        refine RS.dn ?_
        refine WS.nxt ?_
        rcases ite_some h with ⟨hp, h⟩ | ⟨hp, h⟩
        · refine WS.fx 139 true (decide_eq_true hp) ?_
          refine WS.cT ?_
          refine WS.sq ?_
          refine WS.rg ?_
          refine RS.mS 4 [(16, .val (Value.int .u32 (IntKind.u32.wrap ((Int.tmod v12_9 100) * 2)))), (142, .val (Value.int .u32 (IntKind.u32.wrap ((Int.tmod v12_9 100) * 2)))), (141, .val (Value.int .u32 (Int.tmod v12_9 100))), (140, .val (Value.int .u32 v12_9))] ?_
          refine RS.dn ?_
          refine WS.nxt ?_
          refine WS.sq ?_
          refine WS.rg ?_
          refine RS.mS 3 [(12, .val (Value.int .u32 (IntKind.u32.wrap (Int.tdiv v12_9 100)))), (144, .val (Value.int .u32 (IntKind.u32.wrap (Int.tdiv v12_9 100)))), (143, .val (Value.int .u32 v12_9))] ?_
          refine RS.dn ?_
          refine WS.nxt ?_
          refine WS.sq ?_
          refine WS.dr [] [0, 0, 2, 0, 0, 16, 0, 64, 192, 0, 512, 455, 2503, 8191, 16383] 15 (fun hcl => ?_)
          refine DA.tP 0 (some 145) (Sl3.v a0) ?_
          refine DA.tP 1 (some 146) (Value.int .i64 v4_8) ?_
          refine DA.tP 2 (some 147) (Value.int .i64 (IntKind.i64.wrap (v4_8 - 1))) ?_
          refine DA.tP 3 (some 148) (Sl3.v a0) ?_
          refine DA.tP 4 (some 149) (Value.int .i64 v4_8) ?_
          refine DA.tP 5 (some 150) (Value.int .i64 (IntKind.i64.wrap (v4_8 - 2))) ?_
          refine DA.tP 6 (some 151) (Value.int .u32 (IntKind.u32.wrap ((Int.tmod v12_9 100) * 2))) ?_
          refine DA.tP 7 (some 152) (Value.int .u32 (IntKind.u32.wrap ((IntKind.u32.wrap ((Int.tmod v12_9 100) * 2)) + 1))) ?_
          obtain ⟨x25, hx, h⟩ := bind_some h
          refine DA.tPx 8 (some 153) (Value.int .u8 x25) (Abs.det_byt (t := 9) (x := .const (Value.string (⟨#[48, 48, 48, 49, 48, 50, 48, 51, 48, 52, 48, 53, 48, 54, 48, 55, 48, 56, 48, 57, 49, 48, 49, 49, 49, 50, 49, 51, 49, 52, 49, 53, 49, 54, 49, 55, 49, 56, 49, 57, 50, 48, 50, 49, 50, 50, 50, 51, 50, 52, 50, 53, 50, 54, 50, 55, 50, 56, 50, 57, 51, 48, 51, 49, 51, 50, 51, 51, 51, 52, 51, 53, 51, 54, 51, 55, 51, 56, 51, 57, 52, 48, 52, 49, 52, 50, 52, 51, 52, 52, 52, 53, 52, 54, 52, 55, 52, 56, 52, 57, 53, 48, 53, 49, 53, 50, 53, 51, 53, 52, 53, 53, 53, 54, 53, 55, 53, 56, 53, 57, 54, 48, 54, 49, 54, 50, 54, 51, 54, 52, 54, 53, 54, 54, 54, 55, 54, 56, 54, 57, 55, 48, 55, 49, 55, 50, 55, 51, 55, 52, 55, 53, 55, 54, 55, 55, 55, 56, 55, 57, 56, 48, 56, 49, 56, 50, 56, 51, 56, 52, 56, 53, 56, 54, 56, 55, 56, 56, 56, 57, 57, 48, 57, 49, 57, 50, 57, 51, 57, 52, 57, 53, 57, 54, 57, 55, 57, 56, 57, 57]⟩ : ByteArray))) (y := .tmp 152) (s := (⟨#[48, 48, 48, 49, 48, 50, 48, 51, 48, 52, 48, 53, 48, 54, 48, 55, 48, 56, 48, 57, 49, 48, 49, 49, 49, 50, 49, 51, 49, 52, 49, 53, 49, 54, 49, 55, 49, 56, 49, 57, 50, 48, 50, 49, 50, 50, 50, 51, 50, 52, 50, 53, 50, 54, 50, 55, 50, 56, 50, 57, 51, 48, 51, 49, 51, 50, 51, 51, 51, 52, 51, 53, 51, 54, 51, 55, 51, 56, 51, 57, 52, 48, 52, 49, 52, 50, 52, 51, 52, 52, 52, 53, 52, 54, 52, 55, 52, 56, 52, 57, 53, 48, 53, 49, 53, 50, 53, 51, 53, 52, 53, 53, 53, 54, 53, 55, 53, 56, 53, 57, 54, 48, 54, 49, 54, 50, 54, 51, 54, 52, 54, 53, 54, 54, 54, 55, 54, 56, 54, 57, 55, 48, 55, 49, 55, 50, 55, 51, 55, 52, 55, 53, 55, 54, 55, 55, 55, 56, 55, 57, 56, 48, 56, 49, 56, 50, 56, 51, 56, 52, 56, 53, 56, 54, 56, 55, 56, 56, 56, 57, 57, 48, 57, 49, 57, 50, 57, 51, 57, 52, 57, 53, 57, 54, 57, 55, 57, 56, 57, 57]⟩ : ByteArray)) (k := .u32) (i := (IntKind.u32.wrap ((IntKind.u32.wrap ((Int.tmod v12_9 100) * 2)) + 1))) (by kernel_rfl) (by kernel_rfl) (by kernel_rfl) (by kernel_rfl) hx) ?_
          refine DA.tP 9 (some 154) (Value.int .u32 (IntKind.u32.wrap ((Int.tmod v12_9 100) * 2))) ?_
          obtain ⟨x26, hx, h⟩ := bind_some h
          refine DA.tPx 10 (some 155) (Value.int .u8 x26) (Abs.det_byt (t := 9) (x := .const (Value.string (⟨#[48, 48, 48, 49, 48, 50, 48, 51, 48, 52, 48, 53, 48, 54, 48, 55, 48, 56, 48, 57, 49, 48, 49, 49, 49, 50, 49, 51, 49, 52, 49, 53, 49, 54, 49, 55, 49, 56, 49, 57, 50, 48, 50, 49, 50, 50, 50, 51, 50, 52, 50, 53, 50, 54, 50, 55, 50, 56, 50, 57, 51, 48, 51, 49, 51, 50, 51, 51, 51, 52, 51, 53, 51, 54, 51, 55, 51, 56, 51, 57, 52, 48, 52, 49, 52, 50, 52, 51, 52, 52, 52, 53, 52, 54, 52, 55, 52, 56, 52, 57, 53, 48, 53, 49, 53, 50, 53, 51, 53, 52, 53, 53, 53, 54, 53, 55, 53, 56, 53, 57, 54, 48, 54, 49, 54, 50, 54, 51, 54, 52, 54, 53, 54, 54, 54, 55, 54, 56, 54, 57, 55, 48, 55, 49, 55, 50, 55, 51, 55, 52, 55, 53, 55, 54, 55, 55, 55, 56, 55, 57, 56, 48, 56, 49, 56, 50, 56, 51, 56, 52, 56, 53, 56, 54, 56, 55, 56, 56, 56, 57, 57, 48, 57, 49, 57, 50, 57, 51, 57, 52, 57, 53, 57, 54, 57, 55, 57, 56, 57, 57]⟩ : ByteArray))) (y := .tmp 154) (s := (⟨#[48, 48, 48, 49, 48, 50, 48, 51, 48, 52, 48, 53, 48, 54, 48, 55, 48, 56, 48, 57, 49, 48, 49, 49, 49, 50, 49, 51, 49, 52, 49, 53, 49, 54, 49, 55, 49, 56, 49, 57, 50, 48, 50, 49, 50, 50, 50, 51, 50, 52, 50, 53, 50, 54, 50, 55, 50, 56, 50, 57, 51, 48, 51, 49, 51, 50, 51, 51, 51, 52, 51, 53, 51, 54, 51, 55, 51, 56, 51, 57, 52, 48, 52, 49, 52, 50, 52, 51, 52, 52, 52, 53, 52, 54, 52, 55, 52, 56, 52, 57, 53, 48, 53, 49, 53, 50, 53, 51, 53, 52, 53, 53, 53, 54, 53, 55, 53, 56, 53, 57, 54, 48, 54, 49, 54, 50, 54, 51, 54, 52, 54, 53, 54, 54, 54, 55, 54, 56, 54, 57, 55, 48, 55, 49, 55, 50, 55, 51, 55, 52, 55, 53, 55, 54, 55, 55, 55, 56, 55, 57, 56, 48, 56, 49, 56, 50, 56, 51, 56, 52, 56, 53, 56, 54, 56, 55, 56, 56, 56, 57, 57, 48, 57, 49, 57, 50, 57, 51, 57, 52, 57, 53, 57, 54, 57, 55, 57, 56, 57, 57]⟩ : ByteArray)) (k := .u32) (i := (IntKind.u32.wrap ((Int.tmod v12_9 100) * 2))) (by kernel_rfl) (by kernel_rfl) (by kernel_rfl) (by kernel_rfl) hx) ?_
          obtain ⟨p27, hx, h⟩ := bind_some h
          refine DA.tPx 11 (some 156) (Value.pointer (some p27)) (Abs.det_idx (s := a0) (k := .i64) (t := 144) (e := 5) (x := .tmp 145) (y := .tmp 147) (by kernel_rfl) (by kernel_rfl) (by kernel_rfl) (by kernel_rfl) (by kernel_rfl) hx) ?_
          obtain ⟨H28, hx, h⟩ := bind_some h
          refine DA.on 12 ?_
          refine DA.aH (H' := H28) 12 none undef (Abs.run_store1 (t := 5) (x := .tmp 156) (y := .tmp 153) (a := p27) (v := (Value.int .u8 x25)) (by kernel_rfl) (by kernel_rfl) (by kernel_rfl) (by kernel_rfl) (by kernel_rfl) hx) ?_
          obtain ⟨p29, hx, h⟩ := bind_some h
          refine DA.tPx 13 (some 157) (Value.pointer (some p29)) (Abs.det_idx (s := a0) (k := .i64) (t := 144) (e := 5) (x := .tmp 148) (y := .tmp 150) (by kernel_rfl) (by kernel_rfl) (by kernel_rfl) (by kernel_rfl) (by kernel_rfl) hx) ?_
          obtain ⟨H30, hx, h⟩ := bind_some h
          refine DA.on 14 ?_
          refine DA.aH (H' := H30) 14 none undef (Abs.run_store1 (t := 5) (x := .tmp 157) (y := .tmp 155) (a := p29) (v := (Value.int .u8 x26)) (by kernel_rfl) (by kernel_rfl) (by kernel_rfl) (by kernel_rfl) (by kernel_rfl) hx) ?_
          refine DA.dn ?_
          refine WS.nxt ?_
          refine WS.rg ?_
          refine RS.mS 3 [(4, .val (Value.int .i64 (IntKind.i64.wrap (v4_8 - 2)))), (159, .val (Value.int .i64 (IntKind.i64.wrap (v4_8 - 2)))), (158, .val (Value.int .i64 v4_8))] ?_
          refine RS.dn ?_
          cases h
          exact fun a w hs => (jsN (hs.sb 0))
        · refine WS.fx 139 false (decide_eq_false hp) ?_
          refine WS.cF ?_
          refine WS.sk ?_
          cases h
          exact fun a w hs => (jsN (hs.sb 0))
      · clear hx
        refine WS.sq ?_
        refine WS.rg ?_
        refine RS.mS 2 [(161, .val (Value.bool (decide (v4_23 > 0)))), (160, .val (Value.int .i64 v4_23))] ?_
        refine RS.dn ?_
        refine WS.nxt ?_
        rcases ite_some h with ⟨hp, h⟩ | ⟨hp, h⟩
        · refine WS.fx 161 true (decide_eq_true hp) ?_
          refine WS.cT ?_
          refine WS.rg ?_
          refine RS.mS 4 [(165, .val (Value.int .u8 (IntKind.u8.wrap (IntKind.u32.wrap (48 + v12_24))))), (164, .val (Value.int .u32 (IntKind.u32.wrap (48 + v12_24)))), (163, .val (Value.int .u32 v12_24)), (162, .val (Sl3.v a0))] ?_
          obtain ⟨p31, hx, h⟩ := bind_some h
          refine RS.o (H' := H22) (some 166) (Value.pointer (some p31)) (Abs.run_idx (s := a0) (k := .i64) (t := 144) (e := 5) (x := .tmp 162) (y := .const (Value.int .i64 0)) (by kernel_rfl) (by kernel_rfl) (by kernel_rfl) (by kernel_rfl) (by kernel_rfl) hx) ?_
          obtain ⟨H32, hx, h⟩ := bind_some h
          refine RS.o (H' := H32) none undef (Abs.run_store1 (t := 5) (x := .tmp 166) (y := .tmp 165) (a := p31) (v := (Value.int .u8 (IntKind.u8.wrap (IntKind.u32.wrap (48 + v12_24))))) (by kernel_rfl) (by kernel_rfl) (by kernel_rfl) (by kernel_rfl) (by kernel_rfl) hx) ?_
          refine RS.dn ?_
          cases h
          exact fun a w hs => rtN (rS hs)
        · refine WS.fx 161 false (decide_eq_false hp) ?_
          refine WS.cF ?_
          refine WS.sk ?_
          cases h
          exact fun a w hs => rtN (rS hs)
  · try dsimp only at h
    refine WS.lR (strconv_formatBase10_b0_ok (ne := ne) (L := L) (E := E) (m := m) (H := H)) (L.ok hl) 0 ?_
    cases h
    exact fun a w hq => bkR (sqR (rtR hq))

end Go.Proofs.YtccbilfbhecdaaaDoor.Aw

