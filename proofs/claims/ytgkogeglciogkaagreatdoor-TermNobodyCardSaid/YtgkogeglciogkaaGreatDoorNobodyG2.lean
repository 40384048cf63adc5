/- Functions of the program as Lean functions over the abstract heap, and that they are what the program computes (printed by a program of this project's own), part 2. No condition. -/
import Derived.Test.YtgkogeglciogkaaGreatDoorNobodyG1
namespace Go.Proofs.YtgkogeglciogkaaGreatDoor
open Go Go.Abs
set_option maxRecDepth 100000

def term_Table_params_enc : (Bool × AH) → Value
  | (r0, _) => (Value.bool r0)

def term_Table_params_hp (_ : AH) : (Bool × AH) → AH := fun r => r.2

noncomputable def B49 : Code := (Tryz.f49.body).getD .skip

noncomputable def term_Table_params (_L : LC) (_m : Nat) (H : AH) (_a0 : Option Addr) (a1_0 : Int) (_a1_1 : ByteArray) (_a1_2 : Bool) (_a1_3 : Sl3) (_a1_4 : Int) (_a1_5 : Sl3) (_a1_6 : Int) (_a1_7 : Int) (_a1_8 : ByteArray) (_a1_9 : Sl3) (_a1_10 : Sl3) (_a1_11 : Sl3) (a2 : Int) : Option (Bool × AH) :=
  if a1_0 = 34 then
    none
  else
    if a2 = 0 then
      some (true, H)
    else
      none

theorem term_Table_params_ok {L : LC} {m : Nat} {H : AH} {a0 : Option Addr} {a1_0 : Int} {a1_1 : ByteArray} {a1_2 : Bool} {a1_3 : Sl3} {a1_4 : Int} {a1_5 : Sl3} {a1_6 : Int} {a1_7 : Int} {a1_8 : ByteArray} {a1_9 : Sl3} {a1_10 : Sl3} {a1_11 : Sl3} {a2 : Int} {r : (Bool × AH)} (h : term_Table_params L m H a0 a1_0 a1_1 a1_2 a1_3 a1_4 a1_5 a1_6 a1_7 a1_8 a1_9 a1_10 a1_11 a2 = some r) :
    CallS Tryz.prog (NE.plain 92) m 49 #[(Value.pointer a0), (Value.agg #[(Value.int .i64 a1_0), (Value.string a1_1), (Value.bool a1_2), (Sl3.v a1_3), (Value.int .i64 a1_4), (Sl3.v a1_5), (Value.int .i64 a1_6), (Value.int .i64 a1_7), (Value.string a1_8), (Sl3.v a1_9), (Sl3.v a1_10), (Sl3.v a1_11)]), (Value.int .i64 a2)] H (term_Table_params_enc r) (term_Table_params_hp H r) := by
  refine CallS.mk (args := [(Value.pointer a0), (Value.agg #[(Value.int .i64 a1_0), (Value.string a1_1), (Value.bool a1_2), (Sl3.v a1_3), (Value.int .i64 a1_4), (Sl3.v a1_5), (Value.int .i64 a1_6), (Value.int .i64 a1_7), (Value.string a1_8), (Sl3.v a1_9), (Sl3.v a1_10), (Sl3.v a1_11)]), (Value.int .i64 a2)]) Tryz.func49 (B := B49) (by kernel_rfl) (fun E _ => ?_)
  unfold term_Table_params at h
  refine WS.sq ?_
  refine WS.rg ?_
  refine RS.mL 2 [(6, .val (Value.bool false)), (4, .loc 0 0)] ([some (35, [(Value.int .i64 a1_0), (Value.string a1_1), (Value.bool a1_2), (Sl3.v a1_3), (Value.int .i64 a1_4), (Sl3.v a1_5), (Value.int .i64 a1_6), (Value.int .i64 a1_7), (Value.string a1_8), (Sl3.v a1_9), (Sl3.v a1_10), (Sl3.v a1_11)])]) ?_
  refine RS.dn ?_
  refine WS.nxt ?_
  refine WS.sq ?_
  refine WS.sq ?_
  refine WS.rg ?_
  refine RS.mS 3 [(9, .val (Value.bool (decide (a1_0 = 34)))), (8, .val (Value.int .i64 a1_0)), (7, .loc 0 0)] ?_
  refine RS.dn ?_
  refine WS.nxt ?_
  rcases ite_some h with ⟨hp, h⟩ | ⟨hp, h⟩
  · refine WS.fx 9 true (decide_eq_true hp) ?_
    refine WS.cT ?_
    cases h
  · refine WS.fx 9 false (decide_eq_false hp) ?_
    refine WS.cF ?_
    refine WS.sk ?_
    refine WS.nxt ?_
    refine WS.sq ?_
    refine WS.sq ?_
    refine WS.rg ?_
    refine RS.mS 2 [(25, .val (Value.bool (decide (a2 = 0)))), (24, .val (Value.int .i64 a2))] ?_
    refine RS.dn ?_
    refine WS.nxt ?_
    rcases ite_some h with ⟨hp, h⟩ | ⟨hp, h⟩
    · refine WS.fx 25 true (decide_eq_true hp) ?_
      refine WS.cT ?_
      refine WS.sq ?_
      refine WS.rg ?_
      refine RS.mS 1 [(6, .val (Value.bool true))] ?_
      refine RS.dn ?_
      refine WS.nxt ?_
      refine WS.rt ?_
      cases h
      exact fun a w hs => sqR (rtR (rS hs))
    · refine WS.fx 25 false (decide_eq_false hp) ?_
      refine WS.cF ?_
      cases h

def term_value_enc : Int → Value
  | r0 => (Value.int .i64 r0)

def term_value_hp (H : AH) : Int → AH := fun _ => H

noncomputable def B50 : Code := (Tryz.f50.body).getD .skip

noncomputable def term_value (_L : LC) (_H : AH) (a0_0 : Int) (_a0_1 : ByteArray) (_a0_2 : Bool) (_a0_3 : Sl3) (_a0_4 : Int) (_a0_5 : Sl3) (_a0_6 : Int) (_a0_7 : Int) (_a0_8 : ByteArray) (_a0_9 : Sl3) (_a0_10 : Sl3) (_a0_11 : Sl3) : Option Int :=
  if a0_0 = 20 then
    none
  else
    if a0_0 = 40 then
      none
    else
      some 0

theorem term_value_ok {L : LC} {m : Nat} {H : AH} {a0_0 : Int} {a0_1 : ByteArray} {a0_2 : Bool} {a0_3 : Sl3} {a0_4 : Int} {a0_5 : Sl3} {a0_6 : Int} {a0_7 : Int} {a0_8 : ByteArray} {a0_9 : Sl3} {a0_10 : Sl3} {a0_11 : Sl3} {r : Int} (h : term_value L H a0_0 a0_1 a0_2 a0_3 a0_4 a0_5 a0_6 a0_7 a0_8 a0_9 a0_10 a0_11 = some r) :
    CallS Tryz.prog (NE.plain 92) m 50 #[(Value.agg #[(Value.int .i64 a0_0), (Value.string a0_1), (Value.bool a0_2), (Sl3.v a0_3), (Value.int .i64 a0_4), (Sl3.v a0_5), (Value.int .i64 a0_6), (Value.int .i64 a0_7), (Value.string a0_8), (Sl3.v a0_9), (Sl3.v a0_10), (Sl3.v a0_11)])] H (term_value_enc r) (term_value_hp H r) := by
  refine CallS.mk (args := [(Value.agg #[(Value.int .i64 a0_0), (Value.string a0_1), (Value.bool a0_2), (Sl3.v a0_3), (Value.int .i64 a0_4), (Sl3.v a0_5), (Value.int .i64 a0_6), (Value.int .i64 a0_7), (Value.string a0_8), (Sl3.v a0_9), (Sl3.v a0_10), (Sl3.v a0_11)])]) Tryz.func50 (B := B50) (by kernel_rfl) (fun E _ => ?_)
  unfold term_value at h
  refine WS.sq ?_
  refine WS.rg ?_
  refine RS.mL 2 [(2, .val (Value.int .i64 0)), (1, .loc 0 0)] ([some (35, [(Value.int .i64 a0_0), (Value.string a0_1), (Value.bool a0_2), (Sl3.v a0_3), (Value.int .i64 a0_4), (Sl3.v a0_5), (Value.int .i64 a0_6), (Value.int .i64 a0_7), (Value.string a0_8), (Sl3.v a0_9), (Sl3.v a0_10), (Sl3.v a0_11)])]) ?_
  refine RS.dn ?_
  refine WS.nxt ?_
  refine WS.sq ?_
  refine WS.sq ?_
  refine WS.rg ?_
  refine RS.mS 2 [(4, .val (Value.int .i64 a0_0)), (3, .loc 0 0)] ?_
  refine RS.dn ?_
  refine WS.nxt ?_
  refine WS.bk 0 ?_
  refine WS.sq ?_
  refine WS.rg ?_
  refine RS.mS 2 [(5, .val (Value.bool (decide (a0_0 = 20)))), (6, .val (Value.bool (decide (a0_0 = 20))))] ?_
  refine RS.dn ?_
  refine WS.nxt ?_
  rcases ite_some h with ⟨hp, h⟩ | ⟨hp, h⟩
  · refine WS.fx 5 true (decide_eq_true hp) ?_
    refine WS.cT ?_
    cases h
  · refine WS.fx 5 false (decide_eq_false hp) ?_
    refine WS.cF ?_
    refine WS.sq ?_
    refine WS.rg ?_
    refine RS.mS 2 [(12, .val (Value.bool (decide (a0_0 = 40)))), (13, .val (Value.bool (decide (a0_0 = 40))))] ?_
    refine RS.dn ?_
    refine WS.nxt ?_
    rcases ite_some h with ⟨hp, h⟩ | ⟨hp, h⟩
    · refine WS.fx 12 true (decide_eq_true hp) ?_
      refine WS.cT ?_
      cases h
    · refine WS.fx 12 false (decide_eq_false hp) ?_
      refine WS.cF ?_
      refine WS.sk ?_
      refine fun a w hs => bkN ((WS.nxt ?_ a w hs))
      refine WS.sq ?_
      refine WS.rg ?_
      refine RS.mS 1 [(2, .val (Value.int .i64 0))] ?_
      refine RS.dn ?_
      refine WS.nxt ?_
      refine WS.rt ?_
      cases h
      exact fun a w hs => rtR (rS hs)

def term_Table_ask_enc : (Sl3 × Int × Int × ByteArray × Sl3 × Int × AH) → Value
  | (r0, r1, r2, r3, r4, r5, _) => (Value.tuple #[(Sl3.v r0), (Value.agg #[(Value.int .i64 r1), (Value.int .i64 r2), (Value.string r3), (Sl3.v r4)]), (Value.int .i64 r5)])

def term_Table_ask_hp (_ : AH) : (Sl3 × Int × Int × ByteArray × Sl3 × Int × AH) → AH := fun r => r.2.2.2.2.2.2

noncomputable def B31 : Code := (Tryz.f31.body).getD .skip

noncomputable def term_Table_ask_b0 (_L : LC) (a0 : Option Addr) (_a1_0 : Int) (_a1_1 : ByteArray) (_a1_2 : Bool) (_a1_3 : Sl3) (_a1_4 : Int) (_a1_5 : Sl3) (_a1_6 : Int) (_a1_7 : Int) (_a1_8 : ByteArray) (_a1_9 : Sl3) (_a1_10 : Sl3) (a1_11 : Sl3) (_x3 : Int) (H5 : AH) (_v11_8 : Sl3) (_w2_13 : Int) (_w2_14 : Int) (_w2_15 : ByteArray) (_w2_16 : Sl3) : (Int × Int × Int × ByteArray × Sl3) → Option (Lp (Int × Int × Int × ByteArray × Sl3) (Sl3 × Int × Int × ByteArray × Sl3 × Int × AH)) := fun (v67_21, w1_22, w1_23, w1_24, w1_25) =>
  if v67_21 < (a1_11.n : Int) then
    Option.bind (idxA 1 a1_11 v67_21) fun p26 =>
    Option.bind (rd (deI .i64) H5 p26) fun x27 =>
    if x27 < 0 then
      none
    else
      Option.bind a0 fun q28 =>
      Option.bind (rd deSl H5 (Addr.add q28 3)) fun x29 =>
      if x27 ≥ (x29.n : Int) then
        none
      else
        some (.next ((IntKind.i64.wrap (v67_21 + 1)), w1_22, w1_23, w1_24, w1_25))
  else
    some (.brk (v67_21, w1_22, w1_23, w1_24, w1_25))

def term_Table_ask_b0_kn (_L : LC) (a0 : Option Addr) (_a1_0 : Int) (_a1_1 : ByteArray) (_a1_2 : Bool) (_a1_3 : Sl3) (_a1_4 : Int) (_a1_5 : Sl3) (_a1_6 : Int) (_a1_7 : Int) (_a1_8 : ByteArray) (_a1_9 : Sl3) (_a1_10 : Sl3) (a1_11 : Sl3) (x3 : Int) (_H5 : AH) (v11_8 : Sl3) (_w2_13 : Int) (_w2_14 : Int) (_w2_15 : ByteArray) (_w2_16 : Sl3) : (Int × Int × Int × ByteArray × Sl3) → KN := fun (v67_21, _, _, _, _) => [(67, .val (Value.int .i64 v67_21)), (0, .val (Value.pointer a0)), (3, .loc 0 0), (5, .loc 1 0), (9, .val (Value.int .i64 x3)), (11, .val (Sl3.v v11_8)), (12, .loc 2 0), (65, .val (Sl3.v a1_11)), (66, .val (Value.int .i64 (a1_11.n : Int)))]

def term_Table_ask_b0_ls (_L : LC) (_a0 : Option Addr) (a1_0 : Int) (a1_1 : ByteArray) (a1_2 : Bool) (a1_3 : Sl3) (a1_4 : Int) (a1_5 : Sl3) (a1_6 : Int) (a1_7 : Int) (a1_8 : ByteArray) (a1_9 : Sl3) (a1_10 : Sl3) (a1_11 : Sl3) (_x3 : Int) (_H5 : AH) (_v11_8 : Sl3) (w2_13 : Int) (w2_14 : Int) (w2_15 : ByteArray) (w2_16 : Sl3) : (Int × Int × Int × ByteArray × Sl3) → Lcs := fun (_, w1_22, w1_23, w1_24, w1_25) => [some (35, [(Value.int .i64 a1_0), (Value.string a1_1), (Value.bool a1_2), (Sl3.v a1_3), (Value.int .i64 a1_4), (Sl3.v a1_5), (Value.int .i64 a1_6), (Value.int .i64 a1_7), (Value.string a1_8), (Sl3.v a1_9), (Sl3.v a1_10), (Sl3.v a1_11)]), some (32, [(Value.int .i64 w1_22), (Value.int .i64 w1_23), (Value.string w1_24), (Sl3.v w1_25)]), some (32, [(Value.int .i64 w2_13), (Value.int .i64 w2_14), (Value.string w2_15), (Sl3.v w2_16)])]

noncomputable def term_Table_ask (L : LC) (m : Nat) (H : AH) (a0 : Option Addr) (a1_0 : Int) (a1_1 : ByteArray) (a1_2 : Bool) (a1_3 : Sl3) (a1_4 : Int) (a1_5 : Sl3) (a1_6 : Int) (a1_7 : Int) (a1_8 : ByteArray) (a1_9 : Sl3) (a1_10 : Sl3) (a1_11 : Sl3) : Option (Sl3 × Int × Int × ByteArray × Sl3 × Int × AH) :=
  Option.bind (term_form L a1_0) fun (x1, x2, x3, x4) =>
  if x4 = true then
    Option.bind (α := (AH × Int × Int × Sl3 × Int × Int × ByteArray × Sl3 × Int × Int × ByteArray × Sl3) ⊕ (Sl3 × Int × Int × ByteArray × Sl3 × Int × AH)) (
      if a1_0 ≥ 11 then
        if a1_0 ≤ 14 then
          Option.bind (term_Table_symbol L m H a0 a1_0 a1_1) fun (x17, x18_0, x18_1, x18_2, x18_3, x19, H20) =>
          if x19 = true then
            some (.inl (H20, (x17.n : Int), (x17.n : Int), x17, 0, 0, (⟨#[]⟩ : ByteArray), Sl3.nil, x18_0, x18_1, x18_2, x18_3))
          else
            none
        else
          some (.inl (H, x1, x2, Sl3.nil, 0, 0, (⟨#[]⟩ : ByteArray), Sl3.nil, 0, 0, (⟨#[]⟩ : ByteArray), Sl3.nil))
      else
        none) fun o => match o with
    | .inl (H5, v7_6, v8_7, v11_8, w1_9, w1_10, w1_11, w1_12, w2_13, w2_14, w2_15, w2_16) =>
      if (a1_11.n : Int) < v7_6 then
        none
      else
        if (a1_11.n : Int) > v8_7 then
          none
        else
          Option.bind (L.run (term_Table_ask_b0 L a0 a1_0 a1_1 a1_2 a1_3 a1_4 a1_5 a1_6 a1_7 a1_8 a1_9 a1_10 a1_11 x3 H5 v11_8 w2_13 w2_14 w2_15 w2_16) (0, w1_9, w1_10, w1_11, w1_12)) fun o => match o with
          | .inl (_, _, _, _, _) =>
            Option.bind (term_Table_params L m H5 a0 a1_0 a1_1 a1_2 a1_3 a1_4 a1_5 a1_6 a1_7 a1_8 a1_9 a1_10 a1_11 x3) fun (x35, H36) =>
            if x35 = true then
              Option.bind (term_value L H36 a1_0 a1_1 a1_2 a1_3 a1_4 a1_5 a1_6 a1_7 a1_8 a1_9 a1_10 a1_11) fun x37 =>
              some (v11_8, w2_13, w2_14, w2_15, w2_16, x37, H36)
            else
              none
          | .inr r => some r
    | .inr r => some r
  else
    none

theorem term_Table_ask_b0_ok {E : Ent} {m : Nat} {H : AH} {L : LC} {a0 : Option Addr} {a1_0 : Int} {a1_1 : ByteArray} {a1_2 : Bool} {a1_3 : Sl3} {a1_4 : Int} {a1_5 : Sl3} {a1_6 : Int} {a1_7 : Int} {a1_8 : ByteArray} {a1_9 : Sl3} {a1_10 : Sl3} {a1_11 : Sl3} {x3 : Int} {H5 : AH} {v11_8 : Sl3} {w2_13 : Int} {w2_14 : Int} {w2_15 : ByteArray} {w2_16 : Sl3}  : ∀ s o, term_Table_ask_b0 L a0 a1_0 a1_1 a1_2 a1_3 a1_4 a1_5 a1_6 a1_7 a1_8 a1_9 a1_10 a1_11 x3 H5 v11_8 w2_13 w2_14 w2_15 w2_16 s = some o →
    WS Tryz.prog (NE.plain 92) m E Tryz.f31.ntmps (cfst (cfst (csnd (cfst (csnd (csnd (csnd (csnd (csnd (csnd (csnd B31))))))))))) (term_Table_ask_b0_kn L a0 a1_0 a1_1 a1_2 a1_3 a1_4 a1_5 a1_6 a1_7 a1_8 a1_9 a1_10 a1_11 x3 H5 v11_8 w2_13 w2_14 w2_15 w2_16 s) (term_Table_ask_b0_ls L a0 a1_0 a1_1 a1_2 a1_3 a1_4 a1_5 a1_6 a1_7 a1_8 a1_9 a1_10 a1_11 x3 H5 v11_8 w2_13 w2_14 w2_15 w2_16 s) ((fun _ => H5) s) (lpS Tryz.prog (NE.plain 92) m E Tryz.f31.ntmps (term_Table_ask_b0_kn L a0 a1_0 a1_1 a1_2 a1_3 a1_4 a1_5 a1_6 a1_7 a1_8 a1_9 a1_10 a1_11 x3 H5 v11_8 w2_13 w2_14 w2_15 w2_16) (term_Table_ask_b0_ls L a0 a1_0 a1_1 a1_2 a1_3 a1_4 a1_5 a1_6 a1_7 a1_8 a1_9 a1_10 a1_11 x3 H5 v11_8 w2_13 w2_14 w2_15 w2_16) (fun _ => H5) 0 (fun r => RT Tryz.prog (NE.plain 92) m E Tryz.f31 (term_Table_ask_enc r) (term_Table_ask_hp H r)) o) := by
  rintro ⟨v67_21, w1_22, w1_23, w1_24, w1_25⟩ o h
  unfold term_Table_ask_b0 at h
  try dsimp only at h
  refine WS.sq ?_
  refine WS.rg ?_
  refine RS.mS 1 [(68, .val (Value.bool (decide (v67_21 < (a1_11.n : Int)))))] ?_
  refine RS.dn ?_
  refine WS.nxt ?_
  refine WS.sq ?_
  rcases ite_some h with ⟨hp, h⟩ | ⟨hp, h⟩
  · refine WS.fx 68 true (decide_eq_true hp) ?_
    refine WS.cT ?_
    refine WS.sk ?_
    refine WS.nxt ?_
    refine WS.sq ?_
    refine WS.bk 1 ?_
    refine WS.sq ?_
    refine WS.rg ?_
    obtain ⟨p26, hx, h⟩ := bind_some h
    refine RS.o (H' := H5) (some 69) (Value.pointer (some p26)) (Abs.run_idx (s := a1_11) (k := .i64) (t := 33) (e := 3) (x := .tmp 65) (y := .tmp 67) (by kernel_rfl) (by kernel_rfl) (by kernel_rfl) (by kernel_rfl) (by kernel_rfl) hx) ?_
    obtain ⟨x27, hx, h⟩ := bind_some h
    refine RS.o (H' := H5) (some 70) (Value.int .i64 x27) (Abs.run_load (t := 3) (x := .tmp 69) (a := p26) (by kernel_rfl) (by kernel_rfl) (by kernel_rfl) (rd_cell hx deI_inv)) ?_
    refine RS.mS 1 [(14, .val (Value.int .i64 x27))] ?_
    refine RS.dn ?_
    refine WS.nxt ?_
    refine WS.sq ?_
    refine WS.rg ?_
    refine RS.mS 3 [(73, .val (Value.bool (decide (x27 < 0)))), (72, .val (Value.bool (decide (x27 < 0)))), (71, .val (Value.int .i64 x27))] ?_
    rcases ite_some h with ⟨hp, h⟩ | ⟨hp, h⟩
    · refine RS.fx 73 true (decide_eq_true hp) ?_
      cases h
    · refine RS.fx 73 false (decide_eq_false hp) ?_
      refine RS.mS 2 [(75, .val (Value.pointer a0)), (74, .val (Value.int .i64 x27))] ?_
      obtain ⟨q28, hx, hq28⟩ := bind_some h
      subst hx
      have h := hq28
      refine RS.mS 2 [(77, .val (Value.pointer (some (Addr.add q28 3)))), (76, .val (Value.pointer (some q28)))] ?_
      obtain ⟨x29, hx, h⟩ := bind_some h
      refine RS.o (H' := H5) (some 78) (Sl3.v x29) (Abs.run_load (t := 42) (x := .tmp 77) (a := (Addr.add q28 3)) (by kernel_rfl) (by kernel_rfl) (by kernel_rfl) (rd_cell hx deSl_inv)) ?_
      refine RS.mS 3 [(81, .val (Value.bool (decide (x27 ≥ (x29.n : Int))))), (80, .val (Value.bool (decide (x27 ≥ (x29.n : Int))))), (79, .val (Value.int .i64 (x29.n : Int)))] ?_
      refine RS.dn ?_
      refine WS.nxt ?_
      rcases ite_some h with ⟨hp, h⟩ | ⟨hp, h⟩
      · refine WS.fx 81 true (decide_eq_true hp) ?_
        refine WS.cT ?_
        cases h
      · refine WS.fx 81 false (decide_eq_false hp) ?_
        refine WS.cF ?_
        refine WS.sk ?_
        refine fun a w hs => bkN ((WS.nxt ?_ a w hs))
        refine WS.rg ?_
        refine RS.mS 2 [(67, .val (Value.int .i64 (IntKind.i64.wrap (v67_21 + 1)))), (83, .val (Value.int .i64 (IntKind.i64.wrap (v67_21 + 1))))] ?_
        refine RS.dn ?_
        cases h
        exact fun a w hs => lsN rfl (hs.sb 3)
  · refine WS.fx 68 false (decide_eq_false hp) ?_
    refine WS.cF ?_
    refine WS.ex 0 ?_
    cases h
    exact fun a w hs => sqE (lsB rfl (hs.sb 3))

theorem term_Table_ask_ok {L : LC} {m : Nat} {H : AH} {a0 : Option Addr} {a1_0 : Int} {a1_1 : ByteArray} {a1_2 : Bool} {a1_3 : Sl3} {a1_4 : Int} {a1_5 : Sl3} {a1_6 : Int} {a1_7 : Int} {a1_8 : ByteArray} {a1_9 : Sl3} {a1_10 : Sl3} {a1_11 : Sl3} {r : (Sl3 × Int × Int × ByteArray × Sl3 × Int × AH)} (h : term_Table_ask L m H a0 a1_0 a1_1 a1_2 a1_3 a1_4 a1_5 a1_6 a1_7 a1_8 a1_9 a1_10 a1_11 = some r) :
    CallS Tryz.prog (NE.plain 92) m 31 #[(Value.pointer a0), (Value.agg #[(Value.int .i64 a1_0), (Value.string a1_1), (Value.bool a1_2), (Sl3.v a1_3), (Value.int .i64 a1_4), (Sl3.v a1_5), (Value.int .i64 a1_6), (Value.int .i64 a1_7), (Value.string a1_8), (Sl3.v a1_9), (Sl3.v a1_10), (Sl3.v a1_11)])] H (term_Table_ask_enc r) (term_Table_ask_hp H r) := by
  refine CallS.mk (args := [(Value.pointer a0), (Value.agg #[(Value.int .i64 a1_0), (Value.string a1_1), (Value.bool a1_2), (Sl3.v a1_3), (Value.int .i64 a1_4), (Sl3.v a1_5), (Value.int .i64 a1_6), (Value.int .i64 a1_7), (Value.string a1_8), (Sl3.v a1_9), (Sl3.v a1_10), (Sl3.v a1_11)])]) Tryz.func31 (B := B31) (by kernel_rfl) (fun E _ => ?_)
  unfold term_Table_ask at h
  refine WS.sq ?_
  refine WS.rg ?_
  refine RS.mL 4 [(6, .val (Value.int .i64 0)), (5, .loc 1 0), (4, .val (Sl3.v Sl3.nil)), (3, .loc 0 0)] ([some (35, [(Value.int .i64 a1_0), (Value.string a1_1), (Value.bool a1_2), (Sl3.v a1_3), (Value.int .i64 a1_4), (Sl3.v a1_5), (Value.int .i64 a1_6), (Value.int .i64 a1_7), (Value.string a1_8), (Sl3.v a1_9), (Sl3.v a1_10), (Sl3.v a1_11)]), some (32, [(Value.int .i64 0), (Value.int .i64 0), (Value.string (⟨#[]⟩ : ByteArray)), (Sl3.v Sl3.nil)])]) ?_
  refine RS.dn ?_
  refine WS.nxt ?_
  refine WS.sq ?_
  refine WS.rg ?_
  refine RS.mS 2 [(17, .val (Value.int .i64 a1_0)), (16, .loc 0 0)] ?_
  obtain ⟨⟨x1, x2, x3, x4⟩, hx, h⟩ := bind_some h
  try dsimp only at h
  refine RS.cl (some 18) (v := (Value.tuple #[(Value.int .i64 x1), (Value.int .i64 x2), (Value.int .i64 x3), (Value.bool x4)])) 37 #[(Value.int .i64 a1_0)] (term_form_ok hx) ?_
  refine RS.mS 9 [(10, .val (Value.bool x4)), (9, .val (Value.int .i64 x3)), (8, .val (Value.int .i64 x2)), (7, .val (Value.int .i64 x1)), (22, .val (Value.bool x4)), (21, .val (Value.int .i64 x3)), (20, .val (Value.int .i64 x2)), (19, .val (Value.int .i64 x1)), (15, .val (Value.tuple #[(Value.int .i64 x1), (Value.int .i64 x2), (Value.int .i64 x3), (Value.bool x4)]))] ?_
  refine RS.dn ?_
  refine WS.nxt ?_
  refine WS.sq ?_
  refine WS.sq ?_
  refine WS.rg ?_
  refine RS.mS 2 [(24, .val (Value.bool (!x4))), (23, .val (Value.bool x4))] ?_
  refine RS.dn ?_
  refine WS.nxt ?_
  rcases ite_some h with ⟨hp, h⟩ | ⟨hp, h⟩
  · refine WS.fx 24 false (nb_not hp) ?_
    refine WS.cF ?_
    refine WS.sk ?_
    refine WS.nxt ?_
    refine WS.sq ?_
    refine WS.rg ?_
    refine RS.mS 1 [(11, .val (Sl3.v Sl3.nil))] ?_
    refine RS.dn ?_
    refine WS.nxt ?_
    refine WS.sq ?_
    refine WS.rg ?_
    refine RS.mL 1 [(12, .loc 2 0)] ([some (35, [(Value.int .i64 a1_0), (Value.string a1_1), (Value.bool a1_2), (Sl3.v a1_3), (Value.int .i64 a1_4), (Sl3.v a1_5), (Value.int .i64 a1_6), (Value.int .i64 a1_7), (Value.string a1_8), (Sl3.v a1_9), (Sl3.v a1_10), (Sl3.v a1_11)]), some (32, [(Value.int .i64 0), (Value.int .i64 0), (Value.string (⟨#[]⟩ : ByteArray)), (Sl3.v Sl3.nil)]), some (32, [(Value.int .i64 0), (Value.int .i64 0), (Value.string (⟨#[]⟩ : ByteArray)), (Sl3.v Sl3.nil)])]) ?_
    refine RS.dn ?_
    refine WS.nxt ?_
    obtain ⟨o, hx, h⟩ := bind_some h
    rcases o with ⟨H5, v7_6, v8_7, v11_8, w1_9, w1_10, w1_11, w1_12, w2_13, w2_14, w2_15, w2_16⟩ | ro
    · try dsimp only at h
      refine WS.sq ?_
      refine WS.join ([(7, .val (Value.int .i64 v7_6)), (8, .val (Value.int .i64 v8_7)), (11, .val (Sl3.v v11_8)), (0, .val (Value.pointer a0)), (3, .loc 0 0), (5, .loc 1 0), (9, .val (Value.int .i64 x3)), (12, .loc 2 0)]) ([some (35, [(Value.int .i64 a1_0), (Value.string a1_1), (Value.bool a1_2), (Sl3.v a1_3), (Value.int .i64 a1_4), (Sl3.v a1_5), (Value.int .i64 a1_6), (Value.int .i64 a1_7), (Value.string a1_8), (Sl3.v a1_9), (Sl3.v a1_10), (Sl3.v a1_11)]), some (32, [(Value.int .i64 w1_9), (Value.int .i64 w1_10), (Value.string w1_11), (Sl3.v w1_12)]), some (32, [(Value.int .i64 w2_13), (Value.int .i64 w2_14), (Value.string w2_15), (Sl3.v w2_16)])]) H5 ?_ (fun a w hs => WS.nxt ?_ a w hs)
      · clear h; rename _ => h
        refine WS.sq ?_
        refine WS.rg ?_
        refine RS.mS 4 [(29, .val (Value.bool (decide (a1_0 ≥ 11)))), (28, .val (Value.bool (decide (a1_0 ≥ 11)))), (27, .val (Value.int .i64 a1_0)), (26, .loc 0 0)] ?_
        rcases ite_some h with ⟨hp, h⟩ | ⟨hp, h⟩
        · refine RS.fx 29 true (decide_eq_true hp) ?_
          refine RS.mS 4 [(33, .val (Value.bool (decide (a1_0 ≤ 14)))), (32, .val (Value.bool (decide (a1_0 ≤ 14)))), (31, .val (Value.int .i64 a1_0)), (30, .loc 0 0)] ?_
          refine RS.dn ?_
          refine WS.nxt ?_
          rcases ite_some h with ⟨hp, h⟩ | ⟨hp, h⟩
          · refine WS.fx 33 true (decide_eq_true hp) ?_
            refine WS.cT ?_
            refine WS.sq ?_
            refine WS.rg ?_
            refine RS.mS 5 [(39, .val (Value.string a1_1)), (38, .loc 0 1), (37, .val (Value.int .i64 a1_0)), (36, .loc 0 0), (35, .val (Value.pointer a0))] ?_
            obtain ⟨⟨x17, x18_0, x18_1, x18_2, x18_3, x19, H20⟩, hx, h⟩ := bind_some h
            try dsimp only at h
            refine RS.cl (some 40) (v := (Value.tuple #[(Sl3.v x17), (Value.agg #[(Value.int .i64 x18_0), (Value.int .i64 x18_1), (Value.string x18_2), (Sl3.v x18_3)]), (Value.bool x19)])) 48 #[(Value.pointer a0), (Value.int .i64 a1_0), (Value.string a1_1)] (term_Table_symbol_ok hx) ?_
            refine RS.mL 7 [(10, .val (Value.bool x19)), (11, .val (Sl3.v x17)), (43, .val (Value.bool x19)), (42, .val (Value.agg #[(Value.int .i64 x18_0), (Value.int .i64 x18_1), (Value.string x18_2), (Sl3.v x18_3)])), (41, .val (Sl3.v x17)), (34, .val (Value.tuple #[(Sl3.v x17), (Value.agg #[(Value.int .i64 x18_0), (Value.int .i64 x18_1), (Value.string x18_2), (Sl3.v x18_3)]), (Value.bool x19)]))] ([some (35, [(Value.int .i64 a1_0), (Value.string a1_1), (Value.bool a1_2), (Sl3.v a1_3), (Value.int .i64 a1_4), (Sl3.v a1_5), (Value.int .i64 a1_6), (Value.int .i64 a1_7), (Value.string a1_8), (Sl3.v a1_9), (Sl3.v a1_10), (Sl3.v a1_11)]), some (32, [(Value.int .i64 0), (Value.int .i64 0), (Value.string (⟨#[]⟩ : ByteArray)), (Sl3.v Sl3.nil)]), some (32, [(Value.int .i64 x18_0), (Value.int .i64 x18_1), (Value.string x18_2), (Sl3.v x18_3)])]) ?_
            refine RS.dn ?_
            refine WS.nxt ?_
            refine WS.sq ?_
            refine WS.sq ?_
            refine WS.rg ?_
            refine RS.mS 2 [(45, .val (Value.bool (!x19))), (44, .val (Value.bool x19))] ?_
            refine RS.dn ?_
            refine WS.nxt ?_
            rcases ite_some h with ⟨hp, h⟩ | ⟨hp, h⟩
            · refine WS.fx 45 false (nb_not hp) ?_
              refine WS.cF ?_
              refine WS.sk ?_
              refine WS.nxt ?_
              refine WS.rg ?_
              refine RS.mS 6 [(8, .val (Value.int .i64 (x17.n : Int))), (7, .val (Value.int .i64 (x17.n : Int))), (50, .val (Value.int .i64 (x17.n : Int))), (49, .val (Sl3.v x17)), (48, .val (Value.int .i64 (x17.n : Int))), (47, .val (Sl3.v x17))] ?_
              refine RS.dn ?_
              cases h
              exact fun a w hs => (jsN (hs.sb 3))
            · refine WS.fx 45 true (nb_not' hp) ?_
              refine WS.cT ?_
              cases h
          · refine WS.fx 33 false (decide_eq_false hp) ?_
            refine WS.cF ?_
            refine WS.sk ?_
            cases h
            exact fun a w hs => (jsN (hs.sb 3))
        · refine RS.fx 29 false (decide_eq_false hp) ?_
          cases h
      · clear hx
        refine WS.sq ?_
        refine WS.sq ?_
        refine WS.rg ?_
        refine RS.mS 6 [(56, .val (Value.bool (decide ((a1_11.n : Int) < v7_6)))), (55, .val (Value.bool (decide ((a1_11.n : Int) < v7_6)))), (54, .val (Value.int .i64 v7_6)), (53, .val (Value.int .i64 (a1_11.n : Int))), (52, .val (Sl3.v a1_11)), (51, .loc 0 11)] ?_
        rcases ite_some h with ⟨hp, h⟩ | ⟨hp, h⟩
        · refine RS.fx 56 true (decide_eq_true hp) ?_
          cases h
        · refine RS.fx 56 false (decide_eq_false hp) ?_
          refine RS.mS 6 [(62, .val (Value.bool (decide ((a1_11.n : Int) > v8_7)))), (61, .val (Value.bool (decide ((a1_11.n : Int) > v8_7)))), (60, .val (Value.int .i64 v8_7)), (59, .val (Value.int .i64 (a1_11.n : Int))), (58, .val (Sl3.v a1_11)), (57, .loc 0 11)] ?_
          refine RS.dn ?_
          refine WS.nxt ?_
          rcases ite_some h with ⟨hp, h⟩ | ⟨hp, h⟩
          · refine WS.fx 62 true (decide_eq_true hp) ?_
            refine WS.cT ?_
            cases h
          · refine WS.fx 62 false (decide_eq_false hp) ?_
            refine WS.cF ?_
            refine WS.sk ?_
            refine WS.nxt ?_
            refine WS.sq ?_
            refine WS.sq ?_
            refine WS.rg ?_
            refine RS.mS 4 [(67, .val (Value.int .i64 0)), (66, .val (Value.int .i64 (a1_11.n : Int))), (65, .val (Sl3.v a1_11)), (64, .loc 0 11)] ?_
            refine RS.dn ?_
            refine WS.nxt ?_
            refine WS.bk 0 ?_
            obtain ⟨o, hl, h⟩ := bind_some h
            rcases o with ⟨v67_30, w1_31, w1_32, w1_33, w1_34⟩ | r
            · try dsimp only at h
              refine WS.lI (term_Table_ask_b0_ok (L := L) (E := E) (m := m) (H := H)) (L.ok hl) 3 ?_
              clear hl
              refine fun a w hs => bkE ((WS.nxt ?_ a w hs))
              refine WS.sq ?_
              refine WS.sq ?_
              refine WS.rg ?_
              refine RS.mS 3 [(86, .val (Value.int .i64 x3)), (85, .val (Value.agg #[(Value.int .i64 a1_0), (Value.string a1_1), (Value.bool a1_2), (Sl3.v a1_3), (Value.int .i64 a1_4), (Sl3.v a1_5), (Value.int .i64 a1_6), (Value.int .i64 a1_7), (Value.string a1_8), (Sl3.v a1_9), (Sl3.v a1_10), (Sl3.v a1_11)])), (84, .val (Value.pointer a0))] ?_
              obtain ⟨⟨x35, H36⟩, hx, h⟩ := bind_some h
              try dsimp only at h
              refine RS.cl (some 87) (v := (Value.bool x35)) 49 #[(Value.pointer a0), (Value.agg #[(Value.int .i64 a1_0), (Value.string a1_1), (Value.bool a1_2), (Sl3.v a1_3), (Value.int .i64 a1_4), (Sl3.v a1_5), (Value.int .i64 a1_6), (Value.int .i64 a1_7), (Value.string a1_8), (Sl3.v a1_9), (Sl3.v a1_10), (Sl3.v a1_11)]), (Value.int .i64 x3)] (term_Table_params_ok hx) ?_
              refine RS.mS 1 [(88, .val (Value.bool (!x35)))] ?_
              refine RS.dn ?_
              refine WS.nxt ?_
              rcases ite_some h with ⟨hp, h⟩ | ⟨hp, h⟩
              · refine WS.fx 88 false (nb_not hp) ?_
                refine WS.cF ?_
                refine WS.sk ?_
                refine WS.nxt ?_
                refine WS.sq ?_
                refine WS.dr [1, 2] [0, 0, 0, 4, 13, 31, 63] 7 (fun hcl => ?_)
                refine DA.tL 1 (some 91) (.val (Value.agg #[(Value.int .i64 w2_13), (Value.int .i64 w2_14), (Value.string w2_15), (Sl3.v w2_16)])) ?_
                refine DA.tL 2 (some 92) (.val (Value.agg #[(Value.int .i64 a1_0), (Value.string a1_1), (Value.bool a1_2), (Sl3.v a1_3), (Value.int .i64 a1_4), (Sl3.v a1_5), (Value.int .i64 a1_6), (Value.int .i64 a1_7), (Value.string a1_8), (Sl3.v a1_9), (Sl3.v a1_10), (Sl3.v a1_11)])) ?_
                refine DA.tP 0 (some 90) (Sl3.v v11_8) ?_
                obtain ⟨x37, hx, h⟩ := bind_some h
                refine DA.on 3 ?_
                refine DA.aCk 3 (some 93) false (v := (Value.int .i64 x37)) 50 #[(Value.agg #[(Value.int .i64 a1_0), (Value.string a1_1), (Value.bool a1_2), (Sl3.v a1_3), (Value.int .i64 a1_4), (Sl3.v a1_5), (Value.int .i64 a1_6), (Value.int .i64 a1_7), (Value.string a1_8), (Sl3.v a1_9), (Sl3.v a1_10), (Sl3.v a1_11)])] (term_value_ok hx) ?_
                refine DA.tP 4 (some 4) (Sl3.v v11_8) ?_
                refine DA.on 5 ?_
                refine DA.aL 5 none (.val undef) ([some (35, [(Value.int .i64 a1_0), (Value.string a1_1), (Value.bool a1_2), (Sl3.v a1_3), (Value.int .i64 a1_4), (Sl3.v a1_5), (Value.int .i64 a1_6), (Value.int .i64 a1_7), (Value.string a1_8), (Sl3.v a1_9), (Sl3.v a1_10), (Sl3.v a1_11)]), some (32, [(Value.int .i64 w2_13), (Value.int .i64 w2_14), (Value.string w2_15), (Sl3.v w2_16)]), some (32, [(Value.int .i64 w2_13), (Value.int .i64 w2_14), (Value.string w2_15), (Sl3.v w2_16)])]) false ?_
                refine DA.tP 6 (some 6) (Value.int .i64 x37) ?_
                refine DA.dn ?_
                refine WS.nxt ?_
                refine WS.rt ?_
                cases h
                exact fun a w hs => rtR (rS hs)
              · refine WS.fx 88 true (nb_not' hp) ?_
                refine WS.cT ?_
                cases h
            · try dsimp only at h
              refine WS.lR (term_Table_ask_b0_ok (L := L) (E := E) (m := m) (H := H)) (L.ok hl) 3 ?_
              cases h
              exact fun a w hq => bkR (sqR (rtR hq))
    · cases h; rename _ => h
      refine WS.sq ?_
      refine WS.sq ?_
      refine WS.rg ?_
      refine RS.mS 4 [(29, .val (Value.bool (decide (a1_0 ≥ 11)))), (28, .val (Value.bool (decide (a1_0 ≥ 11)))), (27, .val (Value.int .i64 a1_0)), (26, .loc 0 0)] ?_
      rcases ite_some h with ⟨hp, h⟩ | ⟨hp, h⟩
      · refine RS.fx 29 true (decide_eq_true hp) ?_
        refine RS.mS 4 [(33, .val (Value.bool (decide (a1_0 ≤ 14)))), (32, .val (Value.bool (decide (a1_0 ≤ 14)))), (31, .val (Value.int .i64 a1_0)), (30, .loc 0 0)] ?_
        refine RS.dn ?_
        refine WS.nxt ?_
        rcases ite_some h with ⟨hp, h⟩ | ⟨hp, h⟩
        · refine WS.fx 33 true (decide_eq_true hp) ?_
          refine WS.cT ?_
          refine WS.sq ?_
          refine WS.rg ?_
          refine RS.mS 5 [(39, .val (Value.string a1_1)), (38, .loc 0 1), (37, .val (Value.int .i64 a1_0)), (36, .loc 0 0), (35, .val (Value.pointer a0))] ?_
          obtain ⟨⟨x17, x18_0, x18_1, x18_2, x18_3, x19, H20⟩, hx, h⟩ := bind_some h
          try dsimp only at h
          refine RS.cl (some 40) (v := (Value.tuple #[(Sl3.v x17), (Value.agg #[(Value.int .i64 x18_0), (Value.int .i64 x18_1), (Value.string x18_2), (Sl3.v x18_3)]), (Value.bool x19)])) 48 #[(Value.pointer a0), (Value.int .i64 a1_0), (Value.string a1_1)] (term_Table_symbol_ok hx) ?_
          refine RS.mL 7 [(10, .val (Value.bool x19)), (11, .val (Sl3.v x17)), (43, .val (Value.bool x19)), (42, .val (Value.agg #[(Value.int .i64 x18_0), (Value.int .i64 x18_1), (Value.string x18_2), (Sl3.v x18_3)])), (41, .val (Sl3.v x17)), (34, .val (Value.tuple #[(Sl3.v x17), (Value.agg #[(Value.int .i64 x18_0), (Value.int .i64 x18_1), (Value.string x18_2), (Sl3.v x18_3)]), (Value.bool x19)]))] ([some (35, [(Value.int .i64 a1_0), (Value.string a1_1), (Value.bool a1_2), (Sl3.v a1_3), (Value.int .i64 a1_4), (Sl3.v a1_5), (Value.int .i64 a1_6), (Value.int .i64 a1_7), (Value.string a1_8), (Sl3.v a1_9), (Sl3.v a1_10), (Sl3.v a1_11)]), some (32, [(Value.int .i64 0), (Value.int .i64 0), (Value.string (⟨#[]⟩ : ByteArray)), (Sl3.v Sl3.nil)]), some (32, [(Value.int .i64 x18_0), (Value.int .i64 x18_1), (Value.string x18_2), (Sl3.v x18_3)])]) ?_
          refine RS.dn ?_
          refine WS.nxt ?_
          refine WS.sq ?_
          refine WS.sq ?_
          refine WS.rg ?_
          refine RS.mS 2 [(45, .val (Value.bool (!x19))), (44, .val (Value.bool x19))] ?_
          refine RS.dn ?_
          refine WS.nxt ?_
          rcases ite_some h with ⟨hp, h⟩ | ⟨hp, h⟩
          · refine WS.fx 45 false (nb_not hp) ?_
            refine WS.cF ?_
            refine WS.sk ?_
            refine WS.nxt ?_
            refine WS.rg ?_
            refine RS.mS 6 [(8, .val (Value.int .i64 (x17.n : Int))), (7, .val (Value.int .i64 (x17.n : Int))), (50, .val (Value.int .i64 (x17.n : Int))), (49, .val (Sl3.v x17)), (48, .val (Value.int .i64 (x17.n : Int))), (47, .val (Sl3.v x17))] ?_
            refine RS.dn ?_
            cases h
          · refine WS.fx 45 true (nb_not' hp) ?_
            refine WS.cT ?_
            cases h
        · refine WS.fx 33 false (decide_eq_false hp) ?_
          refine WS.cF ?_
          refine WS.sk ?_
          cases h
      · refine RS.fx 29 false (decide_eq_false hp) ?_
        cases h
  · refine WS.fx 24 true (nb_not' hp) ?_
    refine WS.cT ?_
    cases h

def sort_Same_enc : Bool → Value
  | r0 => (Value.bool r0)

def sort_Same_hp (H : AH) : Bool → AH := fun _ => H

def slices_EqualFunc__32_enc : Bool → Value
  | r0 => (Value.bool r0)

def slices_EqualFunc__32_hp (H : AH) : Bool → AH := fun _ => H

noncomputable def B32 : Code := (Tryz.f32.body).getD .skip

noncomputable def sort_Same_body (_L : LC) (rec_slices_EqualFunc__32 : AH → Sl3 → Sl3 → Option Bool) (H : AH) (a0_0 : Int) (a0_1 : Int) (a0_2 : ByteArray) (a0_3 : Sl3) (a1_0 : Int) (a1_1 : Int) (a1_2 : ByteArray) (a1_3 : Sl3) : Option Bool :=
  if a0_0 = a1_0 then
    if a0_1 = a1_1 then
      if (a0_2.toList == a1_2.toList) = true then
        Option.bind (rec_slices_EqualFunc__32 H a0_3 a1_3) fun x1 =>
        some x1
      else
        none
    else
      none
  else
    none

noncomputable def B51 : Code := (Tryz.f51.body).getD .skip

noncomputable def slices_EqualFunc__32_b0 (_L : LC) (_H : AH) (a0 : Sl3) (_a1 : Sl3) : Int → Option (Lp Int Bool) := fun v17_1 =>
  if v17_1 < (a0.n : Int) then
    none
  else
    some (.brk v17_1)

def slices_EqualFunc__32_b0_kn (_L : LC) (_H : AH) (a0 : Sl3) (a1 : Sl3) : Int → KN := fun v17_1 => [(17, .val (Value.int .i64 v17_1)), (1, .val (Sl3.v a1)), (2, .val (Value.func (.func 32) #[] #[])), (15, .val (Sl3.v a0)), (16, .val (Value.int .i64 (a0.n : Int)))]

def slices_EqualFunc__32_b0_ls (_L : LC) (_H : AH) (_a0 : Sl3) (_a1 : Sl3) : Int → Lcs := fun _ => []

noncomputable def slices_EqualFunc__32_body (L : LC) (H : AH) (a0 : Sl3) (a1 : Sl3) : Option Bool :=
  if (a0.n : Int) = (a1.n : Int) then
    Option.bind (L.run (slices_EqualFunc__32_b0 L H a0 a1) 0) fun o => match o with
    | .inl _ =>
      some true
    | .inr r => some r
  else
    none

noncomputable def fam_sort_Same (L : LC) (n : Nat) : (AH → Int → Int → ByteArray → Sl3 → Int → Int → ByteArray → Sl3 → Option Bool) × (AH → Sl3 → Sl3 → Option Bool) := Nat.rec (motive := fun _ => (AH → Int → Int → ByteArray → Sl3 → Int → Int → ByteArray → Sl3 → Option Bool) × (AH → Sl3 → Sl3 → Option Bool)) ((fun _ _ _ _ _ _ _ _ _ => none), (fun _ _ _ => none)) (fun _ p => (sort_Same_body L p.2, slices_EqualFunc__32_body L)) n

noncomputable def sort_Same (L : LC) (H : AH) (a0_0 : Int) (a0_1 : Int) (a0_2 : ByteArray) (a0_3 : Sl3) (a1_0 : Int) (a1_1 : Int) (a1_2 : ByteArray) (a1_3 : Sl3) : Option Bool := ((fam_sort_Same L L.fuel).1) H a0_0 a0_1 a0_2 a0_3 a1_0 a1_1 a1_2 a1_3

noncomputable def slices_EqualFunc__32 (L : LC) (H : AH) (a0 : Sl3) (a1 : Sl3) : Option Bool := ((fam_sort_Same L L.fuel).2) H a0 a1

theorem sort_Same_body_ok {L : LC} {rec_slices_EqualFunc__32 : AH → Sl3 → Sl3 → Option Bool} (hrec_slices_EqualFunc__32 : ∀ (m : Nat) (H : AH) (a0 : Sl3) (a1 : Sl3) (r : Bool), rec_slices_EqualFunc__32 H a0 a1 = some r → CallS Tryz.prog (NE.plain 92) m 51 #[(Sl3.v a0), (Sl3.v a1), (Value.func (.func 32) #[] #[])] H (slices_EqualFunc__32_enc r) (slices_EqualFunc__32_hp H r)) {m : Nat} {H : AH} {a0_0 : Int} {a0_1 : Int} {a0_2 : ByteArray} {a0_3 : Sl3} {a1_0 : Int} {a1_1 : Int} {a1_2 : ByteArray} {a1_3 : Sl3} {r : Bool} (h : sort_Same_body L rec_slices_EqualFunc__32 H a0_0 a0_1 a0_2 a0_3 a1_0 a1_1 a1_2 a1_3 = some r) :
    CallS Tryz.prog (NE.plain 92) m 32 #[(Value.agg #[(Value.int .i64 a0_0), (Value.int .i64 a0_1), (Value.string a0_2), (Sl3.v a0_3)]), (Value.agg #[(Value.int .i64 a1_0), (Value.int .i64 a1_1), (Value.string a1_2), (Sl3.v a1_3)])] H (sort_Same_enc r) (sort_Same_hp H r) := by
  refine CallS.mk (args := [(Value.agg #[(Value.int .i64 a0_0), (Value.int .i64 a0_1), (Value.string a0_2), (Sl3.v a0_3)]), (Value.agg #[(Value.int .i64 a1_0), (Value.int .i64 a1_1), (Value.string a1_2), (Sl3.v a1_3)])]) Tryz.func32 (B := B32) (by kernel_rfl) (fun E _ => ?_)
  unfold sort_Same_body at h
  refine WS.sq ?_
  refine WS.rg ?_
  refine RS.mL 3 [(4, .val (Value.bool false)), (3, .loc 1 0), (2, .loc 0 0)] ([some (32, [(Value.int .i64 a0_0), (Value.int .i64 a0_1), (Value.string a0_2), (Sl3.v a0_3)]), some (32, [(Value.int .i64 a1_0), (Value.int .i64 a1_1), (Value.string a1_2), (Sl3.v a1_3)])]) ?_
  refine RS.dn ?_
  refine WS.nxt ?_
  refine WS.sq ?_
  refine WS.rg ?_
  refine RS.mS 6 [(10, .val (Value.bool (decide (a0_0 = a1_0)))), (9, .val (Value.bool (decide (a0_0 = a1_0)))), (8, .val (Value.int .i64 a1_0)), (7, .loc 1 0), (6, .val (Value.int .i64 a0_0)), (5, .loc 0 0)] ?_
  rcases ite_some h with ⟨hp, h⟩ | ⟨hp, h⟩
  · refine RS.fx 10 true (decide_eq_true hp) ?_
    refine RS.mS 7 [(17, .val (Value.bool (decide (a0_1 = a1_1)))), (16, .val (Value.bool (decide (a0_1 = a1_1)))), (15, .val (Value.bool (decide (a0_1 = a1_1)))), (14, .val (Value.int .i64 a1_1)), (13, .loc 1 1), (12, .val (Value.int .i64 a0_1)), (11, .loc 0 1)] ?_
    rcases ite_some h with ⟨hp, h⟩ | ⟨hp, h⟩
    · refine RS.fx 17 true (decide_eq_true hp) ?_
      refine RS.mS 7 [(24, .val (Value.bool (a0_2.toList == a1_2.toList))), (23, .val (Value.bool (a0_2.toList == a1_2.toList))), (22, .val (Value.bool (a0_2.toList == a1_2.toList))), (21, .val (Value.string a1_2)), (20, .loc 1 2), (19, .val (Value.string a0_2)), (18, .loc 0 2)] ?_
      rcases ite_some h with ⟨hp, h⟩ | ⟨hp, h⟩
      · refine RS.fx 24 true hp ?_
        refine RS.mS 4 [(28, .val (Sl3.v a1_3)), (27, .loc 1 3), (26, .val (Sl3.v a0_3)), (25, .loc 0 3)] ?_
        obtain ⟨x1, hx, h⟩ := bind_some h
        refine RS.cl (some 29) (v := (Value.bool x1)) 51 #[(Sl3.v a0_3), (Sl3.v a1_3), (Value.func (.func 32) #[] #[])] (hrec_slices_EqualFunc__32 _ _ _ _ _ hx) ?_
        refine RS.mS 2 [(4, .val (Value.bool x1)), (30, .val (Value.bool x1))] ?_
        refine RS.dn ?_
        refine WS.nxt ?_
        refine WS.rt ?_
        cases h
        exact fun a w hs => rtR (rS hs)
      · refine RS.fx 24 false (b_not hp) ?_
        cases h
    · refine RS.fx 17 false (decide_eq_false hp) ?_
      cases h
  · refine RS.fx 10 false (decide_eq_false hp) ?_
    cases h

theorem slices_EqualFunc__32_b0_ok {E : Ent} {m : Nat} {L : LC} {H : AH} {a0 : Sl3} {a1 : Sl3}  : ∀ s o, slices_EqualFunc__32_b0 L H a0 a1 s = some o →
    WS Tryz.prog (NE.plain 92) m E Tryz.f51.ntmps (cfst (cfst (csnd (cfst (csnd (csnd B51)))))) (slices_EqualFunc__32_b0_kn L H a0 a1 s) (slices_EqualFunc__32_b0_ls L H a0 a1 s) ((fun _ => H) s) (lpS Tryz.prog (NE.plain 92) m E Tryz.f51.ntmps (slices_EqualFunc__32_b0_kn L H a0 a1) (slices_EqualFunc__32_b0_ls L H a0 a1) (fun _ => H) 0 (fun r => RT Tryz.prog (NE.plain 92) m E Tryz.f51 (slices_EqualFunc__32_enc r) (slices_EqualFunc__32_hp H r)) o) := by
  rintro v17_1 o h
  unfold slices_EqualFunc__32_b0 at h
  try dsimp only at h
  refine WS.sq ?_
  refine WS.rg ?_
  refine RS.mS 1 [(18, .val (Value.bool (decide (v17_1 < (a0.n : Int)))))] ?_
  refine RS.dn ?_
  refine WS.nxt ?_
  refine WS.sq ?_
  rcases ite_some h with ⟨hp, h⟩ | ⟨hp, h⟩
  · refine WS.fx 18 true (decide_eq_true hp) ?_
    refine WS.cT ?_
    cases h
  · refine WS.fx 18 false (decide_eq_false hp) ?_
    refine WS.cF ?_
    refine WS.ex 0 ?_
    cases h
    exact fun a w hs => sqE (lsB rfl (hs.sb 0))

theorem slices_EqualFunc__32_body_ok {L : LC} {m : Nat} {H : AH} {a0 : Sl3} {a1 : Sl3} {r : Bool} (h : slices_EqualFunc__32_body L H a0 a1 = some r) :
    CallS Tryz.prog (NE.plain 92) m 51 #[(Sl3.v a0), (Sl3.v a1), (Value.func (.func 32) #[] #[])] H (slices_EqualFunc__32_enc r) (slices_EqualFunc__32_hp H r) := by
  refine CallS.mk (args := [(Sl3.v a0), (Sl3.v a1), (Value.func (.func 32) #[] #[])]) Tryz.func51 (B := B51) (by kernel_rfl) (fun E _ => ?_)
  unfold slices_EqualFunc__32_body at h
  refine WS.sq ?_
  refine WS.rg ?_
  refine RS.mS 1 [(6, .val (Value.bool false))] ?_
  refine RS.dn ?_
  refine WS.nxt ?_
  refine WS.sq ?_
  refine WS.sq ?_
  refine WS.rg ?_
  refine RS.mS 5 [(14, .val (Value.bool (!decide ((a0.n : Int) = (a1.n : Int))))), (13, .val (Value.int .i64 (a1.n : Int))), (12, .val (Sl3.v a1)), (11, .val (Value.int .i64 (a0.n : Int))), (10, .val (Sl3.v a0))] ?_
  refine RS.dn ?_
  refine WS.nxt ?_
  rcases ite_some h with ⟨hp, h⟩ | ⟨hp, h⟩
  · refine WS.fx 14 false (dec_not hp) ?_
    refine WS.cF ?_
    refine WS.sk ?_
    refine WS.nxt ?_
    refine WS.sq ?_
    refine WS.sq ?_
    refine WS.rg ?_
    refine RS.mS 3 [(17, .val (Value.int .i64 0)), (16, .val (Value.int .i64 (a0.n : Int))), (15, .val (Sl3.v a0))] ?_
    refine RS.dn ?_
    refine WS.nxt ?_
    refine WS.bk 0 ?_
    obtain ⟨o, hl, h⟩ := bind_some h
    rcases o with v17_2 | r
    · try dsimp only at h
      refine WS.lI (slices_EqualFunc__32_b0_ok (L := L) (E := E) (m := m) (H := H)) (L.ok hl) 0 ?_
      clear hl
      refine fun a w hs => bkE ((WS.nxt ?_ a w hs))
      refine WS.sq ?_
      refine WS.rg ?_
      refine RS.mS 1 [(6, .val (Value.bool true))] ?_
      refine RS.dn ?_
      refine WS.nxt ?_
      refine WS.rt ?_
      cases h
      exact fun a w hs => rtR (rS hs)
    · try dsimp only at h
      refine WS.lR (slices_EqualFunc__32_b0_ok (L := L) (E := E) (m := m) (H := H)) (L.ok hl) 0 ?_
      cases h
      exact fun a w hq => bkR (sqR (rtR hq))
  · refine WS.fx 14 true (dec_not' hp) ?_
    refine WS.cT ?_
    cases h

theorem fam_sort_Same_ok {L : LC} : ∀ n, (∀ (m : Nat) (H : AH) (a0_0 : Int) (a0_1 : Int) (a0_2 : ByteArray) (a0_3 : Sl3) (a1_0 : Int) (a1_1 : Int) (a1_2 : ByteArray) (a1_3 : Sl3) (r : Bool), ((fam_sort_Same L n).1) H a0_0 a0_1 a0_2 a0_3 a1_0 a1_1 a1_2 a1_3 = some r → CallS Tryz.prog (NE.plain 92) m 32 #[(Value.agg #[(Value.int .i64 a0_0), (Value.int .i64 a0_1), (Value.string a0_2), (Sl3.v a0_3)]), (Value.agg #[(Value.int .i64 a1_0), (Value.int .i64 a1_1), (Value.string a1_2), (Sl3.v a1_3)])] H (sort_Same_enc r) (sort_Same_hp H r)) ∧ (∀ (m : Nat) (H : AH) (a0 : Sl3) (a1 : Sl3) (r : Bool), ((fam_sort_Same L n).2) H a0 a1 = some r → CallS Tryz.prog (NE.plain 92) m 51 #[(Sl3.v a0), (Sl3.v a1), (Value.func (.func 32) #[] #[])] H (slices_EqualFunc__32_enc r) (slices_EqualFunc__32_hp H r)) := by
  intro n
  induction n with
  | zero => exact ⟨(fun _ _ _ _ _ _ _ _ _ _ _ h => (Option.some_ne_none _ h.symm).elim), (fun _ _ _ _ _ h => (Option.some_ne_none _ h.symm).elim)⟩
  | succ n ih => exact ⟨(fun _ _ _ _ _ _ _ _ _ _ _ h => sort_Same_body_ok (L := L) ih.2 h), (fun _ _ _ _ _ h => slices_EqualFunc__32_body_ok (L := L)  h)⟩

theorem sort_Same_ok {L : LC} {m : Nat} {H : AH} {a0_0 : Int} {a0_1 : Int} {a0_2 : ByteArray} {a0_3 : Sl3} {a1_0 : Int} {a1_1 : Int} {a1_2 : ByteArray} {a1_3 : Sl3} {r : Bool} (h : sort_Same L H a0_0 a0_1 a0_2 a0_3 a1_0 a1_1 a1_2 a1_3 = some r) :
    CallS Tryz.prog (NE.plain 92) m 32 #[(Value.agg #[(Value.int .i64 a0_0), (Value.int .i64 a0_1), (Value.string a0_2), (Sl3.v a0_3)]), (Value.agg #[(Value.int .i64 a1_0), (Value.int .i64 a1_1), (Value.string a1_2), (Sl3.v a1_3)])] H (sort_Same_enc r) (sort_Same_hp H r) :=
  ((fam_sort_Same_ok _).1) _ _ _ _ _ _ _ _ _ _ _ h

theorem slices_EqualFunc__32_ok {L : LC} {m : Nat} {H : AH} {a0 : Sl3} {a1 : Sl3} {r : Bool} (h : slices_EqualFunc__32 L H a0 a1 = some r) :
    CallS Tryz.prog (NE.plain 92) m 51 #[(Sl3.v a0), (Sl3.v a1), (Value.func (.func 32) #[] #[])] H (slices_EqualFunc__32_enc r) (slices_EqualFunc__32_hp H r) :=
  ((fam_sort_Same_ok _).2) _ _ _ _ _ h

def term_all_1_enc : Bool → Value
  | r0 => (Value.bool r0)

def term_all_1_hp (H : AH) : Bool → AH := fun _ => H

noncomputable def B88 : Code := (Tryz.f88.body).getD .skip

noncomputable def term_all_1 (L : LC) (H : AH) (a0_0 : Int) (a0_1 : Int) (a0_2 : ByteArray) (a0_3 : Sl3) (a1 : Option Addr) : Option Bool :=
  Option.bind a1 fun q1 =>
  Option.bind (rd (deI .i64) H (Addr.add q1 0)) fun x2_0 =>
  Option.bind (rd (deI .i64) H (Addr.add q1 1)) fun x2_1 =>
  Option.bind (rd deS H (Addr.add q1 2)) fun x2_2 =>
  Option.bind (rd deSl H (Addr.add q1 3)) fun x2_3 =>
  Option.bind (sort_Same L H a0_0 a0_1 a0_2 a0_3 x2_0 x2_1 x2_2 x2_3) fun x3 =>
  some (!x3)

theorem term_all_1_ok {L : LC} {m : Nat} {H : AH} {a0_0 : Int} {a0_1 : Int} {a0_2 : ByteArray} {a0_3 : Sl3} {a1 : Option Addr} {r : Bool} (h : term_all_1 L H a0_0 a0_1 a0_2 a0_3 a1 = some r) :
    CallS Tryz.prog (NE.plain 92) m 88 #[(Value.agg #[(Value.int .i64 a0_0), (Value.int .i64 a0_1), (Value.string a0_2), (Sl3.v a0_3)]), (Value.pointer a1)] H (term_all_1_enc r) (term_all_1_hp H r) := by
  refine CallS.mk (args := [(Value.agg #[(Value.int .i64 a0_0), (Value.int .i64 a0_1), (Value.string a0_2), (Sl3.v a0_3)]), (Value.pointer a1)]) Tryz.func88 (B := B88) (by kernel_rfl) (fun E _ => ?_)
  unfold term_all_1 at h
  refine WS.sq ?_
  refine WS.rg ?_
  refine RS.mL 2 [(3, .val (Value.bool false)), (2, .loc 0 0)] ([some (32, [(Value.int .i64 a0_0), (Value.int .i64 a0_1), (Value.string a0_2), (Sl3.v a0_3)])]) ?_
  refine RS.dn ?_
  refine WS.nxt ?_
  refine WS.sq ?_
  refine WS.rg ?_
  refine RS.mS 1 [(4, .val (Value.agg #[(Value.int .i64 a0_0), (Value.int .i64 a0_1), (Value.string a0_2), (Sl3.v a0_3)]))] ?_
  obtain ⟨q1, hx, hq1⟩ := bind_some h
  subst hx
  have h := hq1
  obtain ⟨x2_0, hx0, h⟩ := bind_some h
  obtain ⟨x2_1, hx1, h⟩ := bind_some h
  obtain ⟨x2_2, hx2, h⟩ := bind_some h
  obtain ⟨x2_3, hx3, h⟩ := bind_some h
  refine RS.o (H' := H) (some 5) (Value.agg #[(Value.int .i64 x2_0), (Value.int .i64 x2_1), (Value.string x2_2), (Sl3.v x2_3)]) (Abs.run_loadAg (t := 32) (x := .tmp 1) (a := q1) (k := 4) (by kernel_rfl) (by kernel_rfl) (by kernel_rfl) (by kernel_rfl) (rdc_cons (rd_cell hx0 deI_inv) (rdc_cons (rd_cell hx1 deI_inv) (rdc_cons (rd_cell hx2 deS_inv) (rdc_cons (rd_cell hx3 deSl_inv) rdc_nil))))) ?_
  obtain ⟨x3, hx, h⟩ := bind_some h
  refine RS.cl (some 6) (v := (Value.bool x3)) 32 #[(Value.agg #[(Value.int .i64 a0_0), (Value.int .i64 a0_1), (Value.string a0_2), (Sl3.v a0_3)]), (Value.agg #[(Value.int .i64 x2_0), (Value.int .i64 x2_1), (Value.string x2_2), (Sl3.v x2_3)])] (sort_Same_ok hx) ?_
  refine RS.mS 2 [(3, .val (Value.bool (!x3))), (7, .val (Value.bool (!x3)))] ?_
  refine RS.dn ?_
  refine WS.nxt ?_
  refine WS.rt ?_
  cases h
  exact fun a w hs => rtR (rS hs)

def slices_IndexFunc_117__88_enc : Int → Value
  | r0 => (Value.int .i64 r0)

def slices_IndexFunc_117__88_hp (H : AH) : Int → AH := fun _ => H

noncomputable def B117 : Code := (Tryz.f117.body).getD .skip

noncomputable def slices_IndexFunc_117__88_b0 (L : LC) (H : AH) (a0 : Sl3) (a1_0 : Option Addr) : Int → Option (Lp Int Int) := fun v8_1 =>
  if v8_1 < (a0.n : Int) then
    Option.bind (idxA 4 a0 v8_1) fun p2 =>
    Option.bind (rd (deI .i64) H (Addr.add p2 0)) fun x3_0 =>
    Option.bind (rd (deI .i64) H (Addr.add p2 1)) fun x3_1 =>
    Option.bind (rd deS H (Addr.add p2 2)) fun x3_2 =>
    Option.bind (rd deSl H (Addr.add p2 3)) fun x3_3 =>
    Option.bind (term_all_1 L H x3_0 x3_1 x3_2 x3_3 a1_0) fun x4 =>
    if x4 = true then
      none
    else
      some (.next (IntKind.i64.wrap (v8_1 + 1)))
  else
    some (.brk v8_1)

def slices_IndexFunc_117__88_b0_kn (_L : LC) (_H : AH) (a0 : Sl3) (a1_0 : Option Addr) : Int → KN := fun v8_1 => [(8, .val (Value.int .i64 v8_1)), (0, .val (Sl3.v a0)), (1, .val (Value.func (.func 88) #[] #[(Value.pointer a1_0)])), (7, .val (Value.int .i64 (a0.n : Int)))]

def slices_IndexFunc_117__88_b0_ls (_L : LC) (_H : AH) (_a0 : Sl3) (_a1_0 : Option Addr) : Int → Lcs := fun _ => []

noncomputable def slices_IndexFunc_117__88 (L : LC) (H : AH) (a0 : Sl3) (a1_0 : Option Addr) : Option Int :=
  Option.bind (L.run (slices_IndexFunc_117__88_b0 L H a0 a1_0) 0) fun o => match o with
  | .inl _ =>
    some (-1)
  | .inr r => some r

theorem slices_IndexFunc_117__88_b0_ok {E : Ent} {m : Nat} {L : LC} {H : AH} {a0 : Sl3} {a1_0 : Option Addr}  : ∀ s o, slices_IndexFunc_117__88_b0 L H a0 a1_0 s = some o →
    WS Tryz.prog (NE.plain 92) m E Tryz.f117.ntmps (cfst (cfst (csnd (cfst (csnd B117))))) (slices_IndexFunc_117__88_b0_kn L H a0 a1_0 s) (slices_IndexFunc_117__88_b0_ls L H a0 a1_0 s) ((fun _ => H) s) (lpS Tryz.prog (NE.plain 92) m E Tryz.f117.ntmps (slices_IndexFunc_117__88_b0_kn L H a0 a1_0) (slices_IndexFunc_117__88_b0_ls L H a0 a1_0) (fun _ => H) 0 (fun r => RT Tryz.prog (NE.plain 92) m E Tryz.f117 (slices_IndexFunc_117__88_enc r) (slices_IndexFunc_117__88_hp H r)) o) := by
  rintro v8_1 o h
  unfold slices_IndexFunc_117__88_b0 at h
  try dsimp only at h
  refine WS.sq ?_
  refine WS.rg ?_
  refine RS.mS 1 [(9, .val (Value.bool (decide (v8_1 < (a0.n : Int)))))] ?_
  refine RS.dn ?_
  refine WS.nxt ?_
  refine WS.sq ?_
  rcases ite_some h with ⟨hp, h⟩ | ⟨hp, h⟩
  · refine WS.fx 9 true (decide_eq_true hp) ?_
    refine WS.cT ?_
    refine WS.sk ?_
    refine WS.nxt ?_
    refine WS.sq ?_
    refine WS.bk 1 ?_
    refine WS.sq ?_
    refine WS.rg ?_
    refine RS.mS 2 [(5, .val (Value.int .i64 v8_1)), (10, .val (Value.int .i64 v8_1))] ?_
    refine RS.dn ?_
    refine WS.nxt ?_
    refine WS.sq ?_
    refine WS.rg ?_
    refine RS.mS 3 [(13, .val (Value.int .i64 v8_1)), (12, .val (Sl3.v a0)), (11, .val (Value.func (.func 88) #[] #[(Value.pointer a1_0)]))] ?_
    obtain ⟨p2, hx, h⟩ := bind_some h
    refine RS.o (H' := H) (some 14) (Value.pointer (some p2)) (Abs.run_idx (s := a0) (k := .i64) (t := 30) (e := 32) (x := .tmp 12) (y := .tmp 13) (by kernel_rfl) (by kernel_rfl) (by kernel_rfl) (by kernel_rfl) (by kernel_rfl) hx) ?_
    obtain ⟨x3_0, hx0, h⟩ := bind_some h
    obtain ⟨x3_1, hx1, h⟩ := bind_some h
    obtain ⟨x3_2, hx2, h⟩ := bind_some h
    obtain ⟨x3_3, hx3, h⟩ := bind_some h
    refine RS.o (H' := H) (some 15) (Value.agg #[(Value.int .i64 x3_0), (Value.int .i64 x3_1), (Value.string x3_2), (Sl3.v x3_3)]) (Abs.run_loadAg (t := 32) (x := .tmp 14) (a := p2) (k := 4) (by kernel_rfl) (by kernel_rfl) (by kernel_rfl) (by kernel_rfl) (rdc_cons (rd_cell hx0 deI_inv) (rdc_cons (rd_cell hx1 deI_inv) (rdc_cons (rd_cell hx2 deS_inv) (rdc_cons (rd_cell hx3 deSl_inv) rdc_nil))))) ?_
    obtain ⟨x4, hx, h⟩ := bind_some h
    refine RS.cl (some 16) (v := (Value.bool x4)) 88 #[(Value.agg #[(Value.int .i64 x3_0), (Value.int .i64 x3_1), (Value.string x3_2), (Sl3.v x3_3)]), (Value.pointer a1_0)] (term_all_1_ok hx) ?_
    refine RS.dn ?_
    refine WS.nxt ?_
    rcases ite_some h with ⟨hp, h⟩ | ⟨hp, h⟩
    · refine WS.fx 16 true hp ?_
      refine WS.cT ?_
      cases h
    · refine WS.fx 16 false (b_not hp) ?_
      refine WS.cF ?_
      refine WS.sk ?_
      refine fun a w hs => bkN ((WS.nxt ?_ a w hs))
      refine WS.rg ?_
      refine RS.mS 2 [(8, .val (Value.int .i64 (IntKind.i64.wrap (v8_1 + 1)))), (18, .val (Value.int .i64 (IntKind.i64.wrap (v8_1 + 1))))] ?_
      refine RS.dn ?_
      cases h
      exact fun a w hs => lsN rfl (hs.sb 0)
  · refine WS.fx 9 false (decide_eq_false hp) ?_
    refine WS.cF ?_
    refine WS.ex 0 ?_
    cases h
    exact fun a w hs => sqE (lsB rfl (hs.sb 0))

theorem slices_IndexFunc_117__88_ok {L : LC} {m : Nat} {H : AH} {a0 : Sl3} {a1_0 : Option Addr} {r : Int} (h : slices_IndexFunc_117__88 L H a0 a1_0 = some r) :
    CallS Tryz.prog (NE.plain 92) m 117 #[(Sl3.v a0), (Value.func (.func 88) #[] #[(Value.pointer a1_0)])] H (slices_IndexFunc_117__88_enc r) (slices_IndexFunc_117__88_hp H r) := by
  refine CallS.mk (args := [(Sl3.v a0), (Value.func (.func 88) #[] #[(Value.pointer a1_0)])]) Tryz.func117 (B := B117) (by kernel_rfl) (fun E _ => ?_)
  unfold slices_IndexFunc_117__88 at h
  refine WS.sq ?_
  refine WS.rg ?_
  refine RS.mS 1 [(4, .val (Value.int .i64 0))] ?_
  refine RS.dn ?_
  refine WS.nxt ?_
  refine WS.sq ?_
  refine WS.sq ?_
  refine WS.rg ?_
  refine RS.mS 3 [(8, .val (Value.int .i64 0)), (7, .val (Value.int .i64 (a0.n : Int))), (6, .val (Sl3.v a0))] ?_
  refine RS.dn ?_
  refine WS.nxt ?_
  refine WS.bk 0 ?_
  obtain ⟨o, hl, h⟩ := bind_some h
  rcases o with v8_5 | r
  · try dsimp only at h
    refine WS.lI (slices_IndexFunc_117__88_b0_ok (L := L) (E := E) (m := m) (H := H)) (L.ok hl) 0 ?_
    clear hl
    refine fun a w hs => bkE ((WS.nxt ?_ a w hs))
    refine WS.sq ?_
    refine WS.rg ?_
    refine RS.mS 1 [(4, .val (Value.int .i64 (-1)))] ?_
    refine RS.dn ?_
    refine WS.nxt ?_
    refine WS.rt ?_
    cases h
    exact fun a w hs => rtR (rS hs)
  · try dsimp only at h
    refine WS.lR (slices_IndexFunc_117__88_b0_ok (L := L) (E := E) (m := m) (H := H)) (L.ok hl) 0 ?_
    cases h
    exact fun a w hq => bkR (sqR (rtR hq))

def slices_ContainsFunc_87__88_enc : Bool → Value
  | r0 => (Value.bool r0)

def slices_ContainsFunc_87__88_hp (H : AH) : Bool → AH := fun _ => H

noncomputable def B87 : Code := (Tryz.f87.body).getD .skip

noncomputable def slices_ContainsFunc_87__88 (L : LC) (H : AH) (a0 : Sl3) (a1_0 : Option Addr) : Option Bool :=
  Option.bind (slices_IndexFunc_117__88 L H a0 a1_0) fun x1 =>
  some (decide (x1 ≥ 0))

theorem slices_ContainsFunc_87__88_ok {L : LC} {m : Nat} {H : AH} {a0 : Sl3} {a1_0 : Option Addr} {r : Bool} (h : slices_ContainsFunc_87__88 L H a0 a1_0 = some r) :
    CallS Tryz.prog (NE.plain 92) m 87 #[(Sl3.v a0), (Value.func (.func 88) #[] #[(Value.pointer a1_0)])] H (slices_ContainsFunc_87__88_enc r) (slices_ContainsFunc_87__88_hp H r) := by
  refine CallS.mk (args := [(Sl3.v a0), (Value.func (.func 88) #[] #[(Value.pointer a1_0)])]) Tryz.func87 (B := B87) (by kernel_rfl) (fun E _ => ?_)
  unfold slices_ContainsFunc_87__88 at h
  refine WS.sq ?_
  refine WS.rg ?_
  refine RS.mS 1 [(4, .val (Value.bool false))] ?_
  refine RS.dn ?_
  refine WS.nxt ?_
  refine WS.sq ?_
  refine WS.rg ?_
  refine RS.mS 2 [(6, .val (Value.func (.func 88) #[] #[(Value.pointer a1_0)])), (5, .val (Sl3.v a0))] ?_
  obtain ⟨x1, hx, h⟩ := bind_some h
  refine RS.cl (some 7) (v := (Value.int .i64 x1)) 117 #[(Sl3.v a0), (Value.func (.func 88) #[] #[(Value.pointer a1_0)])] (slices_IndexFunc_117__88_ok hx) ?_
  refine RS.mS 2 [(4, .val (Value.bool (decide (x1 ≥ 0)))), (8, .val (Value.bool (decide (x1 ≥ 0))))] ?_
  refine RS.dn ?_
  refine WS.nxt ?_
  refine WS.rt ?_
  cases h
  exact fun a w hs => rtR (rS hs)

def term_all_enc : (Bool × AH) → Value
  | (r0, _) => (Value.bool r0)

def term_all_hp (_ : AH) : (Bool × AH) → AH := fun r => r.2

noncomputable def B53 : Code := (Tryz.f53.body).getD .skip

noncomputable def term_all (L : LC) (_m : Nat) (H : AH) (a0 : Sl3) (a1_0 : Int) (a1_1 : Int) (a1_2 : ByteArray) (a1_3 : Sl3) : Option (Bool × AH) :=
  Option.bind (newB 32 [(Value.int .i64 a1_0), (Value.int .i64 a1_1), (Value.string a1_2), (Sl3.v a1_3)] H) fun (p1, H2) =>
  Option.bind (slices_ContainsFunc_87__88 L H2 a0 (some p1)) fun x3 =>
  some ((!x3), H2)

theorem term_all_ok {L : LC} {m : Nat} {H : AH} {a0 : Sl3} {a1_0 : Int} {a1_1 : Int} {a1_2 : ByteArray} {a1_3 : Sl3} {r : (Bool × AH)} (h : term_all L m H a0 a1_0 a1_1 a1_2 a1_3 = some r) :
    CallS Tryz.prog (NE.plain 92) m 53 #[(Sl3.v a0), (Value.agg #[(Value.int .i64 a1_0), (Value.int .i64 a1_1), (Value.string a1_2), (Sl3.v a1_3)])] H (term_all_enc r) (term_all_hp H r) := by
  refine CallS.mk (args := [(Sl3.v a0), (Value.agg #[(Value.int .i64 a1_0), (Value.int .i64 a1_1), (Value.string a1_2), (Sl3.v a1_3)])]) Tryz.func53 (B := B53) (by kernel_rfl) (fun E _ => ?_)
  unfold term_all at h
  refine WS.sq ?_
  refine WS.rg ?_
  obtain ⟨⟨p1, H2⟩, hx, h⟩ := bind_some h
  try dsimp only at h
  refine RS.o (H' := H2) (some 3) (Value.pointer (some p1)) (Abs.run_newB (by kernel_rfl) hx) ?_
  refine RS.mS 1 [(4, .val (Value.bool false))] ?_
  refine RS.dn ?_
  refine WS.nxt ?_
  refine WS.sq ?_
  refine WS.rg ?_
  refine RS.mS 2 [(6, .val (Value.func (.func 88) #[] #[(Value.pointer (some p1))])), (5, .val (Sl3.v a0))] ?_
  obtain ⟨x3, hx, h⟩ := bind_some h
  refine RS.cl (some 7) (v := (Value.bool x3)) 87 #[(Sl3.v a0), (Value.func (.func 88) #[] #[(Value.pointer (some p1))])] (slices_ContainsFunc_87__88_ok hx) ?_
  refine RS.mS 2 [(4, .val (Value.bool (!x3))), (8, .val (Value.bool (!x3)))] ?_
  refine RS.dn ?_
  refine WS.nxt ?_
  refine WS.rt ?_
  cases h
  exact fun a w hs => rtR (rS hs)

def term_integer_enc : (Int × Int × ByteArray × Sl3) → Value
  | (r0, r1, r2, r3) => (Value.agg #[(Value.int .i64 r0), (Value.int .i64 r1), (Value.string r2), (Sl3.v r3)])

def term_integer_hp (H : AH) : (Int × Int × ByteArray × Sl3) → AH := fun _ => H

noncomputable def B54 : Code := (Tryz.f54.body).getD .skip

noncomputable def term_integer (_L : LC) : Option (Int × Int × ByteArray × Sl3) :=
  some (2, 0, (⟨#[]⟩ : ByteArray), Sl3.nil)

theorem term_integer_ok {L : LC} {m : Nat} {H : AH}  {r : (Int × Int × ByteArray × Sl3)} (h : term_integer L = some r) :
    CallS Tryz.prog (NE.plain 92) m 54 #[] H (term_integer_enc r) (term_integer_hp H r) := by
  refine CallS.mk (args := []) Tryz.func54 (B := B54) (by kernel_rfl) (fun E _ => ?_)
  unfold term_integer at h
  refine WS.sq ?_
  refine WS.rg ?_
  refine RS.mL 1 [(0, .loc 0 0)] ([some (32, [(Value.int .i64 0), (Value.int .i64 0), (Value.string (⟨#[]⟩ : ByteArray)), (Sl3.v Sl3.nil)])]) ?_
  refine RS.dn ?_
  refine WS.nxt ?_
  refine WS.sq ?_
  refine WS.rg ?_
  refine RS.mL 2 [(1, .val (Value.agg #[(Value.int .i64 2), (Value.int .i64 0), (Value.string (⟨#[]⟩ : ByteArray)), (Sl3.v Sl3.nil)]))] ([some (32, [(Value.int .i64 2), (Value.int .i64 0), (Value.string (⟨#[]⟩ : ByteArray)), (Sl3.v Sl3.nil)])]) ?_
  refine RS.dn ?_
  refine WS.nxt ?_
  refine WS.rt ?_
  cases h
  exact fun a w hs => rtR (rS hs)

end Go.Proofs.YtgkogeglciogkaaGreatDoor

namespace Go.Proofs.YtgkogeglciogkaaGreatDoor
open Go Go.Abs
set_option maxRecDepth 100000

def term_sorted_enc : (Int × Int × ByteArray × Sl3 × Bool × AH) → Value
  | (r0, r1, r2, r3, r4, _) => (Value.tuple #[(Value.agg #[(Value.int .i64 r0), (Value.int .i64 r1), (Value.string r2), (Sl3.v r3)]), (Value.bool r4)])

def term_sorted_hp (_ : AH) : (Int × Int × ByteArray × Sl3 × Bool × AH) → AH := fun r => r.2.2.2.2.2

noncomputable def B33 : Code := (Tryz.f33.body).getD .skip

noncomputable def term_sorted (L : LC) (m : Nat) (H : AH) (a0_0 : Int) (_a0_1 : ByteArray) (_a0_2 : Bool) (_a0_3 : Sl3) (_a0_4 : Int) (_a0_5 : Sl3) (_a0_6 : Int) (_a0_7 : Int) (_a0_8 : ByteArray) (_a0_9 : Sl3) (_a0_10 : Sl3) (_a0_11 : Sl3) (a1 : Sl3) : Option (Int × Int × ByteArray × Sl3 × Bool × AH) :=
  if a0_0 ≤ 7 then
    none
  else
    if a0_0 ≤ 9 then
      none
    else
      if a0_0 = 10 then
        none
      else
        if a0_0 = 20 then
          none
        else
          if a0_0 ≤ 27 then
            Option.bind (term_integer L) fun (x1_0, x1_1, x1_2, x1_3) =>
            Option.bind (term_integer L) fun (x2_0, x2_1, x2_2, x2_3) =>
            Option.bind (term_all L m H a1 x2_0 x2_1 x2_2 x2_3) fun (x3, H4) =>
            some (x1_0, x1_1, x1_2, x1_3, x3, H4)
          else
            none

theorem term_sorted_ok {L : LC} {m : Nat} {H : AH} {a0_0 : Int} {a0_1 : ByteArray} {a0_2 : Bool} {a0_3 : Sl3} {a0_4 : Int} {a0_5 : Sl3} {a0_6 : Int} {a0_7 : Int} {a0_8 : ByteArray} {a0_9 : Sl3} {a0_10 : Sl3} {a0_11 : Sl3} {a1 : Sl3} {r : (Int × Int × ByteArray × Sl3 × Bool × AH)} (h : term_sorted L m H a0_0 a0_1 a0_2 a0_3 a0_4 a0_5 a0_6 a0_7 a0_8 a0_9 a0_10 a0_11 a1 = some r) :
    CallS Tryz.prog (NE.plain 92) m 33 #[(Value.agg #[(Value.int .i64 a0_0), (Value.string a0_1), (Value.bool a0_2), (Sl3.v a0_3), (Value.int .i64 a0_4), (Sl3.v a0_5), (Value.int .i64 a0_6), (Value.int .i64 a0_7), (Value.string a0_8), (Sl3.v a0_9), (Sl3.v a0_10), (Sl3.v a0_11)]), (Sl3.v a1)] H (term_sorted_enc r) (term_sorted_hp H r) := by
  refine CallS.mk (args := [(Value.agg #[(Value.int .i64 a0_0), (Value.string a0_1), (Value.bool a0_2), (Sl3.v a0_3), (Value.int .i64 a0_4), (Sl3.v a0_5), (Value.int .i64 a0_6), (Value.int .i64 a0_7), (Value.string a0_8), (Sl3.v a0_9), (Sl3.v a0_10), (Sl3.v a0_11)]), (Sl3.v a1)]) Tryz.func33 (B := B33) (by kernel_rfl) (fun E _ => ?_)
  unfold term_sorted at h
  refine WS.sq ?_
  refine WS.rg ?_
  refine RS.mL 3 [(5, .val (Value.bool false)), (4, .loc 1 0), (2, .loc 0 0)] ([some (35, [(Value.int .i64 a0_0), (Value.string a0_1), (Value.bool a0_2), (Sl3.v a0_3), (Value.int .i64 a0_4), (Sl3.v a0_5), (Value.int .i64 a0_6), (Value.int .i64 a0_7), (Value.string a0_8), (Sl3.v a0_9), (Sl3.v a0_10), (Sl3.v a0_11)]), some (32, [(Value.int .i64 0), (Value.int .i64 0), (Value.string (⟨#[]⟩ : ByteArray)), (Sl3.v Sl3.nil)])]) ?_
  refine RS.dn ?_
  refine WS.nxt ?_
  refine WS.sq ?_
  refine WS.bk 0 ?_
  refine WS.sq ?_
  refine WS.rg ?_
  refine RS.mS 4 [(6, .val (Value.bool (decide (a0_0 ≤ 7)))), (9, .val (Value.bool (decide (a0_0 ≤ 7)))), (8, .val (Value.int .i64 a0_0)), (7, .loc 0 0)] ?_
  refine RS.dn ?_
  refine WS.nxt ?_
  rcases ite_some h with ⟨hp, h⟩ | ⟨hp, h⟩
  · refine WS.fx 6 true (decide_eq_true hp) ?_
    refine WS.cT ?_
    cases h
  · refine WS.fx 6 false (decide_eq_false hp) ?_
    refine WS.cF ?_
    refine WS.sq ?_
    refine WS.rg ?_
    refine RS.mS 4 [(14, .val (Value.bool (decide (a0_0 ≤ 9)))), (17, .val (Value.bool (decide (a0_0 ≤ 9)))), (16, .val (Value.int .i64 a0_0)), (15, .loc 0 0)] ?_
    refine RS.dn ?_
    refine WS.nxt ?_
    rcases ite_some h with ⟨hp, h⟩ | ⟨hp, h⟩
    · refine WS.fx 14 true (decide_eq_true hp) ?_
      refine WS.cT ?_
      cases h
    · refine WS.fx 14 false (decide_eq_false hp) ?_
      refine WS.cF ?_
      refine WS.sq ?_
      refine WS.rg ?_
      refine RS.mS 4 [(24, .val (Value.bool (decide (a0_0 = 10)))), (27, .val (Value.bool (decide (a0_0 = 10)))), (26, .val (Value.int .i64 a0_0)), (25, .loc 0 0)] ?_
      refine RS.dn ?_
      refine WS.nxt ?_
      rcases ite_some h with ⟨hp, h⟩ | ⟨hp, h⟩
      · refine WS.fx 24 true (decide_eq_true hp) ?_
        refine WS.cT ?_
        cases h
      · refine WS.fx 24 false (decide_eq_false hp) ?_
        refine WS.cF ?_
        refine WS.sq ?_
        refine WS.rg ?_
        refine RS.mS 4 [(45, .val (Value.bool (decide (a0_0 = 20)))), (48, .val (Value.bool (decide (a0_0 = 20)))), (47, .val (Value.int .i64 a0_0)), (46, .loc 0 0)] ?_
        refine RS.dn ?_
        refine WS.nxt ?_
        rcases ite_some h with ⟨hp, h⟩ | ⟨hp, h⟩
        · refine WS.fx 45 true (decide_eq_true hp) ?_
          refine WS.cT ?_
          cases h
        · refine WS.fx 45 false (decide_eq_false hp) ?_
          refine WS.cF ?_
          refine WS.sq ?_
          refine WS.rg ?_
          refine RS.mS 4 [(50, .val (Value.bool (decide (a0_0 ≤ 27)))), (53, .val (Value.bool (decide (a0_0 ≤ 27)))), (52, .val (Value.int .i64 a0_0)), (51, .loc 0 0)] ?_
          refine RS.dn ?_
          refine WS.nxt ?_
          rcases ite_some h with ⟨hp, h⟩ | ⟨hp, h⟩
          · refine WS.fx 50 true (decide_eq_true hp) ?_
            refine WS.cT ?_
            refine WS.sq ?_
            refine WS.rg ?_
            obtain ⟨⟨x1_0, x1_1, x1_2, x1_3⟩, hx, h⟩ := bind_some h
            try dsimp only at h
            refine RS.cl (some 54) (v := (Value.agg #[(Value.int .i64 x1_0), (Value.int .i64 x1_1), (Value.string x1_2), (Sl3.v x1_3)])) 54 #[] (term_integer_ok hx) ?_
            refine RS.mS 1 [(55, .val (Sl3.v a1))] ?_
            obtain ⟨⟨x2_0, x2_1, x2_2, x2_3⟩, hx, h⟩ := bind_some h
            try dsimp only at h
            refine RS.cl (some 56) (v := (Value.agg #[(Value.int .i64 x2_0), (Value.int .i64 x2_1), (Value.string x2_2), (Sl3.v x2_3)])) 54 #[] (term_integer_ok hx) ?_
            obtain ⟨⟨x3, H4⟩, hx, h⟩ := bind_some h
            try dsimp only at h
            refine RS.cl (some 57) (v := (Value.bool x3)) 53 #[(Sl3.v a1), (Value.agg #[(Value.int .i64 x2_0), (Value.int .i64 x2_1), (Value.string x2_2), (Sl3.v x2_3)])] (term_all_ok hx) ?_
            refine RS.mL 2 [(5, .val (Value.bool x3))] ([some (35, [(Value.int .i64 a0_0), (Value.string a0_1), (Value.bool a0_2), (Sl3.v a0_3), (Value.int .i64 a0_4), (Sl3.v a0_5), (Value.int .i64 a0_6), (Value.int .i64 a0_7), (Value.string a0_8), (Sl3.v a0_9), (Sl3.v a0_10), (Sl3.v a0_11)]), some (32, [(Value.int .i64 x1_0), (Value.int .i64 x1_1), (Value.string x1_2), (Sl3.v x1_3)])]) ?_
            refine RS.dn ?_
            refine WS.nxt ?_
            refine WS.rt ?_
            cases h
            exact fun a w hs => bkR (sqR (rtR (rS hs)))
          · refine WS.fx 50 false (decide_eq_false hp) ?_
            refine WS.cF ?_
            cases h

def term_Table_linear_enc : Bool → Value
  | r0 => (Value.bool r0)

def term_Table_linear_hp (H : AH) : Bool → AH := fun _ => H

noncomputable def B34 : Code := (Tryz.f34.body).getD .skip

noncomputable def term_Table_linear (_L : LC) (_H : AH) (_a0 : Option Addr) (a1_0 : Int) (_a1_1 : ByteArray) (_a1_2 : Bool) (_a1_3 : Sl3) (_a1_4 : Int) (_a1_5 : Sl3) (_a1_6 : Int) (_a1_7 : Int) (_a1_8 : ByteArray) (_a1_9 : Sl3) (_a1_10 : Sl3) (_a1_11 : Sl3) : Option Bool :=
  if a1_0 = 24 then
    none
  else
    if a1_0 = 25 then
      none
    else
      if a1_0 = 26 then
        none
      else
        some true

theorem term_Table_linear_ok {L : LC} {m : Nat} {H : AH} {a0 : Option Addr} {a1_0 : Int} {a1_1 : ByteArray} {a1_2 : Bool} {a1_3 : Sl3} {a1_4 : Int} {a1_5 : Sl3} {a1_6 : Int} {a1_7 : Int} {a1_8 : ByteArray} {a1_9 : Sl3} {a1_10 : Sl3} {a1_11 : Sl3} {r : Bool} (h : term_Table_linear L H a0 a1_0 a1_1 a1_2 a1_3 a1_4 a1_5 a1_6 a1_7 a1_8 a1_9 a1_10 a1_11 = some r) :
    CallS Tryz.prog (NE.plain 92) m 34 #[(Value.pointer a0), (Value.agg #[(Value.int .i64 a1_0), (Value.string a1_1), (Value.bool a1_2), (Sl3.v a1_3), (Value.int .i64 a1_4), (Sl3.v a1_5), (Value.int .i64 a1_6), (Value.int .i64 a1_7), (Value.string a1_8), (Sl3.v a1_9), (Sl3.v a1_10), (Sl3.v a1_11)])] H (term_Table_linear_enc r) (term_Table_linear_hp H r) := by
  refine CallS.mk (args := [(Value.pointer a0), (Value.agg #[(Value.int .i64 a1_0), (Value.string a1_1), (Value.bool a1_2), (Sl3.v a1_3), (Value.int .i64 a1_4), (Sl3.v a1_5), (Value.int .i64 a1_6), (Value.int .i64 a1_7), (Value.string a1_8), (Sl3.v a1_9), (Sl3.v a1_10), (Sl3.v a1_11)])]) Tryz.func34 (B := B34) (by kernel_rfl) (fun E _ => ?_)
  unfold term_Table_linear at h
  refine WS.sq ?_
  refine WS.rg ?_
  refine RS.mL 2 [(4, .val (Value.bool false)), (3, .loc 0 0)] ([some (35, [(Value.int .i64 a1_0), (Value.string a1_1), (Value.bool a1_2), (Sl3.v a1_3), (Value.int .i64 a1_4), (Sl3.v a1_5), (Value.int .i64 a1_6), (Value.int .i64 a1_7), (Value.string a1_8), (Sl3.v a1_9), (Sl3.v a1_10), (Sl3.v a1_11)])]) ?_
  refine RS.dn ?_
  refine WS.nxt ?_
  refine WS.sq ?_
  refine WS.sq ?_
  refine WS.rg ?_
  refine RS.mS 2 [(12, .val (Value.int .i64 a1_0)), (11, .loc 0 0)] ?_
  refine RS.dn ?_
  refine WS.nxt ?_
  refine WS.bk 0 ?_
  refine WS.sq ?_
  refine WS.rg ?_
  refine RS.mS 2 [(13, .val (Value.bool (decide (a1_0 = 24)))), (14, .val (Value.bool (decide (a1_0 = 24))))] ?_
  refine RS.dn ?_
  refine WS.nxt ?_
  rcases ite_some h with ⟨hp, h⟩ | ⟨hp, h⟩
  · refine WS.fx 13 true (decide_eq_true hp) ?_
    refine WS.cT ?_
    cases h
  · refine WS.fx 13 false (decide_eq_false hp) ?_
    refine WS.cF ?_
    refine WS.sq ?_
    refine WS.sq ?_
    refine WS.rg ?_
    refine RS.mS 2 [(37, .val (Value.bool (decide (a1_0 = 25)))), (38, .val (Value.bool (decide (a1_0 = 25))))] ?_
    refine RS.dn ?_
    refine WS.nxt ?_
    rcases ite_some h with ⟨hp, h⟩ | ⟨hp, h⟩
    · refine WS.fx 37 true (decide_eq_true hp) ?_
      refine WS.cT ?_
      cases h
    · refine WS.fx 37 false (decide_eq_false hp) ?_
      refine WS.cF ?_
      refine WS.rg ?_
      refine RS.mS 2 [(37, .val (Value.bool (decide (a1_0 = 26)))), (39, .val (Value.bool (decide (a1_0 = 26))))] ?_
      refine RS.dn ?_
      refine WS.nxt ?_
      rcases ite_some h with ⟨hp, h⟩ | ⟨hp, h⟩
      · refine WS.fx 37 true (decide_eq_true hp) ?_
        refine WS.cT ?_
        cases h
      · refine WS.fx 37 false (decide_eq_false hp) ?_
        refine WS.cF ?_
        refine WS.sk ?_
        refine fun a w hs => bkN ((WS.nxt ?_ a w hs))
        refine WS.sq ?_
        refine WS.rg ?_
        refine RS.mS 1 [(4, .val (Value.bool true))] ?_
        refine RS.dn ?_
        refine WS.nxt ?_
        refine WS.rt ?_
        cases h
        exact fun a w hs => rtR (rS hs)

def term_Table_check_enc : (Int × Int × ByteArray × Sl3 × Int × AH) → Value
  | (r0, r1, r2, r3, r4, _) => (Value.tuple #[(Value.agg #[(Value.int .i64 r0), (Value.int .i64 r1), (Value.string r2), (Sl3.v r3)]), (Value.int .i64 r4)])

def term_Table_check_hp (_ : AH) : (Int × Int × ByteArray × Sl3 × Int × AH) → AH := fun r => r.2.2.2.2.2

noncomputable def B16 : Code := (Tryz.f16.body).getD .skip

noncomputable def term_Table_check_b0 (_L : LC) (m : Nat) (a0 : Option Addr) (_a1_0 : Int) (_a1_1 : ByteArray) (_a1_2 : Bool) (_a1_3 : Sl3) (_a1_4 : Int) (_a1_5 : Sl3) (_a1_6 : Int) (_a1_7 : Int) (_a1_8 : ByteArray) (_a1_9 : Sl3) (_a1_10 : Sl3) (a1_11 : Sl3) (_x1 : Sl3) (_x2_0 : Int) (_x2_1 : Int) (_x2_2 : ByteArray) (_x2_3 : Sl3) : (AH × Sl3 × Int) → Option (Lp (AH × Sl3 × Int) (Int × Int × ByteArray × Sl3 × Int × AH)) := fun (H5, v9_6, v30_7) =>
  if v30_7 < (a1_11.n : Int) then
    Option.bind (idxA 1 a1_11 v30_7) fun p8 =>
    Option.bind (rd (deI .i64) H5 p8) fun x9 =>
    Option.bind a0 fun q10 =>
    Option.bind (rd deSl H5 (Addr.add q10 3)) fun x11 =>
    Option.bind (idxA 16 x11 x9) fun p12 =>
    Option.bind (rd (deI .i64) H5 (Addr.add (Addr.add p12 12) 0)) fun x13_0 =>
    Option.bind (rd (deI .i64) H5 (Addr.add (Addr.add p12 12) 1)) fun x13_1 =>
    Option.bind (rd deS H5 (Addr.add (Addr.add p12 12) 2)) fun x13_2 =>
    Option.bind (rd deSl H5 (Addr.add (Addr.add p12 12) 3)) fun x13_3 =>
    Option.bind (newR 32 1 #[(Value.int .i64 x13_0), (Value.int .i64 x13_1), (Value.string x13_2), (Sl3.v x13_3)] H5) fun (s14, H15) =>
    Option.bind (appS m 32 4 56 H15 v9_6 s14) fun (s16, H17) =>
    some (.next (H17, s16, (IntKind.i64.wrap (v30_7 + 1))))
  else
    some (.brk (H5, v9_6, v30_7))

def term_Table_check_b0_kn (_L : LC) (_m : Nat) (a0 : Option Addr) (_a1_0 : Int) (_a1_1 : ByteArray) (_a1_2 : Bool) (_a1_3 : Sl3) (_a1_4 : Int) (_a1_5 : Sl3) (_a1_6 : Int) (_a1_7 : Int) (_a1_8 : ByteArray) (_a1_9 : Sl3) (_a1_10 : Sl3) (a1_11 : Sl3) (x1 : Sl3) (_x2_0 : Int) (_x2_1 : Int) (_x2_2 : ByteArray) (_x2_3 : Sl3) : (AH × Sl3 × Int) → KN := fun (_, v9_6, v30_7) => [(9, .val (Sl3.v v9_6)), (30, .val (Value.int .i64 v30_7)), (0, .val (Value.pointer a0)), (3, .loc 0 0), (4, .loc 1 0), (6, .val (Sl3.v x1)), (7, .loc 2 0), (28, .val (Sl3.v a1_11)), (29, .val (Value.int .i64 (a1_11.n : Int)))]

def term_Table_check_b0_ls (_L : LC) (_m : Nat) (_a0 : Option Addr) (a1_0 : Int) (a1_1 : ByteArray) (a1_2 : Bool) (a1_3 : Sl3) (a1_4 : Int) (a1_5 : Sl3) (a1_6 : Int) (a1_7 : Int) (a1_8 : ByteArray) (a1_9 : Sl3) (a1_10 : Sl3) (a1_11 : Sl3) (_x1 : Sl3) (x2_0 : Int) (x2_1 : Int) (x2_2 : ByteArray) (x2_3 : Sl3) : (AH × Sl3 × Int) → Lcs := fun (_, _, _) => [some (35, [(Value.int .i64 a1_0), (Value.string a1_1), (Value.bool a1_2), (Sl3.v a1_3), (Value.int .i64 a1_4), (Sl3.v a1_5), (Value.int .i64 a1_6), (Value.int .i64 a1_7), (Value.string a1_8), (Sl3.v a1_9), (Sl3.v a1_10), (Sl3.v a1_11)]), some (32, [(Value.int .i64 0), (Value.int .i64 0), (Value.string (⟨#[]⟩ : ByteArray)), (Sl3.v Sl3.nil)]), some (32, [(Value.int .i64 x2_0), (Value.int .i64 x2_1), (Value.string x2_2), (Sl3.v x2_3)])]

noncomputable def term_Table_check_b1 (L : LC) (_a1_0 : Int) (_a1_1 : ByteArray) (_a1_2 : Bool) (_a1_3 : Sl3) (_a1_4 : Int) (_a1_5 : Sl3) (_a1_6 : Int) (_a1_7 : Int) (_a1_8 : ByteArray) (_a1_9 : Sl3) (_a1_10 : Sl3) (_a1_11 : Sl3) (x1 : Sl3) (_x2_0 : Int) (_x2_1 : Int) (_x2_2 : ByteArray) (_x2_3 : Sl3) (H18 : AH) (v9_19 : Sl3) : (Int × Int × Int × ByteArray × Sl3) → Option (Lp (Int × Int × Int × ByteArray × Sl3) (Int × Int × ByteArray × Sl3 × Int × AH)) := fun (v56_21, w1_22, w1_23, w1_24, w1_25) =>
  if v56_21 < (v9_19.n : Int) then
    Option.bind (idxA 4 v9_19 v56_21) fun p26 =>
    Option.bind (rd (deI .i64) H18 (Addr.add p26 0)) fun x27_0 =>
    Option.bind (rd (deI .i64) H18 (Addr.add p26 1)) fun x27_1 =>
    Option.bind (rd deS H18 (Addr.add p26 2)) fun x27_2 =>
    Option.bind (rd deSl H18 (Addr.add p26 3)) fun x27_3 =>
    Option.bind (idxA 4 x1 v56_21) fun p28 =>
    Option.bind (rd (deI .i64) H18 (Addr.add p28 0)) fun x29_0 =>
    Option.bind (rd (deI .i64) H18 (Addr.add p28 1)) fun x29_1 =>
    Option.bind (rd deS H18 (Addr.add p28 2)) fun x29_2 =>
    Option.bind (rd deSl H18 (Addr.add p28 3)) fun x29_3 =>
    Option.bind (sort_Same L H18 x27_0 x27_1 x27_2 x27_3 x29_0 x29_1 x29_2 x29_3) fun x30 =>
    if x30 = true then
      some (.next ((IntKind.i64.wrap (v56_21 + 1)), w1_22, w1_23, w1_24, w1_25))
    else
      none
  else
    some (.brk (v56_21, w1_22, w1_23, w1_24, w1_25))

def term_Table_check_b1_kn (_L : LC) (_a1_0 : Int) (_a1_1 : ByteArray) (_a1_2 : Bool) (_a1_3 : Sl3) (_a1_4 : Int) (_a1_5 : Sl3) (_a1_6 : Int) (_a1_7 : Int) (_a1_8 : ByteArray) (_a1_9 : Sl3) (_a1_10 : Sl3) (_a1_11 : Sl3) (x1 : Sl3) (_x2_0 : Int) (_x2_1 : Int) (_x2_2 : ByteArray) (_x2_3 : Sl3) (_H18 : AH) (v9_19 : Sl3) : (Int × Int × Int × ByteArray × Sl3) → KN := fun (v56_21, _, _, _, _) => [(56, .val (Value.int .i64 v56_21)), (4, .loc 1 0), (6, .val (Sl3.v x1)), (7, .loc 2 0), (54, .val (Sl3.v v9_19)), (55, .val (Value.int .i64 (v9_19.n : Int)))]

def term_Table_check_b1_ls (_L : LC) (a1_0 : Int) (a1_1 : ByteArray) (a1_2 : Bool) (a1_3 : Sl3) (a1_4 : Int) (a1_5 : Sl3) (a1_6 : Int) (a1_7 : Int) (a1_8 : ByteArray) (a1_9 : Sl3) (a1_10 : Sl3) (a1_11 : Sl3) (_x1 : Sl3) (x2_0 : Int) (x2_1 : Int) (x2_2 : ByteArray) (x2_3 : Sl3) (_H18 : AH) (_v9_19 : Sl3) : (Int × Int × Int × ByteArray × Sl3) → Lcs := fun (_, w1_22, w1_23, w1_24, w1_25) => [some (35, [(Value.int .i64 a1_0), (Value.string a1_1), (Value.bool a1_2), (Sl3.v a1_3), (Value.int .i64 a1_4), (Sl3.v a1_5), (Value.int .i64 a1_6), (Value.int .i64 a1_7), (Value.string a1_8), (Sl3.v a1_9), (Sl3.v a1_10), (Sl3.v a1_11)]), some (32, [(Value.int .i64 w1_22), (Value.int .i64 w1_23), (Value.string w1_24), (Sl3.v w1_25)]), some (32, [(Value.int .i64 x2_0), (Value.int .i64 x2_1), (Value.string x2_2), (Sl3.v x2_3)])]

noncomputable def term_Table_check (L : LC) (m : Nat) (H : AH) (a0 : Option Addr) (a1_0 : Int) (a1_1 : ByteArray) (a1_2 : Bool) (a1_3 : Sl3) (a1_4 : Int) (a1_5 : Sl3) (a1_6 : Int) (a1_7 : Int) (a1_8 : ByteArray) (a1_9 : Sl3) (a1_10 : Sl3) (a1_11 : Sl3) : Option (Int × Int × ByteArray × Sl3 × Int × AH) :=
  Option.bind (term_Table_ask L m H a0 a1_0 a1_1 a1_2 a1_3 a1_4 a1_5 a1_6 a1_7 a1_8 a1_9 a1_10 a1_11) fun (x1, x2_0, x2_1, x2_2, x2_3, x3, H4) =>
  if x3 = 0 then
    Option.bind (L.run (term_Table_check_b0 L m a0 a1_0 a1_1 a1_2 a1_3 a1_4 a1_5 a1_6 a1_7 a1_8 a1_9 a1_10 a1_11 x1 x2_0 x2_1 x2_2 x2_3) (H4, Sl3.nil, 0)) fun o => match o with
    | .inl (H18, v9_19, _) =>
      if a1_0 ≥ 11 then
        if a1_0 ≤ 14 then
          Option.bind (L.run (term_Table_check_b1 L a1_0 a1_1 a1_2 a1_3 a1_4 a1_5 a1_6 a1_7 a1_8 a1_9 a1_10 a1_11 x1 x2_0 x2_1 x2_2 x2_3 H18 v9_19) (0, 0, 0, (⟨#[]⟩ : ByteArray), Sl3.nil)) fun o => match o with
          | .inl (_, _, _, _, _) =>
            some (x2_0, x2_1, x2_2, x2_3, 0, H18)
          | .inr r => some r
        else
          Option.bind (term_sorted L m H18 a1_0 a1_1 a1_2 a1_3 a1_4 a1_5 a1_6 a1_7 a1_8 a1_9 a1_10 a1_11 v9_19) fun (x36_0, x36_1, x36_2, x36_3, x37, H38) =>
          if x37 = true then
            if a1_0 = 42 then
              none
            else
              if x36_0 = 3 then
                none
              else
                Option.bind (term_Table_linear L H38 a0 a1_0 a1_1 a1_2 a1_3 a1_4 a1_5 a1_6 a1_7 a1_8 a1_9 a1_10 a1_11) fun x39 =>
                if x39 = true then
                  some (x36_0, x36_1, x36_2, x36_3, 0, H38)
                else
                  none
          else
            none
      else
        none
    | .inr r => some r
  else
    none

theorem term_Table_check_b0_ok {E : Ent} {H : AH} {L : LC} {m : Nat} {a0 : Option Addr} {a1_0 : Int} {a1_1 : ByteArray} {a1_2 : Bool} {a1_3 : Sl3} {a1_4 : Int} {a1_5 : Sl3} {a1_6 : Int} {a1_7 : Int} {a1_8 : ByteArray} {a1_9 : Sl3} {a1_10 : Sl3} {a1_11 : Sl3} {x1 : Sl3} {x2_0 : Int} {x2_1 : Int} {x2_2 : ByteArray} {x2_3 : Sl3}  : ∀ s o, term_Table_check_b0 L m a0 a1_0 a1_1 a1_2 a1_3 a1_4 a1_5 a1_6 a1_7 a1_8 a1_9 a1_10 a1_11 x1 x2_0 x2_1 x2_2 x2_3 s = some o →
    WS Tryz.prog (NE.plain 92) m E Tryz.f16.ntmps (cfst (cfst (csnd (cfst (csnd (csnd (csnd (csnd B16)))))))) (term_Table_check_b0_kn L m a0 a1_0 a1_1 a1_2 a1_3 a1_4 a1_5 a1_6 a1_7 a1_8 a1_9 a1_10 a1_11 x1 x2_0 x2_1 x2_2 x2_3 s) (term_Table_check_b0_ls L m a0 a1_0 a1_1 a1_2 a1_3 a1_4 a1_5 a1_6 a1_7 a1_8 a1_9 a1_10 a1_11 x1 x2_0 x2_1 x2_2 x2_3 s) ((fun s => s.1) s) (lpS Tryz.prog (NE.plain 92) m E Tryz.f16.ntmps (term_Table_check_b0_kn L m a0 a1_0 a1_1 a1_2 a1_3 a1_4 a1_5 a1_6 a1_7 a1_8 a1_9 a1_10 a1_11 x1 x2_0 x2_1 x2_2 x2_3) (term_Table_check_b0_ls L m a0 a1_0 a1_1 a1_2 a1_3 a1_4 a1_5 a1_6 a1_7 a1_8 a1_9 a1_10 a1_11 x1 x2_0 x2_1 x2_2 x2_3) (fun s => s.1) 0 (fun r => RT Tryz.prog (NE.plain 92) m E Tryz.f16 (term_Table_check_enc r) (term_Table_check_hp H r)) o) := by
  rintro ⟨H5, v9_6, v30_7⟩ o h
  unfold term_Table_check_b0 at h
  try dsimp only at h
  refine WS.sq ?_
  refine WS.rg ?_
  refine RS.mS 1 [(31, .val (Value.bool (decide (v30_7 < (a1_11.n : Int)))))] ?_
  refine RS.dn ?_
  refine WS.nxt ?_
  refine WS.sq ?_
  rcases ite_some h with ⟨hp, h⟩ | ⟨hp, h⟩
  · refine WS.fx 31 true (decide_eq_true hp) ?_
    refine WS.cT ?_
    refine WS.sk ?_
    refine WS.nxt ?_
    refine WS.sq ?_
    refine WS.bk 1 ?_
    refine WS.sq ?_
    refine WS.rg ?_
    obtain ⟨p8, hx, h⟩ := bind_some h
    refine RS.o (H' := H5) (some 32) (Value.pointer (some p8)) (Abs.run_idx (s := a1_11) (k := .i64) (t := 33) (e := 3) (x := .tmp 28) (y := .tmp 30) (by kernel_rfl) (by kernel_rfl) (by kernel_rfl) (by kernel_rfl) (by kernel_rfl) hx) ?_
    obtain ⟨x9, hx, h⟩ := bind_some h
    refine RS.o (H' := H5) (some 33) (Value.int .i64 x9) (Abs.run_load (t := 3) (x := .tmp 32) (a := p8) (by kernel_rfl) (by kernel_rfl) (by kernel_rfl) (rd_cell hx deI_inv)) ?_
    refine RS.mS 1 [(11, .val (Value.int .i64 x9))] ?_
    refine RS.dn ?_
    refine WS.nxt ?_
    refine WS.rg ?_
    refine RS.mS 2 [(35, .val (Value.pointer a0)), (34, .val (Sl3.v v9_6))] ?_
    obtain ⟨q10, hx, hq10⟩ := bind_some h
    subst hx
    have h := hq10
    refine RS.mS 2 [(37, .val (Value.pointer (some (Addr.add q10 3)))), (36, .val (Value.pointer (some q10)))] ?_
    obtain ⟨x11, hx, h⟩ := bind_some h
    refine RS.o (H' := H5) (some 38) (Sl3.v x11) (Abs.run_load (t := 42) (x := .tmp 37) (a := (Addr.add q10 3)) (by kernel_rfl) (by kernel_rfl) (by kernel_rfl) (rd_cell hx deSl_inv)) ?_
    refine RS.mS 1 [(39, .val (Value.int .i64 x9))] ?_
    obtain ⟨p12, hx, h⟩ := bind_some h
    refine RS.o (H' := H5) (some 40) (Value.pointer (some p12)) (Abs.run_idx (s := x11) (k := .i64) (t := 42) (e := 70) (x := .tmp 38) (y := .tmp 39) (by kernel_rfl) (by kernel_rfl) (by kernel_rfl) (by kernel_rfl) (by kernel_rfl) hx) ?_
    refine RS.mS 1 [(41, .val (Value.pointer (some (Addr.add p12 12))))] ?_
    obtain ⟨x13_0, hx0, h⟩ := bind_some h
    obtain ⟨x13_1, hx1, h⟩ := bind_some h
    obtain ⟨x13_2, hx2, h⟩ := bind_some h
    obtain ⟨x13_3, hx3, h⟩ := bind_some h
    refine RS.o (H' := H5) (some 42) (Value.agg #[(Value.int .i64 x13_0), (Value.int .i64 x13_1), (Value.string x13_2), (Sl3.v x13_3)]) (Abs.run_loadAg (t := 32) (x := .tmp 41) (a := (Addr.add p12 12)) (k := 4) (by kernel_rfl) (by kernel_rfl) (by kernel_rfl) (by kernel_rfl) (rdc_cons (rd_cell hx0 deI_inv) (rdc_cons (rd_cell hx1 deI_inv) (rdc_cons (rd_cell hx2 deS_inv) (rdc_cons (rd_cell hx3 deSl_inv) rdc_nil))))) ?_
    obtain ⟨⟨s14, H15⟩, hx, h⟩ := bind_some h
    try dsimp only at h
    refine RS.o (H' := H15) (some 43) (Sl3.v s14) (Abs.run_newR (by kernel_rfl) (by kernel_rfl) hx) ?_
    obtain ⟨⟨s16, H17⟩, hx, h⟩ := bind_some h
    try dsimp only at h
    refine RS.o (H' := H17) (some 44) (Sl3.v s16) (Abs.run_app (x := .tmp 34) (y := .tmp 43) (ts := #[30, 30]) (s := v9_6) (z := s14) (by kernel_rfl) (by kernel_rfl) (by kernel_rfl) (by kernel_rfl) hx) ?_
    refine RS.mS 1 [(9, .val (Sl3.v s16))] ?_
    refine RS.dn ?_
    refine fun a w hs => bkN ((WS.nxt ?_ a w hs))
    refine WS.rg ?_
    refine RS.mS 2 [(30, .val (Value.int .i64 (IntKind.i64.wrap (v30_7 + 1)))), (45, .val (Value.int .i64 (IntKind.i64.wrap (v30_7 + 1))))] ?_
    refine RS.dn ?_
    cases h
    exact fun a w hs => lsN rfl (hs.sb 3)
  · refine WS.fx 31 false (decide_eq_false hp) ?_
    refine WS.cF ?_
    refine WS.ex 0 ?_
    cases h
    exact fun a w hs => sqE (lsB rfl (hs.sb 3))

theorem term_Table_check_b1_ok {E : Ent} {m : Nat} {H : AH} {L : LC} {a1_0 : Int} {a1_1 : ByteArray} {a1_2 : Bool} {a1_3 : Sl3} {a1_4 : Int} {a1_5 : Sl3} {a1_6 : Int} {a1_7 : Int} {a1_8 : ByteArray} {a1_9 : Sl3} {a1_10 : Sl3} {a1_11 : Sl3} {x1 : Sl3} {x2_0 : Int} {x2_1 : Int} {x2_2 : ByteArray} {x2_3 : Sl3} {H18 : AH} {v9_19 : Sl3}  : ∀ s o, term_Table_check_b1 L a1_0 a1_1 a1_2 a1_3 a1_4 a1_5 a1_6 a1_7 a1_8 a1_9 a1_10 a1_11 x1 x2_0 x2_1 x2_2 x2_3 H18 v9_19 s = some o →
    WS Tryz.prog (NE.plain 92) m E Tryz.f16.ntmps (cfst (cfst (csnd (cfst (cfst (csnd (cfst (csnd (csnd (csnd (csnd (csnd B16)))))))))))) (term_Table_check_b1_kn L a1_0 a1_1 a1_2 a1_3 a1_4 a1_5 a1_6 a1_7 a1_8 a1_9 a1_10 a1_11 x1 x2_0 x2_1 x2_2 x2_3 H18 v9_19 s) (term_Table_check_b1_ls L a1_0 a1_1 a1_2 a1_3 a1_4 a1_5 a1_6 a1_7 a1_8 a1_9 a1_10 a1_11 x1 x2_0 x2_1 x2_2 x2_3 H18 v9_19 s) ((fun _ => H18) s) (lpS Tryz.prog (NE.plain 92) m E Tryz.f16.ntmps (term_Table_check_b1_kn L a1_0 a1_1 a1_2 a1_3 a1_4 a1_5 a1_6 a1_7 a1_8 a1_9 a1_10 a1_11 x1 x2_0 x2_1 x2_2 x2_3 H18 v9_19) (term_Table_check_b1_ls L a1_0 a1_1 a1_2 a1_3 a1_4 a1_5 a1_6 a1_7 a1_8 a1_9 a1_10 a1_11 x1 x2_0 x2_1 x2_2 x2_3 H18 v9_19) (fun _ => H18) 2 (fun r => RT Tryz.prog (NE.plain 92) m E Tryz.f16 (term_Table_check_enc r) (term_Table_check_hp H r)) o) := by
  rintro ⟨v56_21, w1_22, w1_23, w1_24, w1_25⟩ o h
  unfold term_Table_check_b1 at h
  try dsimp only at h
  refine WS.sq ?_
  refine WS.rg ?_
  refine RS.mS 1 [(57, .val (Value.bool (decide (v56_21 < (v9_19.n : Int)))))] ?_
  refine RS.dn ?_
  refine WS.nxt ?_
  refine WS.sq ?_
  rcases ite_some h with ⟨hp, h⟩ | ⟨hp, h⟩
  · refine WS.fx 57 true (decide_eq_true hp) ?_
    refine WS.cT ?_
    refine WS.sk ?_
    refine WS.nxt ?_
    refine WS.sq ?_
    refine WS.bk 3 ?_
    refine WS.sq ?_
    refine WS.rg ?_
    refine RS.mS 1 [(58, .val (Value.int .i64 v56_21))] ?_
    obtain ⟨p26, hx, h⟩ := bind_some h
    refine RS.o (H' := H18) (some 59) (Value.pointer (some p26)) (Abs.run_idx (s := v9_19) (k := .i64) (t := 30) (e := 32) (x := .tmp 54) (y := .tmp 56) (by kernel_rfl) (by kernel_rfl) (by kernel_rfl) (by kernel_rfl) (by kernel_rfl) hx) ?_
    obtain ⟨x27_0, hx0, h⟩ := bind_some h
    obtain ⟨x27_1, hx1, h⟩ := bind_some h
    obtain ⟨x27_2, hx2, h⟩ := bind_some h
    obtain ⟨x27_3, hx3, h⟩ := bind_some h
    refine RS.o (H' := H18) (some 60) (Value.agg #[(Value.int .i64 x27_0), (Value.int .i64 x27_1), (Value.string x27_2), (Sl3.v x27_3)]) (Abs.run_loadAg (t := 32) (x := .tmp 59) (a := p26) (k := 4) (by kernel_rfl) (by kernel_rfl) (by kernel_rfl) (by kernel_rfl) (rdc_cons (rd_cell hx0 deI_inv) (rdc_cons (rd_cell hx1 deI_inv) (rdc_cons (rd_cell hx2 deS_inv) (rdc_cons (rd_cell hx3 deSl_inv) rdc_nil))))) ?_
    refine RS.mL 3 [(12, .val (Value.int .i64 v56_21)), (13, .loc 3 0)] ([some (35, [(Value.int .i64 a1_0), (Value.string a1_1), (Value.bool a1_2), (Sl3.v a1_3), (Value.int .i64 a1_4), (Sl3.v a1_5), (Value.int .i64 a1_6), (Value.int .i64 a1_7), (Value.string a1_8), (Sl3.v a1_9), (Sl3.v a1_10), (Sl3.v a1_11)]), some (32, [(Value.int .i64 w1_22), (Value.int .i64 w1_23), (Value.string w1_24), (Sl3.v w1_25)]), some (32, [(Value.int .i64 x2_0), (Value.int .i64 x2_1), (Value.string x2_2), (Sl3.v x2_3)]), some (32, [(Value.int .i64 x27_0), (Value.int .i64 x27_1), (Value.string x27_2), (Sl3.v x27_3)])]) ?_
    refine RS.dn ?_
    refine WS.nxt ?_
    refine WS.sq ?_
    refine WS.dr [0, 1, 2, 3, 4] [0, 0, 0, 6, 14, 31, 63] 7 (fun hcl => ?_)
    refine DA.tL 0 (some 61) (.val (Value.agg #[(Value.int .i64 x27_0), (Value.int .i64 x27_1), (Value.string x27_2), (Sl3.v x27_3)])) ?_
    refine DA.tK 1 (some 62) (Sl3.v x1) ?_
    refine DA.tK 2 (some 63) (Value.int .i64 v56_21) ?_
    obtain ⟨p28, hx, h⟩ := bind_some h
    refine DA.tD 3 (some 64) (Value.pointer (some p28)) (Abs.det_idx (s := x1) (k := .i64) (t := 30) (e := 32) (x := .tmp 62) (y := .tmp 63) (by kernel_rfl) (by kernel_rfl) (by kernel_rfl) (by kernel_rfl) (by kernel_rfl) hx) ?_
    obtain ⟨x29_0, hx0, h⟩ := bind_some h
    obtain ⟨x29_1, hx1, h⟩ := bind_some h
    obtain ⟨x29_2, hx2, h⟩ := bind_some h
    obtain ⟨x29_3, hx3, h⟩ := bind_some h
    refine DA.tD 4 (some 65) (Value.agg #[(Value.int .i64 x29_0), (Value.int .i64 x29_1), (Value.string x29_2), (Sl3.v x29_3)]) (Abs.det_loadA (t := 32) (x := .tmp 64) (a := p28) (k := 4) (by kernel_rfl) (by kernel_rfl) (by kernel_rfl) (by kernel_rfl) (rdc_cons (rd_cell hx0 deI_inv) (rdc_cons (rd_cell hx1 deI_inv) (rdc_cons (rd_cell hx2 deS_inv) (rdc_cons (rd_cell hx3 deSl_inv) rdc_nil))))) ?_
    obtain ⟨x30, hx, h⟩ := bind_some h
    refine DA.on 5 ?_
    refine DA.aC 5 (some 66) (v := (Value.bool x30)) 32 #[(Value.agg #[(Value.int .i64 x27_0), (Value.int .i64 x27_1), (Value.string x27_2), (Sl3.v x27_3)]), (Value.agg #[(Value.int .i64 x29_0), (Value.int .i64 x29_1), (Value.string x29_2), (Sl3.v x29_3)])] (sort_Same_ok hx) ?_
    refine DA.tP 6 (some 67) (Value.bool (!x30)) ?_
    refine DA.dn ?_
    refine WS.nxt ?_
    rcases ite_some h with ⟨hp, h⟩ | ⟨hp, h⟩
    · refine WS.fx 67 false (nb_not hp) ?_
      refine WS.cF ?_
      refine WS.sk ?_
      refine fun a w hs => bkN ((WS.nxt ?_ a w hs))
      refine WS.rg ?_
      refine RS.mS 2 [(56, .val (Value.int .i64 (IntKind.i64.wrap (v56_21 + 1)))), (69, .val (Value.int .i64 (IntKind.i64.wrap (v56_21 + 1))))] ?_
      refine RS.dn ?_
      cases h
      exact fun a w hs => lsN rfl (hs.sb 3)
    · refine WS.fx 67 true (nb_not' hp) ?_
      refine WS.cT ?_
      cases h
  · refine WS.fx 57 false (decide_eq_false hp) ?_
    refine WS.cF ?_
    refine WS.ex 2 ?_
    cases h
    exact fun a w hs => sqE (lsB rfl (hs.sb 3))

theorem term_Table_check_ok {L : LC} {m : Nat} {H : AH} {a0 : Option Addr} {a1_0 : Int} {a1_1 : ByteArray} {a1_2 : Bool} {a1_3 : Sl3} {a1_4 : Int} {a1_5 : Sl3} {a1_6 : Int} {a1_7 : Int} {a1_8 : ByteArray} {a1_9 : Sl3} {a1_10 : Sl3} {a1_11 : Sl3} {r : (Int × Int × ByteArray × Sl3 × Int × AH)} (h : term_Table_check L m H a0 a1_0 a1_1 a1_2 a1_3 a1_4 a1_5 a1_6 a1_7 a1_8 a1_9 a1_10 a1_11 = some r) :
    CallS Tryz.prog (NE.plain 92) m 16 #[(Value.pointer a0), (Value.agg #[(Value.int .i64 a1_0), (Value.string a1_1), (Value.bool a1_2), (Sl3.v a1_3), (Value.int .i64 a1_4), (Sl3.v a1_5), (Value.int .i64 a1_6), (Value.int .i64 a1_7), (Value.string a1_8), (Sl3.v a1_9), (Sl3.v a1_10), (Sl3.v a1_11)])] H (term_Table_check_enc r) (term_Table_check_hp H r) := by
  refine CallS.mk (args := [(Value.pointer a0), (Value.agg #[(Value.int .i64 a1_0), (Value.string a1_1), (Value.bool a1_2), (Sl3.v a1_3), (Value.int .i64 a1_4), (Sl3.v a1_5), (Value.int .i64 a1_6), (Value.int .i64 a1_7), (Value.string a1_8), (Sl3.v a1_9), (Sl3.v a1_10), (Sl3.v a1_11)])]) Tryz.func16 (B := B16) (by kernel_rfl) (fun E _ => ?_)
  unfold term_Table_check at h
  refine WS.sq ?_
  refine WS.rg ?_
  refine RS.mL 3 [(5, .val (Value.int .i64 0)), (4, .loc 1 0), (3, .loc 0 0)] ([some (35, [(Value.int .i64 a1_0), (Value.string a1_1), (Value.bool a1_2), (Sl3.v a1_3), (Value.int .i64 a1_4), (Sl3.v a1_5), (Value.int .i64 a1_6), (Value.int .i64 a1_7), (Value.string a1_8), (Sl3.v a1_9), (Sl3.v a1_10), (Sl3.v a1_11)]), some (32, [(Value.int .i64 0), (Value.int .i64 0), (Value.string (⟨#[]⟩ : ByteArray)), (Sl3.v Sl3.nil)])]) ?_
  refine RS.dn ?_
  refine WS.nxt ?_
  refine WS.sq ?_
  refine WS.rg ?_
  refine RS.mS 2 [(18, .val (Value.agg #[(Value.int .i64 a1_0), (Value.string a1_1), (Value.bool a1_2), (Sl3.v a1_3), (Value.int .i64 a1_4), (Sl3.v a1_5), (Value.int .i64 a1_6), (Value.int .i64 a1_7), (Value.string a1_8), (Sl3.v a1_9), (Sl3.v a1_10), (Sl3.v a1_11)])), (17, .val (Value.pointer a0))] ?_
  obtain ⟨⟨x1, x2_0, x2_1, x2_2, x2_3, x3, H4⟩, hx, h⟩ := bind_some h
  try dsimp only at h
  refine RS.cl (some 19) (v := (Value.tuple #[(Sl3.v x1), (Value.agg #[(Value.int .i64 x2_0), (Value.int .i64 x2_1), (Value.string x2_2), (Sl3.v x2_3)]), (Value.int .i64 x3)])) 31 #[(Value.pointer a0), (Value.agg #[(Value.int .i64 a1_0), (Value.string a1_1), (Value.bool a1_2), (Sl3.v a1_3), (Value.int .i64 a1_4), (Sl3.v a1_5), (Value.int .i64 a1_6), (Value.int .i64 a1_7), (Value.string a1_8), (Sl3.v a1_9), (Sl3.v a1_10), (Sl3.v a1_11)])] (term_Table_ask_ok hx) ?_
  refine RS.mL 8 [(8, .val (Value.int .i64 x3)), (6, .val (Sl3.v x1)), (7, .loc 2 0), (22, .val (Value.int .i64 x3)), (21, .val (Value.agg #[(Value.int .i64 x2_0), (Value.int .i64 x2_1), (Value.string x2_2), (Sl3.v x2_3)])), (20, .val (Sl3.v x1)), (16, .val (Value.tuple #[(Sl3.v x1), (Value.agg #[(Value.int .i64 x2_0), (Value.int .i64 x2_1), (Value.string x2_2), (Sl3.v x2_3)]), (Value.int .i64 x3)]))] ([some (35, [(Value.int .i64 a1_0), (Value.string a1_1), (Value.bool a1_2), (Sl3.v a1_3), (Value.int .i64 a1_4), (Sl3.v a1_5), (Value.int .i64 a1_6), (Value.int .i64 a1_7), (Value.string a1_8), (Sl3.v a1_9), (Sl3.v a1_10), (Sl3.v a1_11)]), some (32, [(Value.int .i64 0), (Value.int .i64 0), (Value.string (⟨#[]⟩ : ByteArray)), (Sl3.v Sl3.nil)]), some (32, [(Value.int .i64 x2_0), (Value.int .i64 x2_1), (Value.string x2_2), (Sl3.v x2_3)])]) ?_
  refine RS.dn ?_
  refine WS.nxt ?_
  refine WS.sq ?_
  refine WS.sq ?_
  refine WS.rg ?_
  refine RS.mS 2 [(24, .val (Value.bool (!decide (x3 = 0)))), (23, .val (Value.int .i64 x3))] ?_
  refine RS.dn ?_
  refine WS.nxt ?_
  rcases ite_some h with ⟨hp, h⟩ | ⟨hp, h⟩
  · refine WS.fx 24 false (dec_not hp) ?_
    refine WS.cF ?_
    refine WS.sk ?_
    refine WS.nxt ?_
    refine WS.sq ?_
    refine WS.rg ?_
    refine RS.mS 1 [(9, .val (Sl3.v Sl3.nil))] ?_
    refine RS.dn ?_
    refine WS.nxt ?_
    refine WS.sq ?_
    refine WS.sq ?_
    refine WS.rg ?_
    refine RS.mS 4 [(30, .val (Value.int .i64 0)), (29, .val (Value.int .i64 (a1_11.n : Int))), (28, .val (Sl3.v a1_11)), (27, .loc 0 11)] ?_
    refine RS.dn ?_
    refine WS.nxt ?_
    refine WS.bk 0 ?_
    obtain ⟨o, hl, h⟩ := bind_some h
    rcases o with ⟨H18, v9_19, v30_20⟩ | r
    · try dsimp only at h
      refine WS.lI (term_Table_check_b0_ok (L := L) (E := E) (m := m) (H := H)) (L.ok hl) 3 ?_
      clear hl
      refine fun a w hs => bkE ((WS.nxt ?_ a w hs))
      refine WS.sq ?_
      refine WS.sq ?_
      refine WS.rg ?_
      refine RS.mS 4 [(49, .val (Value.bool (decide (a1_0 ≥ 11)))), (48, .val (Value.bool (decide (a1_0 ≥ 11)))), (47, .val (Value.int .i64 a1_0)), (46, .loc 0 0)] ?_
      rcases ite_some h with ⟨hp, h⟩ | ⟨hp, h⟩
      · refine RS.fx 49 true (decide_eq_true hp) ?_
        refine RS.mS 4 [(53, .val (Value.bool (decide (a1_0 ≤ 14)))), (52, .val (Value.bool (decide (a1_0 ≤ 14)))), (51, .val (Value.int .i64 a1_0)), (50, .loc 0 0)] ?_
        refine RS.dn ?_
        refine WS.nxt ?_
        rcases ite_some h with ⟨hp, h⟩ | ⟨hp, h⟩
        · refine WS.fx 53 true (decide_eq_true hp) ?_
          refine WS.cT ?_
          refine WS.sq ?_
          refine WS.sq ?_
          refine WS.rg ?_
          refine RS.mS 3 [(56, .val (Value.int .i64 0)), (55, .val (Value.int .i64 (v9_19.n : Int))), (54, .val (Sl3.v v9_19))] ?_
          refine RS.dn ?_
          refine WS.nxt ?_
          refine WS.bk 2 ?_
          obtain ⟨o, hl, h⟩ := bind_some h
          rcases o with ⟨v56_31, w1_32, w1_33, w1_34, w1_35⟩ | r
          · try dsimp only at h
            refine WS.lI (term_Table_check_b1_ok (L := L) (E := E) (m := m) (H := H)) (L.ok hl) 3 ?_
            clear hl
            refine fun a w hs => bkE ((WS.nxt ?_ a w hs))
            refine WS.sq ?_
            refine WS.rg ?_
            refine RS.mL 3 [(5, .val (Value.int .i64 0)), (70, .val (Value.agg #[(Value.int .i64 x2_0), (Value.int .i64 x2_1), (Value.string x2_2), (Sl3.v x2_3)]))] ([some (35, [(Value.int .i64 a1_0), (Value.string a1_1), (Value.bool a1_2), (Sl3.v a1_3), (Value.int .i64 a1_4), (Sl3.v a1_5), (Value.int .i64 a1_6), (Value.int .i64 a1_7), (Value.string a1_8), (Sl3.v a1_9), (Sl3.v a1_10), (Sl3.v a1_11)]), some (32, [(Value.int .i64 x2_0), (Value.int .i64 x2_1), (Value.string x2_2), (Sl3.v x2_3)]), some (32, [(Value.int .i64 x2_0), (Value.int .i64 x2_1), (Value.string x2_2), (Sl3.v x2_3)])]) ?_
            refine RS.dn ?_
            refine WS.nxt ?_
            refine WS.rt ?_
            cases h
            exact fun a w hs => sqR (rtR (rS hs))
          · try dsimp only at h
            refine WS.lR (term_Table_check_b1_ok (L := L) (E := E) (m := m) (H := H)) (L.ok hl) 3 ?_
            cases h
            exact fun a w hq => bkR (sqR (sqR (rtR hq)))
        · refine WS.fx 53 false (decide_eq_false hp) ?_
          refine WS.cF ?_
          refine WS.sk ?_
          refine WS.nxt ?_
          refine WS.sq ?_
          refine WS.rg ?_
          refine RS.mS 2 [(73, .val (Sl3.v v9_19)), (72, .val (Value.agg #[(Value.int .i64 a1_0), (Value.string a1_1), (Value.bool a1_2), (Sl3.v a1_3), (Value.int .i64 a1_4), (Sl3.v a1_5), (Value.int .i64 a1_6), (Value.int .i64 a1_7), (Value.string a1_8), (Sl3.v a1_9), (Sl3.v a1_10), (Sl3.v a1_11)]))] ?_
          obtain ⟨⟨x36_0, x36_1, x36_2, x36_3, x37, H38⟩, hx, h⟩ := bind_some h
          try dsimp only at h
          refine RS.cl (some 74) (v := (Value.tuple #[(Value.agg #[(Value.int .i64 x36_0), (Value.int .i64 x36_1), (Value.string x36_2), (Sl3.v x36_3)]), (Value.bool x37)])) 33 #[(Value.agg #[(Value.int .i64 a1_0), (Value.string a1_1), (Value.bool a1_2), (Sl3.v a1_3), (Value.int .i64 a1_4), (Sl3.v a1_5), (Value.int .i64 a1_6), (Value.int .i64 a1_7), (Value.string a1_8), (Sl3.v a1_9), (Sl3.v a1_10), (Sl3.v a1_11)]), (Sl3.v v9_19)] (term_sorted_ok hx) ?_
          refine RS.mL 6 [(15, .val (Value.bool x37)), (14, .loc 3 0), (76, .val (Value.bool x37)), (75, .val (Value.agg #[(Value.int .i64 x36_0), (Value.int .i64 x36_1), (Value.string x36_2), (Sl3.v x36_3)])), (71, .val (Value.tuple #[(Value.agg #[(Value.int .i64 x36_0), (Value.int .i64 x36_1), (Value.string x36_2), (Sl3.v x36_3)]), (Value.bool x37)]))] ([some (35, [(Value.int .i64 a1_0), (Value.string a1_1), (Value.bool a1_2), (Sl3.v a1_3), (Value.int .i64 a1_4), (Sl3.v a1_5), (Value.int .i64 a1_6), (Value.int .i64 a1_7), (Value.string a1_8), (Sl3.v a1_9), (Sl3.v a1_10), (Sl3.v a1_11)]), some (32, [(Value.int .i64 0), (Value.int .i64 0), (Value.string (⟨#[]⟩ : ByteArray)), (Sl3.v Sl3.nil)]), some (32, [(Value.int .i64 x2_0), (Value.int .i64 x2_1), (Value.string x2_2), (Sl3.v x2_3)]), some (32, [(Value.int .i64 x36_0), (Value.int .i64 x36_1), (Value.string x36_2), (Sl3.v x36_3)])]) ?_
          refine RS.dn ?_
          refine WS.nxt ?_
          refine WS.sq ?_
          refine WS.bk 4 ?_
          refine WS.sq ?_
          refine WS.rg ?_
          refine RS.mS 3 [(77, .val (Value.bool (!x37))), (79, .val (Value.bool (!x37))), (78, .val (Value.bool x37))] ?_
          refine RS.dn ?_
          refine WS.nxt ?_
          rcases ite_some h with ⟨hp, h⟩ | ⟨hp, h⟩
          · refine WS.fx 77 false (nb_not hp) ?_
            refine WS.cF ?_
            refine WS.sq ?_
            refine WS.dr [0, 1, 2, 3, 4, 5, 6, 7, 8, 9, 10, 11, 12, 13, 14, 15, 16, 17, 18, 19, 20] [0, 1, 3, 7, 15, 31, 63, 127, 15, 271, 783, 1807, 4095, 8191, 16383, 32767, 65535, 131071, 262143, 524287, 1048575, 2097151, 4194303, 8388607, 16777215] 25 (fun hcl => ?_)
            refine DA.tL 0 (some 82) (.loc 0 0) ?_
            refine DA.tL 1 (some 83) (.val (Value.int .i64 a1_0)) ?_
            refine DA.tK 2 (some 84) (Value.bool (decide (a1_0 = 42))) ?_
            refine DA.tK 3 (some 85) (Value.bool (decide (a1_0 = 42))) ?_
            rcases ite_some h with ⟨hp, h⟩ | ⟨hp, h⟩
            · refine DA.fx 85 true (decide_eq_true hp) ?_
              cases h
            · refine DA.fx 85 false (decide_eq_false hp) ?_
              refine DA.tskipD 4 (some 86) (by kernel_rfl) (by kernel_rfl) (by kernel_rfl) hcl (fun _ _ _ h => h) (by kernel_rfl) ?_
              refine DA.tskipD 5 (some 87) (by kernel_rfl) (by kernel_rfl) (by kernel_rfl) hcl (fun _ _ _ h => h) (by kernel_rfl) ?_
              refine DA.tskipD 6 (some 88) (by kernel_rfl) (by kernel_rfl) (by kernel_rfl) hcl (fun _ _ _ h => h) (by kernel_rfl) ?_
              refine DA.tskipD 7 (some 89) (by kernel_rfl) (by kernel_rfl) (by kernel_rfl) hcl (fun _ _ _ h => h) (by kernel_rfl) ?_
              refine DA.tskipD 8 (some 90) (by kernel_rfl) (by kernel_rfl) (by kernel_rfl) hcl (fun _ _ _ h => h) (by kernel_rfl) ?_
              refine DA.tskipD 9 (some 91) (by kernel_rfl) (by kernel_rfl) (by kernel_rfl) hcl (fun _ _ _ h => h) (by kernel_rfl) ?_
              refine DA.tskipD 10 (some 92) (by kernel_rfl) (by kernel_rfl) (by kernel_rfl) hcl (fun _ _ _ h => h) (by kernel_rfl) ?_
              refine DA.tskipD 11 (some 93) (by kernel_rfl) (by kernel_rfl) (by kernel_rfl) hcl (fun _ _ _ h => h) (by kernel_rfl) ?_
              refine DA.tskipD 12 (some 94) (by kernel_rfl) (by kernel_rfl) (by kernel_rfl) hcl (fun _ _ _ h => h) (by kernel_rfl) ?_
              refine DA.tK 13 (some 95) (Value.bool false) ?_
              refine DA.tK 14 (some 96) (Value.bool false) ?_
              refine DA.tL 15 (some 97) (.loc 3 0) ?_
              refine DA.tL 16 (some 98) (.val (Value.int .i64 x36_0)) ?_
              refine DA.tK 17 (some 99) (Value.bool (decide (x36_0 = 3))) ?_
              refine DA.tK 18 (some 100) (Value.bool (decide (x36_0 = 3))) ?_
              rcases ite_some h with ⟨hp, h⟩ | ⟨hp, h⟩
              · refine DA.fx 100 true (decide_eq_true hp) ?_
                cases h
              · refine DA.fx 100 false (decide_eq_false hp) ?_
                refine DA.tskipD 19 (some 101) (by kernel_rfl) (by kernel_rfl) (by kernel_rfl) hcl (fun _ _ _ h => h) (by kernel_rfl) ?_
                refine DA.tskipD 20 (some 102) (by kernel_rfl) (by kernel_rfl) (by kernel_rfl) hcl (fun _ _ _ h => h) (by kernel_rfl) ?_
                refine DA.tskipP 21 (some 103) (by kernel_rfl) (by kernel_rfl) (by kernel_rfl) hcl (fun _ _ _ h => h) (by kernel_rfl) ?_
                refine DA.tP 22 (some 104) (Value.bool false) ?_
                refine DA.tP 23 (some 105) (Value.bool false) ?_
                refine DA.tP 24 (some 81) (Value.bool false) ?_
                refine DA.dn ?_
                refine WS.nxt ?_
                refine WS.cF ?_
                refine WS.sq ?_
                refine WS.rg ?_
                refine RS.mS 2 [(109, .val (Value.agg #[(Value.int .i64 a1_0), (Value.string a1_1), (Value.bool a1_2), (Sl3.v a1_3), (Value.int .i64 a1_4), (Sl3.v a1_5), (Value.int .i64 a1_6), (Value.int .i64 a1_7), (Value.string a1_8), (Sl3.v a1_9), (Sl3.v a1_10), (Sl3.v a1_11)])), (108, .val (Value.pointer a0))] ?_
                obtain ⟨x39, hx, h⟩ := bind_some h
                refine RS.cl (some 110) (v := (Value.bool x39)) 34 #[(Value.pointer a0), (Value.agg #[(Value.int .i64 a1_0), (Value.string a1_1), (Value.bool a1_2), (Sl3.v a1_3), (Value.int .i64 a1_4), (Sl3.v a1_5), (Value.int .i64 a1_6), (Value.int .i64 a1_7), (Value.string a1_8), (Sl3.v a1_9), (Sl3.v a1_10), (Sl3.v a1_11)])] (term_Table_linear_ok hx) ?_
                refine RS.mS 2 [(107, .val (Value.bool (!x39))), (111, .val (Value.bool (!x39)))] ?_
                refine RS.dn ?_
                refine WS.nxt ?_
                rcases ite_some h with ⟨hp, h⟩ | ⟨hp, h⟩
                · refine WS.fx 107 false (nb_not hp) ?_
                  refine WS.cF ?_
                  refine WS.sk ?_
                  refine fun a w hs => bkN ((WS.nxt ?_ a w hs))
                  refine WS.sq ?_
                  refine WS.rg ?_
                  refine RS.mL 3 [(5, .val (Value.int .i64 0)), (113, .val (Value.agg #[(Value.int .i64 x36_0), (Value.int .i64 x36_1), (Value.string x36_2), (Sl3.v x36_3)]))] ([some (35, [(Value.int .i64 a1_0), (Value.string a1_1), (Value.bool a1_2), (Sl3.v a1_3), (Value.int .i64 a1_4), (Sl3.v a1_5), (Value.int .i64 a1_6), (Value.int .i64 a1_7), (Value.string a1_8), (Sl3.v a1_9), (Sl3.v a1_10), (Sl3.v a1_11)]), some (32, [(Value.int .i64 x36_0), (Value.int .i64 x36_1), (Value.string x36_2), (Sl3.v x36_3)]), some (32, [(Value.int .i64 x2_0), (Value.int .i64 x2_1), (Value.string x2_2), (Sl3.v x2_3)]), some (32, [(Value.int .i64 x36_0), (Value.int .i64 x36_1), (Value.string x36_2), (Sl3.v x36_3)])]) ?_
                  refine RS.dn ?_
                  refine WS.nxt ?_
                  refine WS.rt ?_
                  cases h
                  exact fun a w hs => rtR (rS hs)
                · refine WS.fx 107 true (nb_not' hp) ?_
                  refine WS.cT ?_
                  cases h
          · refine WS.fx 77 true (nb_not' hp) ?_
            refine WS.cT ?_
            cases h
      · refine RS.fx 49 false (decide_eq_false hp) ?_
        cases h
    · try dsimp only at h
      refine WS.lR (term_Table_check_b0_ok (L := L) (E := E) (m := m) (H := H)) (L.ok hl) 3 ?_
      cases h
      exact fun a w hq => bkR (sqR (rtR hq))
  · refine WS.fx 24 true (dec_not' hp) ?_
    refine WS.cT ?_
    cases h

def slices_Clone_35_enc : (Sl3 × AH) → Value
  | (r0, _) => (Sl3.v r0)

def slices_Clone_35_hp (_ : AH) : (Sl3 × AH) → AH := fun r => r.2

noncomputable def B35 : Code := (Tryz.f35.body).getD .skip

noncomputable def slices_Clone_35 (_L : LC) (m : Nat) (H : AH) (a0 : Sl3) : Option (Sl3 × AH) :=
  if (isNilS a0) = true then
    some (Sl3.nil, H)
  else
    Option.bind (newR 3 0 #[] H) fun (s1, H2) =>
    Option.bind (appS m 3 1 8 H2 s1 a0) fun (s3, H4) =>
    some (s3, H4)

theorem slices_Clone_35_ok {L : LC} {m : Nat} {H : AH} {a0 : Sl3} {r : (Sl3 × AH)} (h : slices_Clone_35 L m H a0 = some r) :
    CallS Tryz.prog (NE.plain 92) m 35 #[(Sl3.v a0)] H (slices_Clone_35_enc r) (slices_Clone_35_hp H r) := by
  refine CallS.mk (args := [(Sl3.v a0)]) Tryz.func35 (B := B35) (by kernel_rfl) (fun E _ => ?_)
  unfold slices_Clone_35 at h
  refine WS.sq ?_
  refine WS.rg ?_
  refine RS.mS 1 [(2, .val (Sl3.v Sl3.nil))] ?_
  refine RS.dn ?_
  refine WS.nxt ?_
  refine WS.sq ?_
  refine WS.sq ?_
  refine WS.rg ?_
  refine RS.mS 1 [(3, .val (Sl3.v a0))] ?_
  refine RS.o (H' := H) (some 4) (Value.bool (isNilS a0)) (run_nil_eql (t := 33) (e := 3) (u := 33) (x := .tmp 3) (y := .const (Sl3.v Sl3.nil)) (s := a0) (by kernel_rfl) (by kernel_rfl) (by kernel_rfl) (by kernel_rfl)) ?_
  refine RS.dn ?_
  refine WS.nxt ?_
  rcases ite_some h with ⟨hp, h⟩ | ⟨hp, h⟩
  · refine WS.fx 4 true hp ?_
    refine WS.cT ?_
    refine WS.sq ?_
    refine WS.rg ?_
    refine RS.mS 1 [(2, .val (Sl3.v Sl3.nil))] ?_
    refine RS.dn ?_
    refine WS.nxt ?_
    refine WS.rt ?_
    cases h
    exact fun a w hs => sqR (rtR (rS hs))
  · refine WS.fx 4 false (b_not hp) ?_
    refine WS.cF ?_
    refine WS.sk ?_
    refine WS.nxt ?_
    refine WS.sq ?_
    refine WS.rg ?_
    obtain ⟨⟨s1, H2⟩, hx, h⟩ := bind_some h
    try dsimp only at h
    refine RS.o (H' := H2) (some 5) (Sl3.v s1) (Abs.run_newR (by kernel_rfl) (by kernel_rfl) hx) ?_
    refine RS.mS 1 [(6, .val (Sl3.v a0))] ?_
    obtain ⟨⟨s3, H4⟩, hx, h⟩ := bind_some h
    try dsimp only at h
    refine RS.o (H' := H4) (some 7) (Sl3.v s3) (Abs.run_app (x := .tmp 5) (y := .tmp 6) (ts := #[33, 33]) (s := s1) (z := a0) (by kernel_rfl) (by kernel_rfl) (by kernel_rfl) (by kernel_rfl) hx) ?_
    refine RS.mS 1 [(2, .val (Sl3.v s3))] ?_
    refine RS.dn ?_
    refine WS.nxt ?_
    refine WS.rt ?_
    cases h
    exact fun a w hs => rtR (rS hs)

end Go.Proofs.YtgkogeglciogkaaGreatDoor

namespace Go.Proofs.YtgkogeglciogkaaGreatDoor
open Go Go.Abs
set_option maxRecDepth 100000

def term_canon_enc : (Int × ByteArray × Bool × Sl3 × Int × Sl3 × Int × Int × ByteArray × Sl3 × Sl3 × Sl3 × AH) → Value
  | (r0, r1, r2, r3, r4, r5, r6, r7, r8, r9, r10, r11, _) => (Value.agg #[(Value.int .i64 r0), (Value.string r1), (Value.bool r2), (Sl3.v r3), (Value.int .i64 r4), (Sl3.v r5), (Value.int .i64 r6), (Value.int .i64 r7), (Value.string r8), (Sl3.v r9), (Sl3.v r10), (Sl3.v r11)])

def term_canon_hp (_ : AH) : (Int × ByteArray × Bool × Sl3 × Int × Sl3 × Int × Int × ByteArray × Sl3 × Sl3 × Sl3 × AH) → AH := fun r => r.2.2.2.2.2.2.2.2.2.2.2.2

noncomputable def B17 : Code := (Tryz.f17.body).getD .skip

noncomputable def term_canon (L : LC) (m : Nat) (H : AH) (a0_0 : Int) (a0_1 : ByteArray) (_a0_2 : Bool) (_a0_3 : Sl3) (_a0_4 : Int) (_a0_5 : Sl3) (_a0_6 : Int) (_a0_7 : Int) (_a0_8 : ByteArray) (_a0_9 : Sl3) (_a0_10 : Sl3) (a0_11 : Sl3) : Option (Int × ByteArray × Bool × Sl3 × Int × Sl3 × Int × Int × ByteArray × Sl3 × Sl3 × Sl3 × AH) :=
  Option.bind (slices_Clone_35 L (Nat.max m H.next) H a0_11) fun (x1, H2) =>
  Option.bind (α := (AH × Int × ByteArray × Bool × Sl3 × Int × Sl3 × Int × Int × ByteArray × Sl3 × Sl3 × Sl3)) (
    if a0_0 ≥ 11 then
      if a0_0 ≤ 14 then
        some (H2, a0_0, a0_1, false, Sl3.nil, 0, Sl3.nil, 0, 0, (⟨#[]⟩ : ByteArray), Sl3.nil, Sl3.nil, x1)
      else
        if a0_0 = 20 then
          none
        else
          if a0_0 = 40 then
            none
          else
            if a0_0 = 34 then
              none
            else
              some (H2, a0_0, (⟨#[]⟩ : ByteArray), false, Sl3.nil, 0, Sl3.nil, 0, 0, (⟨#[]⟩ : ByteArray), Sl3.nil, Sl3.nil, x1)
    else
      none) fun (H3, w2_4, w2_5, w2_6, w2_7, w2_8, w2_9, w2_10, w2_11, w2_12, w2_13, w2_14, w2_15) =>
  Option.bind (term_form L a0_0) fun (_, _, x18, _) =>
  if x18 > 0 then
    none
  else
    some (w2_4, w2_5, w2_6, w2_7, w2_8, w2_9, w2_10, w2_11, w2_12, w2_13, w2_14, w2_15, H3)

theorem term_canon_ok {L : LC} {m : Nat} {H : AH} {a0_0 : Int} {a0_1 : ByteArray} {a0_2 : Bool} {a0_3 : Sl3} {a0_4 : Int} {a0_5 : Sl3} {a0_6 : Int} {a0_7 : Int} {a0_8 : ByteArray} {a0_9 : Sl3} {a0_10 : Sl3} {a0_11 : Sl3} {r : (Int × ByteArray × Bool × Sl3 × Int × Sl3 × Int × Int × ByteArray × Sl3 × Sl3 × Sl3 × AH)} (h : term_canon L m H a0_0 a0_1 a0_2 a0_3 a0_4 a0_5 a0_6 a0_7 a0_8 a0_9 a0_10 a0_11 = some r) :
    CallS Tryz.prog (NE.plain 92) m 17 #[(Value.agg #[(Value.int .i64 a0_0), (Value.string a0_1), (Value.bool a0_2), (Sl3.v a0_3), (Value.int .i64 a0_4), (Sl3.v a0_5), (Value.int .i64 a0_6), (Value.int .i64 a0_7), (Value.string a0_8), (Sl3.v a0_9), (Sl3.v a0_10), (Sl3.v a0_11)])] H (term_canon_enc r) (term_canon_hp H r) := by
  refine CallS.mk (args := [(Value.agg #[(Value.int .i64 a0_0), (Value.string a0_1), (Value.bool a0_2), (Sl3.v a0_3), (Value.int .i64 a0_4), (Sl3.v a0_5), (Value.int .i64 a0_6), (Value.int .i64 a0_7), (Value.string a0_8), (Sl3.v a0_9), (Sl3.v a0_10), (Sl3.v a0_11)])]) Tryz.func17 (B := B17) (by kernel_rfl) (fun E _ => ?_)
  unfold term_canon at h
  refine WS.sq ?_
  refine WS.rg ?_
  refine RS.mL 2 [(2, .loc 1 0), (1, .loc 0 0)] ([some (35, [(Value.int .i64 a0_0), (Value.string a0_1), (Value.bool a0_2), (Sl3.v a0_3), (Value.int .i64 a0_4), (Sl3.v a0_5), (Value.int .i64 a0_6), (Value.int .i64 a0_7), (Value.string a0_8), (Sl3.v a0_9), (Sl3.v a0_10), (Sl3.v a0_11)]), some (35, [(Value.int .i64 0), (Value.string (⟨#[]⟩ : ByteArray)), (Value.bool false), (Sl3.v Sl3.nil), (Value.int .i64 0), (Sl3.v Sl3.nil), (Value.int .i64 0), (Value.int .i64 0), (Value.string (⟨#[]⟩ : ByteArray)), (Sl3.v Sl3.nil), (Sl3.v Sl3.nil), (Sl3.v Sl3.nil)])]) ?_
  refine RS.dn ?_
  refine WS.nxt ?_
  refine WS.sq ?_
  obtain ⟨⟨x1, H2⟩, hx_4, h⟩ := bind_some h
  try dsimp only at h
  refine WS.toone ([(1, .loc 0 0), (2, .loc 1 0), (3, .loc 2 0)]) ([some (35, [(Value.int .i64 a0_0), (Value.string a0_1), (Value.bool a0_2), (Sl3.v a0_3), (Value.int .i64 a0_4), (Sl3.v a0_5), (Value.int .i64 a0_6), (Value.int .i64 a0_7), (Value.string a0_8), (Sl3.v a0_9), (Sl3.v a0_10), (Sl3.v a0_11)]), some (35, [(Value.int .i64 0), (Value.string (⟨#[]⟩ : ByteArray)), (Value.bool false), (Sl3.v Sl3.nil), (Value.int .i64 0), (Sl3.v Sl3.nil), (Value.int .i64 0), (Value.int .i64 0), (Value.string (⟨#[]⟩ : ByteArray)), (Sl3.v Sl3.nil), (Sl3.v Sl3.nil), (Sl3.v Sl3.nil)]), some (35, [(Value.int .i64 a0_0), (Value.string (⟨#[]⟩ : ByteArray)), (Value.bool false), (Sl3.v Sl3.nil), (Value.int .i64 0), (Sl3.v Sl3.nil), (Value.int .i64 0), (Value.int .i64 0), (Value.string (⟨#[]⟩ : ByteArray)), (Sl3.v Sl3.nil), (Sl3.v Sl3.nil), (Sl3.v x1)])]) H2 ?_ ?_
  · clear h
    refine WS.dr [2, 3] [0, 1, 0, 4, 12, 31, 0, 127] 8 (fun hcl => ?_)
    refine DA.tL 2 (some 10) (.loc 0 11) ?_
    refine DA.tL 3 (some 11) (.val (Sl3.v a0_11)) ?_
    refine DA.restart [0, 2, 3] (by kernel_rfl) ?_
    refine DA.tL 0 (some 8) (.loc 0 0) ?_
    refine DA.three 1 4 6 (by kernel_rfl) ?_ ?_ ?_
    · refine DA.aL 1 (some 9) (.val (Value.int .i64 a0_0)) ([some (35, [(Value.int .i64 a0_0), (Value.string a0_1), (Value.bool a0_2), (Sl3.v a0_3), (Value.int .i64 a0_4), (Sl3.v a0_5), (Value.int .i64 a0_6), (Value.int .i64 a0_7), (Value.string a0_8), (Sl3.v a0_9), (Sl3.v a0_10), (Sl3.v a0_11)]), some (35, [(Value.int .i64 0), (Value.string (⟨#[]⟩ : ByteArray)), (Value.bool false), (Sl3.v Sl3.nil), (Value.int .i64 0), (Sl3.v Sl3.nil), (Value.int .i64 0), (Value.int .i64 0), (Value.string (⟨#[]⟩ : ByteArray)), (Sl3.v Sl3.nil), (Sl3.v Sl3.nil), (Sl3.v Sl3.nil)])]) true ?_
      refine DA.two 4 6 (by kernel_rfl) ?_ ?_
      · refine DA.aCk 4 (some 12) true (v := (Sl3.v x1)) 35 #[(Sl3.v a0_11)] (slices_Clone_35_ok hx_4) ?_
        refine DA.two 5 6 (by kernel_rfl) ?_ ?_
        · refine DA.aHk (H' := H2) 5 (some 13) true (Value.agg #[(Value.int .i64 a0_0), (Value.string (⟨#[]⟩ : ByteArray)), (Value.bool false), (Sl3.v Sl3.nil), (Value.int .i64 0), (Sl3.v Sl3.nil), (Value.int .i64 0), (Value.int .i64 0), (Value.string (⟨#[]⟩ : ByteArray)), (Sl3.v Sl3.nil), (Sl3.v Sl3.nil), (Sl3.v x1)]) (by kernel_rfl) ?_
          refine DA.on 6 ?_
          refine DA.aL 6 (some 3) (.loc 2 0) ([some (35, [(Value.int .i64 a0_0), (Value.string a0_1), (Value.bool a0_2), (Sl3.v a0_3), (Value.int .i64 a0_4), (Sl3.v a0_5), (Value.int .i64 a0_6), (Value.int .i64 a0_7), (Value.string a0_8), (Sl3.v a0_9), (Sl3.v a0_10), (Sl3.v a0_11)]), some (35, [(Value.int .i64 0), (Value.string (⟨#[]⟩ : ByteArray)), (Value.bool false), (Sl3.v Sl3.nil), (Value.int .i64 0), (Sl3.v Sl3.nil), (Value.int .i64 0), (Value.int .i64 0), (Value.string (⟨#[]⟩ : ByteArray)), (Sl3.v Sl3.nil), (Sl3.v Sl3.nil), (Sl3.v Sl3.nil)]), some (35, [(Value.int .i64 0), (Value.string (⟨#[]⟩ : ByteArray)), (Value.bool false), (Sl3.v Sl3.nil), (Value.int .i64 0), (Sl3.v Sl3.nil), (Value.int .i64 0), (Value.int .i64 0), (Value.string (⟨#[]⟩ : ByteArray)), (Sl3.v Sl3.nil), (Sl3.v Sl3.nil), (Sl3.v Sl3.nil)])]) false ?_
          refine DA.on 7 ?_
          refine DA.aL 7 none (.val undef) ([some (35, [(Value.int .i64 a0_0), (Value.string a0_1), (Value.bool a0_2), (Sl3.v a0_3), (Value.int .i64 a0_4), (Sl3.v a0_5), (Value.int .i64 a0_6), (Value.int .i64 a0_7), (Value.string a0_8), (Sl3.v a0_9), (Sl3.v a0_10), (Sl3.v a0_11)]), some (35, [(Value.int .i64 0), (Value.string (⟨#[]⟩ : ByteArray)), (Value.bool false), (Sl3.v Sl3.nil), (Value.int .i64 0), (Sl3.v Sl3.nil), (Value.int .i64 0), (Value.int .i64 0), (Value.string (⟨#[]⟩ : ByteArray)), (Sl3.v Sl3.nil), (Sl3.v Sl3.nil), (Sl3.v Sl3.nil)]), some (35, [(Value.int .i64 a0_0), (Value.string (⟨#[]⟩ : ByteArray)), (Value.bool false), (Sl3.v Sl3.nil), (Value.int .i64 0), (Sl3.v Sl3.nil), (Value.int .i64 0), (Value.int .i64 0), (Value.string (⟨#[]⟩ : ByteArray)), (Sl3.v Sl3.nil), (Sl3.v Sl3.nil), (Sl3.v x1)])]) false ?_
          refine DA.dn ?_
          exact fun a w hs => jsN (hs.sb 3)
        · refine DA.aL 6 (some 3) (.loc 2 0) ([some (35, [(Value.int .i64 a0_0), (Value.string a0_1), (Value.bool a0_2), (Sl3.v a0_3), (Value.int .i64 a0_4), (Sl3.v a0_5), (Value.int .i64 a0_6), (Value.int .i64 a0_7), (Value.string a0_8), (Sl3.v a0_9), (Sl3.v a0_10), (Sl3.v a0_11)]), some (35, [(Value.int .i64 0), (Value.string (⟨#[]⟩ : ByteArray)), (Value.bool false), (Sl3.v Sl3.nil), (Value.int .i64 0), (Sl3.v Sl3.nil), (Value.int .i64 0), (Value.int .i64 0), (Value.string (⟨#[]⟩ : ByteArray)), (Sl3.v Sl3.nil), (Sl3.v Sl3.nil), (Sl3.v Sl3.nil)]), some (35, [(Value.int .i64 0), (Value.string (⟨#[]⟩ : ByteArray)), (Value.bool false), (Sl3.v Sl3.nil), (Value.int .i64 0), (Sl3.v Sl3.nil), (Value.int .i64 0), (Value.int .i64 0), (Value.string (⟨#[]⟩ : ByteArray)), (Sl3.v Sl3.nil), (Sl3.v Sl3.nil), (Sl3.v Sl3.nil)])]) false ?_
          refine DA.on 5 ?_
          refine DA.aH (H' := H2) 5 (some 13) (Value.agg #[(Value.int .i64 a0_0), (Value.string (⟨#[]⟩ : ByteArray)), (Value.bool false), (Sl3.v Sl3.nil), (Value.int .i64 0), (Sl3.v Sl3.nil), (Value.int .i64 0), (Value.int .i64 0), (Value.string (⟨#[]⟩ : ByteArray)), (Sl3.v Sl3.nil), (Sl3.v Sl3.nil), (Sl3.v x1)]) (by kernel_rfl) ?_
          refine DA.on 7 ?_
          refine DA.aL 7 none (.val undef) ([some (35, [(Value.int .i64 a0_0), (Value.string a0_1), (Value.bool a0_2), (Sl3.v a0_3), (Value.int .i64 a0_4), (Sl3.v a0_5), (Value.int .i64 a0_6), (Value.int .i64 a0_7), (Value.string a0_8), (Sl3.v a0_9), (Sl3.v a0_10), (Sl3.v a0_11)]), some (35, [(Value.int .i64 0), (Value.string (⟨#[]⟩ : ByteArray)), (Value.bool false), (Sl3.v Sl3.nil), (Value.int .i64 0), (Sl3.v Sl3.nil), (Value.int .i64 0), (Value.int .i64 0), (Value.string (⟨#[]⟩ : ByteArray)), (Sl3.v Sl3.nil), (Sl3.v Sl3.nil), (Sl3.v Sl3.nil)]), some (35, [(Value.int .i64 a0_0), (Value.string (⟨#[]⟩ : ByteArray)), (Value.bool false), (Sl3.v Sl3.nil), (Value.int .i64 0), (Sl3.v Sl3.nil), (Value.int .i64 0), (Value.int .i64 0), (Value.string (⟨#[]⟩ : ByteArray)), (Sl3.v Sl3.nil), (Sl3.v Sl3.nil), (Sl3.v x1)])]) false ?_
          refine DA.dn ?_
          exact fun a w hs => jsN (hs.sb 3)
      · refine DA.aL 6 (some 3) (.loc 2 0) ([some (35, [(Value.int .i64 a0_0), (Value.string a0_1), (Value.bool a0_2), (Sl3.v a0_3), (Value.int .i64 a0_4), (Sl3.v a0_5), (Value.int .i64 a0_6), (Value.int .i64 a0_7), (Value.string a0_8), (Sl3.v a0_9), (Sl3.v a0_10), (Sl3.v a0_11)]), some (35, [(Value.int .i64 0), (Value.string (⟨#[]⟩ : ByteArray)), (Value.bool false), (Sl3.v Sl3.nil), (Value.int .i64 0), (Sl3.v Sl3.nil), (Value.int .i64 0), (Value.int .i64 0), (Value.string (⟨#[]⟩ : ByteArray)), (Sl3.v Sl3.nil), (Sl3.v Sl3.nil), (Sl3.v Sl3.nil)]), some (35, [(Value.int .i64 0), (Value.string (⟨#[]⟩ : ByteArray)), (Value.bool false), (Sl3.v Sl3.nil), (Value.int .i64 0), (Sl3.v Sl3.nil), (Value.int .i64 0), (Value.int .i64 0), (Value.string (⟨#[]⟩ : ByteArray)), (Sl3.v Sl3.nil), (Sl3.v Sl3.nil), (Sl3.v Sl3.nil)])]) true ?_
        refine DA.on 4 ?_
        refine DA.aCk 4 (some 12) false (v := (Sl3.v x1)) 35 #[(Sl3.v a0_11)] (slices_Clone_35_ok hx_4) ?_
        refine DA.on 5 ?_
        refine DA.aH (H' := H2) 5 (some 13) (Value.agg #[(Value.int .i64 a0_0), (Value.string (⟨#[]⟩ : ByteArray)), (Value.bool false), (Sl3.v Sl3.nil), (Value.int .i64 0), (Sl3.v Sl3.nil), (Value.int .i64 0), (Value.int .i64 0), (Value.string (⟨#[]⟩ : ByteArray)), (Sl3.v Sl3.nil), (Sl3.v Sl3.nil), (Sl3.v x1)]) (by kernel_rfl) ?_
        refine DA.on 7 ?_
        refine DA.aL 7 none (.val undef) ([some (35, [(Value.int .i64 a0_0), (Value.string a0_1), (Value.bool a0_2), (Sl3.v a0_3), (Value.int .i64 a0_4), (Sl3.v a0_5), (Value.int .i64 a0_6), (Value.int .i64 a0_7), (Value.string a0_8), (Sl3.v a0_9), (Sl3.v a0_10), (Sl3.v a0_11)]), some (35, [(Value.int .i64 0), (Value.string (⟨#[]⟩ : ByteArray)), (Value.bool false), (Sl3.v Sl3.nil), (Value.int .i64 0), (Sl3.v Sl3.nil), (Value.int .i64 0), (Value.int .i64 0), (Value.string (⟨#[]⟩ : ByteArray)), (Sl3.v Sl3.nil), (Sl3.v Sl3.nil), (Sl3.v Sl3.nil)]), some (35, [(Value.int .i64 a0_0), (Value.string (⟨#[]⟩ : ByteArray)), (Value.bool false), (Sl3.v Sl3.nil), (Value.int .i64 0), (Sl3.v Sl3.nil), (Value.int .i64 0), (Value.int .i64 0), (Value.string (⟨#[]⟩ : ByteArray)), (Sl3.v Sl3.nil), (Sl3.v Sl3.nil), (Sl3.v x1)])]) false ?_
        refine DA.dn ?_
        exact fun a w hs => jsN (hs.sb 3)
    · refine DA.aCk 4 (some 12) true (v := (Sl3.v x1)) 35 #[(Sl3.v a0_11)] (slices_Clone_35_ok hx_4) ?_
      refine DA.two 1 6 (by kernel_rfl) ?_ ?_
      · refine DA.aL 1 (some 9) (.val (Value.int .i64 a0_0)) ([some (35, [(Value.int .i64 a0_0), (Value.string a0_1), (Value.bool a0_2), (Sl3.v a0_3), (Value.int .i64 a0_4), (Sl3.v a0_5), (Value.int .i64 a0_6), (Value.int .i64 a0_7), (Value.string a0_8), (Sl3.v a0_9), (Sl3.v a0_10), (Sl3.v a0_11)]), some (35, [(Value.int .i64 0), (Value.string (⟨#[]⟩ : ByteArray)), (Value.bool false), (Sl3.v Sl3.nil), (Value.int .i64 0), (Sl3.v Sl3.nil), (Value.int .i64 0), (Value.int .i64 0), (Value.string (⟨#[]⟩ : ByteArray)), (Sl3.v Sl3.nil), (Sl3.v Sl3.nil), (Sl3.v Sl3.nil)])]) true ?_
        refine DA.two 5 6 (by kernel_rfl) ?_ ?_
        · refine DA.aHk (H' := H2) 5 (some 13) true (Value.agg #[(Value.int .i64 a0_0), (Value.string (⟨#[]⟩ : ByteArray)), (Value.bool false), (Sl3.v Sl3.nil), (Value.int .i64 0), (Sl3.v Sl3.nil), (Value.int .i64 0), (Value.int .i64 0), (Value.string (⟨#[]⟩ : ByteArray)), (Sl3.v Sl3.nil), (Sl3.v Sl3.nil), (Sl3.v x1)]) (by kernel_rfl) ?_
          refine DA.on 6 ?_
          refine DA.aL 6 (some 3) (.loc 2 0) ([some (35, [(Value.int .i64 a0_0), (Value.string a0_1), (Value.bool a0_2), (Sl3.v a0_3), (Value.int .i64 a0_4), (Sl3.v a0_5), (Value.int .i64 a0_6), (Value.int .i64 a0_7), (Value.string a0_8), (Sl3.v a0_9), (Sl3.v a0_10), (Sl3.v a0_11)]), some (35, [(Value.int .i64 0), (Value.string (⟨#[]⟩ : ByteArray)), (Value.bool false), (Sl3.v Sl3.nil), (Value.int .i64 0), (Sl3.v Sl3.nil), (Value.int .i64 0), (Value.int .i64 0), (Value.string (⟨#[]⟩ : ByteArray)), (Sl3.v Sl3.nil), (Sl3.v Sl3.nil), (Sl3.v Sl3.nil)]), some (35, [(Value.int .i64 0), (Value.string (⟨#[]⟩ : ByteArray)), (Value.bool false), (Sl3.v Sl3.nil), (Value.int .i64 0), (Sl3.v Sl3.nil), (Value.int .i64 0), (Value.int .i64 0), (Value.string (⟨#[]⟩ : ByteArray)), (Sl3.v Sl3.nil), (Sl3.v Sl3.nil), (Sl3.v Sl3.nil)])]) false ?_
          refine DA.on 7 ?_
          refine DA.aL 7 none (.val undef) ([some (35, [(Value.int .i64 a0_0), (Value.string a0_1), (Value.bool a0_2), (Sl3.v a0_3), (Value.int .i64 a0_4), (Sl3.v a0_5), (Value.int .i64 a0_6), (Value.int .i64 a0_7), (Value.string a0_8), (Sl3.v a0_9), (Sl3.v a0_10), (Sl3.v a0_11)]), some (35, [(Value.int .i64 0), (Value.string (⟨#[]⟩ : ByteArray)), (Value.bool false), (Sl3.v Sl3.nil), (Value.int .i64 0), (Sl3.v Sl3.nil), (Value.int .i64 0), (Value.int .i64 0), (Value.string (⟨#[]⟩ : ByteArray)), (Sl3.v Sl3.nil), (Sl3.v Sl3.nil), (Sl3.v Sl3.nil)]), some (35, [(Value.int .i64 a0_0), (Value.string (⟨#[]⟩ : ByteArray)), (Value.bool false), (Sl3.v Sl3.nil), (Value.int .i64 0), (Sl3.v Sl3.nil), (Value.int .i64 0), (Value.int .i64 0), (Value.string (⟨#[]⟩ : ByteArray)), (Sl3.v Sl3.nil), (Sl3.v Sl3.nil), (Sl3.v x1)])]) false ?_
          refine DA.dn ?_
          exact fun a w hs => jsN (hs.sb 3)
        · refine DA.aL 6 (some 3) (.loc 2 0) ([some (35, [(Value.int .i64 a0_0), (Value.string a0_1), (Value.bool a0_2), (Sl3.v a0_3), (Value.int .i64 a0_4), (Sl3.v a0_5), (Value.int .i64 a0_6), (Value.int .i64 a0_7), (Value.string a0_8), (Sl3.v a0_9), (Sl3.v a0_10), (Sl3.v a0_11)]), some (35, [(Value.int .i64 0), (Value.string (⟨#[]⟩ : ByteArray)), (Value.bool false), (Sl3.v Sl3.nil), (Value.int .i64 0), (Sl3.v Sl3.nil), (Value.int .i64 0), (Value.int .i64 0), (Value.string (⟨#[]⟩ : ByteArray)), (Sl3.v Sl3.nil), (Sl3.v Sl3.nil), (Sl3.v Sl3.nil)]), some (35, [(Value.int .i64 0), (Value.string (⟨#[]⟩ : ByteArray)), (Value.bool false), (Sl3.v Sl3.nil), (Value.int .i64 0), (Sl3.v Sl3.nil), (Value.int .i64 0), (Value.int .i64 0), (Value.string (⟨#[]⟩ : ByteArray)), (Sl3.v Sl3.nil), (Sl3.v Sl3.nil), (Sl3.v Sl3.nil)])]) false ?_
          refine DA.on 5 ?_
          refine DA.aH (H' := H2) 5 (some 13) (Value.agg #[(Value.int .i64 a0_0), (Value.string (⟨#[]⟩ : ByteArray)), (Value.bool false), (Sl3.v Sl3.nil), (Value.int .i64 0), (Sl3.v Sl3.nil), (Value.int .i64 0), (Value.int .i64 0), (Value.string (⟨#[]⟩ : ByteArray)), (Sl3.v Sl3.nil), (Sl3.v Sl3.nil), (Sl3.v x1)]) (by kernel_rfl) ?_
          refine DA.on 7 ?_
          refine DA.aL 7 none (.val undef) ([some (35, [(Value.int .i64 a0_0), (Value.string a0_1), (Value.bool a0_2), (Sl3.v a0_3), (Value.int .i64 a0_4), (Sl3.v a0_5), (Value.int .i64 a0_6), (Value.int .i64 a0_7), (Value.string a0_8), (Sl3.v a0_9), (Sl3.v a0_10), (Sl3.v a0_11)]), some (35, [(Value.int .i64 0), (Value.string (⟨#[]⟩ : ByteArray)), (Value.bool false), (Sl3.v Sl3.nil), (Value.int .i64 0), (Sl3.v Sl3.nil), (Value.int .i64 0), (Value.int .i64 0), (Value.string (⟨#[]⟩ : ByteArray)), (Sl3.v Sl3.nil), (Sl3.v Sl3.nil), (Sl3.v Sl3.nil)]), some (35, [(Value.int .i64 a0_0), (Value.string (⟨#[]⟩ : ByteArray)), (Value.bool false), (Sl3.v Sl3.nil), (Value.int .i64 0), (Sl3.v Sl3.nil), (Value.int .i64 0), (Value.int .i64 0), (Value.string (⟨#[]⟩ : ByteArray)), (Sl3.v Sl3.nil), (Sl3.v Sl3.nil), (Sl3.v x1)])]) false ?_
          refine DA.dn ?_
          exact fun a w hs => jsN (hs.sb 3)
      · refine DA.aL 6 (some 3) (.loc 2 0) ([some (35, [(Value.int .i64 a0_0), (Value.string a0_1), (Value.bool a0_2), (Sl3.v a0_3), (Value.int .i64 a0_4), (Sl3.v a0_5), (Value.int .i64 a0_6), (Value.int .i64 a0_7), (Value.string a0_8), (Sl3.v a0_9), (Sl3.v a0_10), (Sl3.v a0_11)]), some (35, [(Value.int .i64 0), (Value.string (⟨#[]⟩ : ByteArray)), (Value.bool false), (Sl3.v Sl3.nil), (Value.int .i64 0), (Sl3.v Sl3.nil), (Value.int .i64 0), (Value.int .i64 0), (Value.string (⟨#[]⟩ : ByteArray)), (Sl3.v Sl3.nil), (Sl3.v Sl3.nil), (Sl3.v Sl3.nil)]), some (35, [(Value.int .i64 0), (Value.string (⟨#[]⟩ : ByteArray)), (Value.bool false), (Sl3.v Sl3.nil), (Value.int .i64 0), (Sl3.v Sl3.nil), (Value.int .i64 0), (Value.int .i64 0), (Value.string (⟨#[]⟩ : ByteArray)), (Sl3.v Sl3.nil), (Sl3.v Sl3.nil), (Sl3.v Sl3.nil)])]) true ?_
        refine DA.on 1 ?_
        refine DA.aL 1 (some 9) (.val (Value.int .i64 a0_0)) ([some (35, [(Value.int .i64 a0_0), (Value.string a0_1), (Value.bool a0_2), (Sl3.v a0_3), (Value.int .i64 a0_4), (Sl3.v a0_5), (Value.int .i64 a0_6), (Value.int .i64 a0_7), (Value.string a0_8), (Sl3.v a0_9), (Sl3.v a0_10), (Sl3.v a0_11)]), some (35, [(Value.int .i64 0), (Value.string (⟨#[]⟩ : ByteArray)), (Value.bool false), (Sl3.v Sl3.nil), (Value.int .i64 0), (Sl3.v Sl3.nil), (Value.int .i64 0), (Value.int .i64 0), (Value.string (⟨#[]⟩ : ByteArray)), (Sl3.v Sl3.nil), (Sl3.v Sl3.nil), (Sl3.v Sl3.nil)]), some (35, [(Value.int .i64 0), (Value.string (⟨#[]⟩ : ByteArray)), (Value.bool false), (Sl3.v Sl3.nil), (Value.int .i64 0), (Sl3.v Sl3.nil), (Value.int .i64 0), (Value.int .i64 0), (Value.string (⟨#[]⟩ : ByteArray)), (Sl3.v Sl3.nil), (Sl3.v Sl3.nil), (Sl3.v Sl3.nil)])]) false ?_
        refine DA.on 5 ?_
        refine DA.aH (H' := H2) 5 (some 13) (Value.agg #[(Value.int .i64 a0_0), (Value.string (⟨#[]⟩ : ByteArray)), (Value.bool false), (Sl3.v Sl3.nil), (Value.int .i64 0), (Sl3.v Sl3.nil), (Value.int .i64 0), (Value.int .i64 0), (Value.string (⟨#[]⟩ : ByteArray)), (Sl3.v Sl3.nil), (Sl3.v Sl3.nil), (Sl3.v x1)]) (by kernel_rfl) ?_
        refine DA.on 7 ?_
        refine DA.aL 7 none (.val undef) ([some (35, [(Value.int .i64 a0_0), (Value.string a0_1), (Value.bool a0_2), (Sl3.v a0_3), (Value.int .i64 a0_4), (Sl3.v a0_5), (Value.int .i64 a0_6), (Value.int .i64 a0_7), (Value.string a0_8), (Sl3.v a0_9), (Sl3.v a0_10), (Sl3.v a0_11)]), some (35, [(Value.int .i64 0), (Value.string (⟨#[]⟩ : ByteArray)), (Value.bool false), (Sl3.v Sl3.nil), (Value.int .i64 0), (Sl3.v Sl3.nil), (Value.int .i64 0), (Value.int .i64 0), (Value.string (⟨#[]⟩ : ByteArray)), (Sl3.v Sl3.nil), (Sl3.v Sl3.nil), (Sl3.v Sl3.nil)]), some (35, [(Value.int .i64 a0_0), (Value.string (⟨#[]⟩ : ByteArray)), (Value.bool false), (Sl3.v Sl3.nil), (Value.int .i64 0), (Sl3.v Sl3.nil), (Value.int .i64 0), (Value.int .i64 0), (Value.string (⟨#[]⟩ : ByteArray)), (Sl3.v Sl3.nil), (Sl3.v Sl3.nil), (Sl3.v x1)])]) false ?_
        refine DA.dn ?_
        exact fun a w hs => jsN (hs.sb 3)
    · refine DA.aL 6 (some 3) (.loc 2 0) ([some (35, [(Value.int .i64 a0_0), (Value.string a0_1), (Value.bool a0_2), (Sl3.v a0_3), (Value.int .i64 a0_4), (Sl3.v a0_5), (Value.int .i64 a0_6), (Value.int .i64 a0_7), (Value.string a0_8), (Sl3.v a0_9), (Sl3.v a0_10), (Sl3.v a0_11)]), some (35, [(Value.int .i64 0), (Value.string (⟨#[]⟩ : ByteArray)), (Value.bool false), (Sl3.v Sl3.nil), (Value.int .i64 0), (Sl3.v Sl3.nil), (Value.int .i64 0), (Value.int .i64 0), (Value.string (⟨#[]⟩ : ByteArray)), (Sl3.v Sl3.nil), (Sl3.v Sl3.nil), (Sl3.v Sl3.nil)]), some (35, [(Value.int .i64 0), (Value.string (⟨#[]⟩ : ByteArray)), (Value.bool false), (Sl3.v Sl3.nil), (Value.int .i64 0), (Sl3.v Sl3.nil), (Value.int .i64 0), (Value.int .i64 0), (Value.string (⟨#[]⟩ : ByteArray)), (Sl3.v Sl3.nil), (Sl3.v Sl3.nil), (Sl3.v Sl3.nil)])]) true ?_
      refine DA.two 1 4 (by kernel_rfl) ?_ ?_
      · refine DA.aL 1 (some 9) (.val (Value.int .i64 a0_0)) ([some (35, [(Value.int .i64 a0_0), (Value.string a0_1), (Value.bool a0_2), (Sl3.v a0_3), (Value.int .i64 a0_4), (Sl3.v a0_5), (Value.int .i64 a0_6), (Value.int .i64 a0_7), (Value.string a0_8), (Sl3.v a0_9), (Sl3.v a0_10), (Sl3.v a0_11)]), some (35, [(Value.int .i64 0), (Value.string (⟨#[]⟩ : ByteArray)), (Value.bool false), (Sl3.v Sl3.nil), (Value.int .i64 0), (Sl3.v Sl3.nil), (Value.int .i64 0), (Value.int .i64 0), (Value.string (⟨#[]⟩ : ByteArray)), (Sl3.v Sl3.nil), (Sl3.v Sl3.nil), (Sl3.v Sl3.nil)]), some (35, [(Value.int .i64 0), (Value.string (⟨#[]⟩ : ByteArray)), (Value.bool false), (Sl3.v Sl3.nil), (Value.int .i64 0), (Sl3.v Sl3.nil), (Value.int .i64 0), (Value.int .i64 0), (Value.string (⟨#[]⟩ : ByteArray)), (Sl3.v Sl3.nil), (Sl3.v Sl3.nil), (Sl3.v Sl3.nil)])]) true ?_
        refine DA.on 4 ?_
        refine DA.aCk 4 (some 12) false (v := (Sl3.v x1)) 35 #[(Sl3.v a0_11)] (slices_Clone_35_ok hx_4) ?_
        refine DA.on 5 ?_
        refine DA.aH (H' := H2) 5 (some 13) (Value.agg #[(Value.int .i64 a0_0), (Value.string (⟨#[]⟩ : ByteArray)), (Value.bool false), (Sl3.v Sl3.nil), (Value.int .i64 0), (Sl3.v Sl3.nil), (Value.int .i64 0), (Value.int .i64 0), (Value.string (⟨#[]⟩ : ByteArray)), (Sl3.v Sl3.nil), (Sl3.v Sl3.nil), (Sl3.v x1)]) (by kernel_rfl) ?_
        refine DA.on 7 ?_
        refine DA.aL 7 none (.val undef) ([some (35, [(Value.int .i64 a0_0), (Value.string a0_1), (Value.bool a0_2), (Sl3.v a0_3), (Value.int .i64 a0_4), (Sl3.v a0_5), (Value.int .i64 a0_6), (Value.int .i64 a0_7), (Value.string a0_8), (Sl3.v a0_9), (Sl3.v a0_10), (Sl3.v a0_11)]), some (35, [(Value.int .i64 0), (Value.string (⟨#[]⟩ : ByteArray)), (Value.bool false), (Sl3.v Sl3.nil), (Value.int .i64 0), (Sl3.v Sl3.nil), (Value.int .i64 0), (Value.int .i64 0), (Value.string (⟨#[]⟩ : ByteArray)), (Sl3.v Sl3.nil), (Sl3.v Sl3.nil), (Sl3.v Sl3.nil)]), some (35, [(Value.int .i64 a0_0), (Value.string (⟨#[]⟩ : ByteArray)), (Value.bool false), (Sl3.v Sl3.nil), (Value.int .i64 0), (Sl3.v Sl3.nil), (Value.int .i64 0), (Value.int .i64 0), (Value.string (⟨#[]⟩ : ByteArray)), (Sl3.v Sl3.nil), (Sl3.v Sl3.nil), (Sl3.v x1)])]) false ?_
        refine DA.dn ?_
        exact fun a w hs => jsN (hs.sb 3)
      · refine DA.aCk 4 (some 12) true (v := (Sl3.v x1)) 35 #[(Sl3.v a0_11)] (slices_Clone_35_ok hx_4) ?_
        refine DA.on 1 ?_
        refine DA.aL 1 (some 9) (.val (Value.int .i64 a0_0)) ([some (35, [(Value.int .i64 a0_0), (Value.string a0_1), (Value.bool a0_2), (Sl3.v a0_3), (Value.int .i64 a0_4), (Sl3.v a0_5), (Value.int .i64 a0_6), (Value.int .i64 a0_7), (Value.string a0_8), (Sl3.v a0_9), (Sl3.v a0_10), (Sl3.v a0_11)]), some (35, [(Value.int .i64 0), (Value.string (⟨#[]⟩ : ByteArray)), (Value.bool false), (Sl3.v Sl3.nil), (Value.int .i64 0), (Sl3.v Sl3.nil), (Value.int .i64 0), (Value.int .i64 0), (Value.string (⟨#[]⟩ : ByteArray)), (Sl3.v Sl3.nil), (Sl3.v Sl3.nil), (Sl3.v Sl3.nil)]), some (35, [(Value.int .i64 0), (Value.string (⟨#[]⟩ : ByteArray)), (Value.bool false), (Sl3.v Sl3.nil), (Value.int .i64 0), (Sl3.v Sl3.nil), (Value.int .i64 0), (Value.int .i64 0), (Value.string (⟨#[]⟩ : ByteArray)), (Sl3.v Sl3.nil), (Sl3.v Sl3.nil), (Sl3.v Sl3.nil)])]) false ?_
        refine DA.on 5 ?_
        refine DA.aH (H' := H2) 5 (some 13) (Value.agg #[(Value.int .i64 a0_0), (Value.string (⟨#[]⟩ : ByteArray)), (Value.bool false), (Sl3.v Sl3.nil), (Value.int .i64 0), (Sl3.v Sl3.nil), (Value.int .i64 0), (Value.int .i64 0), (Value.string (⟨#[]⟩ : ByteArray)), (Sl3.v Sl3.nil), (Sl3.v Sl3.nil), (Sl3.v x1)]) (by kernel_rfl) ?_
        refine DA.on 7 ?_
        refine DA.aL 7 none (.val undef) ([some (35, [(Value.int .i64 a0_0), (Value.string a0_1), (Value.bool a0_2), (Sl3.v a0_3), (Value.int .i64 a0_4), (Sl3.v a0_5), (Value.int .i64 a0_6), (Value.int .i64 a0_7), (Value.string a0_8), (Sl3.v a0_9), (Sl3.v a0_10), (Sl3.v a0_11)]), some (35, [(Value.int .i64 0), (Value.string (⟨#[]⟩ : ByteArray)), (Value.bool false), (Sl3.v Sl3.nil), (Value.int .i64 0), (Sl3.v Sl3.nil), (Value.int .i64 0), (Value.int .i64 0), (Value.string (⟨#[]⟩ : ByteArray)), (Sl3.v Sl3.nil), (Sl3.v Sl3.nil), (Sl3.v Sl3.nil)]), some (35, [(Value.int .i64 a0_0), (Value.string (⟨#[]⟩ : ByteArray)), (Value.bool false), (Sl3.v Sl3.nil), (Value.int .i64 0), (Sl3.v Sl3.nil), (Value.int .i64 0), (Value.int .i64 0), (Value.string (⟨#[]⟩ : ByteArray)), (Sl3.v Sl3.nil), (Sl3.v Sl3.nil), (Sl3.v x1)])]) false ?_
        refine DA.dn ?_
        exact fun a w hs => jsN (hs.sb 3)
  · refine WS.nxt ?_
    obtain ⟨⟨H3, w2_4, w2_5, w2_6, w2_7, w2_8, w2_9, w2_10, w2_11, w2_12, w2_13, w2_14, w2_15⟩, hx, h⟩ := bind_some h
    try dsimp only at h
    refine WS.sq ?_
    refine WS.join ([(1, .loc 0 0), (2, .loc 1 0), (3, .loc 2 0)]) ([some (35, [(Value.int .i64 a0_0), (Value.string a0_1), (Value.bool a0_2), (Sl3.v a0_3), (Value.int .i64 a0_4), (Sl3.v a0_5), (Value.int .i64 a0_6), (Value.int .i64 a0_7), (Value.string a0_8), (Sl3.v a0_9), (Sl3.v a0_10), (Sl3.v a0_11)]), some (35, [(Value.int .i64 0), (Value.string (⟨#[]⟩ : ByteArray)), (Value.bool false), (Sl3.v Sl3.nil), (Value.int .i64 0), (Sl3.v Sl3.nil), (Value.int .i64 0), (Value.int .i64 0), (Value.string (⟨#[]⟩ : ByteArray)), (Sl3.v Sl3.nil), (Sl3.v Sl3.nil), (Sl3.v Sl3.nil)]), some (35, [(Value.int .i64 w2_4), (Value.string w2_5), (Value.bool w2_6), (Sl3.v w2_7), (Value.int .i64 w2_8), (Sl3.v w2_9), (Value.int .i64 w2_10), (Value.int .i64 w2_11), (Value.string w2_12), (Sl3.v w2_13), (Sl3.v w2_14), (Sl3.v w2_15)])]) H3 ?_ (fun a w hs => WS.nxt ?_ a w hs)
    · clear h; rename _ => h
      refine WS.bk 0 ?_
      refine WS.sq ?_
      refine WS.rg ?_
      refine RS.mS 4 [(18, .val (Value.bool (decide (a0_0 ≥ 11)))), (17, .val (Value.bool (decide (a0_0 ≥ 11)))), (16, .val (Value.int .i64 a0_0)), (15, .loc 0 0)] ?_
      rcases ite_some h with ⟨hp, h⟩ | ⟨hp, h⟩
      · refine RS.fx 18 true (decide_eq_true hp) ?_
        refine RS.mS 5 [(14, .val (Value.bool (decide (a0_0 ≤ 14)))), (22, .val (Value.bool (decide (a0_0 ≤ 14)))), (21, .val (Value.bool (decide (a0_0 ≤ 14)))), (20, .val (Value.int .i64 a0_0)), (19, .loc 0 0)] ?_
        refine RS.dn ?_
        refine WS.nxt ?_
        rcases ite_some h with ⟨hp, h⟩ | ⟨hp, h⟩
        · refine WS.fx 14 true (decide_eq_true hp) ?_
          refine WS.cT ?_
          refine WS.rg ?_
          refine RS.mL 4 [(25, .loc 2 1), (24, .val (Value.string a0_1)), (23, .loc 0 1)] ([some (35, [(Value.int .i64 a0_0), (Value.string a0_1), (Value.bool a0_2), (Sl3.v a0_3), (Value.int .i64 a0_4), (Sl3.v a0_5), (Value.int .i64 a0_6), (Value.int .i64 a0_7), (Value.string a0_8), (Sl3.v a0_9), (Sl3.v a0_10), (Sl3.v a0_11)]), some (35, [(Value.int .i64 0), (Value.string (⟨#[]⟩ : ByteArray)), (Value.bool false), (Sl3.v Sl3.nil), (Value.int .i64 0), (Sl3.v Sl3.nil), (Value.int .i64 0), (Value.int .i64 0), (Value.string (⟨#[]⟩ : ByteArray)), (Sl3.v Sl3.nil), (Sl3.v Sl3.nil), (Sl3.v Sl3.nil)]), some (35, [(Value.int .i64 a0_0), (Value.string a0_1), (Value.bool false), (Sl3.v Sl3.nil), (Value.int .i64 0), (Sl3.v Sl3.nil), (Value.int .i64 0), (Value.int .i64 0), (Value.string (⟨#[]⟩ : ByteArray)), (Sl3.v Sl3.nil), (Sl3.v Sl3.nil), (Sl3.v x1)])]) ?_
          refine RS.dn ?_
          cases h
          exact fun a w hs => bkN ((jsN (hs.sb 3)))
        · refine WS.fx 14 false (decide_eq_false hp) ?_
          refine WS.cF ?_
          refine WS.sq ?_
          refine WS.rg ?_
          refine RS.mS 4 [(26, .val (Value.bool (decide (a0_0 = 20)))), (29, .val (Value.bool (decide (a0_0 = 20)))), (28, .val (Value.int .i64 a0_0)), (27, .loc 0 0)] ?_
          refine RS.dn ?_
          refine WS.nxt ?_
          rcases ite_some h with ⟨hp, h⟩ | ⟨hp, h⟩
          · refine WS.fx 26 true (decide_eq_true hp) ?_
            refine WS.cT ?_
            cases h
          · refine WS.fx 26 false (decide_eq_false hp) ?_
            refine WS.cF ?_
            refine WS.sq ?_
            refine WS.rg ?_
            refine RS.mS 4 [(34, .val (Value.bool (decide (a0_0 = 40)))), (37, .val (Value.bool (decide (a0_0 = 40)))), (36, .val (Value.int .i64 a0_0)), (35, .loc 0 0)] ?_
            refine RS.dn ?_
            refine WS.nxt ?_
            rcases ite_some h with ⟨hp, h⟩ | ⟨hp, h⟩
            · refine WS.fx 34 true (decide_eq_true hp) ?_
              refine WS.cT ?_
              cases h
            · refine WS.fx 34 false (decide_eq_false hp) ?_
              refine WS.cF ?_
              refine WS.sq ?_
              refine WS.rg ?_
              refine RS.mS 4 [(49, .val (Value.bool (decide (a0_0 = 34)))), (52, .val (Value.bool (decide (a0_0 = 34)))), (51, .val (Value.int .i64 a0_0)), (50, .loc 0 0)] ?_
              refine RS.dn ?_
              refine WS.nxt ?_
              rcases ite_some h with ⟨hp, h⟩ | ⟨hp, h⟩
              · refine WS.fx 49 true (decide_eq_true hp) ?_
                refine WS.cT ?_
                cases h
              · refine WS.fx 49 false (decide_eq_false hp) ?_
                refine WS.cF ?_
                refine WS.sk ?_
                cases h
                exact fun a w hs => bkN ((jsN (hs.sb 3)))
      · refine RS.fx 18 false (decide_eq_false hp) ?_
        cases h
    · clear hx
      refine WS.sq ?_
      refine WS.sq ?_
      refine WS.rg ?_
      refine RS.mS 2 [(59, .val (Value.int .i64 a0_0)), (58, .loc 0 0)] ?_
      obtain ⟨⟨x16, x17, x18, x19⟩, hx, h⟩ := bind_some h
      try dsimp only at h
      refine RS.cl (some 60) (v := (Value.tuple #[(Value.int .i64 x16), (Value.int .i64 x17), (Value.int .i64 x18), (Value.bool x19)])) 37 #[(Value.int .i64 a0_0)] (term_form_ok hx) ?_
      refine RS.mS 9 [(7, .val (Value.bool x19)), (6, .val (Value.int .i64 x18)), (5, .val (Value.int .i64 x17)), (4, .val (Value.int .i64 x16)), (64, .val (Value.bool x19)), (63, .val (Value.int .i64 x18)), (62, .val (Value.int .i64 x17)), (61, .val (Value.int .i64 x16)), (57, .val (Value.tuple #[(Value.int .i64 x16), (Value.int .i64 x17), (Value.int .i64 x18), (Value.bool x19)]))] ?_
      refine RS.dn ?_
      refine WS.nxt ?_
      refine WS.sq ?_
      refine WS.rg ?_
      refine RS.mS 2 [(66, .val (Value.bool (decide (x18 > 0)))), (65, .val (Value.int .i64 x18))] ?_
      refine RS.dn ?_
      refine WS.nxt ?_
      rcases ite_some h with ⟨hp, h⟩ | ⟨hp, h⟩
      · refine WS.fx 66 true (decide_eq_true hp) ?_
        refine WS.cT ?_
        cases h
      · refine WS.fx 66 false (decide_eq_false hp) ?_
        refine WS.cF ?_
        refine WS.sk ?_
        refine WS.nxt ?_
        refine WS.sq ?_
        refine WS.rg ?_
        refine RS.mL 2 [(71, .val (Value.agg #[(Value.int .i64 w2_4), (Value.string w2_5), (Value.bool w2_6), (Sl3.v w2_7), (Value.int .i64 w2_8), (Sl3.v w2_9), (Value.int .i64 w2_10), (Value.int .i64 w2_11), (Value.string w2_12), (Sl3.v w2_13), (Sl3.v w2_14), (Sl3.v w2_15)]))] ([some (35, [(Value.int .i64 a0_0), (Value.string a0_1), (Value.bool a0_2), (Sl3.v a0_3), (Value.int .i64 a0_4), (Sl3.v a0_5), (Value.int .i64 a0_6), (Value.int .i64 a0_7), (Value.string a0_8), (Sl3.v a0_9), (Sl3.v a0_10), (Sl3.v a0_11)]), some (35, [(Value.int .i64 w2_4), (Value.string w2_5), (Value.bool w2_6), (Sl3.v w2_7), (Value.int .i64 w2_8), (Sl3.v w2_9), (Value.int .i64 w2_10), (Value.int .i64 w2_11), (Value.string w2_12), (Sl3.v w2_13), (Sl3.v w2_14), (Sl3.v w2_15)]), some (35, [(Value.int .i64 w2_4), (Value.string w2_5), (Value.bool w2_6), (Sl3.v w2_7), (Value.int .i64 w2_8), (Sl3.v w2_9), (Value.int .i64 w2_10), (Value.int .i64 w2_11), (Value.string w2_12), (Sl3.v w2_13), (Sl3.v w2_14), (Sl3.v w2_15)])]) ?_
        refine RS.dn ?_
        refine WS.nxt ?_
        refine WS.rt ?_
        cases h
        exact fun a w hs => rtR (rS hs)

def strings_Builder_String_enc : (ByteArray × AH) → Value
  | (r0, _) => (Value.string r0)

def strings_Builder_String_hp (_ : AH) : (ByteArray × AH) → AH := fun r => r.2

noncomputable def B23 : Code := (Tryz.f23.body).getD .skip

noncomputable def strings_Builder_String (_L : LC) (m : Nat) (H : AH) (a0 : Option Addr) : Option (ByteArray × AH) :=
  Option.bind a0 fun q1 =>
  Option.bind (rd deSl H (Addr.add q1 1)) fun x2 =>
  Option.bind (rd deSl H (Addr.add q1 1)) fun x3 =>
  Option.bind (gOp1 Tryz.prog (opsOf (cfst (csnd B23))) 4 [(6, .val (Sl3.v x2))] deP H) fun x4 =>
  Option.bind (gOp Tryz.prog m (opsOf (cfst (csnd B23))) 10 [(7, .val (Value.pointer x4)), (12, .val (Value.int .i64 (x3.n : Int)))] deS H) fun (x5, H6) =>
  some (x5, H6)

theorem strings_Builder_String_ok {L : LC} {m : Nat} {H : AH} {a0 : Option Addr} {r : (ByteArray × AH)} (h : strings_Builder_String L m H a0 = some r) :
    CallS Tryz.prog (NE.plain 92) m 23 #[(Value.pointer a0)] H (strings_Builder_String_enc r) (strings_Builder_String_hp H r) := by
  refine CallS.mk (args := [(Value.pointer a0)]) Tryz.func23 (B := B23) (by kernel_rfl) (fun E _ => ?_)
  unfold strings_Builder_String at h
  refine WS.sq ?_
  refine WS.rg ?_
  refine RS.mS 1 [(2, .val (Value.string (⟨#[]⟩ : ByteArray)))] ?_
  refine RS.dn ?_
  refine WS.nxt ?_
  refine WS.sq ?_
  refine WS.dr [0, 1, 2, 3, 5, 6, 7, 8] [0, 1, 3, 7, 15, 0, 32, 96, 224, 480, 1023, 2047] 12 (fun hcl => ?_)
  refine DA.tK 0 (some 3) (Value.pointer a0) ?_
  obtain ⟨q1, hx, hq1⟩ := bind_some h
  subst hx
  have h := hq1
  refine DA.tK 1 (some 4) (Value.pointer (some q1)) ?_
  refine DA.tK 2 (some 5) (Value.pointer (some (Addr.add q1 1))) ?_
  obtain ⟨x2, hx, h⟩ := bind_some h
  refine DA.tD 3 (some 6) (Sl3.v x2) (Abs.det_load (t := 74) (x := .tmp 5) (a := (Addr.add q1 1)) (by kernel_rfl) (by kernel_rfl) (by kernel_rfl) (by kernel_rfl) (rd_cell hx deSl_inv)) ?_
  refine DA.tK 5 (some 8) (Value.pointer (some q1)) ?_
  refine DA.tK 6 (some 9) (Value.pointer (some q1)) ?_
  refine DA.tK 7 (some 10) (Value.pointer (some (Addr.add q1 1))) ?_
  obtain ⟨x3, hx, h⟩ := bind_some h
  refine DA.tD 8 (some 11) (Sl3.v x3) (Abs.det_load (t := 74) (x := .tmp 10) (a := (Addr.add q1 1)) (by kernel_rfl) (by kernel_rfl) (by kernel_rfl) (by kernel_rfl) (rd_cell hx deSl_inv)) ?_
  refine DA.restart [0, 1, 2, 3, 5, 6, 7, 8, 9] (by kernel_rfl) ?_
  refine DA.tK 9 (some 12) (Value.int .i64 (x3.n : Int)) ?_
  obtain ⟨x4, hx, h⟩ := bind_some h
  refine DA.on 4 ?_
  refine DA.aHk (H' := H) 4 (some 7) false (Value.pointer x4) (gOp1_run hx deP_inv (by kernel_rfl) (by kernel_rfl)) ?_
  obtain ⟨⟨x5, H6⟩, hx, h⟩ := bind_some h
  try dsimp only at h
  refine DA.on 10 ?_
  refine DA.aH (H' := H6) 10 (some 13) (Value.string x5) (gOp_run hx deS_inv (by kernel_rfl)) ?_
  refine DA.tP 11 (some 2) (Value.string x5) ?_
  refine DA.dn ?_
  refine WS.nxt ?_
  refine WS.rt ?_
  cases h
  exact fun a w hs => rtR (rS hs)

def strings_Builder_copyCheck_enc : AH → Value
  | _ => (Value.tuple #[])

def strings_Builder_copyCheck_hp (_ : AH) : AH → AH := fun r => r

noncomputable def B60 : Code := (Tryz.f60.body).getD .skip

noncomputable def strings_Builder_copyCheck (_L : LC) (m : Nat) (H : AH) (a0 : Option Addr) : Option AH :=
  Option.bind a0 fun q1 =>
  Option.bind (rd deP H (Addr.add q1 0)) fun x2 =>
  match x2 with
  | none =>
    Option.bind (gOp Tryz.prog m (opsOf (cfst (csnd B60))) 2 [(8, .val (Value.pointer (some q1)))] deP H) fun (x7, H8) =>
    Option.bind x7 fun q9 =>
    Option.bind (gOp Tryz.prog m (opsOf (cfst (csnd B60))) 4 [(10, .val (Value.pointer (some q9)))] deP H8) fun (x10, H11) =>
    Option.bind (H11.setCell m (Addr.add q1 0) (Value.pointer x10)) fun H12 =>
    some H12
  | some _ =>
    Option.bind (rd deP H (Addr.add q1 0)) fun x4 =>
    match x4 with
    | none =>
      none
    | some q5 =>
      Option.bind (gOp1 Tryz.prog (opsOf (cfst (csnd (csnd B60)))) 5 [(17, .val (Value.pointer (some q5))), (18, .val (Value.pointer (some q1)))] deB H) fun x6 =>
      if x6 = true then
        none
      else
        some H

theorem strings_Builder_copyCheck_ok {L : LC} {m : Nat} {H : AH} {a0 : Option Addr} {r : AH} (h : strings_Builder_copyCheck L m H a0 = some r) :
    CallS Tryz.prog (NE.plain 92) m 60 #[(Value.pointer a0)] H (strings_Builder_copyCheck_enc r) (strings_Builder_copyCheck_hp H r) := by
  refine CallS.mk (args := [(Value.pointer a0)]) Tryz.func60 (B := B60) (by kernel_rfl) (fun E _ => ?_)
  unfold strings_Builder_copyCheck at h
  refine WS.sq ?_
  refine WS.rg ?_
  refine RS.mS 1 [(2, .val (Value.pointer a0))] ?_
  obtain ⟨q1, hx, hq1⟩ := bind_some h
  subst hx
  have h := hq1
  refine RS.mS 2 [(4, .val (Value.pointer (some (Addr.add q1 0)))), (3, .val (Value.pointer (some q1)))] ?_
  obtain ⟨x2, hx, h⟩ := bind_some h
  refine RS.o (H' := H) (some 5) (Value.pointer x2) (Abs.run_load (t := 73) (x := .tmp 4) (a := (Addr.add q1 0)) (by kernel_rfl) (by kernel_rfl) (by kernel_rfl) (rd_cell hx deP_inv)) ?_
  rcases x2 with _ | q3
  · try dsimp only at h
    refine RS.mS 1 [(6, .val (Value.bool true))] ?_
    refine RS.dn ?_
    refine WS.nxt ?_
    refine WS.cT ?_
    refine WS.rg ?_
    refine RS.mS 2 [(8, .val (Value.pointer (some q1))), (7, .val (Value.pointer (some q1)))] ?_
    obtain ⟨⟨x7, H8⟩, hx, h⟩ := bind_some h
    try dsimp only at h
    refine RS.o (H' := H8) (some 9) (Value.pointer x7) (gOp_run hx deP_inv (by kernel_rfl)) ?_
    obtain ⟨q9, hx, hq9⟩ := bind_some h
    subst hx
    have h := hq9
    refine RS.esc (H' := H8) (some 10) (Value.pointer (some q9)) (by kernel_rfl) (by kernel_rfl) (by kernel_rfl) (by kernel_rfl) ?_
    obtain ⟨⟨x10, H11⟩, hx, h⟩ := bind_some h
    try dsimp only at h
    refine RS.o (H' := H11) (some 11) (Value.pointer x10) (gOp_run hx deP_inv (by kernel_rfl)) ?_
    refine RS.mS 2 [(13, .val (Value.pointer (some (Addr.add q1 0)))), (12, .val (Value.pointer (some q1)))] ?_
    obtain ⟨H12, hx, h⟩ := bind_some h
    refine RS.o (H' := H12) none undef (Abs.run_store1 (t := 73) (x := .tmp 13) (y := .tmp 11) (a := (Addr.add q1 0)) (v := (Value.pointer x10)) (by kernel_rfl) (by kernel_rfl) (by kernel_rfl) (by kernel_rfl) (by kernel_rfl) hx) ?_
    refine RS.dn ?_
    cases h
    exact fun a w hs => rtN (rS hs)
  · try dsimp only at h
    refine RS.mS 1 [(6, .val (Value.bool false))] ?_
    refine RS.dn ?_
    refine WS.nxt ?_
    refine WS.cF ?_
    refine WS.sq ?_
    refine WS.rg ?_
    refine RS.mS 3 [(16, .val (Value.pointer (some (Addr.add q1 0)))), (15, .val (Value.pointer (some q1))), (14, .val (Value.pointer (some q1)))] ?_
    obtain ⟨x4, hx, h⟩ := bind_some h
    refine RS.o (H' := H) (some 17) (Value.pointer x4) (Abs.run_load (t := 73) (x := .tmp 16) (a := (Addr.add q1 0)) (by kernel_rfl) (by kernel_rfl) (by kernel_rfl) (rd_cell hx deP_inv)) ?_
    refine RS.mS 1 [(18, .val (Value.pointer (some q1)))] ?_
    rcases x4 with _ | q5
    · try dsimp only at h
      cases h
    · try dsimp only at h
      obtain ⟨x6, hx, h⟩ := bind_some h
      refine RS.o (H' := H) (some 19) (Value.bool x6) (gOp1_run hx deB_inv (by kernel_rfl) (by kernel_rfl)) ?_
      refine RS.dn ?_
      refine WS.nxt ?_
      rcases ite_some h with ⟨hp, h⟩ | ⟨hp, h⟩
      · refine WS.fx 19 true hp ?_
        refine WS.cT ?_
        cases h
      · refine WS.fx 19 false (b_not hp) ?_
        refine WS.cF ?_
        refine WS.sk ?_
        cases h
        exact fun a w hs => rtN (rS hs)

def strings_Builder_WriteString_enc : (Int × Value × AH) → Value
  | (r0, r1, _) => (Value.tuple #[(Value.int .i64 r0), r1])

def strings_Builder_WriteString_hp (_ : AH) : (Int × Value × AH) → AH := fun r => r.2.2

noncomputable def B39 : Code := (Tryz.f39.body).getD .skip

noncomputable def strings_Builder_WriteString (L : LC) (m : Nat) (H : AH) (a0 : Option Addr) (a1 : ByteArray) : Option (Int × Value × AH) :=
  Option.bind (strings_Builder_copyCheck L m H a0) fun H1 =>
  Option.bind a0 fun q2 =>
  Option.bind (rd deSl H1 (Addr.add q2 1)) fun x3 =>
  Option.bind (gOp Tryz.prog m (opsOf (cfst (csnd (csnd B39)))) 6 [(12, .val (Sl3.v x3)), (13, .val (Value.string a1))] deSl H1) fun (x4, H5) =>
  Option.bind (H5.setCell m (Addr.add q2 1) (Sl3.v x4)) fun H6 =>
  some ((a1.size : Int), Value.nilIface, H6)

theorem strings_Builder_WriteString_ok {L : LC} {m : Nat} {H : AH} {a0 : Option Addr} {a1 : ByteArray} {r : (Int × Value × AH)} (h : strings_Builder_WriteString L m H a0 a1 = some r) :
    CallS Tryz.prog (NE.plain 92) m 39 #[(Value.pointer a0), (Value.string a1)] H (strings_Builder_WriteString_enc r) (strings_Builder_WriteString_hp H r) := by
  refine CallS.mk (args := [(Value.pointer a0), (Value.string a1)]) Tryz.func39 (B := B39) (by kernel_rfl) (fun E _ => ?_)
  unfold strings_Builder_WriteString at h
  refine WS.sq ?_
  refine WS.rg ?_
  refine RS.mS 2 [(5, .val Value.nilIface), (4, .val (Value.int .i64 0))] ?_
  refine RS.dn ?_
  refine WS.nxt ?_
  refine WS.sq ?_
  refine WS.rg ?_
  refine RS.mS 1 [(6, .val (Value.pointer a0))] ?_
  obtain ⟨H1, hx, h⟩ := bind_some h
  refine RS.cl (some 7) (v := (Value.tuple #[])) 60 #[(Value.pointer a0)] (strings_Builder_copyCheck_ok hx) ?_
  refine RS.dn ?_
  refine WS.nxt ?_
  refine WS.sq ?_
  refine WS.rg ?_
  refine RS.mS 2 [(9, .val (Value.pointer a0)), (8, .val (Value.pointer a0))] ?_
  obtain ⟨q2, hx, hq2⟩ := bind_some h
  subst hx
  have h := hq2
  refine RS.mS 2 [(11, .val (Value.pointer (some (Addr.add q2 1)))), (10, .val (Value.pointer (some q2)))] ?_
  obtain ⟨x3, hx, h⟩ := bind_some h
  refine RS.o (H' := H1) (some 12) (Sl3.v x3) (Abs.run_load (t := 74) (x := .tmp 11) (a := (Addr.add q2 1)) (by kernel_rfl) (by kernel_rfl) (by kernel_rfl) (rd_cell hx deSl_inv)) ?_
  refine RS.mS 1 [(13, .val (Value.string a1))] ?_
  obtain ⟨⟨x4, H5⟩, hx, h⟩ := bind_some h
  try dsimp only at h
  refine RS.o (H' := H5) (some 14) (Sl3.v x4) (gOp_run hx deSl_inv (by kernel_rfl)) ?_
  refine RS.mS 2 [(16, .val (Value.pointer (some (Addr.add q2 1)))), (15, .val (Value.pointer (some q2)))] ?_
  obtain ⟨H6, hx, h⟩ := bind_some h
  refine RS.o (H' := H6) none undef (Abs.run_store1 (t := 74) (x := .tmp 16) (y := .tmp 14) (a := (Addr.add q2 1)) (v := (Sl3.v x4)) (by kernel_rfl) (by kernel_rfl) (by kernel_rfl) (by kernel_rfl) (by kernel_rfl) hx) ?_
  refine RS.dn ?_
  refine WS.nxt ?_
  refine WS.sq ?_
  refine WS.rg ?_
  refine RS.mS 4 [(5, .val Value.nilIface), (4, .val (Value.int .i64 (a1.size : Int))), (18, .val (Value.int .i64 (a1.size : Int))), (17, .val (Value.string a1))] ?_
  refine RS.dn ?_
  refine WS.nxt ?_
  refine WS.rt ?_
  cases h
  exact fun a w hs => rtR (rS hs)

def strconv_small_enc : ByteArray → Value
  | r0 => (Value.string r0)

def strconv_small_hp (H : AH) : ByteArray → AH := fun _ => H

noncomputable def B94 : Code := (Tryz.f94.body).getD .skip

noncomputable def strconv_small (_L : LC) (a0 : Int) : Option ByteArray :=
  if a0 < 10 then
    Option.bind (strC (⟨#[48, 49, 50, 51, 52, 53, 54, 55, 56, 57, 97, 98, 99, 100, 101, 102, 103, 104, 105, 106, 107, 108, 109, 110, 111, 112, 113, 114, 115, 116, 117, 118, 119, 120, 121, 122]⟩ : ByteArray) (some a0) (some (IntKind.i64.wrap (a0 + 1)))) fun s1 =>
    some s1
  else
    Option.bind (strC (⟨#[48, 48, 48, 49, 48, 50, 48, 51, 48, 52, 48, 53, 48, 54, 48, 55, 48, 56, 48, 57, 49, 48, 49, 49, 49, 50, 49, 51, 49, 52, 49, 53, 49, 54, 49, 55, 49, 56, 49, 57, 50, 48, 50, 49, 50, 50, 50, 51, 50, 52, 50, 53, 50, 54, 50, 55, 50, 56, 50, 57, 51, 48, 51, 49, 51, 50, 51, 51, 51, 52, 51, 53, 51, 54, 51, 55, 51, 56, 51, 57, 52, 48, 52, 49, 52, 50, 52, 51, 52, 52, 52, 53, 52, 54, 52, 55, 52, 56, 52, 57, 53, 48, 53, 49, 53, 50, 53, 51, 53, 52, 53, 53, 53, 54, 53, 55, 53, 56, 53, 57, 54, 48, 54, 49, 54, 50, 54, 51, 54, 52, 54, 53, 54, 54, 54, 55, 54, 56, 54, 57, 55, 48, 55, 49, 55, 50, 55, 51, 55, 52, 55, 53, 55, 54, 55, 55, 55, 56, 55, 57, 56, 48, 56, 49, 56, 50, 56, 51, 56, 52, 56, 53, 56, 54, 56, 55, 56, 56, 56, 57, 57, 48, 57, 49, 57, 50, 57, 51, 57, 52, 57, 53, 57, 54, 57, 55, 57, 56, 57, 57]⟩ : ByteArray) (some (IntKind.i64.wrap (a0 * 2))) (some (IntKind.i64.wrap ((IntKind.i64.wrap (a0 * 2)) + 2)))) fun s2 =>
    some s2

theorem strconv_small_ok {L : LC} {m : Nat} {H : AH} {a0 : Int} {r : ByteArray} (h : strconv_small L a0 = some r) :
    CallS Tryz.prog (NE.plain 92) m 94 #[(Value.int .i64 a0)] H (strconv_small_enc r) (strconv_small_hp H r) := by
  refine CallS.mk (args := [(Value.int .i64 a0)]) Tryz.func94 (B := B94) (by kernel_rfl) (fun E _ => ?_)
  unfold strconv_small at h
  refine WS.sq ?_
  refine WS.rg ?_
  refine RS.mS 1 [(2, .val (Value.string (⟨#[]⟩ : ByteArray)))] ?_
  refine RS.dn ?_
  refine WS.nxt ?_
  refine WS.sq ?_
  refine WS.sq ?_
  refine WS.rg ?_
  refine RS.mS 2 [(4, .val (Value.bool (decide (a0 < 10)))), (3, .val (Value.int .i64 a0))] ?_
  refine RS.dn ?_
  refine WS.nxt ?_
  rcases ite_some h with ⟨hp, h⟩ | ⟨hp, h⟩
  · refine WS.fx 4 true (decide_eq_true hp) ?_
    refine WS.cT ?_
    refine WS.sq ?_
    refine WS.rg ?_
    refine RS.mS 3 [(7, .val (Value.int .i64 (IntKind.i64.wrap (a0 + 1)))), (6, .val (Value.int .i64 a0)), (5, .val (Value.int .i64 a0))] ?_
    obtain ⟨s1, hx, h⟩ := bind_some h
    refine RS.o (H' := H) (some 8) (Value.string s1) (Abs.run_strC (t := 9) (x := .const (Value.string (⟨#[48, 49, 50, 51, 52, 53, 54, 55, 56, 57, 97, 98, 99, 100, 101, 102, 103, 104, 105, 106, 107, 108, 109, 110, 111, 112, 113, 114, 115, 116, 117, 118, 119, 120, 121, 122]⟩ : ByteArray))) (lo := (some (.tmp 5))) (hi := (some (.tmp 7))) (s := (⟨#[48, 49, 50, 51, 52, 53, 54, 55, 56, 57, 97, 98, 99, 100, 101, 102, 103, 104, 105, 106, 107, 108, 109, 110, 111, 112, 113, 114, 115, 116, 117, 118, 119, 120, 121, 122]⟩ : ByteArray)) (k1 := .i64) (k2 := .i64) (by kernel_rfl) (by kernel_rfl) (by kernel_rfl) (by kernel_rfl) (by kernel_rfl) hx) ?_
    refine RS.mS 1 [(2, .val (Value.string s1))] ?_
    refine RS.dn ?_
    refine WS.nxt ?_
    refine WS.rt ?_
    cases h
    exact fun a w hs => sqR (rtR (rS hs))
  · refine WS.fx 4 false (decide_eq_false hp) ?_
    refine WS.cF ?_
    refine WS.sk ?_
    refine WS.nxt ?_
    refine WS.sq ?_
    refine WS.rg ?_
    refine RS.mS 5 [(13, .val (Value.int .i64 (IntKind.i64.wrap ((IntKind.i64.wrap (a0 * 2)) + 2)))), (12, .val (Value.int .i64 (IntKind.i64.wrap (a0 * 2)))), (11, .val (Value.int .i64 a0)), (10, .val (Value.int .i64 (IntKind.i64.wrap (a0 * 2)))), (9, .val (Value.int .i64 a0))] ?_
    obtain ⟨s2, hx, h⟩ := bind_some h
    refine RS.o (H' := H) (some 14) (Value.string s2) (Abs.run_strC (t := 9) (x := .const (Value.string (⟨#[48, 48, 48, 49, 48, 50, 48, 51, 48, 52, 48, 53, 48, 54, 48, 55, 48, 56, 48, 57, 49, 48, 49, 49, 49, 50, 49, 51, 49, 52, 49, 53, 49, 54, 49, 55, 49, 56, 49, 57, 50, 48, 50, 49, 50, 50, 50, 51, 50, 52, 50, 53, 50, 54, 50, 55, 50, 56, 50, 57, 51, 48, 51, 49, 51, 50, 51, 51, 51, 52, 51, 53, 51, 54, 51, 55, 51, 56, 51, 57, 52, 48, 52, 49, 52, 50, 52, 51, 52, 52, 52, 53, 52, 54, 52, 55, 52, 56, 52, 57, 53, 48, 53, 49, 53, 50, 53, 51, 53, 52, 53, 53, 53, 54, 53, 55, 53, 56, 53, 57, 54, 48, 54, 49, 54, 50, 54, 51, 54, 52, 54, 53, 54, 54, 54, 55, 54, 56, 54, 57, 55, 48, 55, 49, 55, 50, 55, 51, 55, 52, 55, 53, 55, 54, 55, 55, 55, 56, 55, 57, 56, 48, 56, 49, 56, 50, 56, 51, 56, 52, 56, 53, 56, 54, 56, 55, 56, 56, 56, 57, 57, 48, 57, 49, 57, 50, 57, 51, 57, 52, 57, 53, 57, 54, 57, 55, 57, 56, 57, 57]⟩ : ByteArray))) (lo := (some (.tmp 10))) (hi := (some (.tmp 13))) (s := (⟨#[48, 48, 48, 49, 48, 50, 48, 51, 48, 52, 48, 53, 48, 54, 48, 55, 48, 56, 48, 57, 49, 48, 49, 49, 49, 50, 49, 51, 49, 52, 49, 53, 49, 54, 49, 55, 49, 56, 49, 57, 50, 48, 50, 49, 50, 50, 50, 51, 50, 52, 50, 53, 50, 54, 50, 55, 50, 56, 50, 57, 51, 48, 51, 49, 51, 50, 51, 51, 51, 52, 51, 53, 51, 54, 51, 55, 51, 56, 51, 57, 52, 48, 52, 49, 52, 50, 52, 51, 52, 52, 52, 53, 52, 54, 52, 55, 52, 56, 52, 57, 53, 48, 53, 49, 53, 50, 53, 51, 53, 52, 53, 53, 53, 54, 53, 55, 53, 56, 53, 57, 54, 48, 54, 49, 54, 50, 54, 51, 54, 52, 54, 53, 54, 54, 54, 55, 54, 56, 54, 57, 55, 48, 55, 49, 55, 50, 55, 51, 55, 52, 55, 53, 55, 54, 55, 55, 55, 56, 55, 57, 56, 48, 56, 49, 56, 50, 56, 51, 56, 52, 56, 53, 56, 54, 56, 55, 56, 56, 56, 57, 57, 48, 57, 49, 57, 50, 57, 51, 57, 52, 57, 53, 57, 54, 57, 55, 57, 56, 57, 57]⟩ : ByteArray)) (k1 := .i64) (k2 := .i64) (by kernel_rfl) (by kernel_rfl) (by kernel_rfl) (by kernel_rfl) (by kernel_rfl) hx) ?_
    refine RS.mS 1 [(2, .val (Value.string s2))] ?_
    refine RS.dn ?_
    refine WS.nxt ?_
    refine WS.rt ?_
    cases h
    exact fun a w hs => rtR (rS hs)

def strconv_FormatInt_enc : (ByteArray × AH) → Value
  | (r0, _) => (Value.string r0)

def strconv_FormatInt_hp (_ : AH) : (ByteArray × AH) → AH := fun r => r.2

noncomputable def B93 : Code := (Tryz.f93.body).getD .skip

noncomputable def strconv_FormatInt (L : LC) (_m : Nat) (H : AH) (a0 : Int) (a1 : Int) : Option (ByteArray × AH) :=
  if a1 = 10 then
    if 0 ≤ a0 then
      if a0 < 100 then
        Option.bind (strconv_small L a0) fun x1 =>
        some (x1, H)
      else
        none
    else
      none
  else
    none

theorem strconv_FormatInt_ok {L : LC} {m : Nat} {H : AH} {a0 : Int} {a1 : Int} {r : (ByteArray × AH)} (h : strconv_FormatInt L m H a0 a1 = some r) :
    CallS Tryz.prog (NE.plain 92) m 93 #[(Value.int .i64 a0), (Value.int .i64 a1)] H (strconv_FormatInt_enc r) (strconv_FormatInt_hp H r) := by
  refine CallS.mk (args := [(Value.int .i64 a0), (Value.int .i64 a1)]) Tryz.func93 (B := B93) (by kernel_rfl) (fun E _ => ?_)
  unfold strconv_FormatInt at h
  refine WS.sq ?_
  refine WS.rg ?_
  refine RS.mS 1 [(4, .val (Value.string (⟨#[]⟩ : ByteArray)))] ?_
  refine RS.dn ?_
  refine WS.nxt ?_
  refine WS.sq ?_
  refine WS.sq ?_
  refine WS.rg ?_
  refine RS.mS 2 [(11, .val (Value.bool (decide (a1 = 10)))), (10, .val (Value.int .i64 a1))] ?_
  refine RS.dn ?_
  refine WS.nxt ?_
  rcases ite_some h with ⟨hp, h⟩ | ⟨hp, h⟩
  · refine WS.fx 11 true (decide_eq_true hp) ?_
    refine WS.cT ?_
    refine WS.sq ?_
    refine WS.sq ?_
    refine WS.rg ?_
    refine RS.mS 3 [(14, .val (Value.bool (decide (0 ≤ a0)))), (13, .val (Value.bool (decide (0 ≤ a0)))), (12, .val (Value.int .i64 a0))] ?_
    rcases ite_some h with ⟨hp, h⟩ | ⟨hp, h⟩
    · refine RS.fx 14 true (decide_eq_true hp) ?_
      refine RS.mS 3 [(17, .val (Value.bool (decide (a0 < 100)))), (16, .val (Value.bool (decide (a0 < 100)))), (15, .val (Value.int .i64 a0))] ?_
      refine RS.dn ?_
      refine WS.nxt ?_
      rcases ite_some h with ⟨hp, h⟩ | ⟨hp, h⟩
      · refine WS.fx 17 true (decide_eq_true hp) ?_
        refine WS.cT ?_
        refine WS.sq ?_
        refine WS.rg ?_
        refine RS.mS 1 [(18, .val (Value.int .i64 a0))] ?_
        obtain ⟨x1, hx, h⟩ := bind_some h
        refine RS.cl (some 19) (v := (Value.string x1)) 94 #[(Value.int .i64 a0)] (strconv_small_ok hx) ?_
        refine RS.mS 1 [(4, .val (Value.string x1))] ?_
        refine RS.dn ?_
        refine WS.nxt ?_
        refine WS.rt ?_
        cases h
        exact fun a w hs => sqR (sqR (rtR (rS hs)))
      · refine WS.fx 17 false (decide_eq_false hp) ?_
        refine WS.cF ?_
        cases h
    · refine RS.fx 14 false (decide_eq_false hp) ?_
      cases h
  · refine WS.fx 11 false (decide_eq_false hp) ?_
    refine WS.cF ?_
    cases h

def strconv_Itoa_61_enc : (ByteArray × AH) → Value
  | (r0, _) => (Value.string r0)

def strconv_Itoa_61_hp (_ : AH) : (ByteArray × AH) → AH := fun r => r.2

noncomputable def B61 : Code := (Tryz.f61.body).getD .skip

noncomputable def strconv_Itoa_61 (L : LC) (m : Nat) (H : AH) (a0 : Int) : Option (ByteArray × AH) :=
  Option.bind (strconv_FormatInt L m H a0 10) fun (x1, H2) =>
  some (x1, H2)

theorem strconv_Itoa_61_ok {L : LC} {m : Nat} {H : AH} {a0 : Int} {r : (ByteArray × AH)} (h : strconv_Itoa_61 L m H a0 = some r) :
    CallS Tryz.prog (NE.plain 92) m 61 #[(Value.int .i64 a0)] H (strconv_Itoa_61_enc r) (strconv_Itoa_61_hp H r) := by
  refine CallS.mk (args := [(Value.int .i64 a0)]) Tryz.func61 (B := B61) (by kernel_rfl) (fun E _ => ?_)
  unfold strconv_Itoa_61 at h
  refine WS.sq ?_
  refine WS.rg ?_
  refine RS.mS 1 [(2, .val (Value.string (⟨#[]⟩ : ByteArray)))] ?_
  refine RS.dn ?_
  refine WS.nxt ?_
  refine WS.sq ?_
  refine WS.rg ?_
  refine RS.mS 1 [(3, .val (Value.int .i64 a0))] ?_
  obtain ⟨⟨x1, H2⟩, hx, h⟩ := bind_some h
  try dsimp only at h
  refine RS.cl (some 4) (v := (Value.string x1)) 93 #[(Value.int .i64 a0), (Value.int .i64 10)] (strconv_FormatInt_ok hx) ?_
  refine RS.mS 1 [(2, .val (Value.string x1))] ?_
  refine RS.dn ?_
  refine WS.nxt ?_
  refine WS.rt ?_
  cases h
  exact fun a w hs => rtR (rS hs)

def strconv_Itoa_enc : (ByteArray × AH) → Value
  | (r0, _) => (Value.string r0)

def strconv_Itoa_hp (_ : AH) : (ByteArray × AH) → AH := fun r => r.2

noncomputable def B40 : Code := (Tryz.f40.body).getD .skip

noncomputable def strconv_Itoa (L : LC) (m : Nat) (H : AH) (a0 : Int) : Option (ByteArray × AH) :=
  Option.bind (strconv_Itoa_61 L m H a0) fun (x1, H2) =>
  some (x1, H2)

theorem strconv_Itoa_ok {L : LC} {m : Nat} {H : AH} {a0 : Int} {r : (ByteArray × AH)} (h : strconv_Itoa L m H a0 = some r) :
    CallS Tryz.prog (NE.plain 92) m 40 #[(Value.int .i64 a0)] H (strconv_Itoa_enc r) (strconv_Itoa_hp H r) := by
  refine CallS.mk (args := [(Value.int .i64 a0)]) Tryz.func40 (B := B40) (by kernel_rfl) (fun E _ => ?_)
  unfold strconv_Itoa at h
  refine WS.sq ?_
  refine WS.rg ?_
  refine RS.mS 1 [(2, .val (Value.string (⟨#[]⟩ : ByteArray)))] ?_
  refine RS.dn ?_
  refine WS.nxt ?_
  refine WS.sq ?_
  refine WS.rg ?_
  refine RS.mS 1 [(3, .val (Value.int .i64 a0))] ?_
  obtain ⟨⟨x1, H2⟩, hx, h⟩ := bind_some h
  try dsimp only at h
  refine RS.cl (some 4) (v := (Value.string x1)) 61 #[(Value.int .i64 a0)] (strconv_Itoa_61_ok hx) ?_
  refine RS.mS 1 [(2, .val (Value.string x1))] ?_
  refine RS.dn ?_
  refine WS.nxt ?_
  refine WS.rt ?_
  cases h
  exact fun a w hs => rtR (rS hs)

def strings_Builder_WriteByte_enc : (Value × AH) → Value
  | (r0, _) => r0

def strings_Builder_WriteByte_hp (_ : AH) : (Value × AH) → AH := fun r => r.2

noncomputable def B41 : Code := (Tryz.f41.body).getD .skip

noncomputable def strings_Builder_WriteByte (L : LC) (m : Nat) (H : AH) (a0 : Option Addr) (a1 : Int) : Option (Value × AH) :=
  Option.bind (strings_Builder_copyCheck L m H a0) fun H1 =>
  Option.bind a0 fun q2 =>
  Option.bind (rd deSl H1 (Addr.add q2 1)) fun x3 =>
  Option.bind (newR 5 1 #[(Value.int .u8 a1)] H1) fun (s4, H5) =>
  Option.bind (appS m 5 1 1 H5 x3 s4) fun (s6, H7) =>
  Option.bind (H7.setCell m (Addr.add q2 1) (Sl3.v s6)) fun H8 =>
  some (Value.nilIface, H8)

theorem strings_Builder_WriteByte_ok {L : LC} {m : Nat} {H : AH} {a0 : Option Addr} {a1 : Int} {r : (Value × AH)} (h : strings_Builder_WriteByte L m H a0 a1 = some r) :
    CallS Tryz.prog (NE.plain 92) m 41 #[(Value.pointer a0), (Value.int .u8 a1)] H (strings_Builder_WriteByte_enc r) (strings_Builder_WriteByte_hp H r) := by
  refine CallS.mk (args := [(Value.pointer a0), (Value.int .u8 a1)]) Tryz.func41 (B := B41) (by kernel_rfl) (fun E _ => ?_)
  unfold strings_Builder_WriteByte at h
  refine WS.sq ?_
  refine WS.rg ?_
  refine RS.mS 1 [(4, .val Value.nilIface)] ?_
  refine RS.dn ?_
  refine WS.nxt ?_
  refine WS.sq ?_
  refine WS.rg ?_
  refine RS.mS 1 [(5, .val (Value.pointer a0))] ?_
  obtain ⟨H1, hx, h⟩ := bind_some h
  refine RS.cl (some 6) (v := (Value.tuple #[])) 60 #[(Value.pointer a0)] (strings_Builder_copyCheck_ok hx) ?_
  refine RS.dn ?_
  refine WS.nxt ?_
  refine WS.sq ?_
  refine WS.rg ?_
  refine RS.mS 2 [(8, .val (Value.pointer a0)), (7, .val (Value.pointer a0))] ?_
  obtain ⟨q2, hx, hq2⟩ := bind_some h
  subst hx
  have h := hq2
  refine RS.mS 2 [(10, .val (Value.pointer (some (Addr.add q2 1)))), (9, .val (Value.pointer (some q2)))] ?_
  obtain ⟨x3, hx, h⟩ := bind_some h
  refine RS.o (H' := H1) (some 11) (Sl3.v x3) (Abs.run_load (t := 74) (x := .tmp 10) (a := (Addr.add q2 1)) (by kernel_rfl) (by kernel_rfl) (by kernel_rfl) (rd_cell hx deSl_inv)) ?_
  refine RS.mS 1 [(12, .val (Value.int .u8 a1))] ?_
  obtain ⟨⟨s4, H5⟩, hx, h⟩ := bind_some h
  try dsimp only at h
  refine RS.o (H' := H5) (some 13) (Sl3.v s4) (Abs.run_newR (by kernel_rfl) (by kernel_rfl) hx) ?_
  obtain ⟨⟨s6, H7⟩, hx, h⟩ := bind_some h
  try dsimp only at h
  refine RS.o (H' := H7) (some 14) (Sl3.v s6) (Abs.run_app (x := .tmp 11) (y := .tmp 13) (ts := #[74, 74]) (s := x3) (z := s4) (by kernel_rfl) (by kernel_rfl) (by kernel_rfl) (by kernel_rfl) hx) ?_
  refine RS.mS 2 [(16, .val (Value.pointer (some (Addr.add q2 1)))), (15, .val (Value.pointer (some q2)))] ?_
  obtain ⟨H8, hx, h⟩ := bind_some h
  refine RS.o (H' := H8) none undef (Abs.run_store1 (t := 74) (x := .tmp 16) (y := .tmp 14) (a := (Addr.add q2 1)) (v := (Sl3.v s6)) (by kernel_rfl) (by kernel_rfl) (by kernel_rfl) (by kernel_rfl) (by kernel_rfl) hx) ?_
  refine RS.dn ?_
  refine WS.nxt ?_
  refine WS.sq ?_
  refine WS.rg ?_
  refine RS.mS 1 [(4, .val Value.nilIface)] ?_
  refine RS.dn ?_
  refine WS.nxt ?_
  refine WS.rt ?_
  cases h
  exact fun a w hs => rtR (rS hs)

def term_key_1_enc : AH → Value
  | _ => (Value.tuple #[])

def term_key_1_hp (_ : AH) : AH → AH := fun r => r

noncomputable def B38 : Code := (Tryz.f38.body).getD .skip

noncomputable def term_key_1 (L : LC) (m : Nat) (H : AH) (a0 : Int) (a1 : Option Addr) : Option AH :=
  Option.bind (strconv_Itoa L m H a0) fun (x1, H2) =>
  Option.bind (strings_Builder_WriteString L m H2 a1 x1) fun (_, _, H5) =>
  Option.bind (strings_Builder_WriteByte L m H5 a1 32) fun (_, H7) =>
  some H7

theorem term_key_1_ok {L : LC} {m : Nat} {H : AH} {a0 : Int} {a1 : Option Addr} {r : AH} (h : term_key_1 L m H a0 a1 = some r) :
    CallS Tryz.prog (NE.plain 92) m 38 #[(Value.int .i64 a0), (Value.pointer a1)] H (term_key_1_enc r) (term_key_1_hp H r) := by
  refine CallS.mk (args := [(Value.int .i64 a0), (Value.pointer a1)]) Tryz.func38 (B := B38) (by kernel_rfl) (fun E _ => ?_)
  unfold term_key_1 at h
  refine WS.sq ?_
  refine WS.rg ?_
  refine RS.mS 1 [(3, .val (Value.int .i64 a0))] ?_
  obtain ⟨⟨x1, H2⟩, hx, h⟩ := bind_some h
  try dsimp only at h
  refine RS.cl (some 4) (v := (Value.string x1)) 40 #[(Value.int .i64 a0)] (strconv_Itoa_ok hx) ?_
  obtain ⟨⟨x3, x4, H5⟩, hx, h⟩ := bind_some h
  try dsimp only at h
  refine RS.cl (some 5) (v := (Value.tuple #[(Value.int .i64 x3), x4])) 39 #[(Value.pointer a1), (Value.string x1)] (strings_Builder_WriteString_ok hx) ?_
  refine RS.dn ?_
  refine WS.nxt ?_
  refine WS.rg ?_
  obtain ⟨⟨x6, H7⟩, hx, h⟩ := bind_some h
  try dsimp only at h
  refine RS.cl (some 6) (v := x6) 41 #[(Value.pointer a1), (Value.int .u8 32)] (strings_Builder_WriteByte_ok hx) ?_
  refine RS.dn ?_
  cases h
  exact fun a w hs => rtN (rS hs)

end Go.Proofs.YtgkogeglciogkaaGreatDoor

namespace Go.Proofs.YtgkogeglciogkaaGreatDoor
open Go Go.Abs
set_option maxRecDepth 100000

def term_key_enc : (ByteArray × AH) → Value
  | (r0, _) => (Value.string r0)

def term_key_hp (_ : AH) : (ByteArray × AH) → AH := fun r => r.2

noncomputable def B18 : Code := (Tryz.f18.body).getD .skip

noncomputable def term_key_b0 (L : LC) (m : Nat) (_a0_0 : Int) (_a0_1 : ByteArray) (_a0_2 : Bool) (_a0_3 : Sl3) (_a0_4 : Int) (_a0_5 : Sl3) (_a0_6 : Int) (_a0_7 : Int) (_a0_8 : ByteArray) (_a0_9 : Sl3) (_a0_10 : Sl3) (a0_11 : Sl3) (p1 : Addr) : (AH × Int) → Option (Lp (AH × Int) (ByteArray × AH)) := fun (H4, v23_5) =>
  if v23_5 < (a0_11.n : Int) then
    Option.bind (idxA 1 a0_11 v23_5) fun p6 =>
    Option.bind (rd (deI .i64) H4 p6) fun x7 =>
    Option.bind (term_key_1 L m H4 x7 (some p1)) fun H8 =>
    some (.next (H8, (IntKind.i64.wrap (v23_5 + 1))))
  else
    some (.brk (H4, v23_5))

def term_key_b0_kn (_L : LC) (_m : Nat) (_a0_0 : Int) (_a0_1 : ByteArray) (_a0_2 : Bool) (_a0_3 : Sl3) (_a0_4 : Int) (_a0_5 : Sl3) (_a0_6 : Int) (_a0_7 : Int) (_a0_8 : ByteArray) (_a0_9 : Sl3) (_a0_10 : Sl3) (a0_11 : Sl3) (p1 : Addr) : (AH × Int) → KN := fun (_, v23_5) => [(23, .val (Value.int .i64 v23_5)), (1, .loc 0 0), (3, .val (Value.pointer (some p1))), (4, .val (Value.func (.func 38) #[] #[(Value.pointer (some p1))])), (21, .val (Sl3.v a0_11)), (22, .val (Value.int .i64 (a0_11.n : Int)))]

def term_key_b0_ls (_L : LC) (_m : Nat) (a0_0 : Int) (a0_1 : ByteArray) (a0_2 : Bool) (a0_3 : Sl3) (a0_4 : Int) (a0_5 : Sl3) (a0_6 : Int) (a0_7 : Int) (a0_8 : ByteArray) (a0_9 : Sl3) (a0_10 : Sl3) (a0_11 : Sl3) (_p1 : Addr) : (AH × Int) → Lcs := fun (_, _) => [some (35, [(Value.int .i64 a0_0), (Value.string a0_1), (Value.bool a0_2), (Sl3.v a0_3), (Value.int .i64 a0_4), (Sl3.v a0_5), (Value.int .i64 a0_6), (Value.int .i64 a0_7), (Value.string a0_8), (Sl3.v a0_9), (Sl3.v a0_10), (Sl3.v a0_11)])]

noncomputable def term_key_b1 (_L : LC) (_a0_0 : Int) (_a0_1 : ByteArray) (_a0_2 : Bool) (_a0_3 : Sl3) (_a0_4 : Int) (_a0_5 : Sl3) (_a0_6 : Int) (_a0_7 : Int) (_a0_8 : ByteArray) (_a0_9 : Sl3) (a0_10 : Sl3) (_a0_11 : Sl3) (_p1 : Addr) : (AH × Int) → Option (Lp (AH × Int) (ByteArray × AH)) := fun (H11, v34_12) =>
  if v34_12 < (a0_10.n : Int) then
    none
  else
    some (.brk (H11, v34_12))

def term_key_b1_kn (_L : LC) (_a0_0 : Int) (_a0_1 : ByteArray) (_a0_2 : Bool) (_a0_3 : Sl3) (_a0_4 : Int) (_a0_5 : Sl3) (_a0_6 : Int) (_a0_7 : Int) (_a0_8 : ByteArray) (_a0_9 : Sl3) (a0_10 : Sl3) (_a0_11 : Sl3) (p1 : Addr) : (AH × Int) → KN := fun (_, v34_12) => [(34, .val (Value.int .i64 v34_12)), (1, .loc 0 0), (3, .val (Value.pointer (some p1))), (4, .val (Value.func (.func 38) #[] #[(Value.pointer (some p1))])), (32, .val (Sl3.v a0_10)), (33, .val (Value.int .i64 (a0_10.n : Int)))]

def term_key_b1_ls (_L : LC) (a0_0 : Int) (a0_1 : ByteArray) (a0_2 : Bool) (a0_3 : Sl3) (a0_4 : Int) (a0_5 : Sl3) (a0_6 : Int) (a0_7 : Int) (a0_8 : ByteArray) (a0_9 : Sl3) (a0_10 : Sl3) (a0_11 : Sl3) (_p1 : Addr) : (AH × Int) → Lcs := fun (_, _) => [some (35, [(Value.int .i64 a0_0), (Value.string a0_1), (Value.bool a0_2), (Sl3.v a0_3), (Value.int .i64 a0_4), (Sl3.v a0_5), (Value.int .i64 a0_6), (Value.int .i64 a0_7), (Value.string a0_8), (Sl3.v a0_9), (Sl3.v a0_10), (Sl3.v a0_11)])]

noncomputable def term_key (L : LC) (m : Nat) (H : AH) (a0_0 : Int) (a0_1 : ByteArray) (a0_2 : Bool) (a0_3 : Sl3) (a0_4 : Int) (a0_5 : Sl3) (a0_6 : Int) (a0_7 : Int) (a0_8 : ByteArray) (a0_9 : Sl3) (a0_10 : Sl3) (a0_11 : Sl3) : Option (ByteArray × AH) :=
  Option.bind (newB 76 [(Value.pointer none), (Sl3.v Sl3.nil)] H) fun (p1, H2) =>
  Option.bind (term_key_1 L m H2 a0_0 (some p1)) fun H3 =>
  Option.bind (L.run (term_key_b0 L m a0_0 a0_1 a0_2 a0_3 a0_4 a0_5 a0_6 a0_7 a0_8 a0_9 a0_10 a0_11 p1) (H3, 0)) fun o => match o with
  | .inl (H9, _) =>
    Option.bind (L.run (term_key_b1 L a0_0 a0_1 a0_2 a0_3 a0_4 a0_5 a0_6 a0_7 a0_8 a0_9 a0_10 a0_11 p1) (H9, 0)) fun o => match o with
    | .inl (H13, _) =>
      if a0_0 = 20 then
        none
      else
        if a0_0 = 40 then
          none
        else
          if a0_0 = 34 then
            none
          else
            Option.bind (strings_Builder_String L m H13 (some p1)) fun (x15, H16) =>
            Option.bind (strcat x15 a0_1) fun s17 =>
            some (s17, H16)
    | .inr r => some r
  | .inr r => some r

theorem term_key_b0_ok {E : Ent} {H : AH} {L : LC} {m : Nat} {a0_0 : Int} {a0_1 : ByteArray} {a0_2 : Bool} {a0_3 : Sl3} {a0_4 : Int} {a0_5 : Sl3} {a0_6 : Int} {a0_7 : Int} {a0_8 : ByteArray} {a0_9 : Sl3} {a0_10 : Sl3} {a0_11 : Sl3} {p1 : Addr}  : ∀ s o, term_key_b0 L m a0_0 a0_1 a0_2 a0_3 a0_4 a0_5 a0_6 a0_7 a0_8 a0_9 a0_10 a0_11 p1 s = some o →
    WS Tryz.prog (NE.plain 92) m E Tryz.f18.ntmps (cfst (cfst (csnd (cfst (csnd (csnd (csnd (csnd B18)))))))) (term_key_b0_kn L m a0_0 a0_1 a0_2 a0_3 a0_4 a0_5 a0_6 a0_7 a0_8 a0_9 a0_10 a0_11 p1 s) (term_key_b0_ls L m a0_0 a0_1 a0_2 a0_3 a0_4 a0_5 a0_6 a0_7 a0_8 a0_9 a0_10 a0_11 p1 s) ((fun s => s.1) s) (lpS Tryz.prog (NE.plain 92) m E Tryz.f18.ntmps (term_key_b0_kn L m a0_0 a0_1 a0_2 a0_3 a0_4 a0_5 a0_6 a0_7 a0_8 a0_9 a0_10 a0_11 p1) (term_key_b0_ls L m a0_0 a0_1 a0_2 a0_3 a0_4 a0_5 a0_6 a0_7 a0_8 a0_9 a0_10 a0_11 p1) (fun s => s.1) 0 (fun r => RT Tryz.prog (NE.plain 92) m E Tryz.f18 (term_key_enc r) (term_key_hp H r)) o) := by
  rintro ⟨H4, v23_5⟩ o h
  unfold term_key_b0 at h
  try dsimp only at h
  refine WS.sq ?_
  refine WS.rg ?_
  refine RS.mS 1 [(24, .val (Value.bool (decide (v23_5 < (a0_11.n : Int)))))] ?_
  refine RS.dn ?_
  refine WS.nxt ?_
  refine WS.sq ?_
  rcases ite_some h with ⟨hp, h⟩ | ⟨hp, h⟩
  · refine WS.fx 24 true (decide_eq_true hp) ?_
    refine WS.cT ?_
    refine WS.sk ?_
    refine WS.nxt ?_
    refine WS.sq ?_
    refine WS.bk 1 ?_
    refine WS.sq ?_
    refine WS.rg ?_
    obtain ⟨p6, hx, h⟩ := bind_some h
    refine RS.o (H' := H4) (some 25) (Value.pointer (some p6)) (Abs.run_idx (s := a0_11) (k := .i64) (t := 33) (e := 3) (x := .tmp 21) (y := .tmp 23) (by kernel_rfl) (by kernel_rfl) (by kernel_rfl) (by kernel_rfl) (by kernel_rfl) hx) ?_
    obtain ⟨x7, hx, h⟩ := bind_some h
    refine RS.o (H' := H4) (some 26) (Value.int .i64 x7) (Abs.run_load (t := 3) (x := .tmp 25) (a := p6) (by kernel_rfl) (by kernel_rfl) (by kernel_rfl) (rd_cell hx deI_inv)) ?_
    refine RS.mS 1 [(6, .val (Value.int .i64 x7))] ?_
    refine RS.dn ?_
    refine WS.nxt ?_
    refine WS.rg ?_
    refine RS.mS 2 [(28, .val (Value.int .i64 x7)), (27, .val (Value.func (.func 38) #[] #[(Value.pointer (some p1))]))] ?_
    obtain ⟨H8, hx, h⟩ := bind_some h
    refine RS.cl (some 29) (v := (Value.tuple #[])) 38 #[(Value.int .i64 x7), (Value.pointer (some p1))] (term_key_1_ok hx) ?_
    refine RS.dn ?_
    refine fun a w hs => bkN ((WS.nxt ?_ a w hs))
    refine WS.rg ?_
    refine RS.mS 2 [(23, .val (Value.int .i64 (IntKind.i64.wrap (v23_5 + 1)))), (30, .val (Value.int .i64 (IntKind.i64.wrap (v23_5 + 1))))] ?_
    refine RS.dn ?_
    cases h
    exact fun a w hs => lsN rfl (hs.sb 1)
  · refine WS.fx 24 false (decide_eq_false hp) ?_
    refine WS.cF ?_
    refine WS.ex 0 ?_
    cases h
    exact fun a w hs => sqE (lsB rfl (hs.sb 1))

theorem term_key_b1_ok {E : Ent} {m : Nat} {H : AH} {L : LC} {a0_0 : Int} {a0_1 : ByteArray} {a0_2 : Bool} {a0_3 : Sl3} {a0_4 : Int} {a0_5 : Sl3} {a0_6 : Int} {a0_7 : Int} {a0_8 : ByteArray} {a0_9 : Sl3} {a0_10 : Sl3} {a0_11 : Sl3} {p1 : Addr}  : ∀ s o, term_key_b1 L a0_0 a0_1 a0_2 a0_3 a0_4 a0_5 a0_6 a0_7 a0_8 a0_9 a0_10 a0_11 p1 s = some o →
    WS Tryz.prog (NE.plain 92) m E Tryz.f18.ntmps (cfst (cfst (csnd (cfst (csnd (csnd (csnd (csnd (csnd B18))))))))) (term_key_b1_kn L a0_0 a0_1 a0_2 a0_3 a0_4 a0_5 a0_6 a0_7 a0_8 a0_9 a0_10 a0_11 p1 s) (term_key_b1_ls L a0_0 a0_1 a0_2 a0_3 a0_4 a0_5 a0_6 a0_7 a0_8 a0_9 a0_10 a0_11 p1 s) ((fun s => s.1) s) (lpS Tryz.prog (NE.plain 92) m E Tryz.f18.ntmps (term_key_b1_kn L a0_0 a0_1 a0_2 a0_3 a0_4 a0_5 a0_6 a0_7 a0_8 a0_9 a0_10 a0_11 p1) (term_key_b1_ls L a0_0 a0_1 a0_2 a0_3 a0_4 a0_5 a0_6 a0_7 a0_8 a0_9 a0_10 a0_11 p1) (fun s => s.1) 2 (fun r => RT Tryz.prog (NE.plain 92) m E Tryz.f18 (term_key_enc r) (term_key_hp H r)) o) := by
  rintro ⟨H11, v34_12⟩ o h
  unfold term_key_b1 at h
  try dsimp only at h
  refine WS.sq ?_
  refine WS.rg ?_
  refine RS.mS 1 [(35, .val (Value.bool (decide (v34_12 < (a0_10.n : Int)))))] ?_
  refine RS.dn ?_
  refine WS.nxt ?_
  refine WS.sq ?_
  rcases ite_some h with ⟨hp, h⟩ | ⟨hp, h⟩
  · refine WS.fx 35 true (decide_eq_true hp) ?_
    refine WS.cT ?_
    cases h
  · refine WS.fx 35 false (decide_eq_false hp) ?_
    refine WS.cF ?_
    refine WS.ex 2 ?_
    cases h
    exact fun a w hs => sqE (lsB rfl (hs.sb 1))

theorem term_key_ok {L : LC} {m : Nat} {H : AH} {a0_0 : Int} {a0_1 : ByteArray} {a0_2 : Bool} {a0_3 : Sl3} {a0_4 : Int} {a0_5 : Sl3} {a0_6 : Int} {a0_7 : Int} {a0_8 : ByteArray} {a0_9 : Sl3} {a0_10 : Sl3} {a0_11 : Sl3} {r : (ByteArray × AH)} (h : term_key L m H a0_0 a0_1 a0_2 a0_3 a0_4 a0_5 a0_6 a0_7 a0_8 a0_9 a0_10 a0_11 = some r) :
    CallS Tryz.prog (NE.plain 92) m 18 #[(Value.agg #[(Value.int .i64 a0_0), (Value.string a0_1), (Value.bool a0_2), (Sl3.v a0_3), (Value.int .i64 a0_4), (Sl3.v a0_5), (Value.int .i64 a0_6), (Value.int .i64 a0_7), (Value.string a0_8), (Sl3.v a0_9), (Sl3.v a0_10), (Sl3.v a0_11)])] H (term_key_enc r) (term_key_hp H r) := by
  refine CallS.mk (args := [(Value.agg #[(Value.int .i64 a0_0), (Value.string a0_1), (Value.bool a0_2), (Sl3.v a0_3), (Value.int .i64 a0_4), (Sl3.v a0_5), (Value.int .i64 a0_6), (Value.int .i64 a0_7), (Value.string a0_8), (Sl3.v a0_9), (Sl3.v a0_10), (Sl3.v a0_11)])]) Tryz.func18 (B := B18) (by kernel_rfl) (fun E _ => ?_)
  unfold term_key at h
  refine WS.sq ?_
  refine WS.rg ?_
  refine RS.mL 2 [(2, .val (Value.string (⟨#[]⟩ : ByteArray))), (1, .loc 0 0)] ([some (35, [(Value.int .i64 a0_0), (Value.string a0_1), (Value.bool a0_2), (Sl3.v a0_3), (Value.int .i64 a0_4), (Sl3.v a0_5), (Value.int .i64 a0_6), (Value.int .i64 a0_7), (Value.string a0_8), (Sl3.v a0_9), (Sl3.v a0_10), (Sl3.v a0_11)])]) ?_
  refine RS.dn ?_
  refine WS.nxt ?_
  refine WS.sq ?_
  refine WS.rg ?_
  obtain ⟨⟨p1, H2⟩, hx, h⟩ := bind_some h
  try dsimp only at h
  refine RS.o (H' := H2) (some 3) (Value.pointer (some p1)) (Abs.run_newB (by kernel_rfl) hx) ?_
  refine RS.dn ?_
  refine WS.nxt ?_
  refine WS.sq ?_
  refine WS.rg ?_
  refine RS.mS 2 [(4, .val (Value.func (.func 38) #[] #[(Value.pointer (some p1))])), (15, .val (Value.func (.func 38) #[] #[(Value.pointer (some p1))]))] ?_
  refine RS.dn ?_
  refine WS.nxt ?_
  refine WS.sq ?_
  refine WS.rg ?_
  refine RS.mS 3 [(18, .val (Value.int .i64 a0_0)), (17, .loc 0 0), (16, .val (Value.func (.func 38) #[] #[(Value.pointer (some p1))]))] ?_
  obtain ⟨H3, hx, h⟩ := bind_some h
  refine RS.cl (some 19) (v := (Value.tuple #[])) 38 #[(Value.int .i64 a0_0), (Value.pointer (some p1))] (term_key_1_ok hx) ?_
  refine RS.dn ?_
  refine WS.nxt ?_
  refine WS.sq ?_
  refine WS.sq ?_
  refine WS.rg ?_
  refine RS.mS 4 [(23, .val (Value.int .i64 0)), (22, .val (Value.int .i64 (a0_11.n : Int))), (21, .val (Sl3.v a0_11)), (20, .loc 0 11)] ?_
  refine RS.dn ?_
  refine WS.nxt ?_
  refine WS.bk 0 ?_
  obtain ⟨o, hl, h⟩ := bind_some h
  rcases o with ⟨H9, v23_10⟩ | r
  · try dsimp only at h
    refine WS.lI (term_key_b0_ok (L := L) (E := E) (m := m) (H := H)) (L.ok hl) 1 ?_
    clear hl
    refine fun a w hs => bkE ((WS.nxt ?_ a w hs))
    refine WS.sq ?_
    refine WS.sq ?_
    refine WS.rg ?_
    refine RS.mS 4 [(34, .val (Value.int .i64 0)), (33, .val (Value.int .i64 (a0_10.n : Int))), (32, .val (Sl3.v a0_10)), (31, .loc 0 10)] ?_
    refine RS.dn ?_
    refine WS.nxt ?_
    refine WS.bk 2 ?_
    obtain ⟨o, hl, h⟩ := bind_some h
    rcases o with ⟨H13, v34_14⟩ | r
    · try dsimp only at h
      refine WS.lI (term_key_b1_ok (L := L) (E := E) (m := m) (H := H)) (L.ok hl) 1 ?_
      clear hl
      refine fun a w hs => bkE ((WS.nxt ?_ a w hs))
      refine WS.sq ?_
      refine WS.sq ?_
      refine WS.rg ?_
      refine RS.mS 2 [(43, .val (Value.int .i64 a0_0)), (42, .loc 0 0)] ?_
      refine RS.dn ?_
      refine WS.nxt ?_
      refine WS.bk 4 ?_
      refine WS.sq ?_
      refine WS.rg ?_
      refine RS.mS 2 [(44, .val (Value.bool (decide (a0_0 = 20)))), (45, .val (Value.bool (decide (a0_0 = 20))))] ?_
      refine RS.dn ?_
      refine WS.nxt ?_
      rcases ite_some h with ⟨hp, h⟩ | ⟨hp, h⟩
      · refine WS.fx 44 true (decide_eq_true hp) ?_
        refine WS.cT ?_
        cases h
      · refine WS.fx 44 false (decide_eq_false hp) ?_
        refine WS.cF ?_
        refine WS.sq ?_
        refine WS.rg ?_
        refine RS.mS 2 [(64, .val (Value.bool (decide (a0_0 = 40)))), (65, .val (Value.bool (decide (a0_0 = 40))))] ?_
        refine RS.dn ?_
        refine WS.nxt ?_
        rcases ite_some h with ⟨hp, h⟩ | ⟨hp, h⟩
        · refine WS.fx 64 true (decide_eq_true hp) ?_
          refine WS.cT ?_
          cases h
        · refine WS.fx 64 false (decide_eq_false hp) ?_
          refine WS.cF ?_
          refine WS.sq ?_
          refine WS.rg ?_
          refine RS.mS 2 [(84, .val (Value.bool (decide (a0_0 = 34)))), (85, .val (Value.bool (decide (a0_0 = 34))))] ?_
          refine RS.dn ?_
          refine WS.nxt ?_
          rcases ite_some h with ⟨hp, h⟩ | ⟨hp, h⟩
          · refine WS.fx 84 true (decide_eq_true hp) ?_
            refine WS.cT ?_
            cases h
          · refine WS.fx 84 false (decide_eq_false hp) ?_
            refine WS.cF ?_
            refine WS.sk ?_
            refine fun a w hs => bkN ((WS.nxt ?_ a w hs))
            refine WS.sq ?_
            obtain ⟨⟨x15, H16⟩, hx_0, h⟩ := bind_some h
            try dsimp only at h
            obtain ⟨s17, hx_3, h⟩ := bind_some h
            refine WS.toone ([(2, .val (Value.string s17))]) ([some (35, [(Value.int .i64 a0_0), (Value.string a0_1), (Value.bool a0_2), (Sl3.v a0_3), (Value.int .i64 a0_4), (Sl3.v a0_5), (Value.int .i64 a0_6), (Value.int .i64 a0_7), (Value.string a0_8), (Sl3.v a0_9), (Sl3.v a0_10), (Sl3.v a0_11)])]) H16 ?_ ?_
            · clear h
              refine WS.dr [] [0, 0, 2, 7, 15] 5 (fun hcl => ?_)
              refine DA.tPL 1 (some 95) (.loc 0 1) ?_
              refine DA.two 0 2 (by kernel_rfl) ?_ ?_
              · refine DA.aC 0 (some 94) (v := (Value.string x15)) 23 #[(Value.pointer (some p1))] (strings_Builder_String_ok hx_0) ?_
                refine DA.on 2 ?_
                refine DA.aL 2 (some 96) (.val (Value.string a0_1)) ([some (35, [(Value.int .i64 a0_0), (Value.string a0_1), (Value.bool a0_2), (Sl3.v a0_3), (Value.int .i64 a0_4), (Sl3.v a0_5), (Value.int .i64 a0_6), (Value.int .i64 a0_7), (Value.string a0_8), (Sl3.v a0_9), (Sl3.v a0_10), (Sl3.v a0_11)])]) false ?_
                refine DA.tPx 3 (some 97) (Value.string s17) (Abs.det_strcat (t := 9) (u := 9) (x := .tmp 94) (y := .tmp 96) (a := x15) (b := a0_1) (by kernel_rfl) (by kernel_rfl) (by kernel_rfl) hx_3) ?_
                refine DA.tP 4 (some 2) (Value.string s17) ?_
                refine DA.dn ?_
                exact fun a w hs => jsN (hs.sb 1)
              · refine DA.aL 2 (some 96) (.val (Value.string a0_1)) ([some (35, [(Value.int .i64 a0_0), (Value.string a0_1), (Value.bool a0_2), (Sl3.v a0_3), (Value.int .i64 a0_4), (Sl3.v a0_5), (Value.int .i64 a0_6), (Value.int .i64 a0_7), (Value.string a0_8), (Sl3.v a0_9), (Sl3.v a0_10), (Sl3.v a0_11)])]) false ?_
                refine DA.on 0 ?_
                refine DA.aC 0 (some 94) (v := (Value.string x15)) 23 #[(Value.pointer (some p1))] (strings_Builder_String_ok hx_0) ?_
                refine DA.tPx 3 (some 97) (Value.string s17) (Abs.det_strcat (t := 9) (u := 9) (x := .tmp 94) (y := .tmp 96) (a := x15) (b := a0_1) (by kernel_rfl) (by kernel_rfl) (by kernel_rfl) hx_3) ?_
                refine DA.tP 4 (some 2) (Value.string s17) ?_
                refine DA.dn ?_
                exact fun a w hs => jsN (hs.sb 1)
            · refine WS.nxt ?_
              refine WS.rt ?_
              cases h
              exact fun a w hs => rtR (rS hs)
    · try dsimp only at h
      refine WS.lR (term_key_b1_ok (L := L) (E := E) (m := m) (H := H)) (L.ok hl) 1 ?_
      cases h
      exact fun a w hq => bkR (sqR (rtR hq))
  · try dsimp only at h
    refine WS.lR (term_key_b0_ok (L := L) (E := E) (m := m) (H := H)) (L.ok hl) 1 ?_
    cases h
    exact fun a w hq => bkR (sqR (rtR hq))

def term_Table_Add_enc : (Int × Int × AH) → Value
  | (r0, r1, _) => (Value.tuple #[(Value.int .i64 r0), (Value.int .i64 r1)])

def term_Table_Add_hp (_ : AH) : (Int × Int × AH) → AH := fun r => r.2.2

noncomputable def term_Table_Add (L : LC) (m : Nat) (H : AH) (a0 : Option Addr) (a1_0 : Int) (a1_1 : ByteArray) (a1_2 : Bool) (a1_3 : Sl3) (a1_4 : Int) (a1_5 : Sl3) (a1_6 : Int) (a1_7 : Int) (a1_8 : ByteArray) (a1_9 : Sl3) (a1_10 : Sl3) (a1_11 : Sl3) : Option (Int × Int × AH) :=
  Option.bind (term_Table_made L H a0) fun x1 =>
  if x1 = true then
    Option.bind (term_Table_check L m H a0 a1_0 a1_1 a1_2 a1_3 a1_4 a1_5 a1_6 a1_7 a1_8 a1_9 a1_10 a1_11) fun (x2_0, x2_1, x2_2, x2_3, x3, H4) =>
    if x3 = 0 then
      Option.bind (term_canon L m H4 a1_0 a1_1 a1_2 a1_3 a1_4 a1_5 a1_6 a1_7 a1_8 a1_9 a1_10 a1_11) fun (x5_0, x5_1, x5_2, x5_3, x5_4, x5_5, x5_6, x5_7, x5_8, x5_9, x5_10, x5_11, H6) =>
      Option.bind (term_key L m H6 x5_0 x5_1 x5_2 x5_3 x5_4 x5_5 x5_6 x5_7 x5_8 x5_9 x5_10 x5_11) fun (x7, H8) =>
      Option.bind a0 fun q9 =>
      Option.bind (rd deM H8 (Addr.add q9 4)) fun x10 =>
      Option.bind (lkM Tryz.prog 43 (deI .i64) H8 x10 (Value.string x7)) fun (x11, b12) =>
      if b12 = true then
        some (x11, 0, H8)
      else
        Option.bind (rd deSl H8 (Addr.add q9 3)) fun x13 =>
        if (x13.n : Int) ≥ 1048576 then
          none
        else
          Option.bind (rd deM H8 (Addr.add q9 4)) fun x14 =>
          Option.bind (rd deSl H8 (Addr.add q9 3)) fun x15 =>
          Option.bind (upM Tryz.prog m 43 H8 x14 (Value.string x7) (Value.int .i64 (x15.n : Int))) fun H16 =>
          Option.bind (rd deSl H16 (Addr.add q9 3)) fun x17 =>
          Option.bind (term_copySort L (Nat.max m H16.next) H16 x2_0 x2_1 x2_2 x2_3) fun (x18_0, x18_1, x18_2, x18_3, H19) =>
          Option.bind (newS 70 [(Value.int .i64 x5_0), (Value.string x5_1), (Value.bool x5_2), (Sl3.v x5_3), (Value.int .i64 x5_4), (Sl3.v x5_5), (Value.int .i64 x5_6), (Value.int .i64 x5_7), (Value.string x5_8), (Sl3.v x5_9), (Sl3.v x5_10), (Sl3.v x5_11), (Value.int .i64 x18_0), (Value.int .i64 x18_1), (Value.string x18_2), (Sl3.v x18_3)] H19) fun (k20, H21) =>
          Option.bind (appS m 70 16 248 H21 x17 (⟨some ⟨k20, 0, none⟩, 1, 1⟩ : Sl3)) fun (s22, H23) =>
          Option.bind (H23.setCell m (Addr.add q9 3) (Sl3.v s22)) fun H24 =>
          Option.bind (rd deSl H24 (Addr.add q9 3)) fun x25 =>
          some ((IntKind.i64.wrap ((x25.n : Int) - 1)), 0, H24)
    else
      none
  else
    none

theorem term_Table_Add_ok {L : LC} {m : Nat} {H : AH} {a0 : Option Addr} {a1_0 : Int} {a1_1 : ByteArray} {a1_2 : Bool} {a1_3 : Sl3} {a1_4 : Int} {a1_5 : Sl3} {a1_6 : Int} {a1_7 : Int} {a1_8 : ByteArray} {a1_9 : Sl3} {a1_10 : Sl3} {a1_11 : Sl3} {r : (Int × Int × AH)} (h : term_Table_Add L m H a0 a1_0 a1_1 a1_2 a1_3 a1_4 a1_5 a1_6 a1_7 a1_8 a1_9 a1_10 a1_11 = some r) :
    CallS Tryz.prog (NE.plain 92) m 4 #[(Value.pointer a0), (Value.agg #[(Value.int .i64 a1_0), (Value.string a1_1), (Value.bool a1_2), (Sl3.v a1_3), (Value.int .i64 a1_4), (Sl3.v a1_5), (Value.int .i64 a1_6), (Value.int .i64 a1_7), (Value.string a1_8), (Sl3.v a1_9), (Sl3.v a1_10), (Sl3.v a1_11)])] H (term_Table_Add_enc r) (term_Table_Add_hp H r) := by
  refine CallS.mk (args := [(Value.pointer a0), (Value.agg #[(Value.int .i64 a1_0), (Value.string a1_1), (Value.bool a1_2), (Sl3.v a1_3), (Value.int .i64 a1_4), (Sl3.v a1_5), (Value.int .i64 a1_6), (Value.int .i64 a1_7), (Value.string a1_8), (Sl3.v a1_9), (Sl3.v a1_10), (Sl3.v a1_11)])]) Tryz.func4 (B := B4) (by kernel_rfl) (fun E _ => ?_)
  unfold term_Table_Add at h
  refine WS.sq ?_
  refine WS.rg ?_
  refine RS.mL 3 [(5, .val (Value.int .i64 0)), (4, .val (Value.int .i64 0)), (3, .loc 0 0)] ([some (35, [(Value.int .i64 a1_0), (Value.string a1_1), (Value.bool a1_2), (Sl3.v a1_3), (Value.int .i64 a1_4), (Sl3.v a1_5), (Value.int .i64 a1_6), (Value.int .i64 a1_7), (Value.string a1_8), (Sl3.v a1_9), (Sl3.v a1_10), (Sl3.v a1_11)])]) ?_
  refine RS.dn ?_
  refine WS.nxt ?_
  refine WS.sq ?_
  refine WS.sq ?_
  refine WS.rg ?_
  refine RS.mS 1 [(12, .val (Value.pointer a0))] ?_
  obtain ⟨x1, hx, h⟩ := bind_some h
  refine RS.cl (some 13) (v := (Value.bool x1)) 15 #[(Value.pointer a0)] (term_Table_made_ok hx) ?_
  refine RS.mS 1 [(14, .val (Value.bool (!x1)))] ?_
  refine RS.dn ?_
  refine WS.nxt ?_
  rcases ite_some h with ⟨hp, h⟩ | ⟨hp, h⟩
  · refine WS.fx 14 false (nb_not hp) ?_
    refine WS.cF ?_
    refine WS.sk ?_
    refine WS.nxt ?_
    refine WS.sq ?_
    refine WS.rg ?_
    refine RS.mS 2 [(17, .val (Value.agg #[(Value.int .i64 a1_0), (Value.string a1_1), (Value.bool a1_2), (Sl3.v a1_3), (Value.int .i64 a1_4), (Sl3.v a1_5), (Value.int .i64 a1_6), (Value.int .i64 a1_7), (Value.string a1_8), (Sl3.v a1_9), (Sl3.v a1_10), (Sl3.v a1_11)])), (16, .val (Value.pointer a0))] ?_
    obtain ⟨⟨x2_0, x2_1, x2_2, x2_3, x3, H4⟩, hx, h⟩ := bind_some h
    try dsimp only at h
    refine RS.cl (some 18) (v := (Value.tuple #[(Value.agg #[(Value.int .i64 x2_0), (Value.int .i64 x2_1), (Value.string x2_2), (Sl3.v x2_3)]), (Value.int .i64 x3)])) 16 #[(Value.pointer a0), (Value.agg #[(Value.int .i64 a1_0), (Value.string a1_1), (Value.bool a1_2), (Sl3.v a1_3), (Value.int .i64 a1_4), (Sl3.v a1_5), (Value.int .i64 a1_6), (Value.int .i64 a1_7), (Value.string a1_8), (Sl3.v a1_9), (Sl3.v a1_10), (Sl3.v a1_11)])] (term_Table_check_ok hx) ?_
    refine RS.mL 6 [(7, .val (Value.int .i64 x3)), (6, .loc 1 0), (20, .val (Value.int .i64 x3)), (19, .val (Value.agg #[(Value.int .i64 x2_0), (Value.int .i64 x2_1), (Value.string x2_2), (Sl3.v x2_3)])), (15, .val (Value.tuple #[(Value.agg #[(Value.int .i64 x2_0), (Value.int .i64 x2_1), (Value.string x2_2), (Sl3.v x2_3)]), (Value.int .i64 x3)]))] ([some (35, [(Value.int .i64 a1_0), (Value.string a1_1), (Value.bool a1_2), (Sl3.v a1_3), (Value.int .i64 a1_4), (Sl3.v a1_5), (Value.int .i64 a1_6), (Value.int .i64 a1_7), (Value.string a1_8), (Sl3.v a1_9), (Sl3.v a1_10), (Sl3.v a1_11)]), some (32, [(Value.int .i64 x2_0), (Value.int .i64 x2_1), (Value.string x2_2), (Sl3.v x2_3)])]) ?_
    refine RS.dn ?_
    refine WS.nxt ?_
    refine WS.sq ?_
    refine WS.sq ?_
    refine WS.rg ?_
    refine RS.mS 2 [(22, .val (Value.bool (!decide (x3 = 0)))), (21, .val (Value.int .i64 x3))] ?_
    refine RS.dn ?_
    refine WS.nxt ?_
    rcases ite_some h with ⟨hp, h⟩ | ⟨hp, h⟩
    · refine WS.fx 22 false (dec_not hp) ?_
      refine WS.cF ?_
      refine WS.sk ?_
      refine WS.nxt ?_
      refine WS.sq ?_
      refine WS.rg ?_
      refine RS.mS 1 [(24, .val (Value.agg #[(Value.int .i64 a1_0), (Value.string a1_1), (Value.bool a1_2), (Sl3.v a1_3), (Value.int .i64 a1_4), (Sl3.v a1_5), (Value.int .i64 a1_6), (Value.int .i64 a1_7), (Value.string a1_8), (Sl3.v a1_9), (Sl3.v a1_10), (Sl3.v a1_11)]))] ?_
      obtain ⟨⟨x5_0, x5_1, x5_2, x5_3, x5_4, x5_5, x5_6, x5_7, x5_8, x5_9, x5_10, x5_11, H6⟩, hx, h⟩ := bind_some h
      try dsimp only at h
      refine RS.cl (some 25) (v := (Value.agg #[(Value.int .i64 x5_0), (Value.string x5_1), (Value.bool x5_2), (Sl3.v x5_3), (Value.int .i64 x5_4), (Sl3.v x5_5), (Value.int .i64 x5_6), (Value.int .i64 x5_7), (Value.string x5_8), (Sl3.v x5_9), (Sl3.v x5_10), (Sl3.v x5_11)])) 17 #[(Value.agg #[(Value.int .i64 a1_0), (Value.string a1_1), (Value.bool a1_2), (Sl3.v a1_3), (Value.int .i64 a1_4), (Sl3.v a1_5), (Value.int .i64 a1_6), (Value.int .i64 a1_7), (Value.string a1_8), (Sl3.v a1_9), (Sl3.v a1_10), (Sl3.v a1_11)])] (term_canon_ok hx) ?_
      refine RS.mL 2 [(8, .loc 2 0)] ([some (35, [(Value.int .i64 a1_0), (Value.string a1_1), (Value.bool a1_2), (Sl3.v a1_3), (Value.int .i64 a1_4), (Sl3.v a1_5), (Value.int .i64 a1_6), (Value.int .i64 a1_7), (Value.string a1_8), (Sl3.v a1_9), (Sl3.v a1_10), (Sl3.v a1_11)]), some (32, [(Value.int .i64 x2_0), (Value.int .i64 x2_1), (Value.string x2_2), (Sl3.v x2_3)]), some (35, [(Value.int .i64 x5_0), (Value.string x5_1), (Value.bool x5_2), (Sl3.v x5_3), (Value.int .i64 x5_4), (Sl3.v x5_5), (Value.int .i64 x5_6), (Value.int .i64 x5_7), (Value.string x5_8), (Sl3.v x5_9), (Sl3.v x5_10), (Sl3.v x5_11)])]) ?_
      refine RS.dn ?_
      refine WS.nxt ?_
      refine WS.sq ?_
      refine WS.rg ?_
      refine RS.mS 1 [(26, .val (Value.agg #[(Value.int .i64 x5_0), (Value.string x5_1), (Value.bool x5_2), (Sl3.v x5_3), (Value.int .i64 x5_4), (Sl3.v x5_5), (Value.int .i64 x5_6), (Value.int .i64 x5_7), (Value.string x5_8), (Sl3.v x5_9), (Sl3.v x5_10), (Sl3.v x5_11)]))] ?_
      obtain ⟨⟨x7, H8⟩, hx, h⟩ := bind_some h
      try dsimp only at h
      refine RS.cl (some 27) (v := (Value.string x7)) 18 #[(Value.agg #[(Value.int .i64 x5_0), (Value.string x5_1), (Value.bool x5_2), (Sl3.v x5_3), (Value.int .i64 x5_4), (Sl3.v x5_5), (Value.int .i64 x5_6), (Value.int .i64 x5_7), (Value.string x5_8), (Sl3.v x5_9), (Sl3.v x5_10), (Sl3.v x5_11)])] (term_key_ok hx) ?_
      refine RS.mS 1 [(9, .val (Value.string x7))] ?_
      refine RS.dn ?_
      refine WS.nxt ?_
      refine WS.sq ?_
      refine WS.sq ?_
      refine WS.rg ?_
      refine RS.mS 1 [(29, .val (Value.pointer a0))] ?_
      obtain ⟨q9, hx, hq9⟩ := bind_some h
      subst hx
      have h := hq9
      refine RS.mS 2 [(31, .val (Value.pointer (some (Addr.add q9 4)))), (30, .val (Value.pointer (some q9)))] ?_
      obtain ⟨x10, hx, h⟩ := bind_some h
      refine RS.o (H' := H8) (some 32) (Value.map x10) (Abs.run_load (t := 43) (x := .tmp 31) (a := (Addr.add q9 4)) (by kernel_rfl) (by kernel_rfl) (by kernel_rfl) (rd_cell hx deM_inv)) ?_
      refine RS.mS 1 [(33, .val (Value.string x7))] ?_
      obtain ⟨⟨x11, b12⟩, hx, h⟩ := bind_some h
      try dsimp only at h
      refine RS.o (H' := H8) (some 34) (Value.tuple #[(Value.int .i64 x11), (Value.bool b12)]) (Abs.run_look (t := 43) (x := .tmp 32) (y := .tmp 33) (mm := x10) (k := (Value.string x7)) (by kernel_rfl) (by kernel_rfl) (by kernel_rfl) (by kernel_rfl) (lkM_eq hx deI_inv)) ?_
      refine RS.mS 5 [(11, .val (Value.bool b12)), (10, .val (Value.int .i64 x11)), (36, .val (Value.bool b12)), (35, .val (Value.int .i64 x11)), (28, .val (Value.tuple #[(Value.int .i64 x11), (Value.bool b12)]))] ?_
      refine RS.dn ?_
      refine WS.nxt ?_
      refine WS.sq ?_
      refine WS.rg ?_
      refine RS.mS 1 [(37, .val (Value.bool b12))] ?_
      refine RS.dn ?_
      refine WS.nxt ?_
      rcases ite_some h with ⟨hp, h⟩ | ⟨hp, h⟩
      · refine WS.fx 37 true hp ?_
        refine WS.cT ?_
        refine WS.sq ?_
        refine WS.rg ?_
        refine RS.mS 3 [(5, .val (Value.int .i64 0)), (4, .val (Value.int .i64 x11)), (38, .val (Value.int .i64 x11))] ?_
        refine RS.dn ?_
        refine WS.nxt ?_
        refine WS.rt ?_
        cases h
        exact fun a w hs => sqR (rtR (rS hs))
      · refine WS.fx 37 false (b_not hp) ?_
        refine WS.cF ?_
        refine WS.sk ?_
        refine WS.nxt ?_
        refine WS.sq ?_
        refine WS.sq ?_
        refine WS.rg ?_
        refine RS.mS 3 [(41, .val (Value.pointer (some (Addr.add q9 3)))), (40, .val (Value.pointer (some q9))), (39, .val (Value.pointer (some q9)))] ?_
        obtain ⟨x13, hx, h⟩ := bind_some h
        refine RS.o (H' := H8) (some 42) (Sl3.v x13) (Abs.run_load (t := 42) (x := .tmp 41) (a := (Addr.add q9 3)) (by kernel_rfl) (by kernel_rfl) (by kernel_rfl) (rd_cell hx deSl_inv)) ?_
        refine RS.mS 2 [(44, .val (Value.bool (decide ((x13.n : Int) ≥ 1048576)))), (43, .val (Value.int .i64 (x13.n : Int)))] ?_
        refine RS.dn ?_
        refine WS.nxt ?_
        rcases ite_some h with ⟨hp, h⟩ | ⟨hp, h⟩
        · refine WS.fx 44 true (decide_eq_true hp) ?_
          refine WS.cT ?_
          cases h
        · refine WS.fx 44 false (decide_eq_false hp) ?_
          refine WS.cF ?_
          refine WS.sk ?_
          refine WS.nxt ?_
          refine WS.sq ?_
          refine WS.dr [0, 1, 2, 3, 5, 6, 7, 8] [0, 1, 3, 7, 0, 0, 32, 96, 224, 480, 1023] 11 (fun hcl => ?_)
          refine DA.tK 0 (some 45) (Value.pointer (some q9)) ?_
          refine DA.tK 1 (some 46) (Value.pointer (some q9)) ?_
          refine DA.tK 2 (some 47) (Value.pointer (some (Addr.add q9 4))) ?_
          obtain ⟨x14, hx, h⟩ := bind_some h
          refine DA.tD 3 (some 48) (Value.map x14) (Abs.det_load (t := 43) (x := .tmp 47) (a := (Addr.add q9 4)) (by kernel_rfl) (by kernel_rfl) (by kernel_rfl) (by kernel_rfl) (rd_cell hx deM_inv)) ?_
          refine DA.tK 5 (some 50) (Value.pointer (some q9)) ?_
          refine DA.tK 6 (some 51) (Value.pointer (some q9)) ?_
          refine DA.tK 7 (some 52) (Value.pointer (some (Addr.add q9 3))) ?_
          obtain ⟨x15, hx, h⟩ := bind_some h
          refine DA.tD 8 (some 53) (Sl3.v x15) (Abs.det_load (t := 42) (x := .tmp 52) (a := (Addr.add q9 3)) (by kernel_rfl) (by kernel_rfl) (by kernel_rfl) (by kernel_rfl) (rd_cell hx deSl_inv)) ?_
          refine DA.tP 4 (some 49) (Value.string x7) ?_
          refine DA.on 9 ?_
          refine DA.aHk (H' := H8) 9 (some 54) false (Value.int .i64 (x15.n : Int)) (by kernel_rfl) ?_
          obtain ⟨H16, hx, h⟩ := bind_some h
          refine DA.on 10 ?_
          refine DA.aH (H' := H16) 10 none undef (Abs.run_upM (t := 43) (x := .tmp 48) (y := .tmp 49) (z := .tmp 54) (mm := x14) (k := (Value.string x7)) (v := (Value.int .i64 (x15.n : Int))) (by kernel_rfl) (by kernel_rfl) (by kernel_rfl) (by kernel_rfl) (by kernel_rfl) hx) ?_
          refine DA.dn ?_
          refine WS.nxt ?_
          refine WS.sq ?_
          obtain ⟨x17, hx_4, h⟩ := bind_some h
          obtain ⟨⟨x18_0, x18_1, x18_2, x18_3, H19⟩, hx_7, h⟩ := bind_some h
          try dsimp only at h
          obtain ⟨⟨k20, H21⟩, hx_k20, h⟩ := bind_some h
          try dsimp only at h
          obtain ⟨⟨s22, H23⟩, hx_10, h⟩ := bind_some h
          try dsimp only at h
          obtain ⟨H24, hx_13, h⟩ := bind_some h
          refine WS.toone ([(0, .val (Value.pointer (some q9)))]) ([some (35, [(Value.int .i64 a1_0), (Value.string a1_1), (Value.bool a1_2), (Sl3.v a1_3), (Value.int .i64 a1_4), (Sl3.v a1_5), (Value.int .i64 a1_6), (Value.int .i64 a1_7), (Value.string a1_8), (Sl3.v a1_9), (Sl3.v a1_10), (Sl3.v a1_11)]), some (32, [(Value.int .i64 x2_0), (Value.int .i64 x2_1), (Value.string x2_2), (Sl3.v x2_3)]), some (35, [(Value.int .i64 x5_0), (Value.string x5_1), (Value.bool x5_2), (Sl3.v x5_3), (Value.int .i64 x5_4), (Sl3.v x5_5), (Value.int .i64 x5_6), (Value.int .i64 x5_7), (Value.string x5_8), (Sl3.v x5_9), (Sl3.v x5_10), (Sl3.v x5_11)]), none]) H24 ?_ ?_
          · clear h
            refine WS.dr [1, 2, 3, 4, 6] [0, 0, 2, 6, 14, 0, 0, 64, 224, 480, 1022, 2047, 4095, 8191] 14 (fun hcl => ?_)
            refine DA.tK 1 (some 56) (Value.pointer (some q9)) ?_
            refine DA.tK 2 (some 57) (Value.pointer (some q9)) ?_
            refine DA.tK 3 (some 58) (Value.pointer (some (Addr.add q9 3))) ?_
            refine DA.tD 4 (some 59) (Sl3.v x17) (Abs.det_load (t := 42) (x := .tmp 58) (a := (Addr.add q9 3)) (by kernel_rfl) (by kernel_rfl) (by kernel_rfl) (by kernel_rfl) (rd_cell hx_4 deSl_inv)) ?_
            refine DA.tL 6 (some 61) (.val (Value.agg #[(Value.int .i64 x2_0), (Value.int .i64 x2_1), (Value.string x2_2), (Sl3.v x2_3)])) ?_
            refine DA.tP 0 (some 55) (Value.pointer (some q9)) ?_
            refine DA.two 5 7 (by kernel_rfl) ?_ ?_
            · refine DA.aL 5 (some 60) (.val (Value.agg #[(Value.int .i64 x5_0), (Value.string x5_1), (Value.bool x5_2), (Sl3.v x5_3), (Value.int .i64 x5_4), (Sl3.v x5_5), (Value.int .i64 x5_6), (Value.int .i64 x5_7), (Value.string x5_8), (Sl3.v x5_9), (Sl3.v x5_10), (Sl3.v x5_11)])) ([some (35, [(Value.int .i64 a1_0), (Value.string a1_1), (Value.bool a1_2), (Sl3.v a1_3), (Value.int .i64 a1_4), (Sl3.v a1_5), (Value.int .i64 a1_6), (Value.int .i64 a1_7), (Value.string a1_8), (Sl3.v a1_9), (Sl3.v a1_10), (Sl3.v a1_11)]), some (32, [(Value.int .i64 x2_0), (Value.int .i64 x2_1), (Value.string x2_2), (Sl3.v x2_3)]), some (35, [(Value.int .i64 x5_0), (Value.string x5_1), (Value.bool x5_2), (Sl3.v x5_3), (Value.int .i64 x5_4), (Sl3.v x5_5), (Value.int .i64 x5_6), (Value.int .i64 x5_7), (Value.string x5_8), (Sl3.v x5_9), (Sl3.v x5_10), (Sl3.v x5_11)])]) true ?_
              refine DA.on 7 ?_
              refine DA.aCk 7 (some 62) true (v := (Value.agg #[(Value.int .i64 x18_0), (Value.int .i64 x18_1), (Value.string x18_2), (Sl3.v x18_3)])) 19 #[(Value.agg #[(Value.int .i64 x2_0), (Value.int .i64 x2_1), (Value.string x2_2), (Sl3.v x2_3)])] (term_copySort_ok hx_7) ?_
              refine DA.on 8 ?_
              refine DA.aHk (H' := H19) 8 (some 63) true (Value.agg #[(Value.int .i64 x5_0), (Value.string x5_1), (Value.bool x5_2), (Sl3.v x5_3), (Value.int .i64 x5_4), (Sl3.v x5_5), (Value.int .i64 x5_6), (Value.int .i64 x5_7), (Value.string x5_8), (Sl3.v x5_9), (Sl3.v x5_10), (Sl3.v x5_11), (Value.int .i64 x18_0), (Value.int .i64 x18_1), (Value.string x18_2), (Sl3.v x18_3)]) (by kernel_rfl) ?_
              refine DA.on 9 ?_
              refine DA.actS 9 (some 64) (.sli 3 1) ([some (35, [(Value.int .i64 a1_0), (Value.string a1_1), (Value.bool a1_2), (Sl3.v a1_3), (Value.int .i64 a1_4), (Sl3.v a1_5), (Value.int .i64 a1_6), (Value.int .i64 a1_7), (Value.string a1_8), (Sl3.v a1_9), (Sl3.v a1_10), (Sl3.v a1_11)]), some (32, [(Value.int .i64 x2_0), (Value.int .i64 x2_1), (Value.string x2_2), (Sl3.v x2_3)]), some (35, [(Value.int .i64 x5_0), (Value.string x5_1), (Value.bool x5_2), (Sl3.v x5_3), (Value.int .i64 x5_4), (Sl3.v x5_5), (Value.int .i64 x5_6), (Value.int .i64 x5_7), (Value.string x5_8), (Sl3.v x5_9), (Sl3.v x5_10), (Sl3.v x5_11)]), some (70, [(Value.int .i64 x5_0), (Value.string x5_1), (Value.bool x5_2), (Sl3.v x5_3), (Value.int .i64 x5_4), (Sl3.v x5_5), (Value.int .i64 x5_6), (Value.int .i64 x5_7), (Value.string x5_8), (Sl3.v x5_9), (Sl3.v x5_10), (Sl3.v x5_11), (Value.int .i64 x18_0), (Value.int .i64 x18_1), (Value.string x18_2), (Sl3.v x18_3)])]) (by kernel_rfl) (by kernel_rfl) (by kernel_rfl) hcl (by kernel_rfl) (by kernel_rfl) (by kernel_rfl) ?_
              refine DA.on 10 ?_
              refine DA.pubK 3 _ _ hx_k20 (by kernel_rfl) rfl rfl ?_
              refine DA.aH (H' := H23) 10 (some 65) (Sl3.v s22) (Abs.run_app (x := .tmp 59) (y := .tmp 64) (ts := #[42, 42]) (s := x17) (z := (⟨some ⟨k20, 0, none⟩, 1, 1⟩ : Sl3)) (by kernel_rfl) (by kernel_rfl) (by kernel_rfl) (by kernel_rfl) hx_10) ?_
              refine DA.tP 11 (some 66) (Value.pointer (some q9)) ?_
              refine DA.tP 12 (some 67) (Value.pointer (some (Addr.add q9 3))) ?_
              refine DA.on 13 ?_
              refine DA.aH (H' := H24) 13 none undef (Abs.run_store1 (t := 42) (x := .tmp 67) (y := .tmp 65) (a := (Addr.add q9 3)) (v := (Sl3.v s22)) (by kernel_rfl) (by kernel_rfl) (by kernel_rfl) (by kernel_rfl) (by kernel_rfl) hx_13) ?_
              refine DA.dn ?_
              exact fun a w hs => jsN (hs.sb 4)
            · refine DA.aCk 7 (some 62) true (v := (Value.agg #[(Value.int .i64 x18_0), (Value.int .i64 x18_1), (Value.string x18_2), (Sl3.v x18_3)])) 19 #[(Value.agg #[(Value.int .i64 x2_0), (Value.int .i64 x2_1), (Value.string x2_2), (Sl3.v x2_3)])] (term_copySort_ok hx_7) ?_
              refine DA.on 5 ?_
              refine DA.aL 5 (some 60) (.val (Value.agg #[(Value.int .i64 x5_0), (Value.string x5_1), (Value.bool x5_2), (Sl3.v x5_3), (Value.int .i64 x5_4), (Sl3.v x5_5), (Value.int .i64 x5_6), (Value.int .i64 x5_7), (Value.string x5_8), (Sl3.v x5_9), (Sl3.v x5_10), (Sl3.v x5_11)])) ([some (35, [(Value.int .i64 a1_0), (Value.string a1_1), (Value.bool a1_2), (Sl3.v a1_3), (Value.int .i64 a1_4), (Sl3.v a1_5), (Value.int .i64 a1_6), (Value.int .i64 a1_7), (Value.string a1_8), (Sl3.v a1_9), (Sl3.v a1_10), (Sl3.v a1_11)]), some (32, [(Value.int .i64 x2_0), (Value.int .i64 x2_1), (Value.string x2_2), (Sl3.v x2_3)]), some (35, [(Value.int .i64 x5_0), (Value.string x5_1), (Value.bool x5_2), (Sl3.v x5_3), (Value.int .i64 x5_4), (Sl3.v x5_5), (Value.int .i64 x5_6), (Value.int .i64 x5_7), (Value.string x5_8), (Sl3.v x5_9), (Sl3.v x5_10), (Sl3.v x5_11)])]) true ?_
              refine DA.on 8 ?_
              refine DA.aHk (H' := H19) 8 (some 63) true (Value.agg #[(Value.int .i64 x5_0), (Value.string x5_1), (Value.bool x5_2), (Sl3.v x5_3), (Value.int .i64 x5_4), (Sl3.v x5_5), (Value.int .i64 x5_6), (Value.int .i64 x5_7), (Value.string x5_8), (Sl3.v x5_9), (Sl3.v x5_10), (Sl3.v x5_11), (Value.int .i64 x18_0), (Value.int .i64 x18_1), (Value.string x18_2), (Sl3.v x18_3)]) (by kernel_rfl) ?_
              refine DA.on 9 ?_
              refine DA.actS 9 (some 64) (.sli 3 1) ([some (35, [(Value.int .i64 a1_0), (Value.string a1_1), (Value.bool a1_2), (Sl3.v a1_3), (Value.int .i64 a1_4), (Sl3.v a1_5), (Value.int .i64 a1_6), (Value.int .i64 a1_7), (Value.string a1_8), (Sl3.v a1_9), (Sl3.v a1_10), (Sl3.v a1_11)]), some (32, [(Value.int .i64 x2_0), (Value.int .i64 x2_1), (Value.string x2_2), (Sl3.v x2_3)]), some (35, [(Value.int .i64 x5_0), (Value.string x5_1), (Value.bool x5_2), (Sl3.v x5_3), (Value.int .i64 x5_4), (Sl3.v x5_5), (Value.int .i64 x5_6), (Value.int .i64 x5_7), (Value.string x5_8), (Sl3.v x5_9), (Sl3.v x5_10), (Sl3.v x5_11)]), some (70, [(Value.int .i64 x5_0), (Value.string x5_1), (Value.bool x5_2), (Sl3.v x5_3), (Value.int .i64 x5_4), (Sl3.v x5_5), (Value.int .i64 x5_6), (Value.int .i64 x5_7), (Value.string x5_8), (Sl3.v x5_9), (Sl3.v x5_10), (Sl3.v x5_11), (Value.int .i64 x18_0), (Value.int .i64 x18_1), (Value.string x18_2), (Sl3.v x18_3)])]) (by kernel_rfl) (by kernel_rfl) (by kernel_rfl) hcl (by kernel_rfl) (by kernel_rfl) (by kernel_rfl) ?_
              refine DA.on 10 ?_
              refine DA.pubK 3 _ _ hx_k20 (by kernel_rfl) rfl rfl ?_
              refine DA.aH (H' := H23) 10 (some 65) (Sl3.v s22) (Abs.run_app (x := .tmp 59) (y := .tmp 64) (ts := #[42, 42]) (s := x17) (z := (⟨some ⟨k20, 0, none⟩, 1, 1⟩ : Sl3)) (by kernel_rfl) (by kernel_rfl) (by kernel_rfl) (by kernel_rfl) hx_10) ?_
              refine DA.tP 11 (some 66) (Value.pointer (some q9)) ?_
              refine DA.tP 12 (some 67) (Value.pointer (some (Addr.add q9 3))) ?_
              refine DA.on 13 ?_
              refine DA.aH (H' := H24) 13 none undef (Abs.run_store1 (t := 42) (x := .tmp 67) (y := .tmp 65) (a := (Addr.add q9 3)) (v := (Sl3.v s22)) (by kernel_rfl) (by kernel_rfl) (by kernel_rfl) (by kernel_rfl) (by kernel_rfl) hx_13) ?_
              refine DA.dn ?_
              exact fun a w hs => jsN (hs.sb 4)
          · refine WS.nxt ?_
            refine WS.sq ?_
            refine WS.rg ?_
            refine RS.mS 3 [(70, .val (Value.pointer (some (Addr.add q9 3)))), (69, .val (Value.pointer (some q9))), (68, .val (Value.pointer (some q9)))] ?_
            obtain ⟨x25, hx, h⟩ := bind_some h
            refine RS.o (H' := H24) (some 71) (Sl3.v x25) (Abs.run_load (t := 42) (x := .tmp 70) (a := (Addr.add q9 3)) (by kernel_rfl) (by kernel_rfl) (by kernel_rfl) (rd_cell hx deSl_inv)) ?_
            refine RS.mS 4 [(5, .val (Value.int .i64 0)), (4, .val (Value.int .i64 (IntKind.i64.wrap ((x25.n : Int) - 1)))), (73, .val (Value.int .i64 (IntKind.i64.wrap ((x25.n : Int) - 1)))), (72, .val (Value.int .i64 (x25.n : Int)))] ?_
            refine RS.dn ?_
            refine WS.nxt ?_
            refine WS.rt ?_
            cases h
            exact fun a w hs => rtR (rS hs)
    · refine WS.fx 22 true (dec_not' hp) ?_
      refine WS.cT ?_
      cases h
  · refine WS.fx 14 true (nb_not' hp) ?_
    refine WS.cT ?_
    cases h

def term_Table_Make_enc : (Int × Int × AH) → Value
  | (r0, r1, _) => (Value.tuple #[(Value.int .i64 r0), (Value.int .i64 r1)])

def term_Table_Make_hp (_ : AH) : (Int × Int × AH) → AH := fun r => r.2.2

noncomputable def term_Table_Make (L : LC) (m : Nat) (H : AH) (a0 : Option Addr) (a1 : Int) (a2 : Sl3) : Option (Int × Int × AH) :=
  Option.bind (term_Table_Add L m H a0 a1 (⟨#[]⟩ : ByteArray) false Sl3.nil 0 Sl3.nil 0 0 (⟨#[]⟩ : ByteArray) Sl3.nil Sl3.nil a2) fun (x1, x2, H3) =>
  some (x1, x2, H3)

theorem term_Table_Make_ok {L : LC} {m : Nat} {H : AH} {a0 : Option Addr} {a1 : Int} {a2 : Sl3} {r : (Int × Int × AH)} (h : term_Table_Make L m H a0 a1 a2 = some r) :
    CallS Tryz.prog (NE.plain 92) m 5 #[(Value.pointer a0), (Value.int .i64 a1), (Sl3.v a2)] H (term_Table_Make_enc r) (term_Table_Make_hp H r) := by
  refine CallS.mk (args := [(Value.pointer a0), (Value.int .i64 a1), (Sl3.v a2)]) Tryz.func5 (B := B5) (by kernel_rfl) (fun E _ => ?_)
  unfold term_Table_Make at h
  refine WS.sq ?_
  refine WS.rg ?_
  refine RS.mS 2 [(7, .val (Value.int .i64 0)), (6, .val (Value.int .i64 0))] ?_
  refine RS.dn ?_
  refine WS.nxt ?_
  refine WS.sq ?_
  refine WS.rg ?_
  refine RS.mS 4 [(11, .val (Value.agg #[(Value.int .i64 a1), (Value.string (⟨#[]⟩ : ByteArray)), (Value.bool false), (Sl3.v Sl3.nil), (Value.int .i64 0), (Sl3.v Sl3.nil), (Value.int .i64 0), (Value.int .i64 0), (Value.string (⟨#[]⟩ : ByteArray)), (Sl3.v Sl3.nil), (Sl3.v Sl3.nil), (Sl3.v a2)])), (10, .val (Sl3.v a2)), (9, .val (Value.int .i64 a1)), (8, .val (Value.pointer a0))] ?_
  obtain ⟨⟨x1, x2, H3⟩, hx, h⟩ := bind_some h
  try dsimp only at h
  refine RS.cl (some 12) (v := (Value.tuple #[(Value.int .i64 x1), (Value.int .i64 x2)])) 4 #[(Value.pointer a0), (Value.agg #[(Value.int .i64 a1), (Value.string (⟨#[]⟩ : ByteArray)), (Value.bool false), (Sl3.v Sl3.nil), (Value.int .i64 0), (Sl3.v Sl3.nil), (Value.int .i64 0), (Value.int .i64 0), (Value.string (⟨#[]⟩ : ByteArray)), (Sl3.v Sl3.nil), (Sl3.v Sl3.nil), (Sl3.v a2)])] (term_Table_Add_ok hx) ?_
  refine RS.mS 4 [(7, .val (Value.int .i64 x2)), (6, .val (Value.int .i64 x1)), (14, .val (Value.int .i64 x2)), (13, .val (Value.int .i64 x1))] ?_
  refine RS.dn ?_
  refine WS.nxt ?_
  refine WS.rt ?_
  cases h
  exact fun a w hs => rtR (rS hs)

def strings_Builder_Len_enc : Int → Value
  | r0 => (Value.int .i64 r0)

def strings_Builder_Len_hp (H : AH) : Int → AH := fun _ => H

noncomputable def B22 : Code := (Tryz.f22.body).getD .skip

noncomputable def strings_Builder_Len (_L : LC) (H : AH) (a0 : Option Addr) : Option Int :=
  Option.bind a0 fun q1 =>
  Option.bind (rd deSl H (Addr.add q1 1)) fun x2 =>
  some (x2.n : Int)

theorem strings_Builder_Len_ok {L : LC} {m : Nat} {H : AH} {a0 : Option Addr} {r : Int} (h : strings_Builder_Len L H a0 = some r) :
    CallS Tryz.prog (NE.plain 92) m 22 #[(Value.pointer a0)] H (strings_Builder_Len_enc r) (strings_Builder_Len_hp H r) := by
  refine CallS.mk (args := [(Value.pointer a0)]) Tryz.func22 (B := B22) (by kernel_rfl) (fun E _ => ?_)
  unfold strings_Builder_Len at h
  refine WS.sq ?_
  refine WS.rg ?_
  refine RS.mS 1 [(2, .val (Value.int .i64 0))] ?_
  refine RS.dn ?_
  refine WS.nxt ?_
  refine WS.sq ?_
  refine WS.rg ?_
  refine RS.mS 1 [(3, .val (Value.pointer a0))] ?_
  obtain ⟨q1, hx, hq1⟩ := bind_some h
  subst hx
  have h := hq1
  refine RS.mS 2 [(5, .val (Value.pointer (some (Addr.add q1 1)))), (4, .val (Value.pointer (some q1)))] ?_
  obtain ⟨x2, hx, h⟩ := bind_some h
  refine RS.o (H' := H) (some 6) (Sl3.v x2) (Abs.run_load (t := 74) (x := .tmp 5) (a := (Addr.add q1 1)) (by kernel_rfl) (by kernel_rfl) (by kernel_rfl) (rd_cell hx deSl_inv)) ?_
  refine RS.mS 2 [(2, .val (Value.int .i64 (x2.n : Int))), (7, .val (Value.int .i64 (x2.n : Int)))] ?_
  refine RS.dn ?_
  refine WS.nxt ?_
  refine WS.rt ?_
  cases h
  exact fun a w hs => rtR (rS hs)

def sort_letter_enc : Bool → Value
  | r0 => (Value.bool r0)

def sort_letter_hp (H : AH) : Bool → AH := fun _ => H

noncomputable def B122 : Code := (Tryz.f122.body).getD .skip

noncomputable def sort_letter (_L : LC) (a0 : Int) : Option Bool :=
  if (ior .u8 a0 32) ≥ 97 then
    some (decide ((ior .u8 a0 32) ≤ 122))
  else
    none

theorem sort_letter_ok {L : LC} {m : Nat} {H : AH} {a0 : Int} {r : Bool} (h : sort_letter L a0 = some r) :
    CallS Tryz.prog (NE.plain 92) m 122 #[(Value.int .u8 a0)] H (sort_letter_enc r) (sort_letter_hp H r) := by
  refine CallS.mk (args := [(Value.int .u8 a0)]) Tryz.func122 (B := B122) (by kernel_rfl) (fun E _ => ?_)
  unfold sort_letter at h
  refine WS.sq ?_
  refine WS.rg ?_
  refine RS.mS 1 [(2, .val (Value.bool false))] ?_
  refine RS.dn ?_
  refine WS.nxt ?_
  refine WS.sq ?_
  refine WS.rg ?_
  refine RS.mS 4 [(6, .val (Value.bool (decide ((ior .u8 a0 32) ≥ 97)))), (5, .val (Value.bool (decide ((ior .u8 a0 32) ≥ 97)))), (4, .val (Value.int .u8 (ior .u8 a0 32))), (3, .val (Value.int .u8 a0))] ?_
  rcases ite_some h with ⟨hp, h⟩ | ⟨hp, h⟩
  · refine RS.fx 6 true (decide_eq_true hp) ?_
    refine RS.mS 5 [(2, .val (Value.bool (decide ((ior .u8 a0 32) ≤ 122)))), (10, .val (Value.bool (decide ((ior .u8 a0 32) ≤ 122)))), (9, .val (Value.bool (decide ((ior .u8 a0 32) ≤ 122)))), (8, .val (Value.int .u8 (ior .u8 a0 32))), (7, .val (Value.int .u8 a0))] ?_
    refine RS.dn ?_
    refine WS.nxt ?_
    refine WS.rt ?_
    cases h
    exact fun a w hs => rtR (rS hs)
  · refine RS.fx 6 false (decide_eq_false hp) ?_
    cases h

end Go.Proofs.YtgkogeglciogkaaGreatDoor

namespace Go.Proofs.YtgkogeglciogkaaGreatDoor
open Go Go.Abs
set_option maxRecDepth 100000

def strings_Fields_enc : (Sl3 × AH) → Value
  | (r0, _) => (Sl3.v r0)

def strings_Fields_hp (_ : AH) : (Sl3 × AH) → AH := fun r => r.2

noncomputable def B105 : Code := (Tryz.f105.body).getD .skip

noncomputable def strings_Fields_b0 (_L : LC) (H : AH) (a0 : ByteArray) : (Int × Int × Int × Int) → Option (Lp (Int × Int × Int × Int) (Sl3 × AH)) := fun (v3_1, v4_2, v5_3, v6_4) =>
  if v6_4 < (a0.size : Int) then
    Option.bind (bytA a0 v6_4) fun x5 =>
    Option.bind (idxR 1 256 (⟨1, 0, none⟩ : Addr) x5) fun p6 =>
    Option.bind (rd (deI .u8) H p6) fun x7 =>
    some (.next ((IntKind.i64.wrap (v3_1 + (iand .i64 v4_2 (ixor .i64 (-1) (IntKind.i64.wrap x7))))), (IntKind.i64.wrap x7), (ior .u8 v5_3 x5), (IntKind.i64.wrap (v6_4 + 1))))
  else
    some (.brk (v3_1, v4_2, v5_3, v6_4))

def strings_Fields_b0_kn (_L : LC) (_H : AH) (a0 : ByteArray) : (Int × Int × Int × Int) → KN := fun (v3_1, v4_2, v5_3, v6_4) => [(3, .val (Value.int .i64 v3_1)), (4, .val (Value.int .i64 v4_2)), (5, .val (Value.int .u8 v5_3)), (6, .val (Value.int .i64 v6_4)), (0, .val (Value.string a0))]

def strings_Fields_b0_ls (_L : LC) (_H : AH) (_a0 : ByteArray) : (Int × Int × Int × Int) → Lcs := fun (_, _, _, _) => []

noncomputable def strings_Fields_b1 (_L : LC) (a0 : ByteArray) (_s12 : Sl3) (H13 : AH) : Int → Option (Lp Int (Sl3 × AH)) := fun v12_14 =>
  if v12_14 < (a0.size : Int) then
    Option.bind (bytA a0 v12_14) fun x15 =>
    Option.bind (idxR 1 256 (⟨1, 0, none⟩ : Addr) x15) fun p16 =>
    Option.bind (rd (deI .u8) H13 p16) fun x17 =>
    if x17 = 0 then
      some (.brk v12_14)
    else
      none
  else
    none

def strings_Fields_b1_kn (_L : LC) (a0 : ByteArray) (s12 : Sl3) (_H13 : AH) : Int → KN := fun v12_14 => [(12, .val (Value.int .i64 v12_14)), (0, .val (Value.string a0)), (9, .val (Sl3.v s12)), (10, .val (Value.int .i64 0))]

def strings_Fields_b1_ls (_L : LC) (_a0 : ByteArray) (_s12 : Sl3) (_H13 : AH) : Int → Lcs := fun _ => []

noncomputable def strings_Fields_b3 (_L : LC) (a0 : ByteArray) (_s12 : Sl3) (_v10_20 : Int) (H28 : AH) : Int → Option (Lp Int (Sl3 × AH)) := fun v12_29 =>
  if v12_29 < (a0.size : Int) then
    Option.bind (bytA a0 v12_29) fun x30 =>
    Option.bind (idxR 1 256 (⟨1, 0, none⟩ : Addr) x30) fun p31 =>
    Option.bind (rd (deI .u8) H28 p31) fun x32 =>
    if x32 = 0 then
      some (.brk v12_29)
    else
      none
  else
    none

def strings_Fields_b3_kn (_L : LC) (a0 : ByteArray) (s12 : Sl3) (v10_20 : Int) (_H28 : AH) : Int → KN := fun v12_29 => [(12, .val (Value.int .i64 v12_29)), (0, .val (Value.string a0)), (9, .val (Sl3.v s12)), (10, .val (Value.int .i64 (IntKind.i64.wrap (v10_20 + 1))))]

def strings_Fields_b3_ls (_L : LC) (_a0 : ByteArray) (_s12 : Sl3) (_v10_20 : Int) (_H28 : AH) : Int → Lcs := fun _ => []

noncomputable def strings_Fields_b2 (L : LC) (m : Nat) (a0 : ByteArray) (s12 : Sl3) : (AH × Int × Int × Int) → Option (Lp (AH × Int × Int × Int) (Sl3 × AH)) := fun (H19, v10_20, v11_21, v12_22) =>
  if v12_22 < (a0.size : Int) then
    Option.bind (bytA a0 v12_22) fun x23 =>
    Option.bind (idxR 1 256 (⟨1, 0, none⟩ : Addr) x23) fun p24 =>
    Option.bind (rd (deI .u8) H19 p24) fun x25 =>
    if x25 = 0 then
      some (.next (H19, v10_20, v11_21, (IntKind.i64.wrap (v12_22 + 1))))
    else
      Option.bind (strC a0 (some v11_21) (some v12_22)) fun s26 =>
      Option.bind (idxA 1 s12 v10_20) fun p27 =>
      Option.bind (H19.setCell m p27 (Value.string s26)) fun H28 =>
      Option.bind (L.run (strings_Fields_b3 L a0 s12 v10_20 H28) (IntKind.i64.wrap (v12_22 + 1))) fun o => match o with
      | .inl v12_33 =>
        some (.next (H28, (IntKind.i64.wrap (v10_20 + 1)), v12_33, v12_33))
      | .inr r => some (.ret r)
  else
    some (.brk (H19, v10_20, v11_21, v12_22))

def strings_Fields_b2_kn (_L : LC) (_m : Nat) (a0 : ByteArray) (s12 : Sl3) : (AH × Int × Int × Int) → KN := fun (_, v10_20, v11_21, v12_22) => [(10, .val (Value.int .i64 v10_20)), (11, .val (Value.int .i64 v11_21)), (12, .val (Value.int .i64 v12_22)), (0, .val (Value.string a0)), (9, .val (Sl3.v s12))]

def strings_Fields_b2_ls (_L : LC) (_m : Nat) (_a0 : ByteArray) (_s12 : Sl3) : (AH × Int × Int × Int) → Lcs := fun (_, _, _, _) => []

noncomputable def strings_Fields (L : LC) (m : Nat) (H : AH) (a0 : ByteArray) : Option (Sl3 × AH) :=
  Option.bind (L.run (strings_Fields_b0 L H a0) (0, 1, 0, 0)) fun o => match o with
  | .inl (v3_8, _, v5_10, _) =>
    if v5_10 ≥ 128 then
      none
    else
      Option.bind (mkS 9 1 16 #[(Value.string (⟨#[]⟩ : ByteArray))] H v3_8 v3_8) fun (s12, H13) =>
      Option.bind (L.run (strings_Fields_b1 L a0 s12 H13) 0) fun o => match o with
      | .inl v12_18 =>
        Option.bind (L.run (strings_Fields_b2 L m a0 s12) (H13, 0, v12_18, v12_18)) fun o => match o with
        | .inl (H34, v10_35, v11_36, _) =>
          if v11_36 < (a0.size : Int) then
            Option.bind (strC a0 (some v11_36) none) fun s38 =>
            Option.bind (idxA 1 s12 v10_35) fun p39 =>
            Option.bind (H34.setCell m p39 (Value.string s38)) fun H40 =>
            some (s12, H40)
          else
            none
        | .inr r => some r
      | .inr r => some r
  | .inr r => some r

theorem strings_Fields_b0_ok {E : Ent} {m : Nat} {L : LC} {H : AH} {a0 : ByteArray}  : ∀ s o, strings_Fields_b0 L H a0 s = some o →
    WS Tryz.prog (NE.plain 92) m E Tryz.f105.ntmps (cfst (cfst (csnd (cfst (csnd (csnd (csnd (csnd B105)))))))) (strings_Fields_b0_kn L H a0 s) (strings_Fields_b0_ls L H a0 s) ((fun _ => H) s) (lpS Tryz.prog (NE.plain 92) m E Tryz.f105.ntmps (strings_Fields_b0_kn L H a0) (strings_Fields_b0_ls L H a0) (fun _ => H) 0 (fun r => RT Tryz.prog (NE.plain 92) m E Tryz.f105 (strings_Fields_enc r) (strings_Fields_hp H r)) o) := by
  rintro ⟨v3_1, v4_2, v5_3, v6_4⟩ o h
  unfold strings_Fields_b0 at h
  try dsimp only at h
  refine WS.sq ?_
  refine WS.sq ?_
  refine WS.rg ?_
  refine RS.mS 4 [(16, .val (Value.bool (decide (v6_4 < (a0.size : Int))))), (15, .val (Value.int .i64 (a0.size : Int))), (14, .val (Value.string a0)), (13, .val (Value.int .i64 v6_4))] ?_
  refine RS.dn ?_
  refine WS.nxt ?_
  rcases ite_some h with ⟨hp, h⟩ | ⟨hp, h⟩
  · refine WS.fx 16 true (decide_eq_true hp) ?_
    refine WS.cT ?_
    refine WS.sk ?_
    refine WS.nxt ?_
    refine WS.sq ?_
    refine WS.bk 1 ?_
    refine WS.sq ?_
    refine WS.rg ?_
    refine RS.mS 2 [(20, .val (Value.int .i64 v6_4)), (19, .val (Value.string a0))] ?_
    obtain ⟨x5, hx, h⟩ := bind_some h
    refine RS.o (H' := H) (some 21) (Value.int .u8 x5) (Abs.run_byt (t := 9) (x := .tmp 19) (y := .tmp 20) (s := a0) (k := .i64) (i := v6_4) (by kernel_rfl) (by kernel_rfl) (by kernel_rfl) (by kernel_rfl) hx) ?_
    refine RS.mS 1 [(7, .val (Value.int .u8 x5))] ?_
    refine RS.dn ?_
    refine WS.nxt ?_
    refine WS.sq ?_
    refine WS.rg ?_
    refine RS.mS 4 [(5, .val (Value.int .u8 (ior .u8 v5_3 x5))), (24, .val (Value.int .u8 (ior .u8 v5_3 x5))), (23, .val (Value.int .u8 x5)), (22, .val (Value.int .u8 v5_3))] ?_
    refine RS.dn ?_
    refine WS.nxt ?_
    refine WS.sq ?_
    refine WS.rg ?_
    refine RS.mS 1 [(25, .val (Value.int .u8 x5))] ?_
    obtain ⟨p6, hx, h⟩ := bind_some h
    refine RS.o (H' := H) (some 26) (Value.pointer (some p6)) (Abs.run_idxR (a := (⟨1, 0, none⟩ : Addr)) (k := .u8) (t := 209) (e := 5) (x := .global 1) (y := .tmp 25) (by kernel_rfl) (by kernel_rfl) (by kernel_rfl) (by kernel_rfl) (by kernel_rfl) hx) ?_
    obtain ⟨x7, hx, h⟩ := bind_some h
    refine RS.o (H' := H) (some 27) (Value.int .u8 x7) (Abs.run_load (t := 5) (x := .tmp 26) (a := p6) (by kernel_rfl) (by kernel_rfl) (by kernel_rfl) (rd_cell hx deI_inv)) ?_
    refine RS.mS 2 [(8, .val (Value.int .i64 (IntKind.i64.wrap x7))), (28, .val (Value.int .i64 (IntKind.i64.wrap x7)))] ?_
    refine RS.dn ?_
    refine WS.nxt ?_
    refine WS.sq ?_
    refine WS.rg ?_
    refine RS.mS 7 [(3, .val (Value.int .i64 (IntKind.i64.wrap (v3_1 + (iand .i64 v4_2 (ixor .i64 (-1) (IntKind.i64.wrap x7))))))), (34, .val (Value.int .i64 (IntKind.i64.wrap (v3_1 + (iand .i64 v4_2 (ixor .i64 (-1) (IntKind.i64.wrap x7))))))), (33, .val (Value.int .i64 (iand .i64 v4_2 (ixor .i64 (-1) (IntKind.i64.wrap x7))))), (32, .val (Value.int .i64 (ixor .i64 (-1) (IntKind.i64.wrap x7)))), (31, .val (Value.int .i64 (IntKind.i64.wrap x7))), (30, .val (Value.int .i64 v4_2)), (29, .val (Value.int .i64 v3_1))] ?_
    refine RS.dn ?_
    refine WS.nxt ?_
    refine WS.rg ?_
    refine RS.mS 2 [(4, .val (Value.int .i64 (IntKind.i64.wrap x7))), (35, .val (Value.int .i64 (IntKind.i64.wrap x7)))] ?_
    refine RS.dn ?_
    refine fun a w hs => bkN ((WS.nxt ?_ a w hs))
    refine WS.rg ?_
    refine RS.mS 3 [(6, .val (Value.int .i64 (IntKind.i64.wrap (v6_4 + 1)))), (18, .val (Value.int .i64 (IntKind.i64.wrap (v6_4 + 1)))), (17, .val (Value.int .i64 v6_4))] ?_
    refine RS.dn ?_
    cases h
    exact fun a w hs => lsN rfl (hs.sb 0)
  · refine WS.fx 16 false (decide_eq_false hp) ?_
    refine WS.cF ?_
    refine WS.ex 0 ?_
    cases h
    exact fun a w hs => sqE (lsB rfl (hs.sb 0))

theorem strings_Fields_b1_ok {E : Ent} {m : Nat} {H : AH} {L : LC} {a0 : ByteArray} {s12 : Sl3} {H13 : AH}  : ∀ s o, strings_Fields_b1 L a0 s12 H13 s = some o →
    WS Tryz.prog (NE.plain 92) m E Tryz.f105.ntmps (cfst (cfst (cfst (csnd (csnd (csnd (csnd (csnd (csnd (csnd (csnd (csnd (csnd B105))))))))))))) (strings_Fields_b1_kn L a0 s12 H13 s) (strings_Fields_b1_ls L a0 s12 H13 s) ((fun _ => H13) s) (lpS Tryz.prog (NE.plain 92) m E Tryz.f105.ntmps (strings_Fields_b1_kn L a0 s12 H13) (strings_Fields_b1_ls L a0 s12 H13) (fun _ => H13) 2 (fun r => RT Tryz.prog (NE.plain 92) m E Tryz.f105 (strings_Fields_enc r) (strings_Fields_hp H r)) o) := by
  rintro v12_14 o h
  unfold strings_Fields_b1 at h
  try dsimp only at h
  refine WS.sq ?_
  refine WS.sq ?_
  refine WS.rg ?_
  refine RS.mS 5 [(46, .val (Value.bool (decide (v12_14 < (a0.size : Int))))), (45, .val (Value.bool (decide (v12_14 < (a0.size : Int))))), (44, .val (Value.int .i64 (a0.size : Int))), (43, .val (Value.string a0)), (42, .val (Value.int .i64 v12_14))] ?_
  rcases ite_some h with ⟨hp, h⟩ | ⟨hp, h⟩
  · refine RS.fx 46 true (decide_eq_true hp) ?_
    refine RS.mS 2 [(48, .val (Value.int .i64 v12_14)), (47, .val (Value.string a0))] ?_
    obtain ⟨x15, hx, h⟩ := bind_some h
    refine RS.o (H' := H13) (some 49) (Value.int .u8 x15) (Abs.run_byt (t := 9) (x := .tmp 47) (y := .tmp 48) (s := a0) (k := .i64) (i := v12_14) (by kernel_rfl) (by kernel_rfl) (by kernel_rfl) (by kernel_rfl) hx) ?_
    obtain ⟨p16, hx, h⟩ := bind_some h
    refine RS.o (H' := H13) (some 50) (Value.pointer (some p16)) (Abs.run_idxR (a := (⟨1, 0, none⟩ : Addr)) (k := .u8) (t := 209) (e := 5) (x := .global 1) (y := .tmp 49) (by kernel_rfl) (by kernel_rfl) (by kernel_rfl) (by kernel_rfl) (by kernel_rfl) hx) ?_
    obtain ⟨x17, hx, h⟩ := bind_some h
    refine RS.o (H' := H13) (some 51) (Value.int .u8 x17) (Abs.run_load (t := 5) (x := .tmp 50) (a := p16) (by kernel_rfl) (by kernel_rfl) (by kernel_rfl) (rd_cell hx deI_inv)) ?_
    refine RS.mS 2 [(53, .val (Value.bool (!decide (x17 = 0)))), (52, .val (Value.bool (!decide (x17 = 0))))] ?_
    refine RS.dn ?_
    refine WS.nxt ?_
    rcases ite_some h with ⟨hp, h⟩ | ⟨hp, h⟩
    · refine WS.fx 53 false (dec_not hp) ?_
      refine WS.cF ?_
      refine WS.ex 2 ?_
      cases h
      exact fun a w hs => sqE (lsB rfl (hs.sb 0))
    · refine WS.fx 53 true (dec_not' hp) ?_
      refine WS.cT ?_
      cases h
  · refine RS.fx 46 false (decide_eq_false hp) ?_
    cases h

theorem strings_Fields_b3_ok {E : Ent} {m : Nat} {H : AH} {L : LC} {a0 : ByteArray} {s12 : Sl3} {v10_20 : Int} {H28 : AH}  : ∀ s o, strings_Fields_b3 L a0 s12 v10_20 H28 s = some o →
    WS Tryz.prog (NE.plain 92) m E Tryz.f105.ntmps (cfst (cfst (cfst (csnd (csnd (csnd (csnd (cfst (csnd (cfst (cfst (cfst (csnd (csnd (csnd (csnd (csnd (csnd (csnd (csnd (csnd (csnd (csnd (csnd B105)))))))))))))))))))))))) (strings_Fields_b3_kn L a0 s12 v10_20 H28 s) (strings_Fields_b3_ls L a0 s12 v10_20 H28 s) ((fun _ => H28) s) (lpS Tryz.prog (NE.plain 92) m E Tryz.f105.ntmps (strings_Fields_b3_kn L a0 s12 v10_20 H28) (strings_Fields_b3_ls L a0 s12 v10_20 H28) (fun _ => H28) 6 (fun r => RT Tryz.prog (NE.plain 92) m E Tryz.f105 (strings_Fields_enc r) (strings_Fields_hp H r)) o) := by
  rintro v12_29 o h
  unfold strings_Fields_b3 at h
  try dsimp only at h
  refine WS.sq ?_
  refine WS.sq ?_
  refine WS.rg ?_
  refine RS.mS 5 [(84, .val (Value.bool (decide (v12_29 < (a0.size : Int))))), (83, .val (Value.bool (decide (v12_29 < (a0.size : Int))))), (82, .val (Value.int .i64 (a0.size : Int))), (81, .val (Value.string a0)), (80, .val (Value.int .i64 v12_29))] ?_
  rcases ite_some h with ⟨hp, h⟩ | ⟨hp, h⟩
  · refine RS.fx 84 true (decide_eq_true hp) ?_
    refine RS.mS 2 [(86, .val (Value.int .i64 v12_29)), (85, .val (Value.string a0))] ?_
    obtain ⟨x30, hx, h⟩ := bind_some h
    refine RS.o (H' := H28) (some 87) (Value.int .u8 x30) (Abs.run_byt (t := 9) (x := .tmp 85) (y := .tmp 86) (s := a0) (k := .i64) (i := v12_29) (by kernel_rfl) (by kernel_rfl) (by kernel_rfl) (by kernel_rfl) hx) ?_
    obtain ⟨p31, hx, h⟩ := bind_some h
    refine RS.o (H' := H28) (some 88) (Value.pointer (some p31)) (Abs.run_idxR (a := (⟨1, 0, none⟩ : Addr)) (k := .u8) (t := 209) (e := 5) (x := .global 1) (y := .tmp 87) (by kernel_rfl) (by kernel_rfl) (by kernel_rfl) (by kernel_rfl) (by kernel_rfl) hx) ?_
    obtain ⟨x32, hx, h⟩ := bind_some h
    refine RS.o (H' := H28) (some 89) (Value.int .u8 x32) (Abs.run_load (t := 5) (x := .tmp 88) (a := p31) (by kernel_rfl) (by kernel_rfl) (by kernel_rfl) (rd_cell hx deI_inv)) ?_
    refine RS.mS 2 [(91, .val (Value.bool (!decide (x32 = 0)))), (90, .val (Value.bool (!decide (x32 = 0))))] ?_
    refine RS.dn ?_
    refine WS.nxt ?_
    rcases ite_some h with ⟨hp, h⟩ | ⟨hp, h⟩
    · refine WS.fx 91 false (dec_not hp) ?_
      refine WS.cF ?_
      refine WS.ex 6 ?_
      cases h
      exact fun a w hs => sqE (lsB rfl (hs.sb 0))
    · refine WS.fx 91 true (dec_not' hp) ?_
      refine WS.cT ?_
      cases h
  · refine RS.fx 84 false (decide_eq_false hp) ?_
    cases h

theorem strings_Fields_b2_ok {E : Ent} {H : AH} {L : LC} {m : Nat} {a0 : ByteArray} {s12 : Sl3}  : ∀ s o, strings_Fields_b2 L m a0 s12 s = some o →
    WS Tryz.prog (NE.plain 92) m E Tryz.f105.ntmps (cfst (cfst (cfst (csnd (csnd (csnd (csnd (csnd (csnd (csnd (csnd (csnd (csnd (csnd (csnd B105))))))))))))))) (strings_Fields_b2_kn L m a0 s12 s) (strings_Fields_b2_ls L m a0 s12 s) ((fun s => s.1) s) (lpS Tryz.prog (NE.plain 92) m E Tryz.f105.ntmps (strings_Fields_b2_kn L m a0 s12) (strings_Fields_b2_ls L m a0 s12) (fun s => s.1) 4 (fun r => RT Tryz.prog (NE.plain 92) m E Tryz.f105 (strings_Fields_enc r) (strings_Fields_hp H r)) o) := by
  rintro ⟨H19, v10_20, v11_21, v12_22⟩ o h
  unfold strings_Fields_b2 at h
  try dsimp only at h
  refine WS.sq ?_
  refine WS.sq ?_
  refine WS.rg ?_
  refine RS.mS 4 [(60, .val (Value.bool (decide (v12_22 < (a0.size : Int))))), (59, .val (Value.int .i64 (a0.size : Int))), (58, .val (Value.string a0)), (57, .val (Value.int .i64 v12_22))] ?_
  refine RS.dn ?_
  refine WS.nxt ?_
  rcases ite_some h with ⟨hp, h⟩ | ⟨hp, h⟩
  · refine WS.fx 60 true (decide_eq_true hp) ?_
    refine WS.cT ?_
    refine WS.sk ?_
    refine WS.nxt ?_
    refine WS.bk 5 ?_
    refine WS.sq ?_
    refine WS.sq ?_
    refine WS.rg ?_
    refine RS.mS 2 [(62, .val (Value.int .i64 v12_22)), (61, .val (Value.string a0))] ?_
    obtain ⟨x23, hx, h⟩ := bind_some h
    refine RS.o (H' := H19) (some 63) (Value.int .u8 x23) (Abs.run_byt (t := 9) (x := .tmp 61) (y := .tmp 62) (s := a0) (k := .i64) (i := v12_22) (by kernel_rfl) (by kernel_rfl) (by kernel_rfl) (by kernel_rfl) hx) ?_
    obtain ⟨p24, hx, h⟩ := bind_some h
    refine RS.o (H' := H19) (some 64) (Value.pointer (some p24)) (Abs.run_idxR (a := (⟨1, 0, none⟩ : Addr)) (k := .u8) (t := 209) (e := 5) (x := .global 1) (y := .tmp 63) (by kernel_rfl) (by kernel_rfl) (by kernel_rfl) (by kernel_rfl) (by kernel_rfl) hx) ?_
    obtain ⟨x25, hx, h⟩ := bind_some h
    refine RS.o (H' := H19) (some 65) (Value.int .u8 x25) (Abs.run_load (t := 5) (x := .tmp 64) (a := p24) (by kernel_rfl) (by kernel_rfl) (by kernel_rfl) (rd_cell hx deI_inv)) ?_
    refine RS.mS 1 [(66, .val (Value.bool (decide (x25 = 0))))] ?_
    refine RS.dn ?_
    refine WS.nxt ?_
    rcases ite_some h with ⟨hp, h⟩ | ⟨hp, h⟩
    · refine WS.fx 66 true (decide_eq_true hp) ?_
      refine WS.cT ?_
      refine WS.sq ?_
      refine WS.rg ?_
      refine RS.mS 3 [(12, .val (Value.int .i64 (IntKind.i64.wrap (v12_22 + 1)))), (68, .val (Value.int .i64 (IntKind.i64.wrap (v12_22 + 1)))), (67, .val (Value.int .i64 v12_22))] ?_
      refine RS.dn ?_
      refine WS.nxt ?_
      refine WS.ex 5 ?_
      cases h
      exact fun a w hs => sqE (bkE (lsN rfl (hs.sb 0)))
    · refine WS.fx 66 false (decide_eq_false hp) ?_
      refine WS.cF ?_
      refine WS.sk ?_
      refine WS.nxt ?_
      refine WS.sq ?_
      refine WS.rg ?_
      refine RS.mS 5 [(73, .val (Value.int .i64 v12_22)), (72, .val (Value.int .i64 v11_21)), (71, .val (Value.string a0)), (70, .val (Value.int .i64 v10_20)), (69, .val (Sl3.v s12))] ?_
      obtain ⟨s26, hx, h⟩ := bind_some h
      refine RS.o (H' := H19) (some 74) (Value.string s26) (Abs.run_strC (t := 9) (x := .tmp 71) (lo := (some (.tmp 72))) (hi := (some (.tmp 73))) (s := a0) (k1 := .i64) (k2 := .i64) (by kernel_rfl) (by kernel_rfl) (by kernel_rfl) (by kernel_rfl) (by kernel_rfl) hx) ?_
      obtain ⟨p27, hx, h⟩ := bind_some h
      refine RS.o (H' := H19) (some 75) (Value.pointer (some p27)) (Abs.run_idx (s := s12) (k := .i64) (t := 37) (e := 9) (x := .tmp 69) (y := .tmp 70) (by kernel_rfl) (by kernel_rfl) (by kernel_rfl) (by kernel_rfl) (by kernel_rfl) hx) ?_
      obtain ⟨H28, hx, h⟩ := bind_some h
      refine RS.o (H' := H28) none undef (Abs.run_store1 (t := 9) (x := .tmp 75) (y := .tmp 74) (a := p27) (v := (Value.string s26)) (by kernel_rfl) (by kernel_rfl) (by kernel_rfl) (by kernel_rfl) (by kernel_rfl) hx) ?_
      refine RS.dn ?_
      refine WS.nxt ?_
      refine WS.sq ?_
      refine WS.rg ?_
      refine RS.mS 3 [(10, .val (Value.int .i64 (IntKind.i64.wrap (v10_20 + 1)))), (77, .val (Value.int .i64 (IntKind.i64.wrap (v10_20 + 1)))), (76, .val (Value.int .i64 v10_20))] ?_
      refine RS.dn ?_
      refine WS.nxt ?_
      refine WS.sq ?_
      refine WS.rg ?_
      refine RS.mS 3 [(12, .val (Value.int .i64 (IntKind.i64.wrap (v12_22 + 1)))), (79, .val (Value.int .i64 (IntKind.i64.wrap (v12_22 + 1)))), (78, .val (Value.int .i64 v12_22))] ?_
      refine RS.dn ?_
      refine WS.nxt ?_
      refine WS.sq ?_
      refine WS.bk 6 ?_
      obtain ⟨o, hl, h⟩ := bind_some h
      rcases o with v12_33 | r
      · try dsimp only at h
        refine WS.lI (strings_Fields_b3_ok (L := L) (E := E) (m := m) (H := H)) (L.ok hl) 0 ?_
        clear hl
        refine fun a w hs => bkE ((WS.nxt ?_ a w hs))
        refine WS.rg ?_
        refine RS.mS 2 [(11, .val (Value.int .i64 v12_33)), (94, .val (Value.int .i64 v12_33))] ?_
        refine RS.dn ?_
        cases h
        exact fun a w hs => bkN (lsN rfl (hs.sb 0))
      · try dsimp only at h
        refine WS.lR (strings_Fields_b3_ok (L := L) (E := E) (m := m) (H := H)) (L.ok hl) 0 ?_
        cases h
        exact fun a w hq => bkR (sqR (bkR (lsR rfl hq)))
  · refine WS.fx 60 false (decide_eq_false hp) ?_
    refine WS.cF ?_
    refine WS.ex 4 ?_
    cases h
    exact fun a w hs => sqE (lsB rfl (hs.sb 0))

theorem strings_Fields_ok {L : LC} {m : Nat} {H : AH} {a0 : ByteArray} {r : (Sl3 × AH)} (h : strings_Fields L m H a0 = some r) :
    CallS Tryz.prog (NE.plain 92) m 105 #[(Value.string a0)] H (strings_Fields_enc r) (strings_Fields_hp H r) := by
  refine CallS.mk (args := [(Value.string a0)]) Tryz.func105 (B := B105) (by kernel_rfl) (fun E _ => ?_)
  unfold strings_Fields at h
  refine WS.sq ?_
  refine WS.rg ?_
  refine RS.mS 1 [(2, .val (Sl3.v Sl3.nil))] ?_
  refine RS.dn ?_
  refine WS.nxt ?_
  refine WS.sq ?_
  refine WS.rg ?_
  refine RS.mS 1 [(3, .val (Value.int .i64 0))] ?_
  refine RS.dn ?_
  refine WS.nxt ?_
  refine WS.sq ?_
  refine WS.rg ?_
  refine RS.mS 1 [(4, .val (Value.int .i64 1))] ?_
  refine RS.dn ?_
  refine WS.nxt ?_
  refine WS.sq ?_
  refine WS.rg ?_
  refine RS.mS 1 [(5, .val (Value.int .u8 0))] ?_
  refine RS.dn ?_
  refine WS.nxt ?_
  refine WS.sq ?_
  refine WS.sq ?_
  refine WS.rg ?_
  refine RS.mS 1 [(6, .val (Value.int .i64 0))] ?_
  refine RS.dn ?_
  refine WS.nxt ?_
  refine WS.bk 0 ?_
  obtain ⟨o, hl, h⟩ := bind_some h
  rcases o with ⟨v3_8, v4_9, v5_10, v6_11⟩ | r
  · try dsimp only at h
    refine WS.lI (strings_Fields_b0_ok (L := L) (E := E) (m := m) (H := H)) (L.ok hl) 0 ?_
    clear hl
    refine fun a w hs => bkE ((WS.nxt ?_ a w hs))
    refine WS.sq ?_
    refine WS.sq ?_
    refine WS.rg ?_
    refine RS.mS 2 [(37, .val (Value.bool (decide (v5_10 ≥ 128)))), (36, .val (Value.int .u8 v5_10))] ?_
    refine RS.dn ?_
    refine WS.nxt ?_
    rcases ite_some h with ⟨hp, h⟩ | ⟨hp, h⟩
    · refine WS.fx 37 true (decide_eq_true hp) ?_
      refine WS.cT ?_
      cases h
    · refine WS.fx 37 false (decide_eq_false hp) ?_
      refine WS.cF ?_
      refine WS.sk ?_
      refine WS.nxt ?_
      refine WS.sq ?_
      refine WS.rg ?_
      refine RS.mS 1 [(40, .val (Value.int .i64 v3_8))] ?_
      obtain ⟨⟨s12, H13⟩, hx, h⟩ := bind_some h
      try dsimp only at h
      refine RS.o (H' := H13) (some 41) (Sl3.v s12) (Abs.run_mk (t := 37) (x := .tmp 40) (y := .tmp 40) (k1 := .i64) (k2 := .i64) (by kernel_rfl) (by kernel_rfl) (by kernel_rfl) (by kernel_rfl) hx) ?_
      refine RS.mS 1 [(9, .val (Sl3.v s12))] ?_
      refine RS.dn ?_
      refine WS.nxt ?_
      refine WS.sq ?_
      refine WS.rg ?_
      refine RS.mS 1 [(10, .val (Value.int .i64 0))] ?_
      refine RS.dn ?_
      refine WS.nxt ?_
      refine WS.sq ?_
      refine WS.rg ?_
      refine RS.mS 1 [(11, .val (Value.int .i64 0))] ?_
      refine RS.dn ?_
      refine WS.nxt ?_
      refine WS.sq ?_
      refine WS.rg ?_
      refine RS.mS 1 [(12, .val (Value.int .i64 0))] ?_
      refine RS.dn ?_
      refine WS.nxt ?_
      refine WS.sq ?_
      refine WS.bk 2 ?_
      obtain ⟨o, hl, h⟩ := bind_some h
      rcases o with v12_18 | r
      · try dsimp only at h
        refine WS.lI (strings_Fields_b1_ok (L := L) (E := E) (m := m) (H := H)) (L.ok hl) 0 ?_
        clear hl
        refine fun a w hs => bkE ((WS.nxt ?_ a w hs))
        refine WS.sq ?_
        refine WS.rg ?_
        refine RS.mS 2 [(11, .val (Value.int .i64 v12_18)), (56, .val (Value.int .i64 v12_18))] ?_
        refine RS.dn ?_
        refine WS.nxt ?_
        refine WS.sq ?_
        refine WS.bk 4 ?_
        obtain ⟨o, hl, h⟩ := bind_some h
        rcases o with ⟨H34, v10_35, v11_36, v12_37⟩ | r
        · try dsimp only at h
          refine WS.lI (strings_Fields_b2_ok (L := L) (E := E) (m := m) (H := H)) (L.ok hl) 0 ?_
          clear hl
          refine fun a w hs => bkE ((WS.nxt ?_ a w hs))
          refine WS.sq ?_
          refine WS.sq ?_
          refine WS.rg ?_
          refine RS.mS 4 [(98, .val (Value.bool (decide (v11_36 < (a0.size : Int))))), (97, .val (Value.int .i64 (a0.size : Int))), (96, .val (Value.string a0)), (95, .val (Value.int .i64 v11_36))] ?_
          refine RS.dn ?_
          refine WS.nxt ?_
          rcases ite_some h with ⟨hp, h⟩ | ⟨hp, h⟩
          · refine WS.fx 98 true (decide_eq_true hp) ?_
            refine WS.cT ?_
            refine WS.rg ?_
            refine RS.mS 4 [(102, .val (Value.int .i64 v11_36)), (101, .val (Value.string a0)), (100, .val (Value.int .i64 v10_35)), (99, .val (Sl3.v s12))] ?_
            obtain ⟨s38, hx, h⟩ := bind_some h
            refine RS.o (H' := H34) (some 103) (Value.string s38) (Abs.run_strC (t := 9) (x := .tmp 101) (lo := (some (.tmp 102))) (hi := none) (s := a0) (k1 := .i64) (k2 := .i64) (by kernel_rfl) (by kernel_rfl) (by kernel_rfl) (by kernel_rfl) (by kernel_rfl) hx) ?_
            obtain ⟨p39, hx, h⟩ := bind_some h
            refine RS.o (H' := H34) (some 104) (Value.pointer (some p39)) (Abs.run_idx (s := s12) (k := .i64) (t := 37) (e := 9) (x := .tmp 99) (y := .tmp 100) (by kernel_rfl) (by kernel_rfl) (by kernel_rfl) (by kernel_rfl) (by kernel_rfl) hx) ?_
            obtain ⟨H40, hx, h⟩ := bind_some h
            refine RS.o (H' := H40) none undef (Abs.run_store1 (t := 9) (x := .tmp 104) (y := .tmp 103) (a := p39) (v := (Value.string s38)) (by kernel_rfl) (by kernel_rfl) (by kernel_rfl) (by kernel_rfl) (by kernel_rfl) hx) ?_
            refine RS.dn ?_
            refine WS.nxt ?_
            refine WS.sq ?_
            refine WS.rg ?_
            refine RS.mS 2 [(2, .val (Sl3.v s12)), (105, .val (Sl3.v s12))] ?_
            refine RS.dn ?_
            refine WS.nxt ?_
            refine WS.rt ?_
            cases h
            exact fun a w hs => rtR (rS hs)
          · refine WS.fx 98 false (decide_eq_false hp) ?_
            refine WS.cF ?_
            cases h
        · try dsimp only at h
          refine WS.lR (strings_Fields_b2_ok (L := L) (E := E) (m := m) (H := H)) (L.ok hl) 0 ?_
          cases h
          exact fun a w hq => bkR (sqR (rtR hq))
      · try dsimp only at h
        refine WS.lR (strings_Fields_b1_ok (L := L) (E := E) (m := m) (H := H)) (L.ok hl) 0 ?_
        cases h
        exact fun a w hq => bkR (sqR (rtR hq))
  · try dsimp only at h
    refine WS.lR (strings_Fields_b0_ok (L := L) (E := E) (m := m) (H := H)) (L.ok hl) 0 ?_
    cases h
    exact fun a w hq => bkR (sqR (rtR hq))

def slices_Index_154_enc : Int → Value
  | r0 => (Value.int .i64 r0)

def slices_Index_154_hp (H : AH) : Int → AH := fun _ => H

noncomputable def B154 : Code := (Tryz.f154.body).getD .skip

noncomputable def slices_Index_154_b0 (_L : LC) (H : AH) (a0 : Sl3) (a1 : ByteArray) : Int → Option (Lp Int Int) := fun v8_1 =>
  if v8_1 < (a0.n : Int) then
    Option.bind (idxA 1 a0 v8_1) fun p2 =>
    Option.bind (rd deS H p2) fun x3 =>
    if (a1.toList == x3.toList) = true then
      none
    else
      some (.next (IntKind.i64.wrap (v8_1 + 1)))
  else
    some (.brk v8_1)

def slices_Index_154_b0_kn (_L : LC) (_H : AH) (a0 : Sl3) (a1 : ByteArray) : Int → KN := fun v8_1 => [(8, .val (Value.int .i64 v8_1)), (0, .val (Sl3.v a0)), (1, .val (Value.string a1)), (7, .val (Value.int .i64 (a0.n : Int)))]

def slices_Index_154_b0_ls (_L : LC) (_H : AH) (_a0 : Sl3) (_a1 : ByteArray) : Int → Lcs := fun _ => []

noncomputable def slices_Index_154 (L : LC) (H : AH) (a0 : Sl3) (a1 : ByteArray) : Option Int :=
  Option.bind (L.run (slices_Index_154_b0 L H a0 a1) 0) fun o => match o with
  | .inl _ =>
    some (-1)
  | .inr r => some r

theorem slices_Index_154_b0_ok {E : Ent} {m : Nat} {L : LC} {H : AH} {a0 : Sl3} {a1 : ByteArray}  : ∀ s o, slices_Index_154_b0 L H a0 a1 s = some o →
    WS Tryz.prog (NE.plain 92) m E Tryz.f154.ntmps (cfst (cfst (csnd (cfst (csnd B154))))) (slices_Index_154_b0_kn L H a0 a1 s) (slices_Index_154_b0_ls L H a0 a1 s) ((fun _ => H) s) (lpS Tryz.prog (NE.plain 92) m E Tryz.f154.ntmps (slices_Index_154_b0_kn L H a0 a1) (slices_Index_154_b0_ls L H a0 a1) (fun _ => H) 0 (fun r => RT Tryz.prog (NE.plain 92) m E Tryz.f154 (slices_Index_154_enc r) (slices_Index_154_hp H r)) o) := by
  rintro v8_1 o h
  unfold slices_Index_154_b0 at h
  try dsimp only at h
  refine WS.sq ?_
  refine WS.rg ?_
  refine RS.mS 1 [(9, .val (Value.bool (decide (v8_1 < (a0.n : Int)))))] ?_
  refine RS.dn ?_
  refine WS.nxt ?_
  refine WS.sq ?_
  rcases ite_some h with ⟨hp, h⟩ | ⟨hp, h⟩
  · refine WS.fx 9 true (decide_eq_true hp) ?_
    refine WS.cT ?_
    refine WS.sk ?_
    refine WS.nxt ?_
    refine WS.sq ?_
    refine WS.bk 1 ?_
    refine WS.sq ?_
    refine WS.rg ?_
    refine RS.mS 2 [(5, .val (Value.int .i64 v8_1)), (10, .val (Value.int .i64 v8_1))] ?_
    refine RS.dn ?_
    refine WS.nxt ?_
    refine WS.sq ?_
    refine WS.rg ?_
    refine RS.mS 3 [(13, .val (Value.int .i64 v8_1)), (12, .val (Sl3.v a0)), (11, .val (Value.string a1))] ?_
    obtain ⟨p2, hx, h⟩ := bind_some h
    refine RS.o (H' := H) (some 14) (Value.pointer (some p2)) (Abs.run_idx (s := a0) (k := .i64) (t := 37) (e := 9) (x := .tmp 12) (y := .tmp 13) (by kernel_rfl) (by kernel_rfl) (by kernel_rfl) (by kernel_rfl) (by kernel_rfl) hx) ?_
    obtain ⟨x3, hx, h⟩ := bind_some h
    refine RS.o (H' := H) (some 15) (Value.string x3) (Abs.run_load (t := 9) (x := .tmp 14) (a := p2) (by kernel_rfl) (by kernel_rfl) (by kernel_rfl) (rd_cell hx deS_inv)) ?_
    refine RS.mS 1 [(16, .val (Value.bool (a1.toList == x3.toList)))] ?_
    refine RS.dn ?_
    refine WS.nxt ?_
    rcases ite_some h with ⟨hp, h⟩ | ⟨hp, h⟩
    · refine WS.fx 16 true hp ?_
      refine WS.cT ?_
      cases h
    · refine WS.fx 16 false (b_not hp) ?_
      refine WS.cF ?_
      refine WS.sk ?_
      refine fun a w hs => bkN ((WS.nxt ?_ a w hs))
      refine WS.rg ?_
      refine RS.mS 2 [(8, .val (Value.int .i64 (IntKind.i64.wrap (v8_1 + 1)))), (18, .val (Value.int .i64 (IntKind.i64.wrap (v8_1 + 1))))] ?_
      refine RS.dn ?_
      cases h
      exact fun a w hs => lsN rfl (hs.sb 0)
  · refine WS.fx 9 false (decide_eq_false hp) ?_
    refine WS.cF ?_
    refine WS.ex 0 ?_
    cases h
    exact fun a w hs => sqE (lsB rfl (hs.sb 0))

theorem slices_Index_154_ok {L : LC} {m : Nat} {H : AH} {a0 : Sl3} {a1 : ByteArray} {r : Int} (h : slices_Index_154 L H a0 a1 = some r) :
    CallS Tryz.prog (NE.plain 92) m 154 #[(Sl3.v a0), (Value.string a1)] H (slices_Index_154_enc r) (slices_Index_154_hp H r) := by
  refine CallS.mk (args := [(Sl3.v a0), (Value.string a1)]) Tryz.func154 (B := B154) (by kernel_rfl) (fun E _ => ?_)
  unfold slices_Index_154 at h
  refine WS.sq ?_
  refine WS.rg ?_
  refine RS.mS 1 [(4, .val (Value.int .i64 0))] ?_
  refine RS.dn ?_
  refine WS.nxt ?_
  refine WS.sq ?_
  refine WS.sq ?_
  refine WS.rg ?_
  refine RS.mS 3 [(8, .val (Value.int .i64 0)), (7, .val (Value.int .i64 (a0.n : Int))), (6, .val (Sl3.v a0))] ?_
  refine RS.dn ?_
  refine WS.nxt ?_
  refine WS.bk 0 ?_
  obtain ⟨o, hl, h⟩ := bind_some h
  rcases o with v8_4 | r
  · try dsimp only at h
    refine WS.lI (slices_Index_154_b0_ok (L := L) (E := E) (m := m) (H := H)) (L.ok hl) 0 ?_
    clear hl
    refine fun a w hs => bkE ((WS.nxt ?_ a w hs))
    refine WS.sq ?_
    refine WS.rg ?_
    refine RS.mS 1 [(4, .val (Value.int .i64 (-1)))] ?_
    refine RS.dn ?_
    refine WS.nxt ?_
    refine WS.rt ?_
    cases h
    exact fun a w hs => rtR (rS hs)
  · try dsimp only at h
    refine WS.lR (slices_Index_154_b0_ok (L := L) (E := E) (m := m) (H := H)) (L.ok hl) 0 ?_
    cases h
    exact fun a w hq => bkR (sqR (rtR hq))

def slices_Contains_145_enc : Bool → Value
  | r0 => (Value.bool r0)

def slices_Contains_145_hp (H : AH) : Bool → AH := fun _ => H

noncomputable def B145 : Code := (Tryz.f145.body).getD .skip

noncomputable def slices_Contains_145 (L : LC) (H : AH) (a0 : Sl3) (a1 : ByteArray) : Option Bool :=
  Option.bind (slices_Index_154 L H a0 a1) fun x1 =>
  some (decide (x1 ≥ 0))

theorem slices_Contains_145_ok {L : LC} {m : Nat} {H : AH} {a0 : Sl3} {a1 : ByteArray} {r : Bool} (h : slices_Contains_145 L H a0 a1 = some r) :
    CallS Tryz.prog (NE.plain 92) m 145 #[(Sl3.v a0), (Value.string a1)] H (slices_Contains_145_enc r) (slices_Contains_145_hp H r) := by
  refine CallS.mk (args := [(Sl3.v a0), (Value.string a1)]) Tryz.func145 (B := B145) (by kernel_rfl) (fun E _ => ?_)
  unfold slices_Contains_145 at h
  refine WS.sq ?_
  refine WS.rg ?_
  refine RS.mS 1 [(4, .val (Value.bool false))] ?_
  refine RS.dn ?_
  refine WS.nxt ?_
  refine WS.sq ?_
  refine WS.rg ?_
  refine RS.mS 2 [(6, .val (Value.string a1)), (5, .val (Sl3.v a0))] ?_
  obtain ⟨x1, hx, h⟩ := bind_some h
  refine RS.cl (some 7) (v := (Value.int .i64 x1)) 154 #[(Sl3.v a0), (Value.string a1)] (slices_Index_154_ok hx) ?_
  refine RS.mS 2 [(4, .val (Value.bool (decide (x1 ≥ 0)))), (8, .val (Value.bool (decide (x1 ≥ 0))))] ?_
  refine RS.dn ?_
  refine WS.nxt ?_
  refine WS.rt ?_
  cases h
  exact fun a w hs => rtR (rS hs)

def sort_reserved_enc : (Bool × AH) → Value
  | (r0, _) => (Value.bool r0)

def sort_reserved_hp (_ : AH) : (Bool × AH) → AH := fun r => r.2

noncomputable def B124 : Code := (Tryz.f124.body).getD .skip

noncomputable def sort_reserved (L : LC) (m : Nat) (H : AH) (a0 : ByteArray) : Option (Bool × AH) :=
  Option.bind (strings_Fields L m H (⟨#[33, 32, 95, 32, 97, 115, 32, 66, 73, 78, 65, 82, 89, 32, 68, 69, 67, 73, 77, 65, 76, 32, 101, 120, 105, 115, 116, 115, 32, 102, 111, 114, 97, 108, 108, 32, 72, 69, 88, 65, 68, 69, 67, 73, 77, 65, 76, 32, 108, 101, 116, 32, 109, 97, 116, 99, 104, 32, 78, 85, 77, 69, 82, 65, 76, 32, 112, 97, 114, 32, 83, 84, 82, 73, 78, 71, 32, 97, 115, 115, 101, 114, 116, 32, 99, 104, 101, 99, 107, 45, 115, 97, 116, 32, 99, 104, 101, 99, 107, 45, 115, 97, 116, 45, 97, 115, 115, 117, 109, 105, 110, 103, 32, 100, 101, 99, 108, 97, 114, 101, 45, 99, 111, 110, 115, 116, 32, 100, 101, 99, 108, 97, 114, 101, 45, 100, 97, 116, 97, 116, 121, 112, 101, 32, 100, 101, 99, 108, 97, 114, 101, 45, 100, 97, 116, 97, 116, 121, 112, 101, 115, 32, 100, 101, 99, 108, 97, 114, 101, 45, 102, 117, 110, 32, 100, 101, 99, 108, 97, 114, 101, 45, 115, 111, 114, 116, 32, 100, 101, 102, 105, 110, 101, 45, 102, 117, 110, 32, 100, 101, 102, 105, 110, 101, 45, 115, 111, 114, 116, 32, 101, 99, 104, 111, 32, 101, 120, 105, 116, 32, 103, 101, 116, 45, 97, 115, 115, 101, 114, 116, 105, 111, 110, 115, 32, 103, 101, 116, 45, 105, 110, 102, 111, 32, 103, 101, 116, 45, 109, 111, 100, 101, 108, 32, 103, 101, 116, 45, 118, 97, 108, 117, 101, 32, 112, 111, 112, 32, 112, 117, 115, 104, 32, 114, 101, 115, 101, 116, 32, 114, 101, 115, 101, 116, 45, 97, 115, 115, 101, 114, 116, 105, 111, 110, 115, 32, 115, 101, 116, 45, 105, 110, 102, 111, 32, 115, 101, 116, 45, 108, 111, 103, 105, 99, 32, 115, 101, 116, 45, 111, 112, 116, 105, 111, 110]⟩ : ByteArray)) fun (x1, H2) =>
  Option.bind (slices_Contains_145 L H2 x1 a0) fun x3 =>
  some (x3, H2)

theorem sort_reserved_ok {L : LC} {m : Nat} {H : AH} {a0 : ByteArray} {r : (Bool × AH)} (h : sort_reserved L m H a0 = some r) :
    CallS Tryz.prog (NE.plain 92) m 124 #[(Value.string a0)] H (sort_reserved_enc r) (sort_reserved_hp H r) := by
  refine CallS.mk (args := [(Value.string a0)]) Tryz.func124 (B := B124) (by kernel_rfl) (fun E _ => ?_)
  unfold sort_reserved at h
  refine WS.sq ?_
  refine WS.rg ?_
  refine RS.mS 1 [(2, .val (Value.bool false))] ?_
  refine RS.dn ?_
  refine WS.nxt ?_
  refine WS.sq ?_
  refine WS.rg ?_
  refine RS.mS 1 [(3, .val (Value.string (⟨#[33, 32, 95, 32, 97, 115, 32, 66, 73, 78, 65, 82, 89, 32, 68, 69, 67, 73, 77, 65, 76, 32, 101, 120, 105, 115, 116, 115, 32, 102, 111, 114, 97, 108, 108, 32, 72, 69, 88, 65, 68, 69, 67, 73, 77, 65, 76, 32, 108, 101, 116, 32, 109, 97, 116, 99, 104, 32, 78, 85, 77, 69, 82, 65, 76, 32, 112, 97, 114, 32, 83, 84, 82, 73, 78, 71, 32, 97, 115, 115, 101, 114, 116, 32, 99, 104, 101, 99, 107, 45, 115, 97, 116, 32, 99, 104, 101, 99, 107, 45, 115, 97, 116, 45, 97, 115, 115, 117, 109, 105, 110, 103, 32, 100, 101, 99, 108, 97, 114, 101, 45, 99, 111, 110, 115, 116, 32, 100, 101, 99, 108, 97, 114, 101, 45, 100, 97, 116, 97, 116, 121, 112, 101, 32, 100, 101, 99, 108, 97, 114, 101, 45, 100, 97, 116, 97, 116, 121, 112, 101, 115, 32, 100, 101, 99, 108, 97, 114, 101, 45, 102, 117, 110, 32, 100, 101, 99, 108, 97, 114, 101, 45, 115, 111, 114, 116, 32, 100, 101, 102, 105, 110, 101, 45, 102, 117, 110, 32, 100, 101, 102, 105, 110, 101, 45, 115, 111, 114, 116, 32, 101, 99, 104, 111, 32, 101, 120, 105, 116, 32, 103, 101, 116, 45, 97, 115, 115, 101, 114, 116, 105, 111, 110, 115, 32, 103, 101, 116, 45, 105, 110, 102, 111, 32, 103, 101, 116, 45, 109, 111, 100, 101, 108, 32, 103, 101, 116, 45, 118, 97, 108, 117, 101, 32, 112, 111, 112, 32, 112, 117, 115, 104, 32, 114, 101, 115, 101, 116, 32, 114, 101, 115, 101, 116, 45, 97, 115, 115, 101, 114, 116, 105, 111, 110, 115, 32, 115, 101, 116, 45, 105, 110, 102, 111, 32, 115, 101, 116, 45, 108, 111, 103, 105, 99, 32, 115, 101, 116, 45, 111, 112, 116, 105, 111, 110]⟩ : ByteArray)))] ?_
  refine RS.dn ?_
  refine WS.nxt ?_
  refine WS.sq ?_
  refine WS.rg ?_
  refine RS.mS 1 [(4, .val (Value.string (⟨#[33, 32, 95, 32, 97, 115, 32, 66, 73, 78, 65, 82, 89, 32, 68, 69, 67, 73, 77, 65, 76, 32, 101, 120, 105, 115, 116, 115, 32, 102, 111, 114, 97, 108, 108, 32, 72, 69, 88, 65, 68, 69, 67, 73, 77, 65, 76, 32, 108, 101, 116, 32, 109, 97, 116, 99, 104, 32, 78, 85, 77, 69, 82, 65, 76, 32, 112, 97, 114, 32, 83, 84, 82, 73, 78, 71, 32, 97, 115, 115, 101, 114, 116, 32, 99, 104, 101, 99, 107, 45, 115, 97, 116, 32, 99, 104, 101, 99, 107, 45, 115, 97, 116, 45, 97, 115, 115, 117, 109, 105, 110, 103, 32, 100, 101, 99, 108, 97, 114, 101, 45, 99, 111, 110, 115, 116, 32, 100, 101, 99, 108, 97, 114, 101, 45, 100, 97, 116, 97, 116, 121, 112, 101, 32, 100, 101, 99, 108, 97, 114, 101, 45, 100, 97, 116, 97, 116, 121, 112, 101, 115, 32, 100, 101, 99, 108, 97, 114, 101, 45, 102, 117, 110, 32, 100, 101, 99, 108, 97, 114, 101, 45, 115, 111, 114, 116, 32, 100, 101, 102, 105, 110, 101, 45, 102, 117, 110, 32, 100, 101, 102, 105, 110, 101, 45, 115, 111, 114, 116, 32, 101, 99, 104, 111, 32, 101, 120, 105, 116, 32, 103, 101, 116, 45, 97, 115, 115, 101, 114, 116, 105, 111, 110, 115, 32, 103, 101, 116, 45, 105, 110, 102, 111, 32, 103, 101, 116, 45, 109, 111, 100, 101, 108, 32, 103, 101, 116, 45, 118, 97, 108, 117, 101, 32, 112, 111, 112, 32, 112, 117, 115, 104, 32, 114, 101, 115, 101, 116, 32, 114, 101, 115, 101, 116, 45, 97, 115, 115, 101, 114, 116, 105, 111, 110, 115, 32, 115, 101, 116, 45, 105, 110, 102, 111, 32, 115, 101, 116, 45, 108, 111, 103, 105, 99, 32, 115, 101, 116, 45, 111, 112, 116, 105, 111, 110]⟩ : ByteArray)))] ?_
  obtain ⟨⟨x1, H2⟩, hx, h⟩ := bind_some h
  try dsimp only at h
  refine RS.cl (some 5) (v := (Sl3.v x1)) 105 #[(Value.string (⟨#[33, 32, 95, 32, 97, 115, 32, 66, 73, 78, 65, 82, 89, 32, 68, 69, 67, 73, 77, 65, 76, 32, 101, 120, 105, 115, 116, 115, 32, 102, 111, 114, 97, 108, 108, 32, 72, 69, 88, 65, 68, 69, 67, 73, 77, 65, 76, 32, 108, 101, 116, 32, 109, 97, 116, 99, 104, 32, 78, 85, 77, 69, 82, 65, 76, 32, 112, 97, 114, 32, 83, 84, 82, 73, 78, 71, 32, 97, 115, 115, 101, 114, 116, 32, 99, 104, 101, 99, 107, 45, 115, 97, 116, 32, 99, 104, 101, 99, 107, 45, 115, 97, 116, 45, 97, 115, 115, 117, 109, 105, 110, 103, 32, 100, 101, 99, 108, 97, 114, 101, 45, 99, 111, 110, 115, 116, 32, 100, 101, 99, 108, 97, 114, 101, 45, 100, 97, 116, 97, 116, 121, 112, 101, 32, 100, 101, 99, 108, 97, 114, 101, 45, 100, 97, 116, 97, 116, 121, 112, 101, 115, 32, 100, 101, 99, 108, 97, 114, 101, 45, 102, 117, 110, 32, 100, 101, 99, 108, 97, 114, 101, 45, 115, 111, 114, 116, 32, 100, 101, 102, 105, 110, 101, 45, 102, 117, 110, 32, 100, 101, 102, 105, 110, 101, 45, 115, 111, 114, 116, 32, 101, 99, 104, 111, 32, 101, 120, 105, 116, 32, 103, 101, 116, 45, 97, 115, 115, 101, 114, 116, 105, 111, 110, 115, 32, 103, 101, 116, 45, 105, 110, 102, 111, 32, 103, 101, 116, 45, 109, 111, 100, 101, 108, 32, 103, 101, 116, 45, 118, 97, 108, 117, 101, 32, 112, 111, 112, 32, 112, 117, 115, 104, 32, 114, 101, 115, 101, 116, 32, 114, 101, 115, 101, 116, 45, 97, 115, 115, 101, 114, 116, 105, 111, 110, 115, 32, 115, 101, 116, 45, 105, 110, 102, 111, 32, 115, 101, 116, 45, 108, 111, 103, 105, 99, 32, 115, 101, 116, 45, 111, 112, 116, 105, 111, 110]⟩ : ByteArray))] (strings_Fields_ok hx) ?_
  refine RS.mS 1 [(6, .val (Value.string a0))] ?_
  obtain ⟨x3, hx, h⟩ := bind_some h
  refine RS.cl (some 7) (v := (Value.bool x3)) 145 #[(Sl3.v x1), (Value.string a0)] (slices_Contains_145_ok hx) ?_
  refine RS.mS 1 [(2, .val (Value.bool x3))] ?_
  refine RS.dn ?_
  refine WS.nxt ?_
  refine WS.rt ?_
  cases h
  exact fun a w hs => rtR (rS hs)

def sort_simple_enc : (Bool × AH) → Value
  | (r0, _) => (Value.bool r0)

def sort_simple_hp (_ : AH) : (Bool × AH) → AH := fun r => r.2

noncomputable def B100 : Code := (Tryz.f100.body).getD .skip

noncomputable def sort_simple_b0 (L : LC) (_H : AH) (a0 : ByteArray) : Int → Option (Lp Int (Bool × AH)) := fun v20_4 =>
  if v20_4 < (a0.size : Int) then
    Option.bind (bytA a0 v20_4) fun x5 =>
    Option.bind (sort_letter L x5) fun x6 =>
    if x6 = true then
      some (.next (IntKind.i64.wrap (v20_4 + 1)))
    else
      none
  else
    some (.brk v20_4)

def sort_simple_b0_kn (_L : LC) (_H : AH) (a0 : ByteArray) : Int → KN := fun v20_4 => [(20, .val (Value.int .i64 v20_4)), (0, .val (Value.string a0)), (19, .val (Value.int .i64 (a0.size : Int)))]

def sort_simple_b0_ls (_L : LC) (_H : AH) (_a0 : ByteArray) : Int → Lcs := fun _ => []

noncomputable def sort_simple (L : LC) (m : Nat) (H : AH) (a0 : ByteArray) : Option (Bool × AH) :=
  Option.bind (sort_Name L a0) fun x1 =>
  if x1 = true then
    Option.bind (bytA a0 0) fun x2 =>
    if x2 ≥ 48 then
      Option.bind (bytA a0 0) fun x3 =>
      if x3 ≤ 57 then
        none
      else
        Option.bind (L.run (sort_simple_b0 L H a0) 0) fun o => match o with
        | .inl _ =>
          Option.bind (sort_reserved L m H a0) fun (x8, H9) =>
          some ((!x8), H9)
        | .inr r => some r
    else
      none
  else
    none

theorem sort_simple_b0_ok {E : Ent} {m : Nat} {L : LC} {H : AH} {a0 : ByteArray}  : ∀ s o, sort_simple_b0 L H a0 s = some o →
    WS Tryz.prog (NE.plain 92) m E Tryz.f100.ntmps (cfst (cfst (csnd (cfst (csnd (csnd B100)))))) (sort_simple_b0_kn L H a0 s) (sort_simple_b0_ls L H a0 s) ((fun _ => H) s) (lpS Tryz.prog (NE.plain 92) m E Tryz.f100.ntmps (sort_simple_b0_kn L H a0) (sort_simple_b0_ls L H a0) (fun _ => H) 0 (fun r => RT Tryz.prog (NE.plain 92) m E Tryz.f100 (sort_simple_enc r) (sort_simple_hp H r)) o) := by
  rintro v20_4 o h
  unfold sort_simple_b0 at h
  try dsimp only at h
  refine WS.sq ?_
  refine WS.rg ?_
  refine RS.mS 1 [(21, .val (Value.bool (decide (v20_4 < (a0.size : Int)))))] ?_
  refine RS.dn ?_
  refine WS.nxt ?_
  refine WS.sq ?_
  rcases ite_some h with ⟨hp, h⟩ | ⟨hp, h⟩
  · refine WS.fx 21 true (decide_eq_true hp) ?_
    refine WS.cT ?_
    refine WS.sk ?_
    refine WS.nxt ?_
    refine WS.sq ?_
    refine WS.bk 1 ?_
    refine WS.sq ?_
    refine WS.rg ?_
    refine RS.mS 2 [(3, .val (Value.int .i64 v20_4)), (22, .val (Value.int .i64 v20_4))] ?_
    refine RS.dn ?_
    refine WS.nxt ?_
    refine WS.sq ?_
    refine WS.rg ?_
    refine RS.mS 2 [(24, .val (Value.int .i64 v20_4)), (23, .val (Value.string a0))] ?_
    obtain ⟨x5, hx, h⟩ := bind_some h
    refine RS.o (H' := H) (some 25) (Value.int .u8 x5) (Abs.run_byt (t := 9) (x := .tmp 23) (y := .tmp 24) (s := a0) (k := .i64) (i := v20_4) (by kernel_rfl) (by kernel_rfl) (by kernel_rfl) (by kernel_rfl) hx) ?_
    refine RS.mS 1 [(4, .val (Value.int .u8 x5))] ?_
    refine RS.dn ?_
    refine WS.nxt ?_
    refine WS.sq ?_
    refine WS.rg ?_
    refine RS.mS 1 [(26, .val (Value.int .u8 x5))] ?_
    obtain ⟨x6, hx, h⟩ := bind_some h
    refine RS.cl (some 27) (v := (Value.bool x6)) 122 #[(Value.int .u8 x5)] (sort_letter_ok hx) ?_
    refine RS.mS 2 [(29, .val (Value.bool (!x6))), (28, .val (Value.bool (!x6)))] ?_
    rcases ite_some h with ⟨hp, h⟩ | ⟨hp, h⟩
    · refine RS.fx 29 false (nb_not hp) ?_
      refine RS.mS 12 [(41, .val (Value.bool false)), (40, .val undef), (39, .val undef), (38, .val undef), (37, .val (Value.bool false)), (36, .val (Value.bool false)), (35, .val undef), (34, .val undef), (33, .val undef), (32, .val undef), (31, .val undef), (30, .val undef)] ?_
      refine RS.dn ?_
      refine WS.nxt ?_
      refine WS.cF ?_
      refine WS.sk ?_
      refine fun a w hs => bkN ((WS.nxt ?_ a w hs))
      refine WS.rg ?_
      refine RS.mS 2 [(20, .val (Value.int .i64 (IntKind.i64.wrap (v20_4 + 1)))), (42, .val (Value.int .i64 (IntKind.i64.wrap (v20_4 + 1))))] ?_
      refine RS.dn ?_
      cases h
      exact fun a w hs => lsN rfl (hs.sb 0)
    · refine RS.fx 29 true (nb_not' hp) ?_
      cases h
  · refine WS.fx 21 false (decide_eq_false hp) ?_
    refine WS.cF ?_
    refine WS.ex 0 ?_
    cases h
    exact fun a w hs => sqE (lsB rfl (hs.sb 0))

theorem sort_simple_ok {L : LC} {m : Nat} {H : AH} {a0 : ByteArray} {r : (Bool × AH)} (h : sort_simple L m H a0 = some r) :
    CallS Tryz.prog (NE.plain 92) m 100 #[(Value.string a0)] H (sort_simple_enc r) (sort_simple_hp H r) := by
  refine CallS.mk (args := [(Value.string a0)]) Tryz.func100 (B := B100) (by kernel_rfl) (fun E _ => ?_)
  unfold sort_simple at h
  refine WS.sq ?_
  refine WS.rg ?_
  refine RS.mS 1 [(2, .val (Value.bool false))] ?_
  refine RS.dn ?_
  refine WS.nxt ?_
  refine WS.sq ?_
  refine WS.sq ?_
  refine WS.rg ?_
  refine RS.mS 1 [(5, .val (Value.string a0))] ?_
  obtain ⟨x1, hx, h⟩ := bind_some h
  refine RS.cl (some 6) (v := (Value.bool x1)) 73 #[(Value.string a0)] (sort_Name_ok hx) ?_
  refine RS.mS 2 [(8, .val (Value.bool (!x1))), (7, .val (Value.bool (!x1)))] ?_
  rcases ite_some h with ⟨hp, h⟩ | ⟨hp, h⟩
  · refine RS.fx 8 false (nb_not hp) ?_
    refine RS.mS 1 [(9, .val (Value.string a0))] ?_
    obtain ⟨x2, hx, h⟩ := bind_some h
    refine RS.o (H' := H) (some 10) (Value.int .u8 x2) (Abs.run_byt (t := 9) (x := .tmp 9) (y := .const (Value.int .i64 0)) (s := a0) (k := .i64) (i := 0) (by kernel_rfl) (by kernel_rfl) (by kernel_rfl) (by kernel_rfl) hx) ?_
    refine RS.mS 2 [(12, .val (Value.bool (decide (x2 ≥ 48)))), (11, .val (Value.bool (decide (x2 ≥ 48))))] ?_
    rcases ite_some h with ⟨hp, h⟩ | ⟨hp, h⟩
    · refine RS.fx 12 true (decide_eq_true hp) ?_
      refine RS.mS 1 [(13, .val (Value.string a0))] ?_
      obtain ⟨x3, hx, h⟩ := bind_some h
      refine RS.o (H' := H) (some 14) (Value.int .u8 x3) (Abs.run_byt (t := 9) (x := .tmp 13) (y := .const (Value.int .i64 0)) (s := a0) (k := .i64) (i := 0) (by kernel_rfl) (by kernel_rfl) (by kernel_rfl) (by kernel_rfl) hx) ?_
      refine RS.mS 3 [(17, .val (Value.bool (decide (x3 ≤ 57)))), (16, .val (Value.bool (decide (x3 ≤ 57)))), (15, .val (Value.bool (decide (x3 ≤ 57))))] ?_
      refine RS.dn ?_
      refine WS.nxt ?_
      rcases ite_some h with ⟨hp, h⟩ | ⟨hp, h⟩
      · refine WS.fx 17 true (decide_eq_true hp) ?_
        refine WS.cT ?_
        cases h
      · refine WS.fx 17 false (decide_eq_false hp) ?_
        refine WS.cF ?_
        refine WS.sk ?_
        refine WS.nxt ?_
        refine WS.sq ?_
        refine WS.sq ?_
        refine WS.rg ?_
        refine RS.mS 3 [(20, .val (Value.int .i64 0)), (19, .val (Value.int .i64 (a0.size : Int))), (18, .val (Value.string a0))] ?_
        refine RS.dn ?_
        refine WS.nxt ?_
        refine WS.bk 0 ?_
        obtain ⟨o, hl, h⟩ := bind_some h
        rcases o with v20_7 | r
        · try dsimp only at h
          refine WS.lI (sort_simple_b0_ok (L := L) (E := E) (m := m) (H := H)) (L.ok hl) 0 ?_
          clear hl
          refine fun a w hs => bkE ((WS.nxt ?_ a w hs))
          refine WS.sq ?_
          refine WS.rg ?_
          refine RS.mS 1 [(43, .val (Value.string a0))] ?_
          obtain ⟨⟨x8, H9⟩, hx, h⟩ := bind_some h
          try dsimp only at h
          refine RS.cl (some 44) (v := (Value.bool x8)) 124 #[(Value.string a0)] (sort_reserved_ok hx) ?_
          refine RS.mS 2 [(2, .val (Value.bool (!x8))), (45, .val (Value.bool (!x8)))] ?_
          refine RS.dn ?_
          refine WS.nxt ?_
          refine WS.rt ?_
          cases h
          exact fun a w hs => rtR (rS hs)
        · try dsimp only at h
          refine WS.lR (sort_simple_b0_ok (L := L) (E := E) (m := m) (H := H)) (L.ok hl) 0 ?_
          cases h
          exact fun a w hq => bkR (sqR (rtR hq))
    · refine RS.fx 12 false (decide_eq_false hp) ?_
      cases h
  · refine RS.fx 8 true (nb_not' hp) ?_
    cases h

def sort_Quote_enc : (ByteArray × AH) → Value
  | (r0, _) => (Value.string r0)

def sort_Quote_hp (_ : AH) : (ByteArray × AH) → AH := fun r => r.2

noncomputable def B66 : Code := (Tryz.f66.body).getD .skip

noncomputable def sort_Quote (L : LC) (m : Nat) (H : AH) (a0 : ByteArray) : Option (ByteArray × AH) :=
  Option.bind (sort_simple L m H a0) fun (x1, H2) =>
  if x1 = true then
    some (a0, H2)
  else
    none

theorem sort_Quote_ok {L : LC} {m : Nat} {H : AH} {a0 : ByteArray} {r : (ByteArray × AH)} (h : sort_Quote L m H a0 = some r) :
    CallS Tryz.prog (NE.plain 92) m 66 #[(Value.string a0)] H (sort_Quote_enc r) (sort_Quote_hp H r) := by
  refine CallS.mk (args := [(Value.string a0)]) Tryz.func66 (B := B66) (by kernel_rfl) (fun E _ => ?_)
  unfold sort_Quote at h
  refine WS.sq ?_
  refine WS.rg ?_
  refine RS.mS 1 [(2, .val (Value.string (⟨#[]⟩ : ByteArray)))] ?_
  refine RS.dn ?_
  refine WS.nxt ?_
  refine WS.sq ?_
  refine WS.sq ?_
  refine WS.rg ?_
  refine RS.mS 1 [(3, .val (Value.string a0))] ?_
  obtain ⟨⟨x1, H2⟩, hx, h⟩ := bind_some h
  try dsimp only at h
  refine RS.cl (some 4) (v := (Value.bool x1)) 100 #[(Value.string a0)] (sort_simple_ok hx) ?_
  refine RS.dn ?_
  refine WS.nxt ?_
  rcases ite_some h with ⟨hp, h⟩ | ⟨hp, h⟩
  · refine WS.fx 4 true hp ?_
    refine WS.cT ?_
    refine WS.sq ?_
    refine WS.rg ?_
    refine RS.mS 2 [(2, .val (Value.string a0)), (5, .val (Value.string a0))] ?_
    refine RS.dn ?_
    refine WS.nxt ?_
    refine WS.rt ?_
    cases h
    exact fun a w hs => sqR (rtR (rS hs))
  · refine WS.fx 4 false (b_not hp) ?_
    refine WS.cF ?_
    cases h

def term_named_enc : (ByteArray × AH) → Value
  | (r0, _) => (Value.string r0)

def term_named_hp (_ : AH) : (ByteArray × AH) → AH := fun r => r.2

noncomputable def B69 : Code := (Tryz.f69.body).getD .skip

noncomputable def term_named (L : LC) (m : Nat) (H : AH) (a0 : Int) : Option (ByteArray × AH) :=
  if a0 ≤ 10 then
    none
  else
    if a0 ≤ 33 then
      Option.bind (strings_Fields L m H (⟨#[45, 32, 43, 32, 45, 32, 42, 32, 100, 105, 118, 32, 109, 111, 100, 32, 97, 98, 115, 32, 60, 61, 32, 60, 32, 62, 61, 32, 62, 32, 115, 101, 108, 101, 99, 116, 32, 115, 116, 111, 114, 101]⟩ : ByteArray)) fun (x1, H2) =>
      Option.bind (idxA 1 x1 (IntKind.i64.wrap (a0 - 21))) fun p3 =>
      Option.bind (rd deS H2 p3) fun x4 =>
      some (x4, H2)
    else
      none

theorem term_named_ok {L : LC} {m : Nat} {H : AH} {a0 : Int} {r : (ByteArray × AH)} (h : term_named L m H a0 = some r) :
    CallS Tryz.prog (NE.plain 92) m 69 #[(Value.int .i64 a0)] H (term_named_enc r) (term_named_hp H r) := by
  refine CallS.mk (args := [(Value.int .i64 a0)]) Tryz.func69 (B := B69) (by kernel_rfl) (fun E _ => ?_)
  unfold term_named at h
  refine WS.sq ?_
  refine WS.rg ?_
  refine RS.mS 1 [(2, .val (Value.string (⟨#[]⟩ : ByteArray)))] ?_
  refine RS.dn ?_
  refine WS.nxt ?_
  refine WS.sq ?_
  refine WS.bk 0 ?_
  refine WS.sq ?_
  refine WS.rg ?_
  refine RS.mS 3 [(3, .val (Value.bool (decide (a0 ≤ 10)))), (5, .val (Value.bool (decide (a0 ≤ 10)))), (4, .val (Value.int .i64 a0))] ?_
  refine RS.dn ?_
  refine WS.nxt ?_
  rcases ite_some h with ⟨hp, h⟩ | ⟨hp, h⟩
  · refine WS.fx 3 true (decide_eq_true hp) ?_
    refine WS.cT ?_
    cases h
  · refine WS.fx 3 false (decide_eq_false hp) ?_
    refine WS.cF ?_
    refine WS.sq ?_
    refine WS.rg ?_
    refine RS.mS 3 [(11, .val (Value.bool (decide (a0 ≤ 33)))), (13, .val (Value.bool (decide (a0 ≤ 33)))), (12, .val (Value.int .i64 a0))] ?_
    refine RS.dn ?_
    refine WS.nxt ?_
    rcases ite_some h with ⟨hp, h⟩ | ⟨hp, h⟩
    · refine WS.fx 11 true (decide_eq_true hp) ?_
      refine WS.cT ?_
      refine WS.sq ?_
      refine WS.rg ?_
      obtain ⟨⟨x1, H2⟩, hx, h⟩ := bind_some h
      try dsimp only at h
      refine RS.cl (some 14) (v := (Sl3.v x1)) 105 #[(Value.string (⟨#[45, 32, 43, 32, 45, 32, 42, 32, 100, 105, 118, 32, 109, 111, 100, 32, 97, 98, 115, 32, 60, 61, 32, 60, 32, 62, 61, 32, 62, 32, 115, 101, 108, 101, 99, 116, 32, 115, 116, 111, 114, 101]⟩ : ByteArray))] (strings_Fields_ok hx) ?_
      refine RS.mS 2 [(16, .val (Value.int .i64 (IntKind.i64.wrap (a0 - 21)))), (15, .val (Value.int .i64 a0))] ?_
      obtain ⟨p3, hx, h⟩ := bind_some h
      refine RS.o (H' := H2) (some 17) (Value.pointer (some p3)) (Abs.run_idx (s := x1) (k := .i64) (t := 37) (e := 9) (x := .tmp 14) (y := .tmp 16) (by kernel_rfl) (by kernel_rfl) (by kernel_rfl) (by kernel_rfl) (by kernel_rfl) hx) ?_
      obtain ⟨x4, hx, h⟩ := bind_some h
      refine RS.o (H' := H2) (some 18) (Value.string x4) (Abs.run_load (t := 9) (x := .tmp 17) (a := p3) (by kernel_rfl) (by kernel_rfl) (by kernel_rfl) (rd_cell hx deS_inv)) ?_
      refine RS.mS 1 [(2, .val (Value.string x4))] ?_
      refine RS.dn ?_
      refine WS.nxt ?_
      refine WS.rt ?_
      cases h
      exact fun a w hs => bkR (sqR (rtR (rS hs)))
    · refine WS.fx 11 false (decide_eq_false hp) ?_
      refine WS.cF ?_
      cases h

end Go.Proofs.YtgkogeglciogkaaGreatDoor
