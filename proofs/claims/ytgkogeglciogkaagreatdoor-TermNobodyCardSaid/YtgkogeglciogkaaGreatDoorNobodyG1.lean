/- Functions of the program as Lean functions over the abstract heap, and that they are what the program computes (printed by a program of this project's own), part 1. No condition. -/
import Derived.Test.YtgkogeglciogkaaGreatDoorNobodyEng3
import Derived.Test.YtgkogeglciogkaaGreatDoorChecked
namespace Go.Proofs.YtgkogeglciogkaaGreatDoor
open Go Go.Abs
set_option maxRecDepth 100000

def ref04_Same_enc : Bool → Value
  | r0 => (Value.bool r0)

def ref04_Same_hp (H : AH) : Bool → AH := fun _ => H

noncomputable def B11 : Code := (Tryz.f11.body).getD .skip

noncomputable def ref04_Same_b0 (_L : LC) (_H : AH) (_a0_0 : Int) (_a0_1 : Int) (_a0_2 : ByteArray) (a0_3 : Sl3) (_a1_0 : Int) (_a1_1 : Int) (_a1_2 : ByteArray) (_a1_3 : Sl3) : Int → Option (Lp Int Bool) := fun v5_1 =>
  if v5_1 < (a0_3.n : Int) then
    none
  else
    some (.brk v5_1)

def ref04_Same_b0_kn (_L : LC) (_H : AH) (_a0_0 : Int) (_a0_1 : Int) (_a0_2 : ByteArray) (_a0_3 : Sl3) (_a1_0 : Int) (_a1_1 : Int) (_a1_2 : ByteArray) (_a1_3 : Sl3) : Int → KN := fun v5_1 => [(5, .val (Value.int .i64 v5_1)), (2, .loc 0 0), (3, .loc 1 0)]

def ref04_Same_b0_ls (_L : LC) (_H : AH) (a0_0 : Int) (a0_1 : Int) (a0_2 : ByteArray) (a0_3 : Sl3) (a1_0 : Int) (a1_1 : Int) (a1_2 : ByteArray) (a1_3 : Sl3) : Int → Lcs := fun _ => [some (32, [(Value.int .i64 a0_0), (Value.int .i64 a0_1), (Value.string a0_2), (Sl3.v a0_3)]), some (32, [(Value.int .i64 a1_0), (Value.int .i64 a1_1), (Value.string a1_2), (Sl3.v a1_3)])]

noncomputable def ref04_Same_body (L : LC) (H : AH) (a0_0 : Int) (a0_1 : Int) (a0_2 : ByteArray) (a0_3 : Sl3) (a1_0 : Int) (a1_1 : Int) (a1_2 : ByteArray) (a1_3 : Sl3) : Option Bool :=
  if a0_0 = a1_0 then
    if a0_1 = a1_1 then
      if (a0_2.toList == a1_2.toList) = true then
        if (a0_3.n : Int) = (a1_3.n : Int) then
          Option.bind (L.run (ref04_Same_b0 L H a0_0 a0_1 a0_2 a0_3 a1_0 a1_1 a1_2 a1_3) 0) fun o => match o with
          | .inl _ =>
            some true
          | .inr r => some r
        else
          none
      else
        none
    else
      none
  else
    none

noncomputable def fam_ref04_Same (L : LC) (n : Nat) : (AH → Int → Int → ByteArray → Sl3 → Int → Int → ByteArray → Sl3 → Option Bool) := Nat.rec (motive := fun _ => (AH → Int → Int → ByteArray → Sl3 → Int → Int → ByteArray → Sl3 → Option Bool)) (fun _ _ _ _ _ _ _ _ _ => none) (fun _ _ => ref04_Same_body L) n

noncomputable def ref04_Same (L : LC) (H : AH) (a0_0 : Int) (a0_1 : Int) (a0_2 : ByteArray) (a0_3 : Sl3) (a1_0 : Int) (a1_1 : Int) (a1_2 : ByteArray) (a1_3 : Sl3) : Option Bool := (fam_ref04_Same L L.fuel) H a0_0 a0_1 a0_2 a0_3 a1_0 a1_1 a1_2 a1_3

theorem ref04_Same_b0_ok {E : Ent} {m : Nat} {L : LC} {H : AH} {a0_0 : Int} {a0_1 : Int} {a0_2 : ByteArray} {a0_3 : Sl3} {a1_0 : Int} {a1_1 : Int} {a1_2 : ByteArray} {a1_3 : Sl3}  : ∀ s o, ref04_Same_b0 L H a0_0 a0_1 a0_2 a0_3 a1_0 a1_1 a1_2 a1_3 s = some o →
    WS Tryz.prog (NE.plain 92) m E Tryz.f11.ntmps (cfst (cfst (csnd (cfst (csnd (csnd B11)))))) (ref04_Same_b0_kn L H a0_0 a0_1 a0_2 a0_3 a1_0 a1_1 a1_2 a1_3 s) (ref04_Same_b0_ls L H a0_0 a0_1 a0_2 a0_3 a1_0 a1_1 a1_2 a1_3 s) ((fun _ => H) s) (lpS Tryz.prog (NE.plain 92) m E Tryz.f11.ntmps (ref04_Same_b0_kn L H a0_0 a0_1 a0_2 a0_3 a1_0 a1_1 a1_2 a1_3) (ref04_Same_b0_ls L H a0_0 a0_1 a0_2 a0_3 a1_0 a1_1 a1_2 a1_3) (fun _ => H) 0 (fun r => RT Tryz.prog (NE.plain 92) m E Tryz.f11 (ref04_Same_enc r) (ref04_Same_hp H r)) o) := by
  rintro v5_1 o h
  unfold ref04_Same_b0 at h
  try dsimp only at h
  refine WS.sq ?_
  refine WS.sq ?_
  refine WS.rg ?_
  refine RS.mS 5 [(38, .val (Value.bool (decide (v5_1 < (a0_3.n : Int))))), (37, .val (Value.int .i64 (a0_3.n : Int))), (36, .val (Sl3.v a0_3)), (35, .loc 0 3), (34, .val (Value.int .i64 v5_1))] ?_
  refine RS.dn ?_
  refine WS.nxt ?_
  rcases ite_some h with ⟨hp, h⟩ | ⟨hp, h⟩
  · refine WS.fx 38 true (decide_eq_true hp) ?_
    refine WS.cT ?_
    cases h
  · refine WS.fx 38 false (decide_eq_false hp) ?_
    refine WS.cF ?_
    refine WS.ex 0 ?_
    cases h
    exact fun a w hs => sqE (lsB rfl (hs.sb 2))

theorem ref04_Same_body_ok {L : LC} {m : Nat} {H : AH} {a0_0 : Int} {a0_1 : Int} {a0_2 : ByteArray} {a0_3 : Sl3} {a1_0 : Int} {a1_1 : Int} {a1_2 : ByteArray} {a1_3 : Sl3} {r : Bool} (h : ref04_Same_body L H a0_0 a0_1 a0_2 a0_3 a1_0 a1_1 a1_2 a1_3 = some r) :
    CallS Tryz.prog (NE.plain 92) m 11 #[(Value.agg #[(Value.int .i64 a0_0), (Value.int .i64 a0_1), (Value.string a0_2), (Sl3.v a0_3)]), (Value.agg #[(Value.int .i64 a1_0), (Value.int .i64 a1_1), (Value.string a1_2), (Sl3.v a1_3)])] H (ref04_Same_enc r) (ref04_Same_hp H r) := by
  refine CallS.mk (args := [(Value.agg #[(Value.int .i64 a0_0), (Value.int .i64 a0_1), (Value.string a0_2), (Sl3.v a0_3)]), (Value.agg #[(Value.int .i64 a1_0), (Value.int .i64 a1_1), (Value.string a1_2), (Sl3.v a1_3)])]) Tryz.func11 (B := B11) (by kernel_rfl) (fun E _ => ?_)
  unfold ref04_Same_body at h
  refine WS.sq ?_
  refine WS.rg ?_
  refine RS.mL 3 [(4, .val (Value.bool false)), (3, .loc 1 0), (2, .loc 0 0)] ([some (32, [(Value.int .i64 a0_0), (Value.int .i64 a0_1), (Value.string a0_2), (Sl3.v a0_3)]), some (32, [(Value.int .i64 a1_0), (Value.int .i64 a1_1), (Value.string a1_2), (Sl3.v a1_3)])]) ?_
  refine RS.dn ?_
  refine WS.nxt ?_
  refine WS.sq ?_
  refine WS.sq ?_
  refine WS.rg ?_
  refine RS.mS 6 [(11, .val (Value.bool (!decide (a0_0 = a1_0)))), (10, .val (Value.bool (!decide (a0_0 = a1_0)))), (9, .val (Value.int .i64 a1_0)), (8, .loc 1 0), (7, .val (Value.int .i64 a0_0)), (6, .loc 0 0)] ?_
  rcases ite_some h with ⟨hp, h⟩ | ⟨hp, h⟩
  · refine RS.fx 11 false (dec_not hp) ?_
    refine RS.mS 7 [(18, .val (Value.bool (!decide (a0_1 = a1_1)))), (17, .val (Value.bool (!decide (a0_1 = a1_1)))), (16, .val (Value.bool (!decide (a0_1 = a1_1)))), (15, .val (Value.int .i64 a1_1)), (14, .loc 1 1), (13, .val (Value.int .i64 a0_1)), (12, .loc 0 1)] ?_
    rcases ite_some h with ⟨hp, h⟩ | ⟨hp, h⟩
    · refine RS.fx 18 false (dec_not hp) ?_
      refine RS.mS 7 [(25, .val (Value.bool (!(a0_2.toList == a1_2.toList)))), (24, .val (Value.bool (!(a0_2.toList == a1_2.toList)))), (23, .val (Value.bool (!(a0_2.toList == a1_2.toList)))), (22, .val (Value.string a1_2)), (21, .loc 1 2), (20, .val (Value.string a0_2)), (19, .loc 0 2)] ?_
      rcases ite_some h with ⟨hp, h⟩ | ⟨hp, h⟩
      · refine RS.fx 25 false (nb_not hp) ?_
        refine RS.mS 8 [(33, .val (Value.bool (!decide ((a0_3.n : Int) = (a1_3.n : Int))))), (32, .val (Value.bool (!decide ((a0_3.n : Int) = (a1_3.n : Int))))), (31, .val (Value.int .i64 (a1_3.n : Int))), (30, .val (Sl3.v a1_3)), (29, .loc 1 3), (28, .val (Value.int .i64 (a0_3.n : Int))), (27, .val (Sl3.v a0_3)), (26, .loc 0 3)] ?_
        refine RS.dn ?_
        refine WS.nxt ?_
        rcases ite_some h with ⟨hp, h⟩ | ⟨hp, h⟩
        · refine WS.fx 33 false (dec_not hp) ?_
          refine WS.cF ?_
          refine WS.sk ?_
          refine WS.nxt ?_
          refine WS.sq ?_
          refine WS.sq ?_
          refine WS.rg ?_
          refine RS.mS 1 [(5, .val (Value.int .i64 0))] ?_
          refine RS.dn ?_
          refine WS.nxt ?_
          refine WS.bk 0 ?_
          obtain ⟨o, hl, h⟩ := bind_some h
          rcases o with v5_2 | r
          · try dsimp only at h
            refine WS.lI (ref04_Same_b0_ok (L := L) (E := E) (m := m) (H := H)) (L.ok hl) 2 ?_
            clear hl
            refine fun a w hs => bkE ((WS.nxt ?_ a w hs))
            refine WS.sq ?_
            refine WS.rg ?_
            refine RS.mS 1 [(4, .val (Value.bool true))] ?_
            refine RS.dn ?_
            refine WS.nxt ?_
            refine WS.rt ?_
            cases h
            exact fun a w hs => rtR (rS hs)
          · try dsimp only at h
            refine WS.lR (ref04_Same_b0_ok (L := L) (E := E) (m := m) (H := H)) (L.ok hl) 2 ?_
            cases h
            exact fun a w hq => bkR (sqR (rtR hq))
        · refine WS.fx 33 true (dec_not' hp) ?_
          refine WS.cT ?_
          cases h
      · refine RS.fx 25 true (nb_not' hp) ?_
        cases h
    · refine RS.fx 18 true (dec_not' hp) ?_
      cases h
  · refine RS.fx 11 true (dec_not' hp) ?_
    cases h

theorem fam_ref04_Same_ok {L : LC} : ∀ n, (∀ (m : Nat) (H : AH) (a0_0 : Int) (a0_1 : Int) (a0_2 : ByteArray) (a0_3 : Sl3) (a1_0 : Int) (a1_1 : Int) (a1_2 : ByteArray) (a1_3 : Sl3) (r : Bool), ((fam_ref04_Same L n)) H a0_0 a0_1 a0_2 a0_3 a1_0 a1_1 a1_2 a1_3 = some r → CallS Tryz.prog (NE.plain 92) m 11 #[(Value.agg #[(Value.int .i64 a0_0), (Value.int .i64 a0_1), (Value.string a0_2), (Sl3.v a0_3)]), (Value.agg #[(Value.int .i64 a1_0), (Value.int .i64 a1_1), (Value.string a1_2), (Sl3.v a1_3)])] H (ref04_Same_enc r) (ref04_Same_hp H r)) := by
  intro n
  induction n with
  | zero => exact (fun _ _ _ _ _ _ _ _ _ _ _ h => (Option.some_ne_none _ h.symm).elim)
  | succ n ih => exact (fun _ _ _ _ _ _ _ _ _ _ _ h => ref04_Same_body_ok (L := L)  h)

theorem ref04_Same_ok {L : LC} {m : Nat} {H : AH} {a0_0 : Int} {a0_1 : Int} {a0_2 : ByteArray} {a0_3 : Sl3} {a1_0 : Int} {a1_1 : Int} {a1_2 : ByteArray} {a1_3 : Sl3} {r : Bool} (h : ref04_Same L H a0_0 a0_1 a0_2 a0_3 a1_0 a1_1 a1_2 a1_3 = some r) :
    CallS Tryz.prog (NE.plain 92) m 11 #[(Value.agg #[(Value.int .i64 a0_0), (Value.int .i64 a0_1), (Value.string a0_2), (Sl3.v a0_3)]), (Value.agg #[(Value.int .i64 a1_0), (Value.int .i64 a1_1), (Value.string a1_2), (Sl3.v a1_3)])] H (ref04_Same_enc r) (ref04_Same_hp H r) :=
  (fam_ref04_Same_ok _) _ _ _ _ _ _ _ _ _ _ _ h

def ref02_Same_enc : Bool → Value
  | r0 => (Value.bool r0)

def ref02_Same_hp (H : AH) : Bool → AH := fun _ => H

noncomputable def B26 : Code := (Tryz.f26.body).getD .skip

noncomputable def ref02_Same_b0 (_L : LC) (_H : AH) (_a0_0 : Bool) (a0_1 : Sl3) (_a1_0 : Bool) (_a1_1 : Sl3) : Int → Option (Lp Int Bool) := fun v5_1 =>
  if v5_1 < (a0_1.n : Int) then
    none
  else
    some (.brk v5_1)

def ref02_Same_b0_kn (_L : LC) (_H : AH) (_a0_0 : Bool) (_a0_1 : Sl3) (_a1_0 : Bool) (_a1_1 : Sl3) : Int → KN := fun v5_1 => [(5, .val (Value.int .i64 v5_1)), (2, .loc 0 0), (3, .loc 1 0)]

def ref02_Same_b0_ls (_L : LC) (_H : AH) (a0_0 : Bool) (a0_1 : Sl3) (a1_0 : Bool) (a1_1 : Sl3) : Int → Lcs := fun _ => [some (26, [(Value.bool a0_0), (Sl3.v a0_1)]), some (26, [(Value.bool a1_0), (Sl3.v a1_1)])]

noncomputable def ref02_Same (L : LC) (H : AH) (a0_0 : Bool) (a0_1 : Sl3) (a1_0 : Bool) (a1_1 : Sl3) : Option Bool :=
  if (a0_0 == a1_0) = true then
    if (a0_1.n : Int) = (a1_1.n : Int) then
      Option.bind (L.run (ref02_Same_b0 L H a0_0 a0_1 a1_0 a1_1) 0) fun o => match o with
      | .inl _ =>
        some true
      | .inr r => some r
    else
      none
  else
    none

theorem ref02_Same_b0_ok {E : Ent} {m : Nat} {L : LC} {H : AH} {a0_0 : Bool} {a0_1 : Sl3} {a1_0 : Bool} {a1_1 : Sl3}  : ∀ s o, ref02_Same_b0 L H a0_0 a0_1 a1_0 a1_1 s = some o →
    WS Tryz.prog (NE.plain 92) m E Tryz.f26.ntmps (cfst (cfst (csnd (cfst (csnd (csnd B26)))))) (ref02_Same_b0_kn L H a0_0 a0_1 a1_0 a1_1 s) (ref02_Same_b0_ls L H a0_0 a0_1 a1_0 a1_1 s) ((fun _ => H) s) (lpS Tryz.prog (NE.plain 92) m E Tryz.f26.ntmps (ref02_Same_b0_kn L H a0_0 a0_1 a1_0 a1_1) (ref02_Same_b0_ls L H a0_0 a0_1 a1_0 a1_1) (fun _ => H) 0 (fun r => RT Tryz.prog (NE.plain 92) m E Tryz.f26 (ref02_Same_enc r) (ref02_Same_hp H r)) o) := by
  rintro v5_1 o h
  unfold ref02_Same_b0 at h
  try dsimp only at h
  refine WS.sq ?_
  refine WS.sq ?_
  refine WS.rg ?_
  refine RS.mS 5 [(24, .val (Value.bool (decide (v5_1 < (a0_1.n : Int))))), (23, .val (Value.int .i64 (a0_1.n : Int))), (22, .val (Sl3.v a0_1)), (21, .loc 0 1), (20, .val (Value.int .i64 v5_1))] ?_
  refine RS.dn ?_
  refine WS.nxt ?_
  rcases ite_some h with ⟨hp, h⟩ | ⟨hp, h⟩
  · refine WS.fx 24 true (decide_eq_true hp) ?_
    refine WS.cT ?_
    cases h
  · refine WS.fx 24 false (decide_eq_false hp) ?_
    refine WS.cF ?_
    refine WS.ex 0 ?_
    cases h
    exact fun a w hs => sqE (lsB rfl (hs.sb 2))

theorem ref02_Same_ok {L : LC} {m : Nat} {H : AH} {a0_0 : Bool} {a0_1 : Sl3} {a1_0 : Bool} {a1_1 : Sl3} {r : Bool} (h : ref02_Same L H a0_0 a0_1 a1_0 a1_1 = some r) :
    CallS Tryz.prog (NE.plain 92) m 26 #[(Value.agg #[(Value.bool a0_0), (Sl3.v a0_1)]), (Value.agg #[(Value.bool a1_0), (Sl3.v a1_1)])] H (ref02_Same_enc r) (ref02_Same_hp H r) := by
  refine CallS.mk (args := [(Value.agg #[(Value.bool a0_0), (Sl3.v a0_1)]), (Value.agg #[(Value.bool a1_0), (Sl3.v a1_1)])]) Tryz.func26 (B := B26) (by kernel_rfl) (fun E _ => ?_)
  unfold ref02_Same at h
  refine WS.sq ?_
  refine WS.rg ?_
  refine RS.mL 3 [(4, .val (Value.bool false)), (3, .loc 1 0), (2, .loc 0 0)] ([some (26, [(Value.bool a0_0), (Sl3.v a0_1)]), some (26, [(Value.bool a1_0), (Sl3.v a1_1)])]) ?_
  refine RS.dn ?_
  refine WS.nxt ?_
  refine WS.sq ?_
  refine WS.sq ?_
  refine WS.rg ?_
  refine RS.mS 6 [(11, .val (Value.bool (!(a0_0 == a1_0)))), (10, .val (Value.bool (!(a0_0 == a1_0)))), (9, .val (Value.bool a1_0)), (8, .loc 1 0), (7, .val (Value.bool a0_0)), (6, .loc 0 0)] ?_
  rcases ite_some h with ⟨hp, h⟩ | ⟨hp, h⟩
  · refine RS.fx 11 false (nb_not hp) ?_
    refine RS.mS 8 [(19, .val (Value.bool (!decide ((a0_1.n : Int) = (a1_1.n : Int))))), (18, .val (Value.bool (!decide ((a0_1.n : Int) = (a1_1.n : Int))))), (17, .val (Value.int .i64 (a1_1.n : Int))), (16, .val (Sl3.v a1_1)), (15, .loc 1 1), (14, .val (Value.int .i64 (a0_1.n : Int))), (13, .val (Sl3.v a0_1)), (12, .loc 0 1)] ?_
    refine RS.dn ?_
    refine WS.nxt ?_
    rcases ite_some h with ⟨hp, h⟩ | ⟨hp, h⟩
    · refine WS.fx 19 false (dec_not hp) ?_
      refine WS.cF ?_
      refine WS.sk ?_
      refine WS.nxt ?_
      refine WS.sq ?_
      refine WS.sq ?_
      refine WS.rg ?_
      refine RS.mS 1 [(5, .val (Value.int .i64 0))] ?_
      refine RS.dn ?_
      refine WS.nxt ?_
      refine WS.bk 0 ?_
      obtain ⟨o, hl, h⟩ := bind_some h
      rcases o with v5_2 | r
      · try dsimp only at h
        refine WS.lI (ref02_Same_b0_ok (L := L) (E := E) (m := m) (H := H)) (L.ok hl) 2 ?_
        clear hl
        refine fun a w hs => bkE ((WS.nxt ?_ a w hs))
        refine WS.sq ?_
        refine WS.rg ?_
        refine RS.mS 1 [(4, .val (Value.bool true))] ?_
        refine RS.dn ?_
        refine WS.nxt ?_
        refine WS.rt ?_
        cases h
        exact fun a w hs => rtR (rS hs)
      · try dsimp only at h
        refine WS.lR (ref02_Same_b0_ok (L := L) (E := E) (m := m) (H := H)) (L.ok hl) 2 ?_
        cases h
        exact fun a w hq => bkR (sqR (rtR hq))
    · refine WS.fx 19 true (dec_not' hp) ?_
      refine WS.cT ?_
      cases h
  · refine RS.fx 11 true (nb_not' hp) ?_
    cases h

def ref05_limbs_enc : Bool → Value
  | r0 => (Value.bool r0)

def ref05_limbs_hp (H : AH) : Bool → AH := fun _ => H

noncomputable def B27 : Code := (Tryz.f27.body).getD .skip

noncomputable def ref05_limbs_b0 (_L : LC) (_H : AH) (a0 : Sl3) (_a1 : Sl3) : Int → Option (Lp Int Bool) := fun v5_1 =>
  if v5_1 < (a0.n : Int) then
    none
  else
    some (.brk v5_1)

def ref05_limbs_b0_kn (_L : LC) (_H : AH) (a0 : Sl3) (a1 : Sl3) : Int → KN := fun v5_1 => [(5, .val (Value.int .i64 v5_1)), (0, .val (Sl3.v a0)), (1, .val (Sl3.v a1))]

def ref05_limbs_b0_ls (_L : LC) (_H : AH) (_a0 : Sl3) (_a1 : Sl3) : Int → Lcs := fun _ => []

noncomputable def ref05_limbs (L : LC) (H : AH) (a0 : Sl3) (a1 : Sl3) : Option Bool :=
  if (a0.n : Int) = (a1.n : Int) then
    Option.bind (L.run (ref05_limbs_b0 L H a0 a1) 0) fun o => match o with
    | .inl _ =>
      some true
    | .inr r => some r
  else
    none

theorem ref05_limbs_b0_ok {E : Ent} {m : Nat} {L : LC} {H : AH} {a0 : Sl3} {a1 : Sl3}  : ∀ s o, ref05_limbs_b0 L H a0 a1 s = some o →
    WS Tryz.prog (NE.plain 92) m E Tryz.f27.ntmps (cfst (cfst (csnd (cfst (csnd (csnd B27)))))) (ref05_limbs_b0_kn L H a0 a1 s) (ref05_limbs_b0_ls L H a0 a1 s) ((fun _ => H) s) (lpS Tryz.prog (NE.plain 92) m E Tryz.f27.ntmps (ref05_limbs_b0_kn L H a0 a1) (ref05_limbs_b0_ls L H a0 a1) (fun _ => H) 0 (fun r => RT Tryz.prog (NE.plain 92) m E Tryz.f27 (ref05_limbs_enc r) (ref05_limbs_hp H r)) o) := by
  rintro v5_1 o h
  unfold ref05_limbs_b0 at h
  try dsimp only at h
  refine WS.sq ?_
  refine WS.sq ?_
  refine WS.rg ?_
  refine RS.mS 4 [(14, .val (Value.bool (decide (v5_1 < (a0.n : Int))))), (13, .val (Value.int .i64 (a0.n : Int))), (12, .val (Sl3.v a0)), (11, .val (Value.int .i64 v5_1))] ?_
  refine RS.dn ?_
  refine WS.nxt ?_
  rcases ite_some h with ⟨hp, h⟩ | ⟨hp, h⟩
  · refine WS.fx 14 true (decide_eq_true hp) ?_
    refine WS.cT ?_
    cases h
  · refine WS.fx 14 false (decide_eq_false hp) ?_
    refine WS.cF ?_
    refine WS.ex 0 ?_
    cases h
    exact fun a w hs => sqE (lsB rfl (hs.sb 0))

theorem ref05_limbs_ok {L : LC} {m : Nat} {H : AH} {a0 : Sl3} {a1 : Sl3} {r : Bool} (h : ref05_limbs L H a0 a1 = some r) :
    CallS Tryz.prog (NE.plain 92) m 27 #[(Sl3.v a0), (Sl3.v a1)] H (ref05_limbs_enc r) (ref05_limbs_hp H r) := by
  refine CallS.mk (args := [(Sl3.v a0), (Sl3.v a1)]) Tryz.func27 (B := B27) (by kernel_rfl) (fun E _ => ?_)
  unfold ref05_limbs at h
  refine WS.sq ?_
  refine WS.rg ?_
  refine RS.mS 1 [(4, .val (Value.bool false))] ?_
  refine RS.dn ?_
  refine WS.nxt ?_
  refine WS.sq ?_
  refine WS.sq ?_
  refine WS.rg ?_
  refine RS.mS 5 [(10, .val (Value.bool (!decide ((a0.n : Int) = (a1.n : Int))))), (9, .val (Value.int .i64 (a1.n : Int))), (8, .val (Sl3.v a1)), (7, .val (Value.int .i64 (a0.n : Int))), (6, .val (Sl3.v a0))] ?_
  refine RS.dn ?_
  refine WS.nxt ?_
  rcases ite_some h with ⟨hp, h⟩ | ⟨hp, h⟩
  · refine WS.fx 10 false (dec_not hp) ?_
    refine WS.cF ?_
    refine WS.sk ?_
    refine WS.nxt ?_
    refine WS.sq ?_
    refine WS.sq ?_
    refine WS.rg ?_
    refine RS.mS 1 [(5, .val (Value.int .i64 0))] ?_
    refine RS.dn ?_
    refine WS.nxt ?_
    refine WS.bk 0 ?_
    obtain ⟨o, hl, h⟩ := bind_some h
    rcases o with v5_2 | r
    · try dsimp only at h
      refine WS.lI (ref05_limbs_b0_ok (L := L) (E := E) (m := m) (H := H)) (L.ok hl) 0 ?_
      clear hl
      refine fun a w hs => bkE ((WS.nxt ?_ a w hs))
      refine WS.sq ?_
      refine WS.rg ?_
      refine RS.mS 1 [(4, .val (Value.bool true))] ?_
      refine RS.dn ?_
      refine WS.nxt ?_
      refine WS.rt ?_
      cases h
      exact fun a w hs => rtR (rS hs)
    · try dsimp only at h
      refine WS.lR (ref05_limbs_b0_ok (L := L) (E := E) (m := m) (H := H)) (L.ok hl) 0 ?_
      cases h
      exact fun a w hq => bkR (sqR (rtR hq))
  · refine WS.fx 10 true (dec_not' hp) ?_
    refine WS.cT ?_
    cases h

def ref05_ints_enc : Bool → Value
  | r0 => (Value.bool r0)

def ref05_ints_hp (H : AH) : Bool → AH := fun _ => H

noncomputable def B28 : Code := (Tryz.f28.body).getD .skip

noncomputable def ref05_ints_b0 (_L : LC) (_H : AH) (a0 : Sl3) (_a1 : Sl3) : Int → Option (Lp Int Bool) := fun v5_1 =>
  if v5_1 < (a0.n : Int) then
    none
  else
    some (.brk v5_1)

def ref05_ints_b0_kn (_L : LC) (_H : AH) (a0 : Sl3) (a1 : Sl3) : Int → KN := fun v5_1 => [(5, .val (Value.int .i64 v5_1)), (0, .val (Sl3.v a0)), (1, .val (Sl3.v a1))]

def ref05_ints_b0_ls (_L : LC) (_H : AH) (_a0 : Sl3) (_a1 : Sl3) : Int → Lcs := fun _ => []

noncomputable def ref05_ints (L : LC) (H : AH) (a0 : Sl3) (a1 : Sl3) : Option Bool :=
  if (a0.n : Int) = (a1.n : Int) then
    Option.bind (L.run (ref05_ints_b0 L H a0 a1) 0) fun o => match o with
    | .inl _ =>
      some true
    | .inr r => some r
  else
    none

theorem ref05_ints_b0_ok {E : Ent} {m : Nat} {L : LC} {H : AH} {a0 : Sl3} {a1 : Sl3}  : ∀ s o, ref05_ints_b0 L H a0 a1 s = some o →
    WS Tryz.prog (NE.plain 92) m E Tryz.f28.ntmps (cfst (cfst (csnd (cfst (csnd (csnd B28)))))) (ref05_ints_b0_kn L H a0 a1 s) (ref05_ints_b0_ls L H a0 a1 s) ((fun _ => H) s) (lpS Tryz.prog (NE.plain 92) m E Tryz.f28.ntmps (ref05_ints_b0_kn L H a0 a1) (ref05_ints_b0_ls L H a0 a1) (fun _ => H) 0 (fun r => RT Tryz.prog (NE.plain 92) m E Tryz.f28 (ref05_ints_enc r) (ref05_ints_hp H r)) o) := by
  rintro v5_1 o h
  unfold ref05_ints_b0 at h
  try dsimp only at h
  refine WS.sq ?_
  refine WS.sq ?_
  refine WS.rg ?_
  refine RS.mS 4 [(14, .val (Value.bool (decide (v5_1 < (a0.n : Int))))), (13, .val (Value.int .i64 (a0.n : Int))), (12, .val (Sl3.v a0)), (11, .val (Value.int .i64 v5_1))] ?_
  refine RS.dn ?_
  refine WS.nxt ?_
  rcases ite_some h with ⟨hp, h⟩ | ⟨hp, h⟩
  · refine WS.fx 14 true (decide_eq_true hp) ?_
    refine WS.cT ?_
    cases h
  · refine WS.fx 14 false (decide_eq_false hp) ?_
    refine WS.cF ?_
    refine WS.ex 0 ?_
    cases h
    exact fun a w hs => sqE (lsB rfl (hs.sb 0))

theorem ref05_ints_ok {L : LC} {m : Nat} {H : AH} {a0 : Sl3} {a1 : Sl3} {r : Bool} (h : ref05_ints L H a0 a1 = some r) :
    CallS Tryz.prog (NE.plain 92) m 28 #[(Sl3.v a0), (Sl3.v a1)] H (ref05_ints_enc r) (ref05_ints_hp H r) := by
  refine CallS.mk (args := [(Sl3.v a0), (Sl3.v a1)]) Tryz.func28 (B := B28) (by kernel_rfl) (fun E _ => ?_)
  unfold ref05_ints at h
  refine WS.sq ?_
  refine WS.rg ?_
  refine RS.mS 1 [(4, .val (Value.bool false))] ?_
  refine RS.dn ?_
  refine WS.nxt ?_
  refine WS.sq ?_
  refine WS.sq ?_
  refine WS.rg ?_
  refine RS.mS 5 [(10, .val (Value.bool (!decide ((a0.n : Int) = (a1.n : Int))))), (9, .val (Value.int .i64 (a1.n : Int))), (8, .val (Sl3.v a1)), (7, .val (Value.int .i64 (a0.n : Int))), (6, .val (Sl3.v a0))] ?_
  refine RS.dn ?_
  refine WS.nxt ?_
  rcases ite_some h with ⟨hp, h⟩ | ⟨hp, h⟩
  · refine WS.fx 10 false (dec_not hp) ?_
    refine WS.cF ?_
    refine WS.sk ?_
    refine WS.nxt ?_
    refine WS.sq ?_
    refine WS.sq ?_
    refine WS.rg ?_
    refine RS.mS 1 [(5, .val (Value.int .i64 0))] ?_
    refine RS.dn ?_
    refine WS.nxt ?_
    refine WS.bk 0 ?_
    obtain ⟨o, hl, h⟩ := bind_some h
    rcases o with v5_2 | r
    · try dsimp only at h
      refine WS.lI (ref05_ints_b0_ok (L := L) (E := E) (m := m) (H := H)) (L.ok hl) 0 ?_
      clear hl
      refine fun a w hs => bkE ((WS.nxt ?_ a w hs))
      refine WS.sq ?_
      refine WS.rg ?_
      refine RS.mS 1 [(4, .val (Value.bool true))] ?_
      refine RS.dn ?_
      refine WS.nxt ?_
      refine WS.rt ?_
      cases h
      exact fun a w hs => rtR (rS hs)
    · try dsimp only at h
      refine WS.lR (ref05_ints_b0_ok (L := L) (E := E) (m := m) (H := H)) (L.ok hl) 0 ?_
      cases h
      exact fun a w hq => bkR (sqR (rtR hq))
  · refine WS.fx 10 true (dec_not' hp) ?_
    refine WS.cT ?_
    cases h

def ref05_Same_enc : Bool → Value
  | r0 => (Value.bool r0)

def ref05_Same_hp (H : AH) : Bool → AH := fun _ => H

noncomputable def B10 : Code := (Tryz.f10.body).getD .skip

noncomputable def ref05_Same (L : LC) (H : AH) (a0_0 : Int) (a0_1 : ByteArray) (a0_2 : Bool) (a0_3 : Sl3) (a0_4 : Int) (a0_5 : Sl3) (a0_6 : Int) (a0_7 : Int) (a0_8 : ByteArray) (a0_9 : Sl3) (a0_10 : Sl3) (a0_11 : Sl3) (a1_0 : Int) (a1_1 : ByteArray) (a1_2 : Bool) (a1_3 : Sl3) (a1_4 : Int) (a1_5 : Sl3) (a1_6 : Int) (a1_7 : Int) (a1_8 : ByteArray) (a1_9 : Sl3) (a1_10 : Sl3) (a1_11 : Sl3) : Option Bool :=
  if a0_0 = a1_0 then
    if (a0_1.toList == a1_1.toList) = true then
      Option.bind (ref02_Same L H a0_2 a0_3 a1_2 a1_3) fun x1 =>
      if x1 = true then
        if a0_4 = a1_4 then
          Option.bind (ref05_limbs L H a0_5 a1_5) fun x2 =>
          if x2 = true then
            Option.bind (ref04_Same L H a0_6 a0_7 a0_8 a0_9 a1_6 a1_7 a1_8 a1_9) fun x3 =>
            if x3 = true then
              Option.bind (ref05_ints L H a0_10 a1_10) fun x4 =>
              if x4 = true then
                Option.bind (ref05_ints L H a0_11 a1_11) fun x5 =>
                some x5
              else
                none
            else
              none
          else
            none
        else
          none
      else
        none
    else
      none
  else
    none

theorem ref05_Same_ok {L : LC} {m : Nat} {H : AH} {a0_0 : Int} {a0_1 : ByteArray} {a0_2 : Bool} {a0_3 : Sl3} {a0_4 : Int} {a0_5 : Sl3} {a0_6 : Int} {a0_7 : Int} {a0_8 : ByteArray} {a0_9 : Sl3} {a0_10 : Sl3} {a0_11 : Sl3} {a1_0 : Int} {a1_1 : ByteArray} {a1_2 : Bool} {a1_3 : Sl3} {a1_4 : Int} {a1_5 : Sl3} {a1_6 : Int} {a1_7 : Int} {a1_8 : ByteArray} {a1_9 : Sl3} {a1_10 : Sl3} {a1_11 : Sl3} {r : Bool} (h : ref05_Same L H a0_0 a0_1 a0_2 a0_3 a0_4 a0_5 a0_6 a0_7 a0_8 a0_9 a0_10 a0_11 a1_0 a1_1 a1_2 a1_3 a1_4 a1_5 a1_6 a1_7 a1_8 a1_9 a1_10 a1_11 = some r) :
    CallS Tryz.prog (NE.plain 92) m 10 #[(Value.agg #[(Value.int .i64 a0_0), (Value.string a0_1), (Value.bool a0_2), (Sl3.v a0_3), (Value.int .i64 a0_4), (Sl3.v a0_5), (Value.int .i64 a0_6), (Value.int .i64 a0_7), (Value.string a0_8), (Sl3.v a0_9), (Sl3.v a0_10), (Sl3.v a0_11)]), (Value.agg #[(Value.int .i64 a1_0), (Value.string a1_1), (Value.bool a1_2), (Sl3.v a1_3), (Value.int .i64 a1_4), (Sl3.v a1_5), (Value.int .i64 a1_6), (Value.int .i64 a1_7), (Value.string a1_8), (Sl3.v a1_9), (Sl3.v a1_10), (Sl3.v a1_11)])] H (ref05_Same_enc r) (ref05_Same_hp H r) := by
  refine CallS.mk (args := [(Value.agg #[(Value.int .i64 a0_0), (Value.string a0_1), (Value.bool a0_2), (Sl3.v a0_3), (Value.int .i64 a0_4), (Sl3.v a0_5), (Value.int .i64 a0_6), (Value.int .i64 a0_7), (Value.string a0_8), (Sl3.v a0_9), (Sl3.v a0_10), (Sl3.v a0_11)]), (Value.agg #[(Value.int .i64 a1_0), (Value.string a1_1), (Value.bool a1_2), (Sl3.v a1_3), (Value.int .i64 a1_4), (Sl3.v a1_5), (Value.int .i64 a1_6), (Value.int .i64 a1_7), (Value.string a1_8), (Sl3.v a1_9), (Sl3.v a1_10), (Sl3.v a1_11)])]) Tryz.func10 (B := B10) (by kernel_rfl) (fun E _ => ?_)
  unfold ref05_Same at h
  refine WS.sq ?_
  refine WS.rg ?_
  refine RS.mL 3 [(4, .val (Value.bool false)), (3, .loc 1 0), (2, .loc 0 0)] ([some (35, [(Value.int .i64 a0_0), (Value.string a0_1), (Value.bool a0_2), (Sl3.v a0_3), (Value.int .i64 a0_4), (Sl3.v a0_5), (Value.int .i64 a0_6), (Value.int .i64 a0_7), (Value.string a0_8), (Sl3.v a0_9), (Sl3.v a0_10), (Sl3.v a0_11)]), some (35, [(Value.int .i64 a1_0), (Value.string a1_1), (Value.bool a1_2), (Sl3.v a1_3), (Value.int .i64 a1_4), (Sl3.v a1_5), (Value.int .i64 a1_6), (Value.int .i64 a1_7), (Value.string a1_8), (Sl3.v a1_9), (Sl3.v a1_10), (Sl3.v a1_11)])]) ?_
  refine RS.dn ?_
  refine WS.nxt ?_
  refine WS.sq ?_
  refine WS.rg ?_
  refine RS.mS 6 [(10, .val (Value.bool (decide (a0_0 = a1_0)))), (9, .val (Value.bool (decide (a0_0 = a1_0)))), (8, .val (Value.int .i64 a1_0)), (7, .loc 1 0), (6, .val (Value.int .i64 a0_0)), (5, .loc 0 0)] ?_
  rcases ite_some h with ⟨hp, h⟩ | ⟨hp, h⟩
  · refine RS.fx 10 true (decide_eq_true hp) ?_
    refine RS.mS 7 [(17, .val (Value.bool (a0_1.toList == a1_1.toList))), (16, .val (Value.bool (a0_1.toList == a1_1.toList))), (15, .val (Value.bool (a0_1.toList == a1_1.toList))), (14, .val (Value.string a1_1)), (13, .loc 1 1), (12, .val (Value.string a0_1)), (11, .loc 0 1)] ?_
    rcases ite_some h with ⟨hp, h⟩ | ⟨hp, h⟩
    · refine RS.fx 17 true hp ?_
      refine RS.mS 4 [(21, .val (Value.agg #[(Value.bool a1_2), (Sl3.v a1_3)])), (20, .loc 1 2), (19, .val (Value.agg #[(Value.bool a0_2), (Sl3.v a0_3)])), (18, .loc 0 2)] ?_
      obtain ⟨x1, hx, h⟩ := bind_some h
      refine RS.cl (some 22) (v := (Value.bool x1)) 26 #[(Value.agg #[(Value.bool a0_2), (Sl3.v a0_3)]), (Value.agg #[(Value.bool a1_2), (Sl3.v a1_3)])] (ref02_Same_ok hx) ?_
      refine RS.mS 2 [(24, .val (Value.bool x1)), (23, .val (Value.bool x1))] ?_
      rcases ite_some h with ⟨hp, h⟩ | ⟨hp, h⟩
      · refine RS.fx 24 true hp ?_
        refine RS.mS 9 [(33, .val (Value.bool (decide (a0_4 = a1_4)))), (32, .val (Value.bool (decide (a0_4 = a1_4)))), (31, .val (Value.bool (decide (a0_4 = a1_4)))), (30, .val (Value.int .i64 a1_4)), (29, .loc 1 4), (28, .loc 1 4), (27, .val (Value.int .i64 a0_4)), (26, .loc 0 4), (25, .loc 0 4)] ?_
        rcases ite_some h with ⟨hp, h⟩ | ⟨hp, h⟩
        · refine RS.fx 33 true (decide_eq_true hp) ?_
          refine RS.mS 6 [(39, .val (Sl3.v a1_5)), (38, .loc 1 5), (37, .loc 1 4), (36, .val (Sl3.v a0_5)), (35, .loc 0 5), (34, .loc 0 4)] ?_
          obtain ⟨x2, hx, h⟩ := bind_some h
          refine RS.cl (some 40) (v := (Value.bool x2)) 27 #[(Sl3.v a0_5), (Sl3.v a1_5)] (ref05_limbs_ok hx) ?_
          refine RS.mS 2 [(42, .val (Value.bool x2)), (41, .val (Value.bool x2))] ?_
          rcases ite_some h with ⟨hp, h⟩ | ⟨hp, h⟩
          · refine RS.fx 42 true hp ?_
            refine RS.mS 4 [(46, .val (Value.agg #[(Value.int .i64 a1_6), (Value.int .i64 a1_7), (Value.string a1_8), (Sl3.v a1_9)])), (45, .loc 1 6), (44, .val (Value.agg #[(Value.int .i64 a0_6), (Value.int .i64 a0_7), (Value.string a0_8), (Sl3.v a0_9)])), (43, .loc 0 6)] ?_
            obtain ⟨x3, hx, h⟩ := bind_some h
            refine RS.cl (some 47) (v := (Value.bool x3)) 11 #[(Value.agg #[(Value.int .i64 a0_6), (Value.int .i64 a0_7), (Value.string a0_8), (Sl3.v a0_9)]), (Value.agg #[(Value.int .i64 a1_6), (Value.int .i64 a1_7), (Value.string a1_8), (Sl3.v a1_9)])] (ref04_Same_ok hx) ?_
            refine RS.mS 2 [(49, .val (Value.bool x3)), (48, .val (Value.bool x3))] ?_
            rcases ite_some h with ⟨hp, h⟩ | ⟨hp, h⟩
            · refine RS.fx 49 true hp ?_
              refine RS.mS 4 [(53, .val (Sl3.v a1_10)), (52, .loc 1 10), (51, .val (Sl3.v a0_10)), (50, .loc 0 10)] ?_
              obtain ⟨x4, hx, h⟩ := bind_some h
              refine RS.cl (some 54) (v := (Value.bool x4)) 28 #[(Sl3.v a0_10), (Sl3.v a1_10)] (ref05_ints_ok hx) ?_
              refine RS.mS 2 [(56, .val (Value.bool x4)), (55, .val (Value.bool x4))] ?_
              rcases ite_some h with ⟨hp, h⟩ | ⟨hp, h⟩
              · refine RS.fx 56 true hp ?_
                refine RS.mS 4 [(60, .val (Sl3.v a1_11)), (59, .loc 1 11), (58, .val (Sl3.v a0_11)), (57, .loc 0 11)] ?_
                obtain ⟨x5, hx, h⟩ := bind_some h
                refine RS.cl (some 61) (v := (Value.bool x5)) 28 #[(Sl3.v a0_11), (Sl3.v a1_11)] (ref05_ints_ok hx) ?_
                refine RS.mS 2 [(4, .val (Value.bool x5)), (62, .val (Value.bool x5))] ?_
                refine RS.dn ?_
                refine WS.nxt ?_
                refine WS.rt ?_
                cases h
                exact fun a w hs => rtR (rS hs)
              · refine RS.fx 56 false (b_not hp) ?_
                cases h
            · refine RS.fx 49 false (b_not hp) ?_
              cases h
          · refine RS.fx 42 false (b_not hp) ?_
            cases h
        · refine RS.fx 33 false (decide_eq_false hp) ?_
          cases h
      · refine RS.fx 24 false (b_not hp) ?_
        cases h
    · refine RS.fx 17 false (b_not hp) ?_
      cases h
  · refine RS.fx 10 false (decide_eq_false hp) ?_
    cases h

def term_Table_made_enc : Bool → Value
  | r0 => (Value.bool r0)

def term_Table_made_hp (H : AH) : Bool → AH := fun _ => H

noncomputable def B15 : Code := (Tryz.f15.body).getD .skip

noncomputable def term_Table_made (_L : LC) (H : AH) (a0 : Option Addr) : Option Bool :=
  match a0 with
  | none =>
    some false
  | some q1 =>
    Option.bind (rd deM H (Addr.add q1 4)) fun x2 =>
    match x2 with
    | none =>
      some false
    | some _ =>
      some true

theorem term_Table_made_ok {L : LC} {m : Nat} {H : AH} {a0 : Option Addr} {r : Bool} (h : term_Table_made L H a0 = some r) :
    CallS Tryz.prog (NE.plain 92) m 15 #[(Value.pointer a0)] H (term_Table_made_enc r) (term_Table_made_hp H r) := by
  refine CallS.mk (args := [(Value.pointer a0)]) Tryz.func15 (B := B15) (by kernel_rfl) (fun E _ => ?_)
  unfold term_Table_made at h
  refine WS.sq ?_
  refine WS.rg ?_
  refine RS.mS 1 [(2, .val (Value.bool false))] ?_
  refine RS.dn ?_
  refine WS.nxt ?_
  refine WS.sq ?_
  refine WS.rg ?_
  refine RS.mS 1 [(3, .val (Value.pointer a0))] ?_
  rcases a0 with _ | q1
  · try dsimp only at h
    refine RS.mS 9 [(2, .val (Value.bool false)), (11, .val (Value.bool false)), (10, .val undef), (9, .val undef), (8, .val undef), (7, .val undef), (6, .val undef), (5, .val (Value.bool false)), (4, .val (Value.bool false))] ?_
    refine RS.dn ?_
    refine WS.nxt ?_
    refine WS.rt ?_
    cases h
    exact fun a w hs => rtR (rS hs)
  · try dsimp only at h
    refine RS.mS 5 [(8, .val (Value.pointer (some (Addr.add q1 4)))), (7, .val (Value.pointer (some q1))), (6, .val (Value.pointer (some q1))), (5, .val (Value.bool true)), (4, .val (Value.bool true))] ?_
    obtain ⟨x2, hx, h⟩ := bind_some h
    refine RS.o (H' := H) (some 9) (Value.map x2) (Abs.run_load (t := 43) (x := .tmp 8) (a := (Addr.add q1 4)) (by kernel_rfl) (by kernel_rfl) (by kernel_rfl) (rd_cell hx deM_inv)) ?_
    rcases x2 with _ | q3
    · try dsimp only at h
      refine RS.mS 3 [(2, .val (Value.bool false)), (11, .val (Value.bool false)), (10, .val (Value.bool false))] ?_
      refine RS.dn ?_
      refine WS.nxt ?_
      refine WS.rt ?_
      cases h
      exact fun a w hs => rtR (rS hs)
    · try dsimp only at h
      refine RS.mS 3 [(2, .val (Value.bool true)), (11, .val (Value.bool true)), (10, .val (Value.bool true))] ?_
      refine RS.dn ?_
      refine WS.nxt ?_
      refine WS.rt ?_
      cases h
      exact fun a w hs => rtR (rS hs)

def term_Table_Len_enc : Int → Value
  | r0 => (Value.int .i64 r0)

def term_Table_Len_hp (H : AH) : Int → AH := fun _ => H

noncomputable def B12 : Code := (Tryz.f12.body).getD .skip

noncomputable def term_Table_Len (L : LC) (H : AH) (a0 : Option Addr) : Option Int :=
  Option.bind (term_Table_made L H a0) fun x1 =>
  if x1 = true then
    Option.bind a0 fun q2 =>
    Option.bind (rd deSl H (Addr.add q2 3)) fun x3 =>
    some (x3.n : Int)
  else
    some 0

theorem term_Table_Len_ok {L : LC} {m : Nat} {H : AH} {a0 : Option Addr} {r : Int} (h : term_Table_Len L H a0 = some r) :
    CallS Tryz.prog (NE.plain 92) m 12 #[(Value.pointer a0)] H (term_Table_Len_enc r) (term_Table_Len_hp H r) := by
  refine CallS.mk (args := [(Value.pointer a0)]) Tryz.func12 (B := B12) (by kernel_rfl) (fun E _ => ?_)
  unfold term_Table_Len at h
  refine WS.sq ?_
  refine WS.rg ?_
  refine RS.mS 1 [(2, .val (Value.int .i64 0))] ?_
  refine RS.dn ?_
  refine WS.nxt ?_
  refine WS.sq ?_
  refine WS.sq ?_
  refine WS.rg ?_
  refine RS.mS 1 [(3, .val (Value.pointer a0))] ?_
  obtain ⟨x1, hx, h⟩ := bind_some h
  refine RS.cl (some 4) (v := (Value.bool x1)) 15 #[(Value.pointer a0)] (term_Table_made_ok hx) ?_
  refine RS.mS 1 [(5, .val (Value.bool (!x1)))] ?_
  refine RS.dn ?_
  refine WS.nxt ?_
  rcases ite_some h with ⟨hp, h⟩ | ⟨hp, h⟩
  · refine WS.fx 5 false (nb_not hp) ?_
    refine WS.cF ?_
    refine WS.sk ?_
    refine WS.nxt ?_
    refine WS.sq ?_
    refine WS.rg ?_
    refine RS.mS 1 [(6, .val (Value.pointer a0))] ?_
    obtain ⟨q2, hx, hq2⟩ := bind_some h
    subst hx
    have h := hq2
    refine RS.mS 2 [(8, .val (Value.pointer (some (Addr.add q2 3)))), (7, .val (Value.pointer (some q2)))] ?_
    obtain ⟨x3, hx, h⟩ := bind_some h
    refine RS.o (H' := H) (some 9) (Sl3.v x3) (Abs.run_load (t := 42) (x := .tmp 8) (a := (Addr.add q2 3)) (by kernel_rfl) (by kernel_rfl) (by kernel_rfl) (rd_cell hx deSl_inv)) ?_
    refine RS.mS 2 [(2, .val (Value.int .i64 (x3.n : Int))), (10, .val (Value.int .i64 (x3.n : Int)))] ?_
    refine RS.dn ?_
    refine WS.nxt ?_
    refine WS.rt ?_
    cases h
    exact fun a w hs => rtR (rS hs)
  · refine WS.fx 5 true (nb_not' hp) ?_
    refine WS.cT ?_
    refine WS.sq ?_
    refine WS.rg ?_
    refine RS.mS 1 [(2, .val (Value.int .i64 0))] ?_
    refine RS.dn ?_
    refine WS.nxt ?_
    refine WS.rt ?_
    cases h
    exact fun a w hs => sqR (rtR (rS hs))

def term_Table_Below_enc : (Sl3 × AH) → Value
  | (r0, _) => (Sl3.v r0)

def term_Table_Below_hp (_ : AH) : (Sl3 × AH) → AH := fun r => r.2

noncomputable def B13 : Code := (Tryz.f13.body).getD .skip

noncomputable def term_Table_Below (L : LC) (_m : Nat) (H : AH) (a0 : Option Addr) (_a1 : Sl3) : Option (Sl3 × AH) :=
  Option.bind (term_Table_made L H a0) fun x1 =>
  if x1 = true then
    none
  else
    some (Sl3.nil, H)

theorem term_Table_Below_ok {L : LC} {m : Nat} {H : AH} {a0 : Option Addr} {a1 : Sl3} {r : (Sl3 × AH)} (h : term_Table_Below L m H a0 a1 = some r) :
    CallS Tryz.prog (NE.plain 92) m 13 #[(Value.pointer a0), (Sl3.v a1)] H (term_Table_Below_enc r) (term_Table_Below_hp H r) := by
  refine CallS.mk (args := [(Value.pointer a0), (Sl3.v a1)]) Tryz.func13 (B := B13) (by kernel_rfl) (fun E _ => ?_)
  unfold term_Table_Below at h
  refine WS.sq ?_
  refine WS.rg ?_
  refine RS.mS 1 [(4, .val (Sl3.v Sl3.nil))] ?_
  refine RS.dn ?_
  refine WS.nxt ?_
  refine WS.sq ?_
  refine WS.sq ?_
  refine WS.rg ?_
  refine RS.mS 1 [(12, .val (Value.pointer a0))] ?_
  obtain ⟨x1, hx, h⟩ := bind_some h
  refine RS.cl (some 13) (v := (Value.bool x1)) 15 #[(Value.pointer a0)] (term_Table_made_ok hx) ?_
  refine RS.mS 1 [(14, .val (Value.bool (!x1)))] ?_
  refine RS.dn ?_
  refine WS.nxt ?_
  rcases ite_some h with ⟨hp, h⟩ | ⟨hp, h⟩
  · refine WS.fx 14 false (nb_not hp) ?_
    refine WS.cF ?_
    cases h
  · refine WS.fx 14 true (nb_not' hp) ?_
    refine WS.cT ?_
    refine WS.sq ?_
    refine WS.rg ?_
    refine RS.mS 1 [(4, .val (Sl3.v Sl3.nil))] ?_
    refine RS.dn ?_
    refine WS.nxt ?_
    refine WS.rt ?_
    cases h
    exact fun a w hs => sqR (rtR (rS hs))

def term_Table_Sig_enc : (Sl3 × Sl3 × Sl3 × AH) → Value
  | (r0, r1, r2, _) => (Value.agg #[(Sl3.v r0), (Sl3.v r1), (Sl3.v r2)])

def term_Table_Sig_hp (_ : AH) : (Sl3 × Sl3 × Sl3 × AH) → AH := fun r => r.2.2.2

noncomputable def B14 : Code := (Tryz.f14.body).getD .skip

noncomputable def term_Table_Sig (L : LC) (_m : Nat) (H : AH) (a0 : Option Addr) : Option (Sl3 × Sl3 × Sl3 × AH) :=
  Option.bind (term_Table_made L H a0) fun x1 =>
  if x1 = true then
    none
  else
    some (Sl3.nil, Sl3.nil, Sl3.nil, H)

theorem term_Table_Sig_ok {L : LC} {m : Nat} {H : AH} {a0 : Option Addr} {r : (Sl3 × Sl3 × Sl3 × AH)} (h : term_Table_Sig L m H a0 = some r) :
    CallS Tryz.prog (NE.plain 92) m 14 #[(Value.pointer a0)] H (term_Table_Sig_enc r) (term_Table_Sig_hp H r) := by
  refine CallS.mk (args := [(Value.pointer a0)]) Tryz.func14 (B := B14) (by kernel_rfl) (fun E _ => ?_)
  unfold term_Table_Sig at h
  refine WS.sq ?_
  refine WS.rg ?_
  refine RS.mL 1 [(2, .loc 0 0)] ([some (41, [(Sl3.v Sl3.nil), (Sl3.v Sl3.nil), (Sl3.v Sl3.nil)])]) ?_
  refine RS.dn ?_
  refine WS.nxt ?_
  refine WS.sq ?_
  refine WS.sq ?_
  refine WS.rg ?_
  refine RS.mS 1 [(3, .val (Value.pointer a0))] ?_
  obtain ⟨x1, hx, h⟩ := bind_some h
  refine RS.cl (some 4) (v := (Value.bool x1)) 15 #[(Value.pointer a0)] (term_Table_made_ok hx) ?_
  refine RS.mS 1 [(5, .val (Value.bool (!x1)))] ?_
  refine RS.dn ?_
  refine WS.nxt ?_
  rcases ite_some h with ⟨hp, h⟩ | ⟨hp, h⟩
  · refine WS.fx 5 false (nb_not hp) ?_
    refine WS.cF ?_
    cases h
  · refine WS.fx 5 true (nb_not' hp) ?_
    refine WS.cT ?_
    refine WS.sq ?_
    refine WS.rg ?_
    refine RS.mS 2 [(6, .val (Value.agg #[(Sl3.v Sl3.nil), (Sl3.v Sl3.nil), (Sl3.v Sl3.nil)]))] ?_
    refine RS.dn ?_
    refine WS.nxt ?_
    refine WS.rt ?_
    cases h
    exact fun a w hs => sqR (rtR (rS hs))

def term_Table_Add_o_enc : (Int × Int × AH) → Value
  | (r0, r1, _) => (Value.tuple #[(Value.int .i64 r0), (Value.int .i64 r1)])

def term_Table_Add_o_hp (_ : AH) : (Int × Int × AH) → AH := fun r => r.2.2

noncomputable def B4 : Code := (Tryz.f4.body).getD .skip

noncomputable def term_Table_Add_o (L : LC) (_m : Nat) (H : AH) (a0 : Option Addr) : Option (Int × Int × AH) :=
  Option.bind (term_Table_made L H a0) fun x1 =>
  if x1 = true then
    none
  else
    some (0, 4, H)

theorem term_Table_Add_o_ok {L : LC} {m : Nat} {H : AH} {a0 : Option Addr} {r : (Int × Int × AH)} (h : term_Table_Add_o L m H a0 = some r) :
    CallS Tryz.prog (NE.plain 92) m 4 #[(Value.pointer a0), (Value.agg #[anyV, anyV, anyV, anyV, anyV, anyV, anyV, anyV, anyV, anyV, anyV, anyV])] H (term_Table_Add_o_enc r) (term_Table_Add_o_hp H r) := by
  refine CallS.mk (args := [(Value.pointer a0), (Value.agg #[anyV, anyV, anyV, anyV, anyV, anyV, anyV, anyV, anyV, anyV, anyV, anyV])]) Tryz.func4 (B := B4) (by kernel_rfl) (fun E _ => ?_)
  unfold term_Table_Add_o at h
  refine WS.sq ?_
  refine WS.rg ?_
  refine RS.mL 3 [(5, .val (Value.int .i64 0)), (4, .val (Value.int .i64 0)), (3, .loc 0 0)] ([some (35, [anyV, anyV, anyV, anyV, anyV, anyV, anyV, anyV, anyV, anyV, anyV, anyV])]) ?_
  refine RS.dn ?_
  refine WS.nxt ?_
  refine WS.sq ?_
  refine WS.sq ?_
  refine WS.rg ?_
  refine RS.mS 1 [(12, .val (Value.pointer a0))] ?_
  obtain ⟨x1, hx, h⟩ := bind_some h
  refine RS.cl (some 13) (v := (Value.bool x1)) 15 #[(Value.pointer a0)] (term_Table_made_ok hx) ?_
  refine RS.mS 1 [(14, .val (Value.bool (!x1)))] ?_
  refine RS.dn ?_
  refine WS.nxt ?_
  rcases ite_some h with ⟨hp, h⟩ | ⟨hp, h⟩
  · refine WS.fx 14 false (nb_not hp) ?_
    refine WS.cF ?_
    cases h
  · refine WS.fx 14 true (nb_not' hp) ?_
    refine WS.cT ?_
    refine WS.sq ?_
    refine WS.rg ?_
    refine RS.mS 2 [(5, .val (Value.int .i64 4)), (4, .val (Value.int .i64 0))] ?_
    refine RS.dn ?_
    refine WS.nxt ?_
    refine WS.rt ?_
    cases h
    exact fun a w hs => sqR (rtR (rS hs))

def term_Table_Add_o1_enc : (Int × Int × AH) → Value
  | (r0, r1, _) => (Value.tuple #[(Value.int .i64 r0), (Value.int .i64 r1)])

def term_Table_Add_o1_hp (_ : AH) : (Int × Int × AH) → AH := fun r => r.2.2

noncomputable def term_Table_Add_o1 (L : LC) (_m : Nat) (H : AH) (a0 : Option Addr) (_a1_1 : ByteArray) (_a1_2 : Bool) (_a1_3 : Sl3) (_a1_4 : Int) (_a1_5 : Sl3) (_a1_6 : Int) (_a1_7 : Int) (_a1_8 : ByteArray) (_a1_9 : Sl3) (_a1_10 : Sl3) (_a1_11 : Sl3) : Option (Int × Int × AH) :=
  Option.bind (term_Table_made L H a0) fun x1 =>
  if x1 = true then
    none
  else
    some (0, 4, H)

theorem term_Table_Add_o1_ok {L : LC} {m : Nat} {H : AH} {a0 : Option Addr} {a1_1 : ByteArray} {a1_2 : Bool} {a1_3 : Sl3} {a1_4 : Int} {a1_5 : Sl3} {a1_6 : Int} {a1_7 : Int} {a1_8 : ByteArray} {a1_9 : Sl3} {a1_10 : Sl3} {a1_11 : Sl3} {r : (Int × Int × AH)} (h : term_Table_Add_o1 L m H a0 a1_1 a1_2 a1_3 a1_4 a1_5 a1_6 a1_7 a1_8 a1_9 a1_10 a1_11 = some r) :
    CallS Tryz.prog (NE.plain 92) m 4 #[(Value.pointer a0), (Value.agg #[anyV, (Value.string a1_1), (Value.bool a1_2), (Sl3.v a1_3), (Value.int .i64 a1_4), (Sl3.v a1_5), (Value.int .i64 a1_6), (Value.int .i64 a1_7), (Value.string a1_8), (Sl3.v a1_9), (Sl3.v a1_10), (Sl3.v a1_11)])] H (term_Table_Add_o1_enc r) (term_Table_Add_o1_hp H r) := by
  refine CallS.mk (args := [(Value.pointer a0), (Value.agg #[anyV, (Value.string a1_1), (Value.bool a1_2), (Sl3.v a1_3), (Value.int .i64 a1_4), (Sl3.v a1_5), (Value.int .i64 a1_6), (Value.int .i64 a1_7), (Value.string a1_8), (Sl3.v a1_9), (Sl3.v a1_10), (Sl3.v a1_11)])]) Tryz.func4 (B := B4) (by kernel_rfl) (fun E _ => ?_)
  unfold term_Table_Add_o1 at h
  refine WS.sq ?_
  refine WS.rg ?_
  refine RS.mL 3 [(5, .val (Value.int .i64 0)), (4, .val (Value.int .i64 0)), (3, .loc 0 0)] ([some (35, [anyV, (Value.string a1_1), (Value.bool a1_2), (Sl3.v a1_3), (Value.int .i64 a1_4), (Sl3.v a1_5), (Value.int .i64 a1_6), (Value.int .i64 a1_7), (Value.string a1_8), (Sl3.v a1_9), (Sl3.v a1_10), (Sl3.v a1_11)])]) ?_
  refine RS.dn ?_
  refine WS.nxt ?_
  refine WS.sq ?_
  refine WS.sq ?_
  refine WS.rg ?_
  refine RS.mS 1 [(12, .val (Value.pointer a0))] ?_
  obtain ⟨x1, hx, h⟩ := bind_some h
  refine RS.cl (some 13) (v := (Value.bool x1)) 15 #[(Value.pointer a0)] (term_Table_made_ok hx) ?_
  refine RS.mS 1 [(14, .val (Value.bool (!x1)))] ?_
  refine RS.dn ?_
  refine WS.nxt ?_
  rcases ite_some h with ⟨hp, h⟩ | ⟨hp, h⟩
  · refine WS.fx 14 false (nb_not hp) ?_
    refine WS.cF ?_
    cases h
  · refine WS.fx 14 true (nb_not' hp) ?_
    refine WS.cT ?_
    refine WS.sq ?_
    refine WS.rg ?_
    refine RS.mS 2 [(5, .val (Value.int .i64 4)), (4, .val (Value.int .i64 0))] ?_
    refine RS.dn ?_
    refine WS.nxt ?_
    refine WS.rt ?_
    cases h
    exact fun a w hs => sqR (rtR (rS hs))

def term_Table_Make_o_enc : (Int × Int × AH) → Value
  | (r0, r1, _) => (Value.tuple #[(Value.int .i64 r0), (Value.int .i64 r1)])

def term_Table_Make_o_hp (_ : AH) : (Int × Int × AH) → AH := fun r => r.2.2

noncomputable def B5 : Code := (Tryz.f5.body).getD .skip

noncomputable def term_Table_Make_o (L : LC) (m : Nat) (H : AH) (a0 : Option Addr) (a2 : Sl3) : Option (Int × Int × AH) :=
  Option.bind (term_Table_Add_o1 L m H a0 (⟨#[]⟩ : ByteArray) false Sl3.nil 0 Sl3.nil 0 0 (⟨#[]⟩ : ByteArray) Sl3.nil Sl3.nil a2) fun (x1, x2, H3) =>
  some (x1, x2, H3)

theorem term_Table_Make_o_ok {L : LC} {m : Nat} {H : AH} {a0 : Option Addr} {a2 : Sl3} {r : (Int × Int × AH)} (h : term_Table_Make_o L m H a0 a2 = some r) :
    CallS Tryz.prog (NE.plain 92) m 5 #[(Value.pointer a0), anyV, (Sl3.v a2)] H (term_Table_Make_o_enc r) (term_Table_Make_o_hp H r) := by
  refine CallS.mk (args := [(Value.pointer a0), anyV, (Sl3.v a2)]) Tryz.func5 (B := B5) (by kernel_rfl) (fun E _ => ?_)
  unfold term_Table_Make_o at h
  refine WS.sq ?_
  refine WS.rg ?_
  refine RS.mS 2 [(7, .val (Value.int .i64 0)), (6, .val (Value.int .i64 0))] ?_
  refine RS.dn ?_
  refine WS.nxt ?_
  refine WS.sq ?_
  refine WS.rg ?_
  refine RS.mS 4 [(11, .val (Value.agg #[anyV, (Value.string (⟨#[]⟩ : ByteArray)), (Value.bool false), (Sl3.v Sl3.nil), (Value.int .i64 0), (Sl3.v Sl3.nil), (Value.int .i64 0), (Value.int .i64 0), (Value.string (⟨#[]⟩ : ByteArray)), (Sl3.v Sl3.nil), (Sl3.v Sl3.nil), (Sl3.v a2)])), (10, .val (Sl3.v a2)), (9, .val anyV), (8, .val (Value.pointer a0))] ?_
  obtain ⟨⟨x1, x2, H3⟩, hx, h⟩ := bind_some h
  try dsimp only at h
  refine RS.cl (some 12) (v := (Value.tuple #[(Value.int .i64 x1), (Value.int .i64 x2)])) 4 #[(Value.pointer a0), (Value.agg #[anyV, (Value.string (⟨#[]⟩ : ByteArray)), (Value.bool false), (Sl3.v Sl3.nil), (Value.int .i64 0), (Sl3.v Sl3.nil), (Value.int .i64 0), (Value.int .i64 0), (Value.string (⟨#[]⟩ : ByteArray)), (Sl3.v Sl3.nil), (Sl3.v Sl3.nil), (Sl3.v a2)])] (term_Table_Add_o1_ok hx) ?_
  refine RS.mS 4 [(7, .val (Value.int .i64 x2)), (6, .val (Value.int .i64 x1)), (14, .val (Value.int .i64 x2)), (13, .val (Value.int .i64 x1))] ?_
  refine RS.dn ?_
  refine WS.nxt ?_
  refine WS.rt ?_
  cases h
  exact fun a w hs => rtR (rS hs)

def term_Table_Node_o_enc : (Int × ByteArray × Bool × Sl3 × Int × Sl3 × Int × Int × ByteArray × Sl3 × Sl3 × Sl3 × Bool × AH) → Value
  | (r0, r1, r2, r3, r4, r5, r6, r7, r8, r9, r10, r11, r12, _) => (Value.tuple #[(Value.agg #[(Value.int .i64 r0), (Value.string r1), (Value.bool r2), (Sl3.v r3), (Value.int .i64 r4), (Sl3.v r5), (Value.int .i64 r6), (Value.int .i64 r7), (Value.string r8), (Sl3.v r9), (Sl3.v r10), (Sl3.v r11)]), (Value.bool r12)])

def term_Table_Node_o_hp (_ : AH) : (Int × ByteArray × Bool × Sl3 × Int × Sl3 × Int × Int × ByteArray × Sl3 × Sl3 × Sl3 × Bool × AH) → AH := fun r => r.2.2.2.2.2.2.2.2.2.2.2.2.2

noncomputable def B6 : Code := (Tryz.f6.body).getD .skip

noncomputable def term_Table_Node_o (L : LC) (_m : Nat) (H : AH) (a0 : Option Addr) : Option (Int × ByteArray × Bool × Sl3 × Int × Sl3 × Int × Int × ByteArray × Sl3 × Sl3 × Sl3 × Bool × AH) :=
  Option.bind (term_Table_made L H a0) fun x1 =>
  if x1 = true then
    none
  else
    some (0, (⟨#[]⟩ : ByteArray), false, Sl3.nil, 0, Sl3.nil, 0, 0, (⟨#[]⟩ : ByteArray), Sl3.nil, Sl3.nil, Sl3.nil, false, H)

theorem term_Table_Node_o_ok {L : LC} {m : Nat} {H : AH} {a0 : Option Addr} {r : (Int × ByteArray × Bool × Sl3 × Int × Sl3 × Int × Int × ByteArray × Sl3 × Sl3 × Sl3 × Bool × AH)} (h : term_Table_Node_o L m H a0 = some r) :
    CallS Tryz.prog (NE.plain 92) m 6 #[(Value.pointer a0), anyV] H (term_Table_Node_o_enc r) (term_Table_Node_o_hp H r) := by
  refine CallS.mk (args := [(Value.pointer a0), anyV]) Tryz.func6 (B := B6) (by kernel_rfl) (fun E _ => ?_)
  unfold term_Table_Node_o at h
  refine WS.sq ?_
  refine WS.rg ?_
  refine RS.mL 2 [(5, .val (Value.bool false)), (4, .loc 0 0)] ([some (35, [(Value.int .i64 0), (Value.string (⟨#[]⟩ : ByteArray)), (Value.bool false), (Sl3.v Sl3.nil), (Value.int .i64 0), (Sl3.v Sl3.nil), (Value.int .i64 0), (Value.int .i64 0), (Value.string (⟨#[]⟩ : ByteArray)), (Sl3.v Sl3.nil), (Sl3.v Sl3.nil), (Sl3.v Sl3.nil)])]) ?_
  refine RS.dn ?_
  refine WS.nxt ?_
  refine WS.sq ?_
  refine WS.sq ?_
  refine WS.rg ?_
  refine RS.mS 1 [(7, .val (Value.pointer a0))] ?_
  obtain ⟨x1, hx, h⟩ := bind_some h
  refine RS.cl (some 8) (v := (Value.bool x1)) 15 #[(Value.pointer a0)] (term_Table_made_ok hx) ?_
  refine RS.mS 2 [(10, .val (Value.bool (!x1))), (9, .val (Value.bool (!x1)))] ?_
  rcases ite_some h with ⟨hp, h⟩ | ⟨hp, h⟩
  · refine RS.fx 10 false (nb_not hp) ?_
    cases h
  · refine RS.fx 10 true (nb_not' hp) ?_
    refine RS.mS 12 [(22, .val (Value.bool true)), (21, .val undef), (20, .val undef), (19, .val undef), (18, .val undef), (17, .val undef), (16, .val undef), (15, .val undef), (14, .val (Value.bool true)), (13, .val (Value.bool true)), (12, .val undef), (11, .val undef)] ?_
    refine RS.dn ?_
    refine WS.nxt ?_
    refine WS.cT ?_
    refine WS.sq ?_
    refine WS.rg ?_
    refine RS.mS 3 [(5, .val (Value.bool false)), (23, .val (Value.agg #[(Value.int .i64 0), (Value.string (⟨#[]⟩ : ByteArray)), (Value.bool false), (Sl3.v Sl3.nil), (Value.int .i64 0), (Sl3.v Sl3.nil), (Value.int .i64 0), (Value.int .i64 0), (Value.string (⟨#[]⟩ : ByteArray)), (Sl3.v Sl3.nil), (Sl3.v Sl3.nil), (Sl3.v Sl3.nil)]))] ?_
    refine RS.dn ?_
    refine WS.nxt ?_
    refine WS.rt ?_
    cases h
    exact fun a w hs => sqR (rtR (rS hs))

def term_Table_Text_o_enc : (ByteArray × Int × AH) → Value
  | (r0, r1, _) => (Value.tuple #[(Value.string r0), (Value.int .i64 r1)])

def term_Table_Text_o_hp (_ : AH) : (ByteArray × Int × AH) → AH := fun r => r.2.2

noncomputable def B7 : Code := (Tryz.f7.body).getD .skip

noncomputable def term_Table_Text_o (L : LC) (_m : Nat) (H : AH) (a0 : Option Addr) : Option (ByteArray × Int × AH) :=
  Option.bind (term_Table_made L H a0) fun x1 =>
  if x1 = true then
    none
  else
    some ((⟨#[]⟩ : ByteArray), 4, H)

theorem term_Table_Text_o_ok {L : LC} {m : Nat} {H : AH} {a0 : Option Addr} {r : (ByteArray × Int × AH)} (h : term_Table_Text_o L m H a0 = some r) :
    CallS Tryz.prog (NE.plain 92) m 7 #[(Value.pointer a0), anyV] H (term_Table_Text_o_enc r) (term_Table_Text_o_hp H r) := by
  refine CallS.mk (args := [(Value.pointer a0), anyV]) Tryz.func7 (B := B7) (by kernel_rfl) (fun E _ => ?_)
  unfold term_Table_Text_o at h
  refine WS.sq ?_
  refine WS.rg ?_
  refine RS.mS 2 [(5, .val (Value.int .i64 0)), (4, .val (Value.string (⟨#[]⟩ : ByteArray)))] ?_
  refine RS.dn ?_
  refine WS.nxt ?_
  refine WS.sq ?_
  refine WS.sq ?_
  refine WS.rg ?_
  refine RS.mS 1 [(7, .val (Value.pointer a0))] ?_
  obtain ⟨x1, hx, h⟩ := bind_some h
  refine RS.cl (some 8) (v := (Value.bool x1)) 15 #[(Value.pointer a0)] (term_Table_made_ok hx) ?_
  refine RS.mS 1 [(9, .val (Value.bool (!x1)))] ?_
  refine RS.dn ?_
  refine WS.nxt ?_
  rcases ite_some h with ⟨hp, h⟩ | ⟨hp, h⟩
  · refine WS.fx 9 false (nb_not hp) ?_
    refine WS.cF ?_
    cases h
  · refine WS.fx 9 true (nb_not' hp) ?_
    refine WS.cT ?_
    refine WS.sq ?_
    refine WS.rg ?_
    refine RS.mS 2 [(5, .val (Value.int .i64 4)), (4, .val (Value.string (⟨#[]⟩ : ByteArray)))] ?_
    refine RS.dn ?_
    refine WS.nxt ?_
    refine WS.rt ?_
    cases h
    exact fun a w hs => sqR (rtR (rS hs))

def term_Table_Sort_o_enc : (Int × Int × ByteArray × Sl3 × Bool × AH) → Value
  | (r0, r1, r2, r3, r4, _) => (Value.tuple #[(Value.agg #[(Value.int .i64 r0), (Value.int .i64 r1), (Value.string r2), (Sl3.v r3)]), (Value.bool r4)])

def term_Table_Sort_o_hp (_ : AH) : (Int × Int × ByteArray × Sl3 × Bool × AH) → AH := fun r => r.2.2.2.2.2

noncomputable def B8 : Code := (Tryz.f8.body).getD .skip

noncomputable def term_Table_Sort_o (L : LC) (_m : Nat) (H : AH) (a0 : Option Addr) : Option (Int × Int × ByteArray × Sl3 × Bool × AH) :=
  Option.bind (term_Table_made L H a0) fun x1 =>
  if x1 = true then
    none
  else
    some (0, 0, (⟨#[]⟩ : ByteArray), Sl3.nil, false, H)

theorem term_Table_Sort_o_ok {L : LC} {m : Nat} {H : AH} {a0 : Option Addr} {r : (Int × Int × ByteArray × Sl3 × Bool × AH)} (h : term_Table_Sort_o L m H a0 = some r) :
    CallS Tryz.prog (NE.plain 92) m 8 #[(Value.pointer a0), anyV] H (term_Table_Sort_o_enc r) (term_Table_Sort_o_hp H r) := by
  refine CallS.mk (args := [(Value.pointer a0), anyV]) Tryz.func8 (B := B8) (by kernel_rfl) (fun E _ => ?_)
  unfold term_Table_Sort_o at h
  refine WS.sq ?_
  refine WS.rg ?_
  refine RS.mL 2 [(5, .val (Value.bool false)), (4, .loc 0 0)] ([some (32, [(Value.int .i64 0), (Value.int .i64 0), (Value.string (⟨#[]⟩ : ByteArray)), (Sl3.v Sl3.nil)])]) ?_
  refine RS.dn ?_
  refine WS.nxt ?_
  refine WS.sq ?_
  refine WS.sq ?_
  refine WS.rg ?_
  refine RS.mS 1 [(6, .val (Value.pointer a0))] ?_
  obtain ⟨x1, hx, h⟩ := bind_some h
  refine RS.cl (some 7) (v := (Value.bool x1)) 15 #[(Value.pointer a0)] (term_Table_made_ok hx) ?_
  refine RS.mS 2 [(9, .val (Value.bool (!x1))), (8, .val (Value.bool (!x1)))] ?_
  rcases ite_some h with ⟨hp, h⟩ | ⟨hp, h⟩
  · refine RS.fx 9 false (nb_not hp) ?_
    cases h
  · refine RS.fx 9 true (nb_not' hp) ?_
    refine RS.mS 12 [(21, .val (Value.bool true)), (20, .val undef), (19, .val undef), (18, .val undef), (17, .val undef), (16, .val undef), (15, .val undef), (14, .val undef), (13, .val (Value.bool true)), (12, .val (Value.bool true)), (11, .val undef), (10, .val undef)] ?_
    refine RS.dn ?_
    refine WS.nxt ?_
    refine WS.cT ?_
    refine WS.sq ?_
    refine WS.rg ?_
    refine RS.mS 3 [(5, .val (Value.bool false)), (22, .val (Value.agg #[(Value.int .i64 0), (Value.int .i64 0), (Value.string (⟨#[]⟩ : ByteArray)), (Sl3.v Sl3.nil)]))] ?_
    refine RS.dn ?_
    refine WS.nxt ?_
    refine WS.rt ?_
    cases h
    exact fun a w hs => sqR (rtR (rS hs))

end Go.Proofs.YtgkogeglciogkaaGreatDoor

namespace Go.Proofs.YtgkogeglciogkaaGreatDoor
open Go Go.Abs
set_option maxRecDepth 100000

def term_copySort_enc : (Int × Int × ByteArray × Sl3 × AH) → Value
  | (r0, r1, r2, r3, _) => (Value.agg #[(Value.int .i64 r0), (Value.int .i64 r1), (Value.string r2), (Sl3.v r3)])

def term_copySort_hp (_ : AH) : (Int × Int × ByteArray × Sl3 × AH) → AH := fun r => r.2.2.2.2

noncomputable def B19 : Code := (Tryz.f19.body).getD .skip

noncomputable def term_copySort_b0 (_L : LC) (_a0_0 : Int) (_a0_1 : Int) (_a0_2 : ByteArray) (a0_3 : Sl3) : (AH × Sl3 × Int) → Option (Lp (AH × Sl3 × Int) (Int × Int × ByteArray × Sl3 × AH)) := fun (H1, v3_2, v9_3) =>
  if v9_3 < (a0_3.n : Int) then
    none
  else
    some (.brk (H1, v3_2, v9_3))

def term_copySort_b0_kn (_L : LC) (_a0_0 : Int) (_a0_1 : Int) (_a0_2 : ByteArray) (a0_3 : Sl3) : (AH × Sl3 × Int) → KN := fun (_, v3_2, v9_3) => [(3, .val (Sl3.v v3_2)), (9, .val (Value.int .i64 v9_3)), (1, .loc 0 0), (2, .loc 1 0), (7, .val (Sl3.v a0_3)), (8, .val (Value.int .i64 (a0_3.n : Int)))]

def term_copySort_b0_ls (_L : LC) (a0_0 : Int) (a0_1 : Int) (a0_2 : ByteArray) (a0_3 : Sl3) : (AH × Sl3 × Int) → Lcs := fun (_, _, _) => [some (32, [(Value.int .i64 a0_0), (Value.int .i64 a0_1), (Value.string a0_2), (Sl3.v a0_3)]), some (32, [(Value.int .i64 0), (Value.int .i64 0), (Value.string (⟨#[]⟩ : ByteArray)), (Sl3.v Sl3.nil)])]

noncomputable def term_copySort_body (L : LC) (_m : Nat) (H : AH) (a0_0 : Int) (a0_1 : Int) (a0_2 : ByteArray) (a0_3 : Sl3) : Option (Int × Int × ByteArray × Sl3 × AH) :=
  Option.bind (L.run (term_copySort_b0 L a0_0 a0_1 a0_2 a0_3) (H, Sl3.nil, 0)) fun o => match o with
  | .inl (H4, v3_5, _) =>
    some (a0_0, a0_1, a0_2, v3_5, H4)
  | .inr r => some r

noncomputable def fam_term_copySort (L : LC) (n : Nat) : (Nat → AH → Int → Int → ByteArray → Sl3 → Option (Int × Int × ByteArray × Sl3 × AH)) := Nat.rec (motive := fun _ => (Nat → AH → Int → Int → ByteArray → Sl3 → Option (Int × Int × ByteArray × Sl3 × AH))) (fun _ _ _ _ _ _ => none) (fun _ _ => term_copySort_body L) n

noncomputable def term_copySort (L : LC) (m : Nat) (H : AH) (a0_0 : Int) (a0_1 : Int) (a0_2 : ByteArray) (a0_3 : Sl3) : Option (Int × Int × ByteArray × Sl3 × AH) := (fam_term_copySort L L.fuel) m H a0_0 a0_1 a0_2 a0_3

theorem term_copySort_b0_ok {E : Ent} {m : Nat} {H : AH} {L : LC} {a0_0 : Int} {a0_1 : Int} {a0_2 : ByteArray} {a0_3 : Sl3}  : ∀ s o, term_copySort_b0 L a0_0 a0_1 a0_2 a0_3 s = some o →
    WS Tryz.prog (NE.plain 92) m E Tryz.f19.ntmps (cfst (cfst (csnd (cfst (csnd (csnd B19)))))) (term_copySort_b0_kn L a0_0 a0_1 a0_2 a0_3 s) (term_copySort_b0_ls L a0_0 a0_1 a0_2 a0_3 s) ((fun s => s.1) s) (lpS Tryz.prog (NE.plain 92) m E Tryz.f19.ntmps (term_copySort_b0_kn L a0_0 a0_1 a0_2 a0_3) (term_copySort_b0_ls L a0_0 a0_1 a0_2 a0_3) (fun s => s.1) 0 (fun r => RT Tryz.prog (NE.plain 92) m E Tryz.f19 (term_copySort_enc r) (term_copySort_hp H r)) o) := by
  rintro ⟨H1, v3_2, v9_3⟩ o h
  unfold term_copySort_b0 at h
  try dsimp only at h
  refine WS.sq ?_
  refine WS.rg ?_
  refine RS.mS 1 [(10, .val (Value.bool (decide (v9_3 < (a0_3.n : Int)))))] ?_
  refine RS.dn ?_
  refine WS.nxt ?_
  refine WS.sq ?_
  rcases ite_some h with ⟨hp, h⟩ | ⟨hp, h⟩
  · refine WS.fx 10 true (decide_eq_true hp) ?_
    refine WS.cT ?_
    cases h
  · refine WS.fx 10 false (decide_eq_false hp) ?_
    refine WS.cF ?_
    refine WS.ex 0 ?_
    cases h
    exact fun a w hs => sqE (lsB rfl (hs.sb 2))

theorem term_copySort_body_ok {L : LC} {m : Nat} {H : AH} {a0_0 : Int} {a0_1 : Int} {a0_2 : ByteArray} {a0_3 : Sl3} {r : (Int × Int × ByteArray × Sl3 × AH)} (h : term_copySort_body L m H a0_0 a0_1 a0_2 a0_3 = some r) :
    CallS Tryz.prog (NE.plain 92) m 19 #[(Value.agg #[(Value.int .i64 a0_0), (Value.int .i64 a0_1), (Value.string a0_2), (Sl3.v a0_3)])] H (term_copySort_enc r) (term_copySort_hp H r) := by
  refine CallS.mk (args := [(Value.agg #[(Value.int .i64 a0_0), (Value.int .i64 a0_1), (Value.string a0_2), (Sl3.v a0_3)])]) Tryz.func19 (B := B19) (by kernel_rfl) (fun E _ => ?_)
  unfold term_copySort_body at h
  refine WS.sq ?_
  refine WS.rg ?_
  refine RS.mL 2 [(2, .loc 1 0), (1, .loc 0 0)] ([some (32, [(Value.int .i64 a0_0), (Value.int .i64 a0_1), (Value.string a0_2), (Sl3.v a0_3)]), some (32, [(Value.int .i64 0), (Value.int .i64 0), (Value.string (⟨#[]⟩ : ByteArray)), (Sl3.v Sl3.nil)])]) ?_
  refine RS.dn ?_
  refine WS.nxt ?_
  refine WS.sq ?_
  refine WS.rg ?_
  refine RS.mS 1 [(3, .val (Sl3.v Sl3.nil))] ?_
  refine RS.dn ?_
  refine WS.nxt ?_
  refine WS.sq ?_
  refine WS.sq ?_
  refine WS.rg ?_
  refine RS.mS 4 [(9, .val (Value.int .i64 0)), (8, .val (Value.int .i64 (a0_3.n : Int))), (7, .val (Sl3.v a0_3)), (6, .loc 0 3)] ?_
  refine RS.dn ?_
  refine WS.nxt ?_
  refine WS.bk 0 ?_
  obtain ⟨o, hl, h⟩ := bind_some h
  rcases o with ⟨H4, v3_5, v9_6⟩ | r
  · try dsimp only at h
    refine WS.lI (term_copySort_b0_ok (L := L) (E := E) (m := m) (H := H)) (L.ok hl) 2 ?_
    clear hl
    refine fun a w hs => bkE ((WS.nxt ?_ a w hs))
    refine WS.sq ?_
    refine WS.rg ?_
    refine RS.mL 3 [(20, .loc 0 3), (19, .val (Sl3.v v3_5))] ([some (32, [(Value.int .i64 a0_0), (Value.int .i64 a0_1), (Value.string a0_2), (Sl3.v v3_5)]), some (32, [(Value.int .i64 0), (Value.int .i64 0), (Value.string (⟨#[]⟩ : ByteArray)), (Sl3.v Sl3.nil)])]) ?_
    refine RS.dn ?_
    refine WS.nxt ?_
    refine WS.sq ?_
    refine WS.rg ?_
    refine RS.mL 2 [(21, .val (Value.agg #[(Value.int .i64 a0_0), (Value.int .i64 a0_1), (Value.string a0_2), (Sl3.v v3_5)]))] ([some (32, [(Value.int .i64 a0_0), (Value.int .i64 a0_1), (Value.string a0_2), (Sl3.v v3_5)]), some (32, [(Value.int .i64 a0_0), (Value.int .i64 a0_1), (Value.string a0_2), (Sl3.v v3_5)])]) ?_
    refine RS.dn ?_
    refine WS.nxt ?_
    refine WS.rt ?_
    cases h
    exact fun a w hs => rtR (rS hs)
  · try dsimp only at h
    refine WS.lR (term_copySort_b0_ok (L := L) (E := E) (m := m) (H := H)) (L.ok hl) 2 ?_
    cases h
    exact fun a w hq => bkR (sqR (rtR hq))

theorem fam_term_copySort_ok {L : LC} : ∀ n, (∀ (m : Nat) (H : AH) (a0_0 : Int) (a0_1 : Int) (a0_2 : ByteArray) (a0_3 : Sl3) (r : (Int × Int × ByteArray × Sl3 × AH)), ((fam_term_copySort L n)) m H a0_0 a0_1 a0_2 a0_3 = some r → CallS Tryz.prog (NE.plain 92) m 19 #[(Value.agg #[(Value.int .i64 a0_0), (Value.int .i64 a0_1), (Value.string a0_2), (Sl3.v a0_3)])] H (term_copySort_enc r) (term_copySort_hp H r)) := by
  intro n
  induction n with
  | zero => exact (fun _ _ _ _ _ _ _ h => (Option.some_ne_none _ h.symm).elim)
  | succ n ih => exact (fun _ _ _ _ _ _ _ h => term_copySort_body_ok (L := L)  h)

theorem term_copySort_ok {L : LC} {m : Nat} {H : AH} {a0_0 : Int} {a0_1 : Int} {a0_2 : ByteArray} {a0_3 : Sl3} {r : (Int × Int × ByteArray × Sl3 × AH)} (h : term_copySort L m H a0_0 a0_1 a0_2 a0_3 = some r) :
    CallS Tryz.prog (NE.plain 92) m 19 #[(Value.agg #[(Value.int .i64 a0_0), (Value.int .i64 a0_1), (Value.string a0_2), (Sl3.v a0_3)])] H (term_copySort_enc r) (term_copySort_hp H r) :=
  (fam_term_copySort_ok _) _ _ _ _ _ _ _ h

def slices_Clone_47_enc : (Sl3 × AH) → Value
  | (r0, _) => (Sl3.v r0)

def slices_Clone_47_hp (_ : AH) : (Sl3 × AH) → AH := fun r => r.2

noncomputable def B47 : Code := (Tryz.f47.body).getD .skip

noncomputable def slices_Clone_47 (_L : LC) (_m : Nat) (H : AH) (a0 : Sl3) : Option (Sl3 × AH) :=
  if (isNilS a0) = true then
    some (Sl3.nil, H)
  else
    none

theorem slices_Clone_47_ok {L : LC} {m : Nat} {H : AH} {a0 : Sl3} {r : (Sl3 × AH)} (h : slices_Clone_47 L m H a0 = some r) :
    CallS Tryz.prog (NE.plain 92) m 47 #[(Sl3.v a0)] H (slices_Clone_47_enc r) (slices_Clone_47_hp H r) := by
  refine CallS.mk (args := [(Sl3.v a0)]) Tryz.func47 (B := B47) (by kernel_rfl) (fun E _ => ?_)
  unfold slices_Clone_47 at h
  refine WS.sq ?_
  refine WS.rg ?_
  refine RS.mS 1 [(2, .val (Sl3.v Sl3.nil))] ?_
  refine RS.dn ?_
  refine WS.nxt ?_
  refine WS.sq ?_
  refine WS.sq ?_
  refine WS.rg ?_
  refine RS.mS 1 [(3, .val (Sl3.v a0))] ?_
  refine RS.o (H' := H) (some 4) (Value.bool (isNilS a0)) (run_nil_eql (t := 37) (e := 9) (u := 37) (x := .tmp 3) (y := .const (Sl3.v Sl3.nil)) (s := a0) (by kernel_rfl) (by kernel_rfl) (by kernel_rfl) (by kernel_rfl)) ?_
  refine RS.dn ?_
  refine WS.nxt ?_
  rcases ite_some h with ⟨hp, h⟩ | ⟨hp, h⟩
  · refine WS.fx 4 true hp ?_
    refine WS.cT ?_
    refine WS.sq ?_
    refine WS.rg ?_
    refine RS.mS 1 [(2, .val (Sl3.v Sl3.nil))] ?_
    refine RS.dn ?_
    refine WS.nxt ?_
    refine WS.rt ?_
    cases h
    exact fun a w hs => sqR (rtR (rS hs))
  · refine WS.fx 4 false (b_not hp) ?_
    refine WS.cF ?_
    cases h

def term_copySig_enc : (Sl3 × Sl3 × Sl3 × AH) → Value
  | (r0, r1, r2, _) => (Value.agg #[(Sl3.v r0), (Sl3.v r1), (Sl3.v r2)])

def term_copySig_hp (_ : AH) : (Sl3 × Sl3 × Sl3 × AH) → AH := fun r => r.2.2.2

noncomputable def B30 : Code := (Tryz.f30.body).getD .skip

noncomputable def term_copySig_b0 (_L : LC) (_a0_0 : Sl3) (a0_1 : Sl3) (_a0_2 : Sl3) : (AH × Int × Sl3 × Sl3 × Sl3) → Option (Lp (AH × Int × Sl3 × Sl3 × Sl3) (Sl3 × Sl3 × Sl3 × AH)) := fun (H3, v24_4, w2_5, w2_6, w2_7) =>
  if v24_4 < (a0_1.n : Int) then
    none
  else
    some (.brk (H3, v24_4, w2_5, w2_6, w2_7))

def term_copySig_b0_kn (_L : LC) (_a0_0 : Sl3) (a0_1 : Sl3) (_a0_2 : Sl3) : (AH × Int × Sl3 × Sl3 × Sl3) → KN := fun (_, v24_4, _, _, _) => [(24, .val (Value.int .i64 v24_4)), (1, .loc 0 0), (2, .loc 1 0), (3, .loc 2 0), (22, .val (Sl3.v a0_1)), (23, .val (Value.int .i64 (a0_1.n : Int)))]

def term_copySig_b0_ls (_L : LC) (a0_0 : Sl3) (a0_1 : Sl3) (a0_2 : Sl3) : (AH × Int × Sl3 × Sl3 × Sl3) → Lcs := fun (_, _, w2_5, w2_6, w2_7) => [some (41, [(Sl3.v a0_0), (Sl3.v a0_1), (Sl3.v a0_2)]), some (41, [(Sl3.v Sl3.nil), (Sl3.v Sl3.nil), (Sl3.v Sl3.nil)]), some (41, [(Sl3.v w2_5), (Sl3.v w2_6), (Sl3.v w2_7)])]

noncomputable def term_copySig_b2 (L : LC) (m : Nat) (_a0_0 : Sl3) (_a0_1 : Sl3) (_a0_2 : Sl3) (_v77_14 : Int) (_w2_15 : Sl3) (_w2_16 : Sl3) (_w2_17 : Sl3) (_x19_0 : ByteArray) (x19_1 : Sl3) (_x19_2 : Int) (_x19_3 : Int) (_x19_4 : ByteArray) (_x19_5 : Sl3) : (AH × Int × ByteArray × Sl3 × Int × Int × ByteArray × Sl3) → Option (Lp (AH × Int × ByteArray × Sl3 × Int × Int × ByteArray × Sl3) (Sl3 × Sl3 × Sl3 × AH)) := fun (H22, v90_23, w4_24, w4_25, w4_26, w4_27, w4_28, w4_29) =>
  if v90_23 < (x19_1.n : Int) then
    Option.bind (idxA 4 x19_1 v90_23) fun p30 =>
    Option.bind (rd (deI .i64) H22 (Addr.add p30 0)) fun x31_0 =>
    Option.bind (rd (deI .i64) H22 (Addr.add p30 1)) fun x31_1 =>
    Option.bind (rd deS H22 (Addr.add p30 2)) fun x31_2 =>
    Option.bind (rd deSl H22 (Addr.add p30 3)) fun x31_3 =>
    Option.bind (term_copySort L (Nat.max m H22.next) H22 x31_0 x31_1 x31_2 x31_3) fun (x32_0, x32_1, x32_2, x32_3, H33) =>
    Option.bind (newS 32 [(Value.int .i64 x32_0), (Value.int .i64 x32_1), (Value.string x32_2), (Sl3.v x32_3)] H33) fun (k34, H35) =>
    Option.bind (appS m 32 4 56 H35 w4_25 (⟨some ⟨k34, 0, none⟩, 1, 1⟩ : Sl3)) fun (s36, H37) =>
    some (.next (H37, (IntKind.i64.wrap (v90_23 + 1)), w4_24, s36, w4_26, w4_27, w4_28, w4_29))
  else
    some (.brk (H22, v90_23, w4_24, w4_25, w4_26, w4_27, w4_28, w4_29))

def term_copySig_b2_kn (_L : LC) (_m : Nat) (_a0_0 : Sl3) (_a0_1 : Sl3) (a0_2 : Sl3) (v77_14 : Int) (_w2_15 : Sl3) (_w2_16 : Sl3) (_w2_17 : Sl3) (_x19_0 : ByteArray) (x19_1 : Sl3) (_x19_2 : Int) (_x19_3 : Int) (_x19_4 : ByteArray) (_x19_5 : Sl3) : (AH × Int × ByteArray × Sl3 × Int × Int × ByteArray × Sl3) → KN := fun (_, v90_23, _, _, _, _, _, _) => [(90, .val (Value.int .i64 v90_23)), (2, .loc 1 0), (3, .loc 2 0), (14, .loc 4 0), (75, .val (Sl3.v a0_2)), (76, .val (Value.int .i64 (a0_2.n : Int))), (77, .val (Value.int .i64 v77_14)), (88, .val (Sl3.v x19_1)), (89, .val (Value.int .i64 (x19_1.n : Int)))]

def term_copySig_b2_ls (_L : LC) (_m : Nat) (a0_0 : Sl3) (a0_1 : Sl3) (a0_2 : Sl3) (_v77_14 : Int) (w2_15 : Sl3) (w2_16 : Sl3) (w2_17 : Sl3) (x19_0 : ByteArray) (x19_1 : Sl3) (x19_2 : Int) (x19_3 : Int) (x19_4 : ByteArray) (x19_5 : Sl3) : (AH × Int × ByteArray × Sl3 × Int × Int × ByteArray × Sl3) → Lcs := fun (_, _, w4_24, w4_25, w4_26, w4_27, w4_28, w4_29) => [some (41, [(Sl3.v a0_0), (Sl3.v a0_1), (Sl3.v a0_2)]), some (41, [(Sl3.v Sl3.nil), (Sl3.v Sl3.nil), (Sl3.v Sl3.nil)]), some (41, [(Sl3.v w2_15), (Sl3.v w2_16), (Sl3.v w2_17)]), some (108, [(Value.string x19_0), (Sl3.v x19_1), (Value.int .i64 x19_2), (Value.int .i64 x19_3), (Value.string x19_4), (Sl3.v x19_5)]), some (108, [(Value.string w4_24), (Sl3.v w4_25), (Value.int .i64 w4_26), (Value.int .i64 w4_27), (Value.string w4_28), (Sl3.v w4_29)])]

noncomputable def term_copySig_b1 (L : LC) (m : Nat) (a0_0 : Sl3) (a0_1 : Sl3) (a0_2 : Sl3) : (AH × Int × Sl3 × Sl3 × Sl3) → Option (Lp (AH × Int × Sl3 × Sl3 × Sl3) (Sl3 × Sl3 × Sl3 × AH)) := fun (H13, v77_14, w2_15, w2_16, w2_17) =>
  if v77_14 < (a0_2.n : Int) then
    Option.bind (idxA 6 a0_2 v77_14) fun p18 =>
    Option.bind (rd deS H13 (Addr.add p18 0)) fun x19_0 =>
    Option.bind (rd deSl H13 (Addr.add p18 1)) fun x19_1 =>
    Option.bind (rd (deI .i64) H13 (Addr.add p18 2)) fun x19_2 =>
    Option.bind (rd (deI .i64) H13 (Addr.add p18 3)) fun x19_3 =>
    Option.bind (rd deS H13 (Addr.add p18 4)) fun x19_4 =>
    Option.bind (rd deSl H13 (Addr.add p18 5)) fun x19_5 =>
    Option.bind (term_copySort L (Nat.max m H13.next) H13 x19_2 x19_3 x19_4 x19_5) fun (x20_0, x20_1, x20_2, x20_3, H21) =>
    Option.bind (L.run (term_copySig_b2 L m a0_0 a0_1 a0_2 v77_14 w2_15 w2_16 w2_17 x19_0 x19_1 x19_2 x19_3 x19_4 x19_5) (H21, 0, x19_0, Sl3.nil, x20_0, x20_1, x20_2, x20_3)) fun o => match o with
    | .inl (H38, _, w4_40, w4_41, w4_42, w4_43, w4_44, w4_45) =>
      Option.bind (newR 108 1 #[(Value.string w4_40), (Sl3.v w4_41), (Value.int .i64 w4_42), (Value.int .i64 w4_43), (Value.string w4_44), (Sl3.v w4_45)] H38) fun (s46, H47) =>
      Option.bind (appS m 108 6 96 H47 w2_17 s46) fun (s48, H49) =>
      some (.next (H49, (IntKind.i64.wrap (v77_14 + 1)), w2_15, w2_16, s48))
    | .inr r => some (.ret r)
  else
    some (.brk (H13, v77_14, w2_15, w2_16, w2_17))

def term_copySig_b1_kn (_L : LC) (_m : Nat) (_a0_0 : Sl3) (_a0_1 : Sl3) (a0_2 : Sl3) : (AH × Int × Sl3 × Sl3 × Sl3) → KN := fun (_, v77_14, _, _, _) => [(77, .val (Value.int .i64 v77_14)), (2, .loc 1 0), (3, .loc 2 0), (75, .val (Sl3.v a0_2)), (76, .val (Value.int .i64 (a0_2.n : Int)))]

def term_copySig_b1_ls (_L : LC) (_m : Nat) (a0_0 : Sl3) (a0_1 : Sl3) (a0_2 : Sl3) : (AH × Int × Sl3 × Sl3 × Sl3) → Lcs := fun (_, _, w2_15, w2_16, w2_17) => [some (41, [(Sl3.v a0_0), (Sl3.v a0_1), (Sl3.v a0_2)]), some (41, [(Sl3.v Sl3.nil), (Sl3.v Sl3.nil), (Sl3.v Sl3.nil)]), some (41, [(Sl3.v w2_15), (Sl3.v w2_16), (Sl3.v w2_17)])]

noncomputable def term_copySig (L : LC) (m : Nat) (H : AH) (a0_0 : Sl3) (a0_1 : Sl3) (a0_2 : Sl3) : Option (Sl3 × Sl3 × Sl3 × AH) :=
  Option.bind (slices_Clone_47 L m H a0_0) fun (x1, H2) =>
  Option.bind (L.run (term_copySig_b0 L a0_0 a0_1 a0_2) (H2, 0, x1, Sl3.nil, Sl3.nil)) fun o => match o with
  | .inl (H8, _, w2_10, w2_11, w2_12) =>
    Option.bind (L.run (term_copySig_b1 L m a0_0 a0_1 a0_2) (H8, 0, w2_10, w2_11, w2_12)) fun o => match o with
    | .inl (H50, _, w2_52, w2_53, w2_54) =>
      some (w2_52, w2_53, w2_54, H50)
    | .inr r => some r
  | .inr r => some r

theorem term_copySig_b0_ok {E : Ent} {m : Nat} {H : AH} {L : LC} {a0_0 : Sl3} {a0_1 : Sl3} {a0_2 : Sl3}  : ∀ s o, term_copySig_b0 L a0_0 a0_1 a0_2 s = some o →
    WS Tryz.prog (NE.plain 92) m E Tryz.f30.ntmps (cfst (cfst (csnd (cfst (csnd (csnd B30)))))) (term_copySig_b0_kn L a0_0 a0_1 a0_2 s) (term_copySig_b0_ls L a0_0 a0_1 a0_2 s) ((fun s => s.1) s) (lpS Tryz.prog (NE.plain 92) m E Tryz.f30.ntmps (term_copySig_b0_kn L a0_0 a0_1 a0_2) (term_copySig_b0_ls L a0_0 a0_1 a0_2) (fun s => s.1) 0 (fun r => RT Tryz.prog (NE.plain 92) m E Tryz.f30 (term_copySig_enc r) (term_copySig_hp H r)) o) := by
  rintro ⟨H3, v24_4, w2_5, w2_6, w2_7⟩ o h
  unfold term_copySig_b0 at h
  try dsimp only at h
  refine WS.sq ?_
  refine WS.rg ?_
  refine RS.mS 1 [(25, .val (Value.bool (decide (v24_4 < (a0_1.n : Int)))))] ?_
  refine RS.dn ?_
  refine WS.nxt ?_
  refine WS.sq ?_
  rcases ite_some h with ⟨hp, h⟩ | ⟨hp, h⟩
  · refine WS.fx 25 true (decide_eq_true hp) ?_
    refine WS.cT ?_
    cases h
  · refine WS.fx 25 false (decide_eq_false hp) ?_
    refine WS.cF ?_
    refine WS.ex 0 ?_
    cases h
    exact fun a w hs => sqE (lsB rfl (hs.sb 3))

theorem term_copySig_b2_ok {E : Ent} {H : AH} {L : LC} {m : Nat} {a0_0 : Sl3} {a0_1 : Sl3} {a0_2 : Sl3} {v77_14 : Int} {w2_15 : Sl3} {w2_16 : Sl3} {w2_17 : Sl3} {x19_0 : ByteArray} {x19_1 : Sl3} {x19_2 : Int} {x19_3 : Int} {x19_4 : ByteArray} {x19_5 : Sl3}  : ∀ s o, term_copySig_b2 L m a0_0 a0_1 a0_2 v77_14 w2_15 w2_16 w2_17 x19_0 x19_1 x19_2 x19_3 x19_4 x19_5 s = some o →
    WS Tryz.prog (NE.plain 92) m E Tryz.f30.ntmps (cfst (cfst (csnd (cfst (csnd (csnd (cfst (cfst (csnd (csnd (cfst (cfst (csnd (cfst (csnd (csnd (csnd B30))))))))))))))))) (term_copySig_b2_kn L m a0_0 a0_1 a0_2 v77_14 w2_15 w2_16 w2_17 x19_0 x19_1 x19_2 x19_3 x19_4 x19_5 s) (term_copySig_b2_ls L m a0_0 a0_1 a0_2 v77_14 w2_15 w2_16 w2_17 x19_0 x19_1 x19_2 x19_3 x19_4 x19_5 s) ((fun s => s.1) s) (lpS Tryz.prog (NE.plain 92) m E Tryz.f30.ntmps (term_copySig_b2_kn L m a0_0 a0_1 a0_2 v77_14 w2_15 w2_16 w2_17 x19_0 x19_1 x19_2 x19_3 x19_4 x19_5) (term_copySig_b2_ls L m a0_0 a0_1 a0_2 v77_14 w2_15 w2_16 w2_17 x19_0 x19_1 x19_2 x19_3 x19_4 x19_5) (fun s => s.1) 8 (fun r => RT Tryz.prog (NE.plain 92) m E Tryz.f30 (term_copySig_enc r) (term_copySig_hp H r)) o) := by
  rintro ⟨H22, v90_23, w4_24, w4_25, w4_26, w4_27, w4_28, w4_29⟩ o h
  unfold term_copySig_b2 at h
  try dsimp only at h
  refine WS.sq ?_
  refine WS.rg ?_
  refine RS.mS 1 [(91, .val (Value.bool (decide (v90_23 < (x19_1.n : Int)))))] ?_
  refine RS.dn ?_
  refine WS.nxt ?_
  refine WS.sq ?_
  rcases ite_some h with ⟨hp, h⟩ | ⟨hp, h⟩
  · refine WS.fx 91 true (decide_eq_true hp) ?_
    refine WS.cT ?_
    refine WS.sk ?_
    refine WS.nxt ?_
    refine WS.sq ?_
    refine WS.bk 9 ?_
    refine WS.sq ?_
    refine WS.rg ?_
    obtain ⟨p30, hx, h⟩ := bind_some h
    refine RS.o (H' := H22) (some 92) (Value.pointer (some p30)) (Abs.run_idx (s := x19_1) (k := .i64) (t := 30) (e := 32) (x := .tmp 88) (y := .tmp 90) (by kernel_rfl) (by kernel_rfl) (by kernel_rfl) (by kernel_rfl) (by kernel_rfl) hx) ?_
    obtain ⟨x31_0, hx0, h⟩ := bind_some h
    obtain ⟨x31_1, hx1, h⟩ := bind_some h
    obtain ⟨x31_2, hx2, h⟩ := bind_some h
    obtain ⟨x31_3, hx3, h⟩ := bind_some h
    refine RS.o (H' := H22) (some 93) (Value.agg #[(Value.int .i64 x31_0), (Value.int .i64 x31_1), (Value.string x31_2), (Sl3.v x31_3)]) (Abs.run_loadAg (t := 32) (x := .tmp 92) (a := p30) (k := 4) (by kernel_rfl) (by kernel_rfl) (by kernel_rfl) (by kernel_rfl) (rdc_cons (rd_cell hx0 deI_inv) (rdc_cons (rd_cell hx1 deI_inv) (rdc_cons (rd_cell hx2 deS_inv) (rdc_cons (rd_cell hx3 deSl_inv) rdc_nil))))) ?_
    refine RS.mL 2 [(16, .loc 5 0)] ([some (41, [(Sl3.v a0_0), (Sl3.v a0_1), (Sl3.v a0_2)]), some (41, [(Sl3.v Sl3.nil), (Sl3.v Sl3.nil), (Sl3.v Sl3.nil)]), some (41, [(Sl3.v w2_15), (Sl3.v w2_16), (Sl3.v w2_17)]), some (108, [(Value.string x19_0), (Sl3.v x19_1), (Value.int .i64 x19_2), (Value.int .i64 x19_3), (Value.string x19_4), (Sl3.v x19_5)]), some (108, [(Value.string w4_24), (Sl3.v w4_25), (Value.int .i64 w4_26), (Value.int .i64 w4_27), (Value.string w4_28), (Sl3.v w4_29)]), some (32, [(Value.int .i64 x31_0), (Value.int .i64 x31_1), (Value.string x31_2), (Sl3.v x31_3)])]) ?_
    refine RS.dn ?_
    refine WS.nxt ?_
    obtain ⟨⟨x32_0, x32_1, x32_2, x32_3, H33⟩, hx_3, h⟩ := bind_some h
    try dsimp only at h
    obtain ⟨⟨k34, H35⟩, hx_k34, h⟩ := bind_some h
    try dsimp only at h
    obtain ⟨⟨s36, H37⟩, hx_5, h⟩ := bind_some h
    try dsimp only at h
    refine WS.toone ([(2, .loc 1 0), (3, .loc 2 0), (14, .loc 4 0), (75, .val (Sl3.v a0_2)), (76, .val (Value.int .i64 (a0_2.n : Int))), (77, .val (Value.int .i64 v77_14)), (88, .val (Sl3.v x19_1)), (89, .val (Value.int .i64 (x19_1.n : Int))), (90, .val (Value.int .i64 v90_23))]) ([some (41, [(Sl3.v a0_0), (Sl3.v a0_1), (Sl3.v a0_2)]), some (41, [(Sl3.v Sl3.nil), (Sl3.v Sl3.nil), (Sl3.v Sl3.nil)]), some (41, [(Sl3.v w2_15), (Sl3.v w2_16), (Sl3.v w2_17)]), some (108, [(Value.string x19_0), (Sl3.v x19_1), (Value.int .i64 x19_2), (Value.int .i64 x19_3), (Value.string x19_4), (Sl3.v x19_5)]), some (108, [(Value.string w4_24), (Sl3.v s36), (Value.int .i64 w4_26), (Value.int .i64 w4_27), (Value.string w4_28), (Sl3.v w4_29)]), some (32, [(Value.int .i64 x31_0), (Value.int .i64 x31_1), (Value.string x31_2), (Sl3.v x31_3)]), none]) H37 ?_ ?_
    · clear h
      refine WS.dr [2] [0, 1, 0, 4, 12, 31, 63, 127] 8 (fun hcl => ?_)
      refine DA.tL 2 (some 96) (.val (Value.agg #[(Value.int .i64 x31_0), (Value.int .i64 x31_1), (Value.string x31_2), (Sl3.v x31_3)])) ?_
      refine DA.restart [0, 2] (by kernel_rfl) ?_
      refine DA.tL 0 (some 94) (.loc 4 1) ?_
      refine DA.two 1 3 (by kernel_rfl) ?_ ?_
      · refine DA.aL 1 (some 95) (.val (Sl3.v w4_25)) ([some (41, [(Sl3.v a0_0), (Sl3.v a0_1), (Sl3.v a0_2)]), some (41, [(Sl3.v Sl3.nil), (Sl3.v Sl3.nil), (Sl3.v Sl3.nil)]), some (41, [(Sl3.v w2_15), (Sl3.v w2_16), (Sl3.v w2_17)]), some (108, [(Value.string x19_0), (Sl3.v x19_1), (Value.int .i64 x19_2), (Value.int .i64 x19_3), (Value.string x19_4), (Sl3.v x19_5)]), some (108, [(Value.string w4_24), (Sl3.v w4_25), (Value.int .i64 w4_26), (Value.int .i64 w4_27), (Value.string w4_28), (Sl3.v w4_29)]), some (32, [(Value.int .i64 x31_0), (Value.int .i64 x31_1), (Value.string x31_2), (Sl3.v x31_3)])]) true ?_
        refine DA.on 3 ?_
        refine DA.aCk 3 (some 97) true (v := (Value.agg #[(Value.int .i64 x32_0), (Value.int .i64 x32_1), (Value.string x32_2), (Sl3.v x32_3)])) 19 #[(Value.agg #[(Value.int .i64 x31_0), (Value.int .i64 x31_1), (Value.string x31_2), (Sl3.v x31_3)])] (term_copySort_ok hx_3) ?_
        refine DA.on 4 ?_
        refine DA.actS 4 (some 98) (.sli 6 1) ([some (41, [(Sl3.v a0_0), (Sl3.v a0_1), (Sl3.v a0_2)]), some (41, [(Sl3.v Sl3.nil), (Sl3.v Sl3.nil), (Sl3.v Sl3.nil)]), some (41, [(Sl3.v w2_15), (Sl3.v w2_16), (Sl3.v w2_17)]), some (108, [(Value.string x19_0), (Sl3.v x19_1), (Value.int .i64 x19_2), (Value.int .i64 x19_3), (Value.string x19_4), (Sl3.v x19_5)]), some (108, [(Value.string w4_24), (Sl3.v w4_25), (Value.int .i64 w4_26), (Value.int .i64 w4_27), (Value.string w4_28), (Sl3.v w4_29)]), some (32, [(Value.int .i64 x31_0), (Value.int .i64 x31_1), (Value.string x31_2), (Sl3.v x31_3)]), some (32, [(Value.int .i64 x32_0), (Value.int .i64 x32_1), (Value.string x32_2), (Sl3.v x32_3)])]) (by kernel_rfl) (by kernel_rfl) (by kernel_rfl) hcl (by kernel_rfl) (by kernel_rfl) (by kernel_rfl) ?_
        refine DA.on 5 ?_
        refine DA.pubK 6 _ _ hx_k34 (by kernel_rfl) rfl rfl ?_
        refine DA.aH (H' := H37) 5 (some 99) (Sl3.v s36) (Abs.run_app (x := .tmp 95) (y := .tmp 98) (ts := #[30, 30]) (s := w4_25) (z := (⟨some ⟨k34, 0, none⟩, 1, 1⟩ : Sl3)) (by kernel_rfl) (by kernel_rfl) (by kernel_rfl) (by kernel_rfl) hx_5) ?_
        refine DA.tPL 6 (some 100) (.loc 4 1) ?_
        refine DA.on 7 ?_
        refine DA.aL 7 none (.val undef) ([some (41, [(Sl3.v a0_0), (Sl3.v a0_1), (Sl3.v a0_2)]), some (41, [(Sl3.v Sl3.nil), (Sl3.v Sl3.nil), (Sl3.v Sl3.nil)]), some (41, [(Sl3.v w2_15), (Sl3.v w2_16), (Sl3.v w2_17)]), some (108, [(Value.string x19_0), (Sl3.v x19_1), (Value.int .i64 x19_2), (Value.int .i64 x19_3), (Value.string x19_4), (Sl3.v x19_5)]), some (108, [(Value.string w4_24), (Sl3.v s36), (Value.int .i64 w4_26), (Value.int .i64 w4_27), (Value.string w4_28), (Sl3.v w4_29)]), some (32, [(Value.int .i64 x31_0), (Value.int .i64 x31_1), (Value.string x31_2), (Sl3.v x31_3)]), none]) false ?_
        refine DA.dn ?_
        exact fun a w hs => jsN (hs.sb 7)
      · refine DA.aCk 3 (some 97) true (v := (Value.agg #[(Value.int .i64 x32_0), (Value.int .i64 x32_1), (Value.string x32_2), (Sl3.v x32_3)])) 19 #[(Value.agg #[(Value.int .i64 x31_0), (Value.int .i64 x31_1), (Value.string x31_2), (Sl3.v x31_3)])] (term_copySort_ok hx_3) ?_
        refine DA.two 1 4 (by kernel_rfl) ?_ ?_
        · refine DA.aL 1 (some 95) (.val (Sl3.v w4_25)) ([some (41, [(Sl3.v a0_0), (Sl3.v a0_1), (Sl3.v a0_2)]), some (41, [(Sl3.v Sl3.nil), (Sl3.v Sl3.nil), (Sl3.v Sl3.nil)]), some (41, [(Sl3.v w2_15), (Sl3.v w2_16), (Sl3.v w2_17)]), some (108, [(Value.string x19_0), (Sl3.v x19_1), (Value.int .i64 x19_2), (Value.int .i64 x19_3), (Value.string x19_4), (Sl3.v x19_5)]), some (108, [(Value.string w4_24), (Sl3.v w4_25), (Value.int .i64 w4_26), (Value.int .i64 w4_27), (Value.string w4_28), (Sl3.v w4_29)]), some (32, [(Value.int .i64 x31_0), (Value.int .i64 x31_1), (Value.string x31_2), (Sl3.v x31_3)])]) true ?_
          refine DA.on 4 ?_
          refine DA.actS 4 (some 98) (.sli 6 1) ([some (41, [(Sl3.v a0_0), (Sl3.v a0_1), (Sl3.v a0_2)]), some (41, [(Sl3.v Sl3.nil), (Sl3.v Sl3.nil), (Sl3.v Sl3.nil)]), some (41, [(Sl3.v w2_15), (Sl3.v w2_16), (Sl3.v w2_17)]), some (108, [(Value.string x19_0), (Sl3.v x19_1), (Value.int .i64 x19_2), (Value.int .i64 x19_3), (Value.string x19_4), (Sl3.v x19_5)]), some (108, [(Value.string w4_24), (Sl3.v w4_25), (Value.int .i64 w4_26), (Value.int .i64 w4_27), (Value.string w4_28), (Sl3.v w4_29)]), some (32, [(Value.int .i64 x31_0), (Value.int .i64 x31_1), (Value.string x31_2), (Sl3.v x31_3)]), some (32, [(Value.int .i64 x32_0), (Value.int .i64 x32_1), (Value.string x32_2), (Sl3.v x32_3)])]) (by kernel_rfl) (by kernel_rfl) (by kernel_rfl) hcl (by kernel_rfl) (by kernel_rfl) (by kernel_rfl) ?_
          refine DA.on 5 ?_
          refine DA.pubK 6 _ _ hx_k34 (by kernel_rfl) rfl rfl ?_
          refine DA.aH (H' := H37) 5 (some 99) (Sl3.v s36) (Abs.run_app (x := .tmp 95) (y := .tmp 98) (ts := #[30, 30]) (s := w4_25) (z := (⟨some ⟨k34, 0, none⟩, 1, 1⟩ : Sl3)) (by kernel_rfl) (by kernel_rfl) (by kernel_rfl) (by kernel_rfl) hx_5) ?_
          refine DA.tPL 6 (some 100) (.loc 4 1) ?_
          refine DA.on 7 ?_
          refine DA.aL 7 none (.val undef) ([some (41, [(Sl3.v a0_0), (Sl3.v a0_1), (Sl3.v a0_2)]), some (41, [(Sl3.v Sl3.nil), (Sl3.v Sl3.nil), (Sl3.v Sl3.nil)]), some (41, [(Sl3.v w2_15), (Sl3.v w2_16), (Sl3.v w2_17)]), some (108, [(Value.string x19_0), (Sl3.v x19_1), (Value.int .i64 x19_2), (Value.int .i64 x19_3), (Value.string x19_4), (Sl3.v x19_5)]), some (108, [(Value.string w4_24), (Sl3.v s36), (Value.int .i64 w4_26), (Value.int .i64 w4_27), (Value.string w4_28), (Sl3.v w4_29)]), some (32, [(Value.int .i64 x31_0), (Value.int .i64 x31_1), (Value.string x31_2), (Sl3.v x31_3)]), none]) false ?_
          refine DA.dn ?_
          exact fun a w hs => jsN (hs.sb 7)
        · refine DA.actS 4 (some 98) (.sli 6 1) ([some (41, [(Sl3.v a0_0), (Sl3.v a0_1), (Sl3.v a0_2)]), some (41, [(Sl3.v Sl3.nil), (Sl3.v Sl3.nil), (Sl3.v Sl3.nil)]), some (41, [(Sl3.v w2_15), (Sl3.v w2_16), (Sl3.v w2_17)]), some (108, [(Value.string x19_0), (Sl3.v x19_1), (Value.int .i64 x19_2), (Value.int .i64 x19_3), (Value.string x19_4), (Sl3.v x19_5)]), some (108, [(Value.string w4_24), (Sl3.v w4_25), (Value.int .i64 w4_26), (Value.int .i64 w4_27), (Value.string w4_28), (Sl3.v w4_29)]), some (32, [(Value.int .i64 x31_0), (Value.int .i64 x31_1), (Value.string x31_2), (Sl3.v x31_3)]), some (32, [(Value.int .i64 x32_0), (Value.int .i64 x32_1), (Value.string x32_2), (Sl3.v x32_3)])]) (by kernel_rfl) (by kernel_rfl) (by kernel_rfl) hcl (by kernel_rfl) (by kernel_rfl) (by kernel_rfl) ?_
          refine DA.on 1 ?_
          refine DA.aL 1 (some 95) (.val (Sl3.v w4_25)) ([some (41, [(Sl3.v a0_0), (Sl3.v a0_1), (Sl3.v a0_2)]), some (41, [(Sl3.v Sl3.nil), (Sl3.v Sl3.nil), (Sl3.v Sl3.nil)]), some (41, [(Sl3.v w2_15), (Sl3.v w2_16), (Sl3.v w2_17)]), some (108, [(Value.string x19_0), (Sl3.v x19_1), (Value.int .i64 x19_2), (Value.int .i64 x19_3), (Value.string x19_4), (Sl3.v x19_5)]), some (108, [(Value.string w4_24), (Sl3.v w4_25), (Value.int .i64 w4_26), (Value.int .i64 w4_27), (Value.string w4_28), (Sl3.v w4_29)]), some (32, [(Value.int .i64 x31_0), (Value.int .i64 x31_1), (Value.string x31_2), (Sl3.v x31_3)]), some (32, [(Value.int .i64 x32_0), (Value.int .i64 x32_1), (Value.string x32_2), (Sl3.v x32_3)])]) false ?_
          refine DA.on 5 ?_
          refine DA.pubK 6 _ _ hx_k34 (by kernel_rfl) rfl rfl ?_
          refine DA.aH (H' := H37) 5 (some 99) (Sl3.v s36) (Abs.run_app (x := .tmp 95) (y := .tmp 98) (ts := #[30, 30]) (s := w4_25) (z := (⟨some ⟨k34, 0, none⟩, 1, 1⟩ : Sl3)) (by kernel_rfl) (by kernel_rfl) (by kernel_rfl) (by kernel_rfl) hx_5) ?_
          refine DA.tPL 6 (some 100) (.loc 4 1) ?_
          refine DA.on 7 ?_
          refine DA.aL 7 none (.val undef) ([some (41, [(Sl3.v a0_0), (Sl3.v a0_1), (Sl3.v a0_2)]), some (41, [(Sl3.v Sl3.nil), (Sl3.v Sl3.nil), (Sl3.v Sl3.nil)]), some (41, [(Sl3.v w2_15), (Sl3.v w2_16), (Sl3.v w2_17)]), some (108, [(Value.string x19_0), (Sl3.v x19_1), (Value.int .i64 x19_2), (Value.int .i64 x19_3), (Value.string x19_4), (Sl3.v x19_5)]), some (108, [(Value.string w4_24), (Sl3.v s36), (Value.int .i64 w4_26), (Value.int .i64 w4_27), (Value.string w4_28), (Sl3.v w4_29)]), some (32, [(Value.int .i64 x31_0), (Value.int .i64 x31_1), (Value.string x31_2), (Sl3.v x31_3)]), none]) false ?_
          refine DA.dn ?_
          exact fun a w hs => jsN (hs.sb 7)
    · refine fun a w hs => bkN ((WS.nxt ?_ a w hs))
      refine WS.rg ?_
      refine RS.mS 2 [(90, .val (Value.int .i64 (IntKind.i64.wrap (v90_23 + 1)))), (101, .val (Value.int .i64 (IntKind.i64.wrap (v90_23 + 1))))] ?_
      refine RS.dn ?_
      cases h
      exact fun a w hs => lsN rfl (hs.sb 5)
  · refine WS.fx 91 false (decide_eq_false hp) ?_
    refine WS.cF ?_
    refine WS.ex 8 ?_
    cases h
    exact fun a w hs => sqE (lsB rfl (hs.sb 5))

theorem term_copySig_b1_ok {E : Ent} {H : AH} {L : LC} {m : Nat} {a0_0 : Sl3} {a0_1 : Sl3} {a0_2 : Sl3}  : ∀ s o, term_copySig_b1 L m a0_0 a0_1 a0_2 s = some o →
    WS Tryz.prog (NE.plain 92) m E Tryz.f30.ntmps (cfst (cfst (csnd (cfst (csnd (csnd (csnd B30))))))) (term_copySig_b1_kn L m a0_0 a0_1 a0_2 s) (term_copySig_b1_ls L m a0_0 a0_1 a0_2 s) ((fun s => s.1) s) (lpS Tryz.prog (NE.plain 92) m E Tryz.f30.ntmps (term_copySig_b1_kn L m a0_0 a0_1 a0_2) (term_copySig_b1_ls L m a0_0 a0_1 a0_2) (fun s => s.1) 6 (fun r => RT Tryz.prog (NE.plain 92) m E Tryz.f30 (term_copySig_enc r) (term_copySig_hp H r)) o) := by
  rintro ⟨H13, v77_14, w2_15, w2_16, w2_17⟩ o h
  unfold term_copySig_b1 at h
  try dsimp only at h
  refine WS.sq ?_
  refine WS.rg ?_
  refine RS.mS 1 [(78, .val (Value.bool (decide (v77_14 < (a0_2.n : Int)))))] ?_
  refine RS.dn ?_
  refine WS.nxt ?_
  refine WS.sq ?_
  rcases ite_some h with ⟨hp, h⟩ | ⟨hp, h⟩
  · refine WS.fx 78 true (decide_eq_true hp) ?_
    refine WS.cT ?_
    refine WS.sk ?_
    refine WS.nxt ?_
    refine WS.sq ?_
    refine WS.bk 7 ?_
    refine WS.sq ?_
    refine WS.rg ?_
    obtain ⟨p18, hx, h⟩ := bind_some h
    refine RS.o (H' := H13) (some 79) (Value.pointer (some p18)) (Abs.run_idx (s := a0_2) (k := .i64) (t := 39) (e := 108) (x := .tmp 75) (y := .tmp 77) (by kernel_rfl) (by kernel_rfl) (by kernel_rfl) (by kernel_rfl) (by kernel_rfl) hx) ?_
    obtain ⟨x19_0, hx0, h⟩ := bind_some h
    obtain ⟨x19_1, hx1, h⟩ := bind_some h
    obtain ⟨x19_2, hx2, h⟩ := bind_some h
    obtain ⟨x19_3, hx3, h⟩ := bind_some h
    obtain ⟨x19_4, hx4, h⟩ := bind_some h
    obtain ⟨x19_5, hx5, h⟩ := bind_some h
    refine RS.o (H' := H13) (some 80) (Value.agg #[(Value.string x19_0), (Sl3.v x19_1), (Value.int .i64 x19_2), (Value.int .i64 x19_3), (Value.string x19_4), (Sl3.v x19_5)]) (Abs.run_loadAg (t := 108) (x := .tmp 79) (a := p18) (k := 6) (by kernel_rfl) (by kernel_rfl) (by kernel_rfl) (by kernel_rfl) (rdc_cons (rd_cell hx0 deS_inv) (rdc_cons (rd_cell hx1 deSl_inv) (rdc_cons (rd_cell hx2 deI_inv) (rdc_cons (rd_cell hx3 deI_inv) (rdc_cons (rd_cell hx4 deS_inv) (rdc_cons (rd_cell hx5 deSl_inv) rdc_nil))))))) ?_
    refine RS.mL 2 [(13, .loc 3 0)] ([some (41, [(Sl3.v a0_0), (Sl3.v a0_1), (Sl3.v a0_2)]), some (41, [(Sl3.v Sl3.nil), (Sl3.v Sl3.nil), (Sl3.v Sl3.nil)]), some (41, [(Sl3.v w2_15), (Sl3.v w2_16), (Sl3.v w2_17)]), some (108, [(Value.string x19_0), (Sl3.v x19_1), (Value.int .i64 x19_2), (Value.int .i64 x19_3), (Value.string x19_4), (Sl3.v x19_5)])]) ?_
    refine RS.dn ?_
    refine WS.nxt ?_
    refine WS.sq ?_
    obtain ⟨⟨x20_0, x20_1, x20_2, x20_3, H21⟩, hx_4, h⟩ := bind_some h
    try dsimp only at h
    refine WS.toone ([(2, .loc 1 0), (3, .loc 2 0), (13, .loc 3 0), (14, .loc 4 0), (75, .val (Sl3.v a0_2)), (76, .val (Value.int .i64 (a0_2.n : Int))), (77, .val (Value.int .i64 v77_14))]) ([some (41, [(Sl3.v a0_0), (Sl3.v a0_1), (Sl3.v a0_2)]), some (41, [(Sl3.v Sl3.nil), (Sl3.v Sl3.nil), (Sl3.v Sl3.nil)]), some (41, [(Sl3.v w2_15), (Sl3.v w2_16), (Sl3.v w2_17)]), some (108, [(Value.string x19_0), (Sl3.v x19_1), (Value.int .i64 x19_2), (Value.int .i64 x19_3), (Value.string x19_4), (Sl3.v x19_5)]), some (108, [(Value.string x19_0), (Sl3.v Sl3.nil), (Value.int .i64 x20_0), (Value.int .i64 x20_1), (Value.string x20_2), (Sl3.v x20_3)])]) H21 ?_ ?_
    · clear h
      refine WS.dr [2, 3] [0, 1, 0, 4, 12, 31, 0, 127] 8 (fun hcl => ?_)
      refine DA.tL 2 (some 83) (.loc 3 2) ?_
      refine DA.tL 3 (some 84) (.val (Value.agg #[(Value.int .i64 x19_2), (Value.int .i64 x19_3), (Value.string x19_4), (Sl3.v x19_5)])) ?_
      refine DA.restart [0, 2, 3] (by kernel_rfl) ?_
      refine DA.tL 0 (some 81) (.loc 3 0) ?_
      refine DA.three 1 4 6 (by kernel_rfl) ?_ ?_ ?_
      · refine DA.aL 1 (some 82) (.val (Value.string x19_0)) ([some (41, [(Sl3.v a0_0), (Sl3.v a0_1), (Sl3.v a0_2)]), some (41, [(Sl3.v Sl3.nil), (Sl3.v Sl3.nil), (Sl3.v Sl3.nil)]), some (41, [(Sl3.v w2_15), (Sl3.v w2_16), (Sl3.v w2_17)]), some (108, [(Value.string x19_0), (Sl3.v x19_1), (Value.int .i64 x19_2), (Value.int .i64 x19_3), (Value.string x19_4), (Sl3.v x19_5)])]) true ?_
        refine DA.two 4 6 (by kernel_rfl) ?_ ?_
        · refine DA.aCk 4 (some 85) true (v := (Value.agg #[(Value.int .i64 x20_0), (Value.int .i64 x20_1), (Value.string x20_2), (Sl3.v x20_3)])) 19 #[(Value.agg #[(Value.int .i64 x19_2), (Value.int .i64 x19_3), (Value.string x19_4), (Sl3.v x19_5)])] (term_copySort_ok hx_4) ?_
          refine DA.two 5 6 (by kernel_rfl) ?_ ?_
          · refine DA.aHk (H' := H21) 5 (some 86) true (Value.agg #[(Value.string x19_0), (Sl3.v Sl3.nil), (Value.int .i64 x20_0), (Value.int .i64 x20_1), (Value.string x20_2), (Sl3.v x20_3)]) (by kernel_rfl) ?_
            refine DA.on 6 ?_
            refine DA.aL 6 (some 14) (.loc 4 0) ([some (41, [(Sl3.v a0_0), (Sl3.v a0_1), (Sl3.v a0_2)]), some (41, [(Sl3.v Sl3.nil), (Sl3.v Sl3.nil), (Sl3.v Sl3.nil)]), some (41, [(Sl3.v w2_15), (Sl3.v w2_16), (Sl3.v w2_17)]), some (108, [(Value.string x19_0), (Sl3.v x19_1), (Value.int .i64 x19_2), (Value.int .i64 x19_3), (Value.string x19_4), (Sl3.v x19_5)]), some (108, [(Value.string (⟨#[]⟩ : ByteArray)), (Sl3.v Sl3.nil), (Value.int .i64 0), (Value.int .i64 0), (Value.string (⟨#[]⟩ : ByteArray)), (Sl3.v Sl3.nil)])]) false ?_
            refine DA.on 7 ?_
            refine DA.aL 7 none (.val undef) ([some (41, [(Sl3.v a0_0), (Sl3.v a0_1), (Sl3.v a0_2)]), some (41, [(Sl3.v Sl3.nil), (Sl3.v Sl3.nil), (Sl3.v Sl3.nil)]), some (41, [(Sl3.v w2_15), (Sl3.v w2_16), (Sl3.v w2_17)]), some (108, [(Value.string x19_0), (Sl3.v x19_1), (Value.int .i64 x19_2), (Value.int .i64 x19_3), (Value.string x19_4), (Sl3.v x19_5)]), some (108, [(Value.string x19_0), (Sl3.v Sl3.nil), (Value.int .i64 x20_0), (Value.int .i64 x20_1), (Value.string x20_2), (Sl3.v x20_3)])]) false ?_
            refine DA.dn ?_
            exact fun a w hs => jsN (hs.sb 5)
          · refine DA.aL 6 (some 14) (.loc 4 0) ([some (41, [(Sl3.v a0_0), (Sl3.v a0_1), (Sl3.v a0_2)]), some (41, [(Sl3.v Sl3.nil), (Sl3.v Sl3.nil), (Sl3.v Sl3.nil)]), some (41, [(Sl3.v w2_15), (Sl3.v w2_16), (Sl3.v w2_17)]), some (108, [(Value.string x19_0), (Sl3.v x19_1), (Value.int .i64 x19_2), (Value.int .i64 x19_3), (Value.string x19_4), (Sl3.v x19_5)]), some (108, [(Value.string (⟨#[]⟩ : ByteArray)), (Sl3.v Sl3.nil), (Value.int .i64 0), (Value.int .i64 0), (Value.string (⟨#[]⟩ : ByteArray)), (Sl3.v Sl3.nil)])]) false ?_
            refine DA.on 5 ?_
            refine DA.aH (H' := H21) 5 (some 86) (Value.agg #[(Value.string x19_0), (Sl3.v Sl3.nil), (Value.int .i64 x20_0), (Value.int .i64 x20_1), (Value.string x20_2), (Sl3.v x20_3)]) (by kernel_rfl) ?_
            refine DA.on 7 ?_
            refine DA.aL 7 none (.val undef) ([some (41, [(Sl3.v a0_0), (Sl3.v a0_1), (Sl3.v a0_2)]), some (41, [(Sl3.v Sl3.nil), (Sl3.v Sl3.nil), (Sl3.v Sl3.nil)]), some (41, [(Sl3.v w2_15), (Sl3.v w2_16), (Sl3.v w2_17)]), some (108, [(Value.string x19_0), (Sl3.v x19_1), (Value.int .i64 x19_2), (Value.int .i64 x19_3), (Value.string x19_4), (Sl3.v x19_5)]), some (108, [(Value.string x19_0), (Sl3.v Sl3.nil), (Value.int .i64 x20_0), (Value.int .i64 x20_1), (Value.string x20_2), (Sl3.v x20_3)])]) false ?_
            refine DA.dn ?_
            exact fun a w hs => jsN (hs.sb 5)
        · refine DA.aL 6 (some 14) (.loc 4 0) ([some (41, [(Sl3.v a0_0), (Sl3.v a0_1), (Sl3.v a0_2)]), some (41, [(Sl3.v Sl3.nil), (Sl3.v Sl3.nil), (Sl3.v Sl3.nil)]), some (41, [(Sl3.v w2_15), (Sl3.v w2_16), (Sl3.v w2_17)]), some (108, [(Value.string x19_0), (Sl3.v x19_1), (Value.int .i64 x19_2), (Value.int .i64 x19_3), (Value.string x19_4), (Sl3.v x19_5)]), some (108, [(Value.string (⟨#[]⟩ : ByteArray)), (Sl3.v Sl3.nil), (Value.int .i64 0), (Value.int .i64 0), (Value.string (⟨#[]⟩ : ByteArray)), (Sl3.v Sl3.nil)])]) true ?_
          refine DA.on 4 ?_
          refine DA.aCk 4 (some 85) false (v := (Value.agg #[(Value.int .i64 x20_0), (Value.int .i64 x20_1), (Value.string x20_2), (Sl3.v x20_3)])) 19 #[(Value.agg #[(Value.int .i64 x19_2), (Value.int .i64 x19_3), (Value.string x19_4), (Sl3.v x19_5)])] (term_copySort_ok hx_4) ?_
          refine DA.on 5 ?_
          refine DA.aH (H' := H21) 5 (some 86) (Value.agg #[(Value.string x19_0), (Sl3.v Sl3.nil), (Value.int .i64 x20_0), (Value.int .i64 x20_1), (Value.string x20_2), (Sl3.v x20_3)]) (by kernel_rfl) ?_
          refine DA.on 7 ?_
          refine DA.aL 7 none (.val undef) ([some (41, [(Sl3.v a0_0), (Sl3.v a0_1), (Sl3.v a0_2)]), some (41, [(Sl3.v Sl3.nil), (Sl3.v Sl3.nil), (Sl3.v Sl3.nil)]), some (41, [(Sl3.v w2_15), (Sl3.v w2_16), (Sl3.v w2_17)]), some (108, [(Value.string x19_0), (Sl3.v x19_1), (Value.int .i64 x19_2), (Value.int .i64 x19_3), (Value.string x19_4), (Sl3.v x19_5)]), some (108, [(Value.string x19_0), (Sl3.v Sl3.nil), (Value.int .i64 x20_0), (Value.int .i64 x20_1), (Value.string x20_2), (Sl3.v x20_3)])]) false ?_
          refine DA.dn ?_
          exact fun a w hs => jsN (hs.sb 5)
      · refine DA.aCk 4 (some 85) true (v := (Value.agg #[(Value.int .i64 x20_0), (Value.int .i64 x20_1), (Value.string x20_2), (Sl3.v x20_3)])) 19 #[(Value.agg #[(Value.int .i64 x19_2), (Value.int .i64 x19_3), (Value.string x19_4), (Sl3.v x19_5)])] (term_copySort_ok hx_4) ?_
        refine DA.two 1 6 (by kernel_rfl) ?_ ?_
        · refine DA.aL 1 (some 82) (.val (Value.string x19_0)) ([some (41, [(Sl3.v a0_0), (Sl3.v a0_1), (Sl3.v a0_2)]), some (41, [(Sl3.v Sl3.nil), (Sl3.v Sl3.nil), (Sl3.v Sl3.nil)]), some (41, [(Sl3.v w2_15), (Sl3.v w2_16), (Sl3.v w2_17)]), some (108, [(Value.string x19_0), (Sl3.v x19_1), (Value.int .i64 x19_2), (Value.int .i64 x19_3), (Value.string x19_4), (Sl3.v x19_5)])]) true ?_
          refine DA.two 5 6 (by kernel_rfl) ?_ ?_
          · refine DA.aHk (H' := H21) 5 (some 86) true (Value.agg #[(Value.string x19_0), (Sl3.v Sl3.nil), (Value.int .i64 x20_0), (Value.int .i64 x20_1), (Value.string x20_2), (Sl3.v x20_3)]) (by kernel_rfl) ?_
            refine DA.on 6 ?_
            refine DA.aL 6 (some 14) (.loc 4 0) ([some (41, [(Sl3.v a0_0), (Sl3.v a0_1), (Sl3.v a0_2)]), some (41, [(Sl3.v Sl3.nil), (Sl3.v Sl3.nil), (Sl3.v Sl3.nil)]), some (41, [(Sl3.v w2_15), (Sl3.v w2_16), (Sl3.v w2_17)]), some (108, [(Value.string x19_0), (Sl3.v x19_1), (Value.int .i64 x19_2), (Value.int .i64 x19_3), (Value.string x19_4), (Sl3.v x19_5)]), some (108, [(Value.string (⟨#[]⟩ : ByteArray)), (Sl3.v Sl3.nil), (Value.int .i64 0), (Value.int .i64 0), (Value.string (⟨#[]⟩ : ByteArray)), (Sl3.v Sl3.nil)])]) false ?_
            refine DA.on 7 ?_
            refine DA.aL 7 none (.val undef) ([some (41, [(Sl3.v a0_0), (Sl3.v a0_1), (Sl3.v a0_2)]), some (41, [(Sl3.v Sl3.nil), (Sl3.v Sl3.nil), (Sl3.v Sl3.nil)]), some (41, [(Sl3.v w2_15), (Sl3.v w2_16), (Sl3.v w2_17)]), some (108, [(Value.string x19_0), (Sl3.v x19_1), (Value.int .i64 x19_2), (Value.int .i64 x19_3), (Value.string x19_4), (Sl3.v x19_5)]), some (108, [(Value.string x19_0), (Sl3.v Sl3.nil), (Value.int .i64 x20_0), (Value.int .i64 x20_1), (Value.string x20_2), (Sl3.v x20_3)])]) false ?_
            refine DA.dn ?_
            exact fun a w hs => jsN (hs.sb 5)
          · refine DA.aL 6 (some 14) (.loc 4 0) ([some (41, [(Sl3.v a0_0), (Sl3.v a0_1), (Sl3.v a0_2)]), some (41, [(Sl3.v Sl3.nil), (Sl3.v Sl3.nil), (Sl3.v Sl3.nil)]), some (41, [(Sl3.v w2_15), (Sl3.v w2_16), (Sl3.v w2_17)]), some (108, [(Value.string x19_0), (Sl3.v x19_1), (Value.int .i64 x19_2), (Value.int .i64 x19_3), (Value.string x19_4), (Sl3.v x19_5)]), some (108, [(Value.string (⟨#[]⟩ : ByteArray)), (Sl3.v Sl3.nil), (Value.int .i64 0), (Value.int .i64 0), (Value.string (⟨#[]⟩ : ByteArray)), (Sl3.v Sl3.nil)])]) false ?_
            refine DA.on 5 ?_
            refine DA.aH (H' := H21) 5 (some 86) (Value.agg #[(Value.string x19_0), (Sl3.v Sl3.nil), (Value.int .i64 x20_0), (Value.int .i64 x20_1), (Value.string x20_2), (Sl3.v x20_3)]) (by kernel_rfl) ?_
            refine DA.on 7 ?_
            refine DA.aL 7 none (.val undef) ([some (41, [(Sl3.v a0_0), (Sl3.v a0_1), (Sl3.v a0_2)]), some (41, [(Sl3.v Sl3.nil), (Sl3.v Sl3.nil), (Sl3.v Sl3.nil)]), some (41, [(Sl3.v w2_15), (Sl3.v w2_16), (Sl3.v w2_17)]), some (108, [(Value.string x19_0), (Sl3.v x19_1), (Value.int .i64 x19_2), (Value.int .i64 x19_3), (Value.string x19_4), (Sl3.v x19_5)]), some (108, [(Value.string x19_0), (Sl3.v Sl3.nil), (Value.int .i64 x20_0), (Value.int .i64 x20_1), (Value.string x20_2), (Sl3.v x20_3)])]) false ?_
            refine DA.dn ?_
            exact fun a w hs => jsN (hs.sb 5)
        · refine DA.aL 6 (some 14) (.loc 4 0) ([some (41, [(Sl3.v a0_0), (Sl3.v a0_1), (Sl3.v a0_2)]), some (41, [(Sl3.v Sl3.nil), (Sl3.v Sl3.nil), (Sl3.v Sl3.nil)]), some (41, [(Sl3.v w2_15), (Sl3.v w2_16), (Sl3.v w2_17)]), some (108, [(Value.string x19_0), (Sl3.v x19_1), (Value.int .i64 x19_2), (Value.int .i64 x19_3), (Value.string x19_4), (Sl3.v x19_5)]), some (108, [(Value.string (⟨#[]⟩ : ByteArray)), (Sl3.v Sl3.nil), (Value.int .i64 0), (Value.int .i64 0), (Value.string (⟨#[]⟩ : ByteArray)), (Sl3.v Sl3.nil)])]) true ?_
          refine DA.on 1 ?_
          refine DA.aL 1 (some 82) (.val (Value.string x19_0)) ([some (41, [(Sl3.v a0_0), (Sl3.v a0_1), (Sl3.v a0_2)]), some (41, [(Sl3.v Sl3.nil), (Sl3.v Sl3.nil), (Sl3.v Sl3.nil)]), some (41, [(Sl3.v w2_15), (Sl3.v w2_16), (Sl3.v w2_17)]), some (108, [(Value.string x19_0), (Sl3.v x19_1), (Value.int .i64 x19_2), (Value.int .i64 x19_3), (Value.string x19_4), (Sl3.v x19_5)]), some (108, [(Value.string (⟨#[]⟩ : ByteArray)), (Sl3.v Sl3.nil), (Value.int .i64 0), (Value.int .i64 0), (Value.string (⟨#[]⟩ : ByteArray)), (Sl3.v Sl3.nil)])]) false ?_
          refine DA.on 5 ?_
          refine DA.aH (H' := H21) 5 (some 86) (Value.agg #[(Value.string x19_0), (Sl3.v Sl3.nil), (Value.int .i64 x20_0), (Value.int .i64 x20_1), (Value.string x20_2), (Sl3.v x20_3)]) (by kernel_rfl) ?_
          refine DA.on 7 ?_
          refine DA.aL 7 none (.val undef) ([some (41, [(Sl3.v a0_0), (Sl3.v a0_1), (Sl3.v a0_2)]), some (41, [(Sl3.v Sl3.nil), (Sl3.v Sl3.nil), (Sl3.v Sl3.nil)]), some (41, [(Sl3.v w2_15), (Sl3.v w2_16), (Sl3.v w2_17)]), some (108, [(Value.string x19_0), (Sl3.v x19_1), (Value.int .i64 x19_2), (Value.int .i64 x19_3), (Value.string x19_4), (Sl3.v x19_5)]), some (108, [(Value.string x19_0), (Sl3.v Sl3.nil), (Value.int .i64 x20_0), (Value.int .i64 x20_1), (Value.string x20_2), (Sl3.v x20_3)])]) false ?_
          refine DA.dn ?_
          exact fun a w hs => jsN (hs.sb 5)
      · refine DA.aL 6 (some 14) (.loc 4 0) ([some (41, [(Sl3.v a0_0), (Sl3.v a0_1), (Sl3.v a0_2)]), some (41, [(Sl3.v Sl3.nil), (Sl3.v Sl3.nil), (Sl3.v Sl3.nil)]), some (41, [(Sl3.v w2_15), (Sl3.v w2_16), (Sl3.v w2_17)]), some (108, [(Value.string x19_0), (Sl3.v x19_1), (Value.int .i64 x19_2), (Value.int .i64 x19_3), (Value.string x19_4), (Sl3.v x19_5)]), some (108, [(Value.string (⟨#[]⟩ : ByteArray)), (Sl3.v Sl3.nil), (Value.int .i64 0), (Value.int .i64 0), (Value.string (⟨#[]⟩ : ByteArray)), (Sl3.v Sl3.nil)])]) true ?_
        refine DA.two 1 4 (by kernel_rfl) ?_ ?_
        · refine DA.aL 1 (some 82) (.val (Value.string x19_0)) ([some (41, [(Sl3.v a0_0), (Sl3.v a0_1), (Sl3.v a0_2)]), some (41, [(Sl3.v Sl3.nil), (Sl3.v Sl3.nil), (Sl3.v Sl3.nil)]), some (41, [(Sl3.v w2_15), (Sl3.v w2_16), (Sl3.v w2_17)]), some (108, [(Value.string x19_0), (Sl3.v x19_1), (Value.int .i64 x19_2), (Value.int .i64 x19_3), (Value.string x19_4), (Sl3.v x19_5)]), some (108, [(Value.string (⟨#[]⟩ : ByteArray)), (Sl3.v Sl3.nil), (Value.int .i64 0), (Value.int .i64 0), (Value.string (⟨#[]⟩ : ByteArray)), (Sl3.v Sl3.nil)])]) true ?_
          refine DA.on 4 ?_
          refine DA.aCk 4 (some 85) false (v := (Value.agg #[(Value.int .i64 x20_0), (Value.int .i64 x20_1), (Value.string x20_2), (Sl3.v x20_3)])) 19 #[(Value.agg #[(Value.int .i64 x19_2), (Value.int .i64 x19_3), (Value.string x19_4), (Sl3.v x19_5)])] (term_copySort_ok hx_4) ?_
          refine DA.on 5 ?_
          refine DA.aH (H' := H21) 5 (some 86) (Value.agg #[(Value.string x19_0), (Sl3.v Sl3.nil), (Value.int .i64 x20_0), (Value.int .i64 x20_1), (Value.string x20_2), (Sl3.v x20_3)]) (by kernel_rfl) ?_
          refine DA.on 7 ?_
          refine DA.aL 7 none (.val undef) ([some (41, [(Sl3.v a0_0), (Sl3.v a0_1), (Sl3.v a0_2)]), some (41, [(Sl3.v Sl3.nil), (Sl3.v Sl3.nil), (Sl3.v Sl3.nil)]), some (41, [(Sl3.v w2_15), (Sl3.v w2_16), (Sl3.v w2_17)]), some (108, [(Value.string x19_0), (Sl3.v x19_1), (Value.int .i64 x19_2), (Value.int .i64 x19_3), (Value.string x19_4), (Sl3.v x19_5)]), some (108, [(Value.string x19_0), (Sl3.v Sl3.nil), (Value.int .i64 x20_0), (Value.int .i64 x20_1), (Value.string x20_2), (Sl3.v x20_3)])]) false ?_
          refine DA.dn ?_
          exact fun a w hs => jsN (hs.sb 5)
        · refine DA.aCk 4 (some 85) true (v := (Value.agg #[(Value.int .i64 x20_0), (Value.int .i64 x20_1), (Value.string x20_2), (Sl3.v x20_3)])) 19 #[(Value.agg #[(Value.int .i64 x19_2), (Value.int .i64 x19_3), (Value.string x19_4), (Sl3.v x19_5)])] (term_copySort_ok hx_4) ?_
          refine DA.on 1 ?_
          refine DA.aL 1 (some 82) (.val (Value.string x19_0)) ([some (41, [(Sl3.v a0_0), (Sl3.v a0_1), (Sl3.v a0_2)]), some (41, [(Sl3.v Sl3.nil), (Sl3.v Sl3.nil), (Sl3.v Sl3.nil)]), some (41, [(Sl3.v w2_15), (Sl3.v w2_16), (Sl3.v w2_17)]), some (108, [(Value.string x19_0), (Sl3.v x19_1), (Value.int .i64 x19_2), (Value.int .i64 x19_3), (Value.string x19_4), (Sl3.v x19_5)]), some (108, [(Value.string (⟨#[]⟩ : ByteArray)), (Sl3.v Sl3.nil), (Value.int .i64 0), (Value.int .i64 0), (Value.string (⟨#[]⟩ : ByteArray)), (Sl3.v Sl3.nil)])]) false ?_
          refine DA.on 5 ?_
          refine DA.aH (H' := H21) 5 (some 86) (Value.agg #[(Value.string x19_0), (Sl3.v Sl3.nil), (Value.int .i64 x20_0), (Value.int .i64 x20_1), (Value.string x20_2), (Sl3.v x20_3)]) (by kernel_rfl) ?_
          refine DA.on 7 ?_
          refine DA.aL 7 none (.val undef) ([some (41, [(Sl3.v a0_0), (Sl3.v a0_1), (Sl3.v a0_2)]), some (41, [(Sl3.v Sl3.nil), (Sl3.v Sl3.nil), (Sl3.v Sl3.nil)]), some (41, [(Sl3.v w2_15), (Sl3.v w2_16), (Sl3.v w2_17)]), some (108, [(Value.string x19_0), (Sl3.v x19_1), (Value.int .i64 x19_2), (Value.int .i64 x19_3), (Value.string x19_4), (Sl3.v x19_5)]), some (108, [(Value.string x19_0), (Sl3.v Sl3.nil), (Value.int .i64 x20_0), (Value.int .i64 x20_1), (Value.string x20_2), (Sl3.v x20_3)])]) false ?_
          refine DA.dn ?_
          exact fun a w hs => jsN (hs.sb 5)
    · refine WS.nxt ?_
      refine WS.sq ?_
      refine WS.sq ?_
      refine WS.rg ?_
      refine RS.mS 4 [(90, .val (Value.int .i64 0)), (89, .val (Value.int .i64 (x19_1.n : Int))), (88, .val (Sl3.v x19_1)), (87, .loc 3 1)] ?_
      refine RS.dn ?_
      refine WS.nxt ?_
      refine WS.bk 8 ?_
      obtain ⟨o, hl, h⟩ := bind_some h
      rcases o with ⟨H38, v90_39, w4_40, w4_41, w4_42, w4_43, w4_44, w4_45⟩ | r
      · try dsimp only at h
        refine WS.lI (term_copySig_b2_ok (L := L) (E := E) (m := m) (H := H)) (L.ok hl) 5 ?_
        clear hl
        refine fun a w hs => bkE ((WS.nxt ?_ a w hs))
        refine WS.rg ?_
        refine RS.mS 3 [(104, .val (Value.agg #[(Value.string w4_40), (Sl3.v w4_41), (Value.int .i64 w4_42), (Value.int .i64 w4_43), (Value.string w4_44), (Sl3.v w4_45)])), (103, .val (Sl3.v w2_17)), (102, .loc 2 2)] ?_
        obtain ⟨⟨s46, H47⟩, hx, h⟩ := bind_some h
        try dsimp only at h
        refine RS.o (H' := H47) (some 105) (Sl3.v s46) (Abs.run_newR (by kernel_rfl) (by kernel_rfl) hx) ?_
        obtain ⟨⟨s48, H49⟩, hx, h⟩ := bind_some h
        try dsimp only at h
        refine RS.o (H' := H49) (some 106) (Sl3.v s48) (Abs.run_app (x := .tmp 103) (y := .tmp 105) (ts := #[39, 39]) (s := w2_17) (z := s46) (by kernel_rfl) (by kernel_rfl) (by kernel_rfl) (by kernel_rfl) hx) ?_
        refine RS.mL 2 [(107, .loc 2 2)] ([some (41, [(Sl3.v a0_0), (Sl3.v a0_1), (Sl3.v a0_2)]), some (41, [(Sl3.v Sl3.nil), (Sl3.v Sl3.nil), (Sl3.v Sl3.nil)]), some (41, [(Sl3.v w2_15), (Sl3.v w2_16), (Sl3.v s48)]), some (108, [(Value.string x19_0), (Sl3.v x19_1), (Value.int .i64 x19_2), (Value.int .i64 x19_3), (Value.string x19_4), (Sl3.v x19_5)]), some (108, [(Value.string w4_40), (Sl3.v w4_41), (Value.int .i64 w4_42), (Value.int .i64 w4_43), (Value.string w4_44), (Sl3.v w4_45)])]) ?_
        refine RS.dn ?_
        refine fun a w hs => bkN ((WS.nxt ?_ a w hs))
        refine WS.rg ?_
        refine RS.mS 2 [(77, .val (Value.int .i64 (IntKind.i64.wrap (v77_14 + 1)))), (108, .val (Value.int .i64 (IntKind.i64.wrap (v77_14 + 1))))] ?_
        refine RS.dn ?_
        cases h
        exact fun a w hs => lsN rfl (hs.sb 3)
      · try dsimp only at h
        refine WS.lR (term_copySig_b2_ok (L := L) (E := E) (m := m) (H := H)) (L.ok hl) 5 ?_
        cases h
        exact fun a w hq => bkR (sqR (bkR (sqR (lsR rfl hq))))
  · refine WS.fx 78 false (decide_eq_false hp) ?_
    refine WS.cF ?_
    refine WS.ex 6 ?_
    cases h
    exact fun a w hs => sqE (lsB rfl (hs.sb 3))

theorem term_copySig_ok {L : LC} {m : Nat} {H : AH} {a0_0 : Sl3} {a0_1 : Sl3} {a0_2 : Sl3} {r : (Sl3 × Sl3 × Sl3 × AH)} (h : term_copySig L m H a0_0 a0_1 a0_2 = some r) :
    CallS Tryz.prog (NE.plain 92) m 30 #[(Value.agg #[(Sl3.v a0_0), (Sl3.v a0_1), (Sl3.v a0_2)])] H (term_copySig_enc r) (term_copySig_hp H r) := by
  refine CallS.mk (args := [(Value.agg #[(Sl3.v a0_0), (Sl3.v a0_1), (Sl3.v a0_2)])]) Tryz.func30 (B := B30) (by kernel_rfl) (fun E _ => ?_)
  unfold term_copySig at h
  refine WS.sq ?_
  refine WS.rg ?_
  refine RS.mL 2 [(2, .loc 1 0), (1, .loc 0 0)] ([some (41, [(Sl3.v a0_0), (Sl3.v a0_1), (Sl3.v a0_2)]), some (41, [(Sl3.v Sl3.nil), (Sl3.v Sl3.nil), (Sl3.v Sl3.nil)])]) ?_
  refine RS.dn ?_
  refine WS.nxt ?_
  refine WS.sq ?_
  refine WS.rg ?_
  refine RS.mS 2 [(18, .val (Sl3.v a0_0)), (17, .loc 0 0)] ?_
  obtain ⟨⟨x1, H2⟩, hx, h⟩ := bind_some h
  try dsimp only at h
  refine RS.cl (some 19) (v := (Sl3.v x1)) 47 #[(Sl3.v a0_0)] (slices_Clone_47_ok hx) ?_
  refine RS.mL 3 [(3, .loc 2 0), (20, .val (Value.agg #[(Sl3.v x1), (Sl3.v Sl3.nil), (Sl3.v Sl3.nil)]))] ([some (41, [(Sl3.v a0_0), (Sl3.v a0_1), (Sl3.v a0_2)]), some (41, [(Sl3.v Sl3.nil), (Sl3.v Sl3.nil), (Sl3.v Sl3.nil)]), some (41, [(Sl3.v x1), (Sl3.v Sl3.nil), (Sl3.v Sl3.nil)])]) ?_
  refine RS.dn ?_
  refine WS.nxt ?_
  refine WS.sq ?_
  refine WS.sq ?_
  refine WS.rg ?_
  refine RS.mS 4 [(24, .val (Value.int .i64 0)), (23, .val (Value.int .i64 (a0_1.n : Int))), (22, .val (Sl3.v a0_1)), (21, .loc 0 1)] ?_
  refine RS.dn ?_
  refine WS.nxt ?_
  refine WS.bk 0 ?_
  obtain ⟨o, hl, h⟩ := bind_some h
  rcases o with ⟨H8, v24_9, w2_10, w2_11, w2_12⟩ | r
  · try dsimp only at h
    refine WS.lI (term_copySig_b0_ok (L := L) (E := E) (m := m) (H := H)) (L.ok hl) 3 ?_
    clear hl
    refine fun a w hs => bkE ((WS.nxt ?_ a w hs))
    refine WS.sq ?_
    refine WS.sq ?_
    refine WS.rg ?_
    refine RS.mS 4 [(77, .val (Value.int .i64 0)), (76, .val (Value.int .i64 (a0_2.n : Int))), (75, .val (Sl3.v a0_2)), (74, .loc 0 2)] ?_
    refine RS.dn ?_
    refine WS.nxt ?_
    refine WS.bk 6 ?_
    obtain ⟨o, hl, h⟩ := bind_some h
    rcases o with ⟨H50, v77_51, w2_52, w2_53, w2_54⟩ | r
    · try dsimp only at h
      refine WS.lI (term_copySig_b1_ok (L := L) (E := E) (m := m) (H := H)) (L.ok hl) 3 ?_
      clear hl
      refine fun a w hs => bkE ((WS.nxt ?_ a w hs))
      refine WS.sq ?_
      refine WS.rg ?_
      refine RS.mL 2 [(109, .val (Value.agg #[(Sl3.v w2_52), (Sl3.v w2_53), (Sl3.v w2_54)]))] ([some (41, [(Sl3.v a0_0), (Sl3.v a0_1), (Sl3.v a0_2)]), some (41, [(Sl3.v w2_52), (Sl3.v w2_53), (Sl3.v w2_54)]), some (41, [(Sl3.v w2_52), (Sl3.v w2_53), (Sl3.v w2_54)])]) ?_
      refine RS.dn ?_
      refine WS.nxt ?_
      refine WS.rt ?_
      cases h
      exact fun a w hs => rtR (rS hs)
    · try dsimp only at h
      refine WS.lR (term_copySig_b1_ok (L := L) (E := E) (m := m) (H := H)) (L.ok hl) 3 ?_
      cases h
      exact fun a w hq => bkR (sqR (rtR hq))
  · try dsimp only at h
    refine WS.lR (term_copySig_b0_ok (L := L) (E := E) (m := m) (H := H)) (L.ok hl) 3 ?_
    cases h
    exact fun a w hq => bkR (sqR (rtR hq))

end Go.Proofs.YtgkogeglciogkaaGreatDoor

namespace Go.Proofs.YtgkogeglciogkaaGreatDoor
open Go Go.Abs
set_option maxRecDepth 100000

def sort_many_enc : Bool → Value
  | r0 => (Value.bool r0)

def sort_many_hp (H : AH) : Bool → AH := fun _ => H

noncomputable def B71 : Code := (Tryz.f71.body).getD .skip

noncomputable def sort_many_b0 (_L : LC) (_H : AH) (_a0_0 : Sl3) (a0_1 : Sl3) (_a0_2 : Sl3) : (Int × Int) → Option (Lp (Int × Int) Bool) := fun (v3_1, v24_2) =>
  if v24_2 < (a0_1.n : Int) then
    none
  else
    some (.brk (v3_1, v24_2))

def sort_many_b0_kn (_L : LC) (_H : AH) (_a0_0 : Sl3) (a0_1 : Sl3) (_a0_2 : Sl3) : (Int × Int) → KN := fun (v3_1, v24_2) => [(3, .val (Value.int .i64 v3_1)), (24, .val (Value.int .i64 v24_2)), (1, .loc 0 0), (22, .val (Sl3.v a0_1)), (23, .val (Value.int .i64 (a0_1.n : Int)))]

def sort_many_b0_ls (_L : LC) (_H : AH) (a0_0 : Sl3) (a0_1 : Sl3) (a0_2 : Sl3) : (Int × Int) → Lcs := fun (_, _) => [some (41, [(Sl3.v a0_0), (Sl3.v a0_1), (Sl3.v a0_2)])]

noncomputable def sort_many_b1 (_L : LC) (H : AH) (_a0_0 : Sl3) (_a0_1 : Sl3) (a0_2 : Sl3) (_v3_3 : Int) : Int → Option (Lp Int Bool) := fun v64_5 =>
  if v64_5 < (a0_2.n : Int) then
    Option.bind (idxA 6 a0_2 v64_5) fun p6 =>
    Option.bind (rd deS H (Addr.add p6 0)) fun _ =>
    Option.bind (rd deSl H (Addr.add p6 1)) fun x7_1 =>
    Option.bind (rd (deI .i64) H (Addr.add p6 2)) fun _ =>
    Option.bind (rd (deI .i64) H (Addr.add p6 3)) fun _ =>
    Option.bind (rd deS H (Addr.add p6 4)) fun _ =>
    Option.bind (rd deSl H (Addr.add p6 5)) fun _ =>
    if (x7_1.n : Int) > 64 then
      none
    else
      some (.next (IntKind.i64.wrap (v64_5 + 1)))
  else
    some (.brk v64_5)

def sort_many_b1_kn (_L : LC) (_H : AH) (_a0_0 : Sl3) (_a0_1 : Sl3) (a0_2 : Sl3) (v3_3 : Int) : Int → KN := fun v64_5 => [(64, .val (Value.int .i64 v64_5)), (3, .val (Value.int .i64 v3_3)), (62, .val (Sl3.v a0_2)), (63, .val (Value.int .i64 (a0_2.n : Int)))]

def sort_many_b1_ls (_L : LC) (_H : AH) (a0_0 : Sl3) (a0_1 : Sl3) (a0_2 : Sl3) (_v3_3 : Int) : Int → Lcs := fun _ => [some (41, [(Sl3.v a0_0), (Sl3.v a0_1), (Sl3.v a0_2)])]

noncomputable def sort_many (L : LC) (H : AH) (a0_0 : Sl3) (a0_1 : Sl3) (a0_2 : Sl3) : Option Bool :=
  Option.bind (L.run (sort_many_b0 L H a0_0 a0_1 a0_2) ((IntKind.i64.wrap ((IntKind.i64.wrap ((a0_0.n : Int) + (a0_1.n : Int))) + (a0_2.n : Int))), 0)) fun o => match o with
  | .inl (v3_3, _) =>
    Option.bind (L.run (sort_many_b1 L H a0_0 a0_1 a0_2 v3_3) 0) fun o => match o with
    | .inl _ =>
      some (decide (v3_3 > 4096))
    | .inr r => some r
  | .inr r => some r

theorem sort_many_b0_ok {E : Ent} {m : Nat} {L : LC} {H : AH} {a0_0 : Sl3} {a0_1 : Sl3} {a0_2 : Sl3}  : ∀ s o, sort_many_b0 L H a0_0 a0_1 a0_2 s = some o →
    WS Tryz.prog (NE.plain 92) m E Tryz.f71.ntmps (cfst (cfst (csnd (cfst (csnd (csnd B71)))))) (sort_many_b0_kn L H a0_0 a0_1 a0_2 s) (sort_many_b0_ls L H a0_0 a0_1 a0_2 s) ((fun _ => H) s) (lpS Tryz.prog (NE.plain 92) m E Tryz.f71.ntmps (sort_many_b0_kn L H a0_0 a0_1 a0_2) (sort_many_b0_ls L H a0_0 a0_1 a0_2) (fun _ => H) 0 (fun r => RT Tryz.prog (NE.plain 92) m E Tryz.f71 (sort_many_enc r) (sort_many_hp H r)) o) := by
  rintro ⟨v3_1, v24_2⟩ o h
  unfold sort_many_b0 at h
  try dsimp only at h
  refine WS.sq ?_
  refine WS.rg ?_
  refine RS.mS 1 [(25, .val (Value.bool (decide (v24_2 < (a0_1.n : Int)))))] ?_
  refine RS.dn ?_
  refine WS.nxt ?_
  refine WS.sq ?_
  rcases ite_some h with ⟨hp, h⟩ | ⟨hp, h⟩
  · refine WS.fx 25 true (decide_eq_true hp) ?_
    refine WS.cT ?_
    cases h
  · refine WS.fx 25 false (decide_eq_false hp) ?_
    refine WS.cF ?_
    refine WS.ex 0 ?_
    cases h
    exact fun a w hs => sqE (lsB rfl (hs.sb 1))

theorem sort_many_b1_ok {E : Ent} {m : Nat} {L : LC} {H : AH} {a0_0 : Sl3} {a0_1 : Sl3} {a0_2 : Sl3} {v3_3 : Int}  : ∀ s o, sort_many_b1 L H a0_0 a0_1 a0_2 v3_3 s = some o →
    WS Tryz.prog (NE.plain 92) m E Tryz.f71.ntmps (cfst (cfst (csnd (cfst (csnd (csnd (csnd B71))))))) (sort_many_b1_kn L H a0_0 a0_1 a0_2 v3_3 s) (sort_many_b1_ls L H a0_0 a0_1 a0_2 v3_3 s) ((fun _ => H) s) (lpS Tryz.prog (NE.plain 92) m E Tryz.f71.ntmps (sort_many_b1_kn L H a0_0 a0_1 a0_2 v3_3) (sort_many_b1_ls L H a0_0 a0_1 a0_2 v3_3) (fun _ => H) 4 (fun r => RT Tryz.prog (NE.plain 92) m E Tryz.f71 (sort_many_enc r) (sort_many_hp H r)) o) := by
  rintro v64_5 o h
  unfold sort_many_b1 at h
  try dsimp only at h
  refine WS.sq ?_
  refine WS.rg ?_
  refine RS.mS 1 [(65, .val (Value.bool (decide (v64_5 < (a0_2.n : Int)))))] ?_
  refine RS.dn ?_
  refine WS.nxt ?_
  refine WS.sq ?_
  rcases ite_some h with ⟨hp, h⟩ | ⟨hp, h⟩
  · refine WS.fx 65 true (decide_eq_true hp) ?_
    refine WS.cT ?_
    refine WS.sk ?_
    refine WS.nxt ?_
    refine WS.sq ?_
    refine WS.bk 5 ?_
    refine WS.sq ?_
    refine WS.rg ?_
    obtain ⟨p6, hx, h⟩ := bind_some h
    refine RS.o (H' := H) (some 66) (Value.pointer (some p6)) (Abs.run_idx (s := a0_2) (k := .i64) (t := 39) (e := 108) (x := .tmp 62) (y := .tmp 64) (by kernel_rfl) (by kernel_rfl) (by kernel_rfl) (by kernel_rfl) (by kernel_rfl) hx) ?_
    obtain ⟨x7_0, hx0, h⟩ := bind_some h
    obtain ⟨x7_1, hx1, h⟩ := bind_some h
    obtain ⟨x7_2, hx2, h⟩ := bind_some h
    obtain ⟨x7_3, hx3, h⟩ := bind_some h
    obtain ⟨x7_4, hx4, h⟩ := bind_some h
    obtain ⟨x7_5, hx5, h⟩ := bind_some h
    refine RS.o (H' := H) (some 67) (Value.agg #[(Value.string x7_0), (Sl3.v x7_1), (Value.int .i64 x7_2), (Value.int .i64 x7_3), (Value.string x7_4), (Sl3.v x7_5)]) (Abs.run_loadAg (t := 108) (x := .tmp 66) (a := p6) (k := 6) (by kernel_rfl) (by kernel_rfl) (by kernel_rfl) (by kernel_rfl) (rdc_cons (rd_cell hx0 deS_inv) (rdc_cons (rd_cell hx1 deSl_inv) (rdc_cons (rd_cell hx2 deI_inv) (rdc_cons (rd_cell hx3 deI_inv) (rdc_cons (rd_cell hx4 deS_inv) (rdc_cons (rd_cell hx5 deSl_inv) rdc_nil))))))) ?_
    refine RS.mL 2 [(9, .loc 1 0)] ([some (41, [(Sl3.v a0_0), (Sl3.v a0_1), (Sl3.v a0_2)]), some (108, [(Value.string x7_0), (Sl3.v x7_1), (Value.int .i64 x7_2), (Value.int .i64 x7_3), (Value.string x7_4), (Sl3.v x7_5)])]) ?_
    refine RS.dn ?_
    refine WS.nxt ?_
    refine WS.sq ?_
    refine WS.rg ?_
    refine RS.mS 4 [(71, .val (Value.bool (decide ((x7_1.n : Int) > 64)))), (70, .val (Value.int .i64 (x7_1.n : Int))), (69, .val (Sl3.v x7_1)), (68, .loc 1 1)] ?_
    refine RS.dn ?_
    refine WS.nxt ?_
    rcases ite_some h with ⟨hp, h⟩ | ⟨hp, h⟩
    · refine WS.fx 71 true (decide_eq_true hp) ?_
      refine WS.cT ?_
      cases h
    · refine WS.fx 71 false (decide_eq_false hp) ?_
      refine WS.cF ?_
      refine WS.sk ?_
      refine fun a w hs => bkN ((WS.nxt ?_ a w hs))
      refine WS.rg ?_
      refine RS.mS 2 [(64, .val (Value.int .i64 (IntKind.i64.wrap (v64_5 + 1)))), (72, .val (Value.int .i64 (IntKind.i64.wrap (v64_5 + 1))))] ?_
      refine RS.dn ?_
      cases h
      exact fun a w hs => lsN rfl (hs.sb 1)
  · refine WS.fx 65 false (decide_eq_false hp) ?_
    refine WS.cF ?_
    refine WS.ex 4 ?_
    cases h
    exact fun a w hs => sqE (lsB rfl (hs.sb 1))

theorem sort_many_ok {L : LC} {m : Nat} {H : AH} {a0_0 : Sl3} {a0_1 : Sl3} {a0_2 : Sl3} {r : Bool} (h : sort_many L H a0_0 a0_1 a0_2 = some r) :
    CallS Tryz.prog (NE.plain 92) m 71 #[(Value.agg #[(Sl3.v a0_0), (Sl3.v a0_1), (Sl3.v a0_2)])] H (sort_many_enc r) (sort_many_hp H r) := by
  refine CallS.mk (args := [(Value.agg #[(Sl3.v a0_0), (Sl3.v a0_1), (Sl3.v a0_2)])]) Tryz.func71 (B := B71) (by kernel_rfl) (fun E _ => ?_)
  unfold sort_many at h
  refine WS.sq ?_
  refine WS.rg ?_
  refine RS.mL 2 [(2, .val (Value.bool false)), (1, .loc 0 0)] ([some (41, [(Sl3.v a0_0), (Sl3.v a0_1), (Sl3.v a0_2)])]) ?_
  refine RS.dn ?_
  refine WS.nxt ?_
  refine WS.sq ?_
  refine WS.rg ?_
  refine RS.mS 12 [(3, .val (Value.int .i64 (IntKind.i64.wrap ((IntKind.i64.wrap ((a0_0.n : Int) + (a0_1.n : Int))) + (a0_2.n : Int))))), (20, .val (Value.int .i64 (IntKind.i64.wrap ((IntKind.i64.wrap ((a0_0.n : Int) + (a0_1.n : Int))) + (a0_2.n : Int))))), (19, .val (Value.int .i64 (a0_2.n : Int))), (18, .val (Sl3.v a0_2)), (17, .loc 0 2), (16, .val (Value.int .i64 (IntKind.i64.wrap ((a0_0.n : Int) + (a0_1.n : Int))))), (15, .val (Value.int .i64 (a0_1.n : Int))), (14, .val (Sl3.v a0_1)), (13, .loc 0 1), (12, .val (Value.int .i64 (a0_0.n : Int))), (11, .val (Sl3.v a0_0)), (10, .loc 0 0)] ?_
  refine RS.dn ?_
  refine WS.nxt ?_
  refine WS.sq ?_
  refine WS.sq ?_
  refine WS.rg ?_
  refine RS.mS 4 [(24, .val (Value.int .i64 0)), (23, .val (Value.int .i64 (a0_1.n : Int))), (22, .val (Sl3.v a0_1)), (21, .loc 0 1)] ?_
  refine RS.dn ?_
  refine WS.nxt ?_
  refine WS.bk 0 ?_
  obtain ⟨o, hl, h⟩ := bind_some h
  rcases o with ⟨v3_3, v24_4⟩ | r
  · try dsimp only at h
    refine WS.lI (sort_many_b0_ok (L := L) (E := E) (m := m) (H := H)) (L.ok hl) 1 ?_
    clear hl
    refine fun a w hs => bkE ((WS.nxt ?_ a w hs))
    refine WS.sq ?_
    refine WS.sq ?_
    refine WS.rg ?_
    refine RS.mS 4 [(64, .val (Value.int .i64 0)), (63, .val (Value.int .i64 (a0_2.n : Int))), (62, .val (Sl3.v a0_2)), (61, .loc 0 2)] ?_
    refine RS.dn ?_
    refine WS.nxt ?_
    refine WS.bk 4 ?_
    obtain ⟨o, hl, h⟩ := bind_some h
    rcases o with v64_8 | r
    · try dsimp only at h
      refine WS.lI (sort_many_b1_ok (L := L) (E := E) (m := m) (H := H)) (L.ok hl) 1 ?_
      clear hl
      refine fun a w hs => bkE ((WS.nxt ?_ a w hs))
      refine WS.sq ?_
      refine WS.rg ?_
      refine RS.mS 3 [(2, .val (Value.bool (decide (v3_3 > 4096)))), (74, .val (Value.bool (decide (v3_3 > 4096)))), (73, .val (Value.int .i64 v3_3))] ?_
      refine RS.dn ?_
      refine WS.nxt ?_
      refine WS.rt ?_
      cases h
      exact fun a w hs => rtR (rS hs)
    · try dsimp only at h
      refine WS.lR (sort_many_b1_ok (L := L) (E := E) (m := m) (H := H)) (L.ok hl) 1 ?_
      cases h
      exact fun a w hq => bkR (sqR (rtR hq))
  · try dsimp only at h
    refine WS.lR (sort_many_b0_ok (L := L) (E := E) (m := m) (H := H)) (L.ok hl) 1 ?_
    cases h
    exact fun a w hq => bkR (sqR (rtR hq))

def sort_names_enc : (Sl3 × Sl3 × AH) → Value
  | (r0, r1, _) => (Value.tuple #[(Sl3.v r0), (Sl3.v r1)])

def sort_names_hp (_ : AH) : (Sl3 × Sl3 × AH) → AH := fun r => r.2.2

noncomputable def B72 : Code := (Tryz.f72.body).getD .skip

noncomputable def sort_names_b0 (_L : LC) (_a0_0 : Sl3) (a0_1 : Sl3) (_a0_2 : Sl3) : (AH × Sl3 × Sl3 × Int) → Option (Lp (AH × Sl3 × Sl3 × Int) (Sl3 × Sl3 × AH)) := fun (H3, v4_4, v5_5, v20_6) =>
  if v20_6 < (a0_1.n : Int) then
    none
  else
    some (.brk (H3, v4_4, v5_5, v20_6))

def sort_names_b0_kn (_L : LC) (_a0_0 : Sl3) (a0_1 : Sl3) (_a0_2 : Sl3) : (AH × Sl3 × Sl3 × Int) → KN := fun (_, v4_4, v5_5, v20_6) => [(4, .val (Sl3.v v4_4)), (5, .val (Sl3.v v5_5)), (20, .val (Value.int .i64 v20_6)), (1, .loc 0 0), (18, .val (Sl3.v a0_1)), (19, .val (Value.int .i64 (a0_1.n : Int)))]

def sort_names_b0_ls (_L : LC) (a0_0 : Sl3) (a0_1 : Sl3) (a0_2 : Sl3) : (AH × Sl3 × Sl3 × Int) → Lcs := fun (_, _, _, _) => [some (41, [(Sl3.v a0_0), (Sl3.v a0_1), (Sl3.v a0_2)])]

noncomputable def sort_names_b1 (_L : LC) (m : Nat) (_a0_0 : Sl3) (_a0_1 : Sl3) (a0_2 : Sl3) (_v4_8 : Sl3) : (AH × Sl3 × Int) → Option (Lp (AH × Sl3 × Int) (Sl3 × Sl3 × AH)) := fun (H11, v5_12, v59_13) =>
  if v59_13 < (a0_2.n : Int) then
    Option.bind (idxA 6 a0_2 v59_13) fun p14 =>
    Option.bind (rd deS H11 (Addr.add p14 0)) fun x15_0 =>
    Option.bind (rd deSl H11 (Addr.add p14 1)) fun _ =>
    Option.bind (rd (deI .i64) H11 (Addr.add p14 2)) fun _ =>
    Option.bind (rd (deI .i64) H11 (Addr.add p14 3)) fun _ =>
    Option.bind (rd deS H11 (Addr.add p14 4)) fun _ =>
    Option.bind (rd deSl H11 (Addr.add p14 5)) fun _ =>
    Option.bind (newR 9 1 #[(Value.string x15_0)] H11) fun (s16, H17) =>
    Option.bind (appS m 9 1 16 H17 v5_12 s16) fun (s18, H19) =>
    some (.next (H19, s18, (IntKind.i64.wrap (v59_13 + 1))))
  else
    some (.brk (H11, v5_12, v59_13))

def sort_names_b1_kn (_L : LC) (_m : Nat) (_a0_0 : Sl3) (_a0_1 : Sl3) (a0_2 : Sl3) (v4_8 : Sl3) : (AH × Sl3 × Int) → KN := fun (_, v5_12, v59_13) => [(5, .val (Sl3.v v5_12)), (59, .val (Value.int .i64 v59_13)), (4, .val (Sl3.v v4_8)), (57, .val (Sl3.v a0_2)), (58, .val (Value.int .i64 (a0_2.n : Int)))]

def sort_names_b1_ls (_L : LC) (_m : Nat) (a0_0 : Sl3) (a0_1 : Sl3) (a0_2 : Sl3) (_v4_8 : Sl3) : (AH × Sl3 × Int) → Lcs := fun (_, _, _) => [some (41, [(Sl3.v a0_0), (Sl3.v a0_1), (Sl3.v a0_2)])]

noncomputable def sort_names (L : LC) (m : Nat) (H : AH) (a0_0 : Sl3) (a0_1 : Sl3) (a0_2 : Sl3) : Option (Sl3 × Sl3 × AH) :=
  Option.bind (slices_Clone_47 L m H a0_0) fun (x1, H2) =>
  Option.bind (L.run (sort_names_b0 L a0_0 a0_1 a0_2) (H2, x1, Sl3.nil, 0)) fun o => match o with
  | .inl (H7, v4_8, v5_9, _) =>
    Option.bind (L.run (sort_names_b1 L m a0_0 a0_1 a0_2 v4_8) (H7, v5_9, 0)) fun o => match o with
    | .inl (H20, v5_21, _) =>
      some (v4_8, v5_21, H20)
    | .inr r => some r
  | .inr r => some r

theorem sort_names_b0_ok {E : Ent} {m : Nat} {H : AH} {L : LC} {a0_0 : Sl3} {a0_1 : Sl3} {a0_2 : Sl3}  : ∀ s o, sort_names_b0 L a0_0 a0_1 a0_2 s = some o →
    WS Tryz.prog (NE.plain 92) m E Tryz.f72.ntmps (cfst (cfst (csnd (cfst (csnd (csnd (csnd B72))))))) (sort_names_b0_kn L a0_0 a0_1 a0_2 s) (sort_names_b0_ls L a0_0 a0_1 a0_2 s) ((fun s => s.1) s) (lpS Tryz.prog (NE.plain 92) m E Tryz.f72.ntmps (sort_names_b0_kn L a0_0 a0_1 a0_2) (sort_names_b0_ls L a0_0 a0_1 a0_2) (fun s => s.1) 0 (fun r => RT Tryz.prog (NE.plain 92) m E Tryz.f72 (sort_names_enc r) (sort_names_hp H r)) o) := by
  rintro ⟨H3, v4_4, v5_5, v20_6⟩ o h
  unfold sort_names_b0 at h
  try dsimp only at h
  refine WS.sq ?_
  refine WS.rg ?_
  refine RS.mS 1 [(21, .val (Value.bool (decide (v20_6 < (a0_1.n : Int)))))] ?_
  refine RS.dn ?_
  refine WS.nxt ?_
  refine WS.sq ?_
  rcases ite_some h with ⟨hp, h⟩ | ⟨hp, h⟩
  · refine WS.fx 21 true (decide_eq_true hp) ?_
    refine WS.cT ?_
    cases h
  · refine WS.fx 21 false (decide_eq_false hp) ?_
    refine WS.cF ?_
    refine WS.ex 0 ?_
    cases h
    exact fun a w hs => sqE (lsB rfl (hs.sb 1))

theorem sort_names_b1_ok {E : Ent} {H : AH} {L : LC} {m : Nat} {a0_0 : Sl3} {a0_1 : Sl3} {a0_2 : Sl3} {v4_8 : Sl3}  : ∀ s o, sort_names_b1 L m a0_0 a0_1 a0_2 v4_8 s = some o →
    WS Tryz.prog (NE.plain 92) m E Tryz.f72.ntmps (cfst (cfst (csnd (cfst (csnd (csnd (csnd (csnd B72)))))))) (sort_names_b1_kn L m a0_0 a0_1 a0_2 v4_8 s) (sort_names_b1_ls L m a0_0 a0_1 a0_2 v4_8 s) ((fun s => s.1) s) (lpS Tryz.prog (NE.plain 92) m E Tryz.f72.ntmps (sort_names_b1_kn L m a0_0 a0_1 a0_2 v4_8) (sort_names_b1_ls L m a0_0 a0_1 a0_2 v4_8) (fun s => s.1) 6 (fun r => RT Tryz.prog (NE.plain 92) m E Tryz.f72 (sort_names_enc r) (sort_names_hp H r)) o) := by
  rintro ⟨H11, v5_12, v59_13⟩ o h
  unfold sort_names_b1 at h
  try dsimp only at h
  refine WS.sq ?_
  refine WS.rg ?_
  refine RS.mS 1 [(60, .val (Value.bool (decide (v59_13 < (a0_2.n : Int)))))] ?_
  refine RS.dn ?_
  refine WS.nxt ?_
  refine WS.sq ?_
  rcases ite_some h with ⟨hp, h⟩ | ⟨hp, h⟩
  · refine WS.fx 60 true (decide_eq_true hp) ?_
    refine WS.cT ?_
    refine WS.sk ?_
    refine WS.nxt ?_
    refine WS.sq ?_
    refine WS.bk 7 ?_
    refine WS.sq ?_
    refine WS.rg ?_
    obtain ⟨p14, hx, h⟩ := bind_some h
    refine RS.o (H' := H11) (some 61) (Value.pointer (some p14)) (Abs.run_idx (s := a0_2) (k := .i64) (t := 39) (e := 108) (x := .tmp 57) (y := .tmp 59) (by kernel_rfl) (by kernel_rfl) (by kernel_rfl) (by kernel_rfl) (by kernel_rfl) hx) ?_
    obtain ⟨x15_0, hx0, h⟩ := bind_some h
    obtain ⟨x15_1, hx1, h⟩ := bind_some h
    obtain ⟨x15_2, hx2, h⟩ := bind_some h
    obtain ⟨x15_3, hx3, h⟩ := bind_some h
    obtain ⟨x15_4, hx4, h⟩ := bind_some h
    obtain ⟨x15_5, hx5, h⟩ := bind_some h
    refine RS.o (H' := H11) (some 62) (Value.agg #[(Value.string x15_0), (Sl3.v x15_1), (Value.int .i64 x15_2), (Value.int .i64 x15_3), (Value.string x15_4), (Sl3.v x15_5)]) (Abs.run_loadAg (t := 108) (x := .tmp 61) (a := p14) (k := 6) (by kernel_rfl) (by kernel_rfl) (by kernel_rfl) (by kernel_rfl) (rdc_cons (rd_cell hx0 deS_inv) (rdc_cons (rd_cell hx1 deSl_inv) (rdc_cons (rd_cell hx2 deI_inv) (rdc_cons (rd_cell hx3 deI_inv) (rdc_cons (rd_cell hx4 deS_inv) (rdc_cons (rd_cell hx5 deSl_inv) rdc_nil))))))) ?_
    refine RS.mL 2 [(13, .loc 1 0)] ([some (41, [(Sl3.v a0_0), (Sl3.v a0_1), (Sl3.v a0_2)]), some (108, [(Value.string x15_0), (Sl3.v x15_1), (Value.int .i64 x15_2), (Value.int .i64 x15_3), (Value.string x15_4), (Sl3.v x15_5)])]) ?_
    refine RS.dn ?_
    refine WS.nxt ?_
    refine WS.rg ?_
    refine RS.mS 3 [(65, .val (Value.string x15_0)), (64, .loc 1 0), (63, .val (Sl3.v v5_12))] ?_
    obtain ⟨⟨s16, H17⟩, hx, h⟩ := bind_some h
    try dsimp only at h
    refine RS.o (H' := H17) (some 66) (Sl3.v s16) (Abs.run_newR (by kernel_rfl) (by kernel_rfl) hx) ?_
    obtain ⟨⟨s18, H19⟩, hx, h⟩ := bind_some h
    try dsimp only at h
    refine RS.o (H' := H19) (some 67) (Sl3.v s18) (Abs.run_app (x := .tmp 63) (y := .tmp 66) (ts := #[37, 37]) (s := v5_12) (z := s16) (by kernel_rfl) (by kernel_rfl) (by kernel_rfl) (by kernel_rfl) hx) ?_
    refine RS.mS 1 [(5, .val (Sl3.v s18))] ?_
    refine RS.dn ?_
    refine fun a w hs => bkN ((WS.nxt ?_ a w hs))
    refine WS.rg ?_
    refine RS.mS 2 [(59, .val (Value.int .i64 (IntKind.i64.wrap (v59_13 + 1)))), (68, .val (Value.int .i64 (IntKind.i64.wrap (v59_13 + 1))))] ?_
    refine RS.dn ?_
    cases h
    exact fun a w hs => lsN rfl (hs.sb 1)
  · refine WS.fx 60 false (decide_eq_false hp) ?_
    refine WS.cF ?_
    refine WS.ex 6 ?_
    cases h
    exact fun a w hs => sqE (lsB rfl (hs.sb 1))

theorem sort_names_ok {L : LC} {m : Nat} {H : AH} {a0_0 : Sl3} {a0_1 : Sl3} {a0_2 : Sl3} {r : (Sl3 × Sl3 × AH)} (h : sort_names L m H a0_0 a0_1 a0_2 = some r) :
    CallS Tryz.prog (NE.plain 92) m 72 #[(Value.agg #[(Sl3.v a0_0), (Sl3.v a0_1), (Sl3.v a0_2)])] H (sort_names_enc r) (sort_names_hp H r) := by
  refine CallS.mk (args := [(Value.agg #[(Sl3.v a0_0), (Sl3.v a0_1), (Sl3.v a0_2)])]) Tryz.func72 (B := B72) (by kernel_rfl) (fun E _ => ?_)
  unfold sort_names at h
  refine WS.sq ?_
  refine WS.rg ?_
  refine RS.mL 3 [(3, .val (Sl3.v Sl3.nil)), (2, .val (Sl3.v Sl3.nil)), (1, .loc 0 0)] ([some (41, [(Sl3.v a0_0), (Sl3.v a0_1), (Sl3.v a0_2)])]) ?_
  refine RS.dn ?_
  refine WS.nxt ?_
  refine WS.sq ?_
  refine WS.rg ?_
  refine RS.mS 2 [(15, .val (Sl3.v a0_0)), (14, .loc 0 0)] ?_
  obtain ⟨⟨x1, H2⟩, hx, h⟩ := bind_some h
  try dsimp only at h
  refine RS.cl (some 16) (v := (Sl3.v x1)) 47 #[(Sl3.v a0_0)] (slices_Clone_47_ok hx) ?_
  refine RS.mS 1 [(4, .val (Sl3.v x1))] ?_
  refine RS.dn ?_
  refine WS.nxt ?_
  refine WS.sq ?_
  refine WS.rg ?_
  refine RS.mS 1 [(5, .val (Sl3.v Sl3.nil))] ?_
  refine RS.dn ?_
  refine WS.nxt ?_
  refine WS.sq ?_
  refine WS.sq ?_
  refine WS.rg ?_
  refine RS.mS 4 [(20, .val (Value.int .i64 0)), (19, .val (Value.int .i64 (a0_1.n : Int))), (18, .val (Sl3.v a0_1)), (17, .loc 0 1)] ?_
  refine RS.dn ?_
  refine WS.nxt ?_
  refine WS.bk 0 ?_
  obtain ⟨o, hl, h⟩ := bind_some h
  rcases o with ⟨H7, v4_8, v5_9, v20_10⟩ | r
  · try dsimp only at h
    refine WS.lI (sort_names_b0_ok (L := L) (E := E) (m := m) (H := H)) (L.ok hl) 1 ?_
    clear hl
    refine fun a w hs => bkE ((WS.nxt ?_ a w hs))
    refine WS.sq ?_
    refine WS.sq ?_
    refine WS.rg ?_
    refine RS.mS 4 [(59, .val (Value.int .i64 0)), (58, .val (Value.int .i64 (a0_2.n : Int))), (57, .val (Sl3.v a0_2)), (56, .loc 0 2)] ?_
    refine RS.dn ?_
    refine WS.nxt ?_
    refine WS.bk 6 ?_
    obtain ⟨o, hl, h⟩ := bind_some h
    rcases o with ⟨H20, v5_21, v59_22⟩ | r
    · try dsimp only at h
      refine WS.lI (sort_names_b1_ok (L := L) (E := E) (m := m) (H := H)) (L.ok hl) 1 ?_
      clear hl
      refine fun a w hs => bkE ((WS.nxt ?_ a w hs))
      refine WS.sq ?_
      refine WS.rg ?_
      refine RS.mS 4 [(3, .val (Sl3.v v5_21)), (2, .val (Sl3.v v4_8)), (70, .val (Sl3.v v5_21)), (69, .val (Sl3.v v4_8))] ?_
      refine RS.dn ?_
      refine WS.nxt ?_
      refine WS.rt ?_
      cases h
      exact fun a w hs => rtR (rS hs)
    · try dsimp only at h
      refine WS.lR (sort_names_b1_ok (L := L) (E := E) (m := m) (H := H)) (L.ok hl) 1 ?_
      cases h
      exact fun a w hq => bkR (sqR (rtR hq))
  · try dsimp only at h
    refine WS.lR (sort_names_b0_ok (L := L) (E := E) (m := m) (H := H)) (L.ok hl) 1 ?_
    cases h
    exact fun a w hq => bkR (sqR (rtR hq))

def sort_Name_enc : Bool → Value
  | r0 => (Value.bool r0)

def sort_Name_hp (H : AH) : Bool → AH := fun _ => H

noncomputable def B73 : Code := (Tryz.f73.body).getD .skip

noncomputable def sort_Name_b0 (_L : LC) (a0 : ByteArray) : Int → Option (Lp Int Bool) := fun v24_3 =>
  if v24_3 < (a0.size : Int) then
    Option.bind (bytA a0 v24_3) fun x4 =>
    if x4 < 32 then
      none
    else
      Option.bind (bytA a0 v24_3) fun x5 =>
      if x5 > 126 then
        none
      else
        Option.bind (bytA a0 v24_3) fun x6 =>
        if x6 = 124 then
          none
        else
          Option.bind (bytA a0 v24_3) fun x7 =>
          if x7 = 92 then
            none
          else
            some (.next (IntKind.i64.wrap (v24_3 + 1)))
  else
    some (.brk v24_3)

def sort_Name_b0_kn (_L : LC) (a0 : ByteArray) : Int → KN := fun v24_3 => [(24, .val (Value.int .i64 v24_3)), (0, .val (Value.string a0)), (23, .val (Value.int .i64 (a0.size : Int)))]

def sort_Name_b0_ls (_L : LC) (_a0 : ByteArray) : Int → Lcs := fun _ => []

noncomputable def sort_Name (L : LC) (a0 : ByteArray) : Option Bool :=
  if (a0.size : Int) < 1 then
    none
  else
    if (a0.size : Int) > 200 then
      none
    else
      Option.bind (bytA a0 0) fun x1 =>
      if x1 = 64 then
        none
      else
        Option.bind (bytA a0 0) fun x2 =>
        if x2 = 46 then
          none
        else
          Option.bind (L.run (sort_Name_b0 L a0) 0) fun o => match o with
          | .inl _ =>
            some true
          | .inr r => some r

theorem sort_Name_b0_ok {E : Ent} {m : Nat} {H : AH} {L : LC} {a0 : ByteArray}  : ∀ s o, sort_Name_b0 L a0 s = some o →
    WS Tryz.prog (NE.plain 92) m E Tryz.f73.ntmps (cfst (cfst (csnd (cfst (csnd (csnd B73)))))) (sort_Name_b0_kn L a0 s) (sort_Name_b0_ls L a0 s) ((fun _ => H) s) (lpS Tryz.prog (NE.plain 92) m E Tryz.f73.ntmps (sort_Name_b0_kn L a0) (sort_Name_b0_ls L a0) (fun _ => H) 0 (fun r => RT Tryz.prog (NE.plain 92) m E Tryz.f73 (sort_Name_enc r) (sort_Name_hp H r)) o) := by
  rintro v24_3 o h
  unfold sort_Name_b0 at h
  try dsimp only at h
  refine WS.sq ?_
  refine WS.rg ?_
  refine RS.mS 1 [(25, .val (Value.bool (decide (v24_3 < (a0.size : Int)))))] ?_
  refine RS.dn ?_
  refine WS.nxt ?_
  refine WS.sq ?_
  rcases ite_some h with ⟨hp, h⟩ | ⟨hp, h⟩
  · refine WS.fx 25 true (decide_eq_true hp) ?_
    refine WS.cT ?_
    refine WS.sk ?_
    refine WS.nxt ?_
    refine WS.sq ?_
    refine WS.bk 1 ?_
    refine WS.sq ?_
    refine WS.rg ?_
    refine RS.mS 2 [(3, .val (Value.int .i64 v24_3)), (26, .val (Value.int .i64 v24_3))] ?_
    refine RS.dn ?_
    refine WS.nxt ?_
    refine WS.sq ?_
    refine WS.rg ?_
    refine RS.mS 2 [(28, .val (Value.int .i64 v24_3)), (27, .val (Value.string a0))] ?_
    obtain ⟨x4, hx, h⟩ := bind_some h
    refine RS.o (H' := H) (some 29) (Value.int .u8 x4) (Abs.run_byt (t := 9) (x := .tmp 27) (y := .tmp 28) (s := a0) (k := .i64) (i := v24_3) (by kernel_rfl) (by kernel_rfl) (by kernel_rfl) (by kernel_rfl) hx) ?_
    refine RS.mS 2 [(31, .val (Value.bool (decide (x4 < 32)))), (30, .val (Value.bool (decide (x4 < 32))))] ?_
    rcases ite_some h with ⟨hp, h⟩ | ⟨hp, h⟩
    · refine RS.fx 31 true (decide_eq_true hp) ?_
      cases h
    · refine RS.fx 31 false (decide_eq_false hp) ?_
      refine RS.mS 2 [(33, .val (Value.int .i64 v24_3)), (32, .val (Value.string a0))] ?_
      obtain ⟨x5, hx, h⟩ := bind_some h
      refine RS.o (H' := H) (some 34) (Value.int .u8 x5) (Abs.run_byt (t := 9) (x := .tmp 32) (y := .tmp 33) (s := a0) (k := .i64) (i := v24_3) (by kernel_rfl) (by kernel_rfl) (by kernel_rfl) (by kernel_rfl) hx) ?_
      refine RS.mS 3 [(37, .val (Value.bool (decide (x5 > 126)))), (36, .val (Value.bool (decide (x5 > 126)))), (35, .val (Value.bool (decide (x5 > 126))))] ?_
      rcases ite_some h with ⟨hp, h⟩ | ⟨hp, h⟩
      · refine RS.fx 37 true (decide_eq_true hp) ?_
        cases h
      · refine RS.fx 37 false (decide_eq_false hp) ?_
        refine RS.mS 2 [(39, .val (Value.int .i64 v24_3)), (38, .val (Value.string a0))] ?_
        obtain ⟨x6, hx, h⟩ := bind_some h
        refine RS.o (H' := H) (some 40) (Value.int .u8 x6) (Abs.run_byt (t := 9) (x := .tmp 38) (y := .tmp 39) (s := a0) (k := .i64) (i := v24_3) (by kernel_rfl) (by kernel_rfl) (by kernel_rfl) (by kernel_rfl) hx) ?_
        refine RS.mS 3 [(43, .val (Value.bool (decide (x6 = 124)))), (42, .val (Value.bool (decide (x6 = 124)))), (41, .val (Value.bool (decide (x6 = 124))))] ?_
        rcases ite_some h with ⟨hp, h⟩ | ⟨hp, h⟩
        · refine RS.fx 43 true (decide_eq_true hp) ?_
          cases h
        · refine RS.fx 43 false (decide_eq_false hp) ?_
          refine RS.mS 2 [(45, .val (Value.int .i64 v24_3)), (44, .val (Value.string a0))] ?_
          obtain ⟨x7, hx, h⟩ := bind_some h
          refine RS.o (H' := H) (some 46) (Value.int .u8 x7) (Abs.run_byt (t := 9) (x := .tmp 44) (y := .tmp 45) (s := a0) (k := .i64) (i := v24_3) (by kernel_rfl) (by kernel_rfl) (by kernel_rfl) (by kernel_rfl) hx) ?_
          refine RS.mS 2 [(48, .val (Value.bool (decide (x7 = 92)))), (47, .val (Value.bool (decide (x7 = 92))))] ?_
          refine RS.dn ?_
          refine WS.nxt ?_
          rcases ite_some h with ⟨hp, h⟩ | ⟨hp, h⟩
          · refine WS.fx 48 true (decide_eq_true hp) ?_
            refine WS.cT ?_
            cases h
          · refine WS.fx 48 false (decide_eq_false hp) ?_
            refine WS.cF ?_
            refine WS.sk ?_
            refine fun a w hs => bkN ((WS.nxt ?_ a w hs))
            refine WS.rg ?_
            refine RS.mS 2 [(24, .val (Value.int .i64 (IntKind.i64.wrap (v24_3 + 1)))), (49, .val (Value.int .i64 (IntKind.i64.wrap (v24_3 + 1))))] ?_
            refine RS.dn ?_
            cases h
            exact fun a w hs => lsN rfl (hs.sb 0)
  · refine WS.fx 25 false (decide_eq_false hp) ?_
    refine WS.cF ?_
    refine WS.ex 0 ?_
    cases h
    exact fun a w hs => sqE (lsB rfl (hs.sb 0))

theorem sort_Name_ok {L : LC} {m : Nat} {H : AH} {a0 : ByteArray} {r : Bool} (h : sort_Name L a0 = some r) :
    CallS Tryz.prog (NE.plain 92) m 73 #[(Value.string a0)] H (sort_Name_enc r) (sort_Name_hp H r) := by
  refine CallS.mk (args := [(Value.string a0)]) Tryz.func73 (B := B73) (by kernel_rfl) (fun E _ => ?_)
  unfold sort_Name at h
  refine WS.sq ?_
  refine WS.rg ?_
  refine RS.mS 1 [(2, .val (Value.bool false))] ?_
  refine RS.dn ?_
  refine WS.nxt ?_
  refine WS.sq ?_
  refine WS.sq ?_
  refine WS.rg ?_
  refine RS.mS 4 [(7, .val (Value.bool (decide ((a0.size : Int) < 1)))), (6, .val (Value.bool (decide ((a0.size : Int) < 1)))), (5, .val (Value.int .i64 (a0.size : Int))), (4, .val (Value.string a0))] ?_
  rcases ite_some h with ⟨hp, h⟩ | ⟨hp, h⟩
  · refine RS.fx 7 true (decide_eq_true hp) ?_
    cases h
  · refine RS.fx 7 false (decide_eq_false hp) ?_
    refine RS.mS 5 [(12, .val (Value.bool (decide ((a0.size : Int) > 200)))), (11, .val (Value.bool (decide ((a0.size : Int) > 200)))), (10, .val (Value.bool (decide ((a0.size : Int) > 200)))), (9, .val (Value.int .i64 (a0.size : Int))), (8, .val (Value.string a0))] ?_
    rcases ite_some h with ⟨hp, h⟩ | ⟨hp, h⟩
    · refine RS.fx 12 true (decide_eq_true hp) ?_
      cases h
    · refine RS.fx 12 false (decide_eq_false hp) ?_
      refine RS.mS 1 [(13, .val (Value.string a0))] ?_
      obtain ⟨x1, hx, h⟩ := bind_some h
      refine RS.o (H' := H) (some 14) (Value.int .u8 x1) (Abs.run_byt (t := 9) (x := .tmp 13) (y := .const (Value.int .i64 0)) (s := a0) (k := .i64) (i := 0) (by kernel_rfl) (by kernel_rfl) (by kernel_rfl) (by kernel_rfl) hx) ?_
      refine RS.mS 3 [(17, .val (Value.bool (decide (x1 = 64)))), (16, .val (Value.bool (decide (x1 = 64)))), (15, .val (Value.bool (decide (x1 = 64))))] ?_
      rcases ite_some h with ⟨hp, h⟩ | ⟨hp, h⟩
      · refine RS.fx 17 true (decide_eq_true hp) ?_
        cases h
      · refine RS.fx 17 false (decide_eq_false hp) ?_
        refine RS.mS 1 [(18, .val (Value.string a0))] ?_
        obtain ⟨x2, hx, h⟩ := bind_some h
        refine RS.o (H' := H) (some 19) (Value.int .u8 x2) (Abs.run_byt (t := 9) (x := .tmp 18) (y := .const (Value.int .i64 0)) (s := a0) (k := .i64) (i := 0) (by kernel_rfl) (by kernel_rfl) (by kernel_rfl) (by kernel_rfl) hx) ?_
        refine RS.mS 2 [(21, .val (Value.bool (decide (x2 = 46)))), (20, .val (Value.bool (decide (x2 = 46))))] ?_
        refine RS.dn ?_
        refine WS.nxt ?_
        rcases ite_some h with ⟨hp, h⟩ | ⟨hp, h⟩
        · refine WS.fx 21 true (decide_eq_true hp) ?_
          refine WS.cT ?_
          cases h
        · refine WS.fx 21 false (decide_eq_false hp) ?_
          refine WS.cF ?_
          refine WS.sk ?_
          refine WS.nxt ?_
          refine WS.sq ?_
          refine WS.sq ?_
          refine WS.rg ?_
          refine RS.mS 3 [(24, .val (Value.int .i64 0)), (23, .val (Value.int .i64 (a0.size : Int))), (22, .val (Value.string a0))] ?_
          refine RS.dn ?_
          refine WS.nxt ?_
          refine WS.bk 0 ?_
          obtain ⟨o, hl, h⟩ := bind_some h
          rcases o with v24_8 | r
          · try dsimp only at h
            refine WS.lI (sort_Name_b0_ok (L := L) (E := E) (m := m) (H := H)) (L.ok hl) 0 ?_
            clear hl
            refine fun a w hs => bkE ((WS.nxt ?_ a w hs))
            refine WS.sq ?_
            refine WS.rg ?_
            refine RS.mS 1 [(2, .val (Value.bool true))] ?_
            refine RS.dn ?_
            refine WS.nxt ?_
            refine WS.rt ?_
            cases h
            exact fun a w hs => rtR (rS hs)
          · try dsimp only at h
            refine WS.lR (sort_Name_b0_ok (L := L) (E := E) (m := m) (H := H)) (L.ok hl) 0 ?_
            cases h
            exact fun a w hq => bkR (sqR (rtR hq))

def sort_twice_enc : (Bool × AH) → Value
  | (r0, _) => (Value.bool r0)

def sort_twice_hp (_ : AH) : (Bool × AH) → AH := fun r => r.2

noncomputable def B74 : Code := (Tryz.f74.body).getD .skip

noncomputable def sort_twice_b0 (_L : LC) (m : Nat) (a0 : Sl3) (p1 : Nat) : (AH × Int) → Option (Lp (AH × Int) (Bool × AH)) := fun (H3, v9_4) =>
  if v9_4 < (a0.n : Int) then
    Option.bind (idxA 1 a0 v9_4) fun p5 =>
    Option.bind (rd deS H3 p5) fun x6 =>
    Option.bind (lk1 Tryz.prog 173 deB H3 (some p1) (Value.string x6)) fun x7 =>
    if x7 = true then
      none
    else
      Option.bind (upM Tryz.prog m 173 H3 (some p1) (Value.string x6) (Value.bool true)) fun H8 =>
      some (.next (H8, (IntKind.i64.wrap (v9_4 + 1))))
  else
    some (.brk (H3, v9_4))

def sort_twice_b0_kn (_L : LC) (_m : Nat) (a0 : Sl3) (p1 : Nat) : (AH × Int) → KN := fun (_, v9_4) => [(9, .val (Value.int .i64 v9_4)), (3, .val (Value.map (some p1))), (7, .val (Sl3.v a0)), (8, .val (Value.int .i64 (a0.n : Int)))]

def sort_twice_b0_ls (_L : LC) (_m : Nat) (_a0 : Sl3) (_p1 : Nat) : (AH × Int) → Lcs := fun (_, _) => []

noncomputable def sort_twice (L : LC) (m : Nat) (H : AH) (a0 : Sl3) : Option (Bool × AH) :=
  Option.bind (newM H) fun (p1, H2) =>
  Option.bind (L.run (sort_twice_b0 L m a0 p1) (H2, 0)) fun o => match o with
  | .inl (H9, _) =>
    some (false, H9)
  | .inr r => some r

theorem sort_twice_b0_ok {E : Ent} {H : AH} {L : LC} {m : Nat} {a0 : Sl3} {p1 : Nat}  : ∀ s o, sort_twice_b0 L m a0 p1 s = some o →
    WS Tryz.prog (NE.plain 92) m E Tryz.f74.ntmps (cfst (cfst (csnd (cfst (csnd (csnd B74)))))) (sort_twice_b0_kn L m a0 p1 s) (sort_twice_b0_ls L m a0 p1 s) ((fun s => s.1) s) (lpS Tryz.prog (NE.plain 92) m E Tryz.f74.ntmps (sort_twice_b0_kn L m a0 p1) (sort_twice_b0_ls L m a0 p1) (fun s => s.1) 0 (fun r => RT Tryz.prog (NE.plain 92) m E Tryz.f74 (sort_twice_enc r) (sort_twice_hp H r)) o) := by
  rintro ⟨H3, v9_4⟩ o h
  unfold sort_twice_b0 at h
  try dsimp only at h
  refine WS.sq ?_
  refine WS.rg ?_
  refine RS.mS 1 [(10, .val (Value.bool (decide (v9_4 < (a0.n : Int)))))] ?_
  refine RS.dn ?_
  refine WS.nxt ?_
  refine WS.sq ?_
  rcases ite_some h with ⟨hp, h⟩ | ⟨hp, h⟩
  · refine WS.fx 10 true (decide_eq_true hp) ?_
    refine WS.cT ?_
    refine WS.sk ?_
    refine WS.nxt ?_
    refine WS.sq ?_
    refine WS.bk 1 ?_
    refine WS.sq ?_
    refine WS.rg ?_
    obtain ⟨p5, hx, h⟩ := bind_some h
    refine RS.o (H' := H3) (some 11) (Value.pointer (some p5)) (Abs.run_idx (s := a0) (k := .i64) (t := 37) (e := 9) (x := .tmp 7) (y := .tmp 9) (by kernel_rfl) (by kernel_rfl) (by kernel_rfl) (by kernel_rfl) (by kernel_rfl) hx) ?_
    obtain ⟨x6, hx, h⟩ := bind_some h
    refine RS.o (H' := H3) (some 12) (Value.string x6) (Abs.run_load (t := 9) (x := .tmp 11) (a := p5) (by kernel_rfl) (by kernel_rfl) (by kernel_rfl) (rd_cell hx deS_inv)) ?_
    refine RS.mS 1 [(5, .val (Value.string x6))] ?_
    refine RS.dn ?_
    refine WS.nxt ?_
    refine WS.sq ?_
    refine WS.sq ?_
    refine WS.rg ?_
    refine RS.mS 2 [(14, .val (Value.string x6)), (13, .val (Value.map (some p1)))] ?_
    obtain ⟨x7, hx, h⟩ := bind_some h
    refine RS.o (H' := H3) (some 15) (Value.bool x7) (Abs.run_look (t := 173) (x := .tmp 13) (y := .tmp 14) (mm := (some p1)) (k := (Value.string x6)) (by kernel_rfl) (by kernel_rfl) (by kernel_rfl) (by kernel_rfl) (lk1_eq hx deB_inv)) ?_
    refine RS.dn ?_
    refine WS.nxt ?_
    rcases ite_some h with ⟨hp, h⟩ | ⟨hp, h⟩
    · refine WS.fx 15 true hp ?_
      refine WS.cT ?_
      cases h
    · refine WS.fx 15 false (b_not hp) ?_
      refine WS.cF ?_
      refine WS.sk ?_
      refine WS.nxt ?_
      refine WS.rg ?_
      refine RS.mS 2 [(17, .val (Value.string x6)), (16, .val (Value.map (some p1)))] ?_
      obtain ⟨H8, hx, h⟩ := bind_some h
      refine RS.o (H' := H8) none undef (Abs.run_upM (t := 173) (x := .tmp 16) (y := .tmp 17) (z := .const (Value.bool true)) (mm := (some p1)) (k := (Value.string x6)) (v := (Value.bool true)) (by kernel_rfl) (by kernel_rfl) (by kernel_rfl) (by kernel_rfl) (by kernel_rfl) hx) ?_
      refine RS.dn ?_
      refine fun a w hs => bkN ((WS.nxt ?_ a w hs))
      refine WS.rg ?_
      refine RS.mS 2 [(9, .val (Value.int .i64 (IntKind.i64.wrap (v9_4 + 1)))), (18, .val (Value.int .i64 (IntKind.i64.wrap (v9_4 + 1))))] ?_
      refine RS.dn ?_
      cases h
      exact fun a w hs => lsN rfl (hs.sb 0)
  · refine WS.fx 10 false (decide_eq_false hp) ?_
    refine WS.cF ?_
    refine WS.ex 0 ?_
    cases h
    exact fun a w hs => sqE (lsB rfl (hs.sb 0))

theorem sort_twice_ok {L : LC} {m : Nat} {H : AH} {a0 : Sl3} {r : (Bool × AH)} (h : sort_twice L m H a0 = some r) :
    CallS Tryz.prog (NE.plain 92) m 74 #[(Sl3.v a0)] H (sort_twice_enc r) (sort_twice_hp H r) := by
  refine CallS.mk (args := [(Sl3.v a0)]) Tryz.func74 (B := B74) (by kernel_rfl) (fun E _ => ?_)
  unfold sort_twice at h
  refine WS.sq ?_
  refine WS.rg ?_
  refine RS.mS 1 [(2, .val (Value.bool false))] ?_
  refine RS.dn ?_
  refine WS.nxt ?_
  refine WS.sq ?_
  refine WS.rg ?_
  obtain ⟨⟨p1, H2⟩, hx, h⟩ := bind_some h
  try dsimp only at h
  refine RS.o (H' := H2) (some 6) (Value.map (some p1)) (Abs.run_newM (by kernel_rfl) hx) ?_
  refine RS.mS 1 [(3, .val (Value.map (some p1)))] ?_
  refine RS.dn ?_
  refine WS.nxt ?_
  refine WS.sq ?_
  refine WS.sq ?_
  refine WS.rg ?_
  refine RS.mS 3 [(9, .val (Value.int .i64 0)), (8, .val (Value.int .i64 (a0.n : Int))), (7, .val (Sl3.v a0))] ?_
  refine RS.dn ?_
  refine WS.nxt ?_
  refine WS.bk 0 ?_
  obtain ⟨o, hl, h⟩ := bind_some h
  rcases o with ⟨H9, v9_10⟩ | r
  · try dsimp only at h
    refine WS.lI (sort_twice_b0_ok (L := L) (E := E) (m := m) (H := H)) (L.ok hl) 0 ?_
    clear hl
    refine fun a w hs => bkE ((WS.nxt ?_ a w hs))
    refine WS.sq ?_
    refine WS.rg ?_
    refine RS.mS 1 [(2, .val (Value.bool false))] ?_
    refine RS.dn ?_
    refine WS.nxt ?_
    refine WS.rt ?_
    cases h
    exact fun a w hs => rtR (rS hs)
  · try dsimp only at h
    refine WS.lR (sort_twice_b0_ok (L := L) (E := E) (m := m) (H := H)) (L.ok hl) 0 ?_
    cases h
    exact fun a w hq => bkR (sqR (rtR hq))

def sort_open_enc : ((Option Addr) × AH) → Value
  | (r0, _) => (Value.pointer r0)

def sort_open_hp (_ : AH) : ((Option Addr) × AH) → AH := fun r => r.2

noncomputable def B75 : Code := (Tryz.f75.body).getD .skip

noncomputable def sort_open_b0 (_L : LC) (a0_0 : Sl3) (_a0_1 : Sl3) (_a0_2 : Sl3) (_p3 : Addr) : (AH × Int) → Option (Lp (AH × Int) ((Option Addr) × AH)) := fun (H5, v17_6) =>
  if v17_6 < (a0_0.n : Int) then
    none
  else
    some (.brk (H5, v17_6))

def sort_open_b0_kn (_L : LC) (a0_0 : Sl3) (_a0_1 : Sl3) (_a0_2 : Sl3) (p3 : Addr) : (AH × Int) → KN := fun (_, v17_6) => [(17, .val (Value.int .i64 v17_6)), (1, .loc 0 0), (3, .val (Value.pointer (some p3))), (15, .val (Sl3.v a0_0)), (16, .val (Value.int .i64 (a0_0.n : Int)))]

def sort_open_b0_ls (_L : LC) (a0_0 : Sl3) (a0_1 : Sl3) (a0_2 : Sl3) (_p3 : Addr) : (AH × Int) → Lcs := fun (_, _) => [some (41, [(Sl3.v a0_0), (Sl3.v a0_1), (Sl3.v a0_2)])]

noncomputable def sort_open_b1 (_L : LC) (_a0_0 : Sl3) (a0_1 : Sl3) (_a0_2 : Sl3) (_p3 : Addr) : (AH × Int) → Option (Lp (AH × Int) ((Option Addr) × AH)) := fun (H9, v31_10) =>
  if v31_10 < (a0_1.n : Int) then
    none
  else
    some (.brk (H9, v31_10))

def sort_open_b1_kn (_L : LC) (_a0_0 : Sl3) (a0_1 : Sl3) (_a0_2 : Sl3) (p3 : Addr) : (AH × Int) → KN := fun (_, v31_10) => [(31, .val (Value.int .i64 v31_10)), (3, .val (Value.pointer (some p3))), (29, .val (Sl3.v a0_1)), (30, .val (Value.int .i64 (a0_1.n : Int)))]

def sort_open_b1_ls (_L : LC) (a0_0 : Sl3) (a0_1 : Sl3) (a0_2 : Sl3) (_p3 : Addr) : (AH × Int) → Lcs := fun (_, _) => [some (41, [(Sl3.v a0_0), (Sl3.v a0_1), (Sl3.v a0_2)])]

noncomputable def sort_open (L : LC) (_m : Nat) (H : AH) (a0_0 : Sl3) (a0_1 : Sl3) (a0_2 : Sl3) : Option ((Option Addr) × AH) :=
  Option.bind (newM H) fun (p1, H2) =>
  Option.bind (newB 176 [(Sl3.v a0_0), (Sl3.v a0_1), (Sl3.v a0_2), (Value.map (some p1))] H2) fun (p3, H4) =>
  Option.bind (L.run (sort_open_b0 L a0_0 a0_1 a0_2 p3) (H4, 0)) fun o => match o with
  | .inl (H7, _) =>
    Option.bind (L.run (sort_open_b1 L a0_0 a0_1 a0_2 p3) (H7, 0)) fun o => match o with
    | .inl (H11, _) =>
      some ((some p3), H11)
    | .inr r => some r
  | .inr r => some r

theorem sort_open_b0_ok {E : Ent} {m : Nat} {H : AH} {L : LC} {a0_0 : Sl3} {a0_1 : Sl3} {a0_2 : Sl3} {p3 : Addr}  : ∀ s o, sort_open_b0 L a0_0 a0_1 a0_2 p3 s = some o →
    WS Tryz.prog (NE.plain 92) m E Tryz.f75.ntmps (cfst (cfst (csnd (cfst (csnd (csnd B75)))))) (sort_open_b0_kn L a0_0 a0_1 a0_2 p3 s) (sort_open_b0_ls L a0_0 a0_1 a0_2 p3 s) ((fun s => s.1) s) (lpS Tryz.prog (NE.plain 92) m E Tryz.f75.ntmps (sort_open_b0_kn L a0_0 a0_1 a0_2 p3) (sort_open_b0_ls L a0_0 a0_1 a0_2 p3) (fun s => s.1) 0 (fun r => RT Tryz.prog (NE.plain 92) m E Tryz.f75 (sort_open_enc r) (sort_open_hp H r)) o) := by
  rintro ⟨H5, v17_6⟩ o h
  unfold sort_open_b0 at h
  try dsimp only at h
  refine WS.sq ?_
  refine WS.rg ?_
  refine RS.mS 1 [(18, .val (Value.bool (decide (v17_6 < (a0_0.n : Int)))))] ?_
  refine RS.dn ?_
  refine WS.nxt ?_
  refine WS.sq ?_
  rcases ite_some h with ⟨hp, h⟩ | ⟨hp, h⟩
  · refine WS.fx 18 true (decide_eq_true hp) ?_
    refine WS.cT ?_
    cases h
  · refine WS.fx 18 false (decide_eq_false hp) ?_
    refine WS.cF ?_
    refine WS.ex 0 ?_
    cases h
    exact fun a w hs => sqE (lsB rfl (hs.sb 1))

theorem sort_open_b1_ok {E : Ent} {m : Nat} {H : AH} {L : LC} {a0_0 : Sl3} {a0_1 : Sl3} {a0_2 : Sl3} {p3 : Addr}  : ∀ s o, sort_open_b1 L a0_0 a0_1 a0_2 p3 s = some o →
    WS Tryz.prog (NE.plain 92) m E Tryz.f75.ntmps (cfst (cfst (csnd (cfst (csnd (csnd (csnd B75))))))) (sort_open_b1_kn L a0_0 a0_1 a0_2 p3 s) (sort_open_b1_ls L a0_0 a0_1 a0_2 p3 s) ((fun s => s.1) s) (lpS Tryz.prog (NE.plain 92) m E Tryz.f75.ntmps (sort_open_b1_kn L a0_0 a0_1 a0_2 p3) (sort_open_b1_ls L a0_0 a0_1 a0_2 p3) (fun s => s.1) 2 (fun r => RT Tryz.prog (NE.plain 92) m E Tryz.f75 (sort_open_enc r) (sort_open_hp H r)) o) := by
  rintro ⟨H9, v31_10⟩ o h
  unfold sort_open_b1 at h
  try dsimp only at h
  refine WS.sq ?_
  refine WS.rg ?_
  refine RS.mS 1 [(32, .val (Value.bool (decide (v31_10 < (a0_1.n : Int)))))] ?_
  refine RS.dn ?_
  refine WS.nxt ?_
  refine WS.sq ?_
  rcases ite_some h with ⟨hp, h⟩ | ⟨hp, h⟩
  · refine WS.fx 32 true (decide_eq_true hp) ?_
    refine WS.cT ?_
    cases h
  · refine WS.fx 32 false (decide_eq_false hp) ?_
    refine WS.cF ?_
    refine WS.ex 2 ?_
    cases h
    exact fun a w hs => sqE (lsB rfl (hs.sb 1))

theorem sort_open_ok {L : LC} {m : Nat} {H : AH} {a0_0 : Sl3} {a0_1 : Sl3} {a0_2 : Sl3} {r : ((Option Addr) × AH)} (h : sort_open L m H a0_0 a0_1 a0_2 = some r) :
    CallS Tryz.prog (NE.plain 92) m 75 #[(Value.agg #[(Sl3.v a0_0), (Sl3.v a0_1), (Sl3.v a0_2)])] H (sort_open_enc r) (sort_open_hp H r) := by
  refine CallS.mk (args := [(Value.agg #[(Sl3.v a0_0), (Sl3.v a0_1), (Sl3.v a0_2)])]) Tryz.func75 (B := B75) (by kernel_rfl) (fun E _ => ?_)
  unfold sort_open at h
  refine WS.sq ?_
  refine WS.rg ?_
  refine RS.mL 2 [(2, .val (Value.pointer none)), (1, .loc 0 0)] ([some (41, [(Sl3.v a0_0), (Sl3.v a0_1), (Sl3.v a0_2)])]) ?_
  refine RS.dn ?_
  refine WS.nxt ?_
  refine WS.sq ?_
  refine WS.rg ?_
  refine RS.mS 1 [(10, .val (Value.agg #[(Sl3.v a0_0), (Sl3.v a0_1), (Sl3.v a0_2)]))] ?_
  obtain ⟨⟨p1, H2⟩, hx, h⟩ := bind_some h
  try dsimp only at h
  refine RS.o (H' := H2) (some 11) (Value.map (some p1)) (Abs.run_newM (by kernel_rfl) hx) ?_
  refine RS.mS 1 [(12, .val (Value.agg #[(Sl3.v a0_0), (Sl3.v a0_1), (Sl3.v a0_2), (Value.map (some p1))]))] ?_
  obtain ⟨⟨p3, H4⟩, hx, h⟩ := bind_some h
  try dsimp only at h
  refine RS.o (H' := H4) (some 13) (Value.pointer (some p3)) (Abs.run_newB (by kernel_rfl) hx) ?_
  refine RS.mS 1 [(3, .val (Value.pointer (some p3)))] ?_
  refine RS.dn ?_
  refine WS.nxt ?_
  refine WS.sq ?_
  refine WS.sq ?_
  refine WS.rg ?_
  refine RS.mS 4 [(17, .val (Value.int .i64 0)), (16, .val (Value.int .i64 (a0_0.n : Int))), (15, .val (Sl3.v a0_0)), (14, .loc 0 0)] ?_
  refine RS.dn ?_
  refine WS.nxt ?_
  refine WS.bk 0 ?_
  obtain ⟨o, hl, h⟩ := bind_some h
  rcases o with ⟨H7, v17_8⟩ | r
  · try dsimp only at h
    refine WS.lI (sort_open_b0_ok (L := L) (E := E) (m := m) (H := H)) (L.ok hl) 1 ?_
    clear hl
    refine fun a w hs => bkE ((WS.nxt ?_ a w hs))
    refine WS.sq ?_
    refine WS.sq ?_
    refine WS.rg ?_
    refine RS.mS 4 [(31, .val (Value.int .i64 0)), (30, .val (Value.int .i64 (a0_1.n : Int))), (29, .val (Sl3.v a0_1)), (28, .loc 0 1)] ?_
    refine RS.dn ?_
    refine WS.nxt ?_
    refine WS.bk 2 ?_
    obtain ⟨o, hl, h⟩ := bind_some h
    rcases o with ⟨H11, v31_12⟩ | r
    · try dsimp only at h
      refine WS.lI (sort_open_b1_ok (L := L) (E := E) (m := m) (H := H)) (L.ok hl) 1 ?_
      clear hl
      refine fun a w hs => bkE ((WS.nxt ?_ a w hs))
      refine WS.sq ?_
      refine WS.rg ?_
      refine RS.mS 2 [(2, .val (Value.pointer (some p3))), (58, .val (Value.pointer (some p3)))] ?_
      refine RS.dn ?_
      refine WS.nxt ?_
      refine WS.rt ?_
      cases h
      exact fun a w hs => rtR (rS hs)
    · try dsimp only at h
      refine WS.lR (sort_open_b1_ok (L := L) (E := E) (m := m) (H := H)) (L.ok hl) 1 ?_
      cases h
      exact fun a w hq => bkR (sqR (rtR hq))
  · try dsimp only at h
    refine WS.lR (sort_open_b0_ok (L := L) (E := E) (m := m) (H := H)) (L.ok hl) 1 ?_
    cases h
    exact fun a w hq => bkR (sqR (rtR hq))

def sort_book_known_enc : Bool → Value
  | r0 => (Value.bool r0)

def sort_book_known_hp (H : AH) : Bool → AH := fun _ => H

noncomputable def B140 : Code := (Tryz.f140.body).getD .skip

noncomputable def sort_book_known_b0 (_L : LC) (_H : AH) (_a0 : Option Addr) (_a1_0 : Int) (_a1_1 : Int) (_a1_2 : ByteArray) (a1_3 : Sl3) : Int → Option (Lp Int Bool) := fun v34_1 =>
  if v34_1 < (a1_3.n : Int) then
    none
  else
    some (.brk v34_1)

def sort_book_known_b0_kn (_L : LC) (_H : AH) (a0 : Option Addr) (_a1_0 : Int) (_a1_1 : Int) (_a1_2 : ByteArray) (a1_3 : Sl3) : Int → KN := fun v34_1 => [(34, .val (Value.int .i64 v34_1)), (0, .val (Value.pointer a0)), (32, .val (Sl3.v a1_3)), (33, .val (Value.int .i64 (a1_3.n : Int)))]

def sort_book_known_b0_ls (_L : LC) (_H : AH) (_a0 : Option Addr) (a1_0 : Int) (a1_1 : Int) (a1_2 : ByteArray) (a1_3 : Sl3) : Int → Lcs := fun _ => [some (32, [(Value.int .i64 a1_0), (Value.int .i64 a1_1), (Value.string a1_2), (Sl3.v a1_3)])]

noncomputable def sort_book_known_body (L : LC) (H : AH) (a0 : Option Addr) (a1_0 : Int) (a1_1 : Int) (a1_2 : ByteArray) (a1_3 : Sl3) : Option Bool :=
  if a1_0 = 5 then
    none
  else
    if a1_0 = 6 then
      none
    else
      Option.bind (L.run (sort_book_known_b0 L H a0 a1_0 a1_1 a1_2 a1_3) 0) fun o => match o with
      | .inl _ =>
        some true
      | .inr r => some r

noncomputable def fam_sort_book_known (L : LC) (n : Nat) : (AH → (Option Addr) → Int → Int → ByteArray → Sl3 → Option Bool) := Nat.rec (motive := fun _ => (AH → (Option Addr) → Int → Int → ByteArray → Sl3 → Option Bool)) (fun _ _ _ _ _ _ => none) (fun _ _ => sort_book_known_body L) n

noncomputable def sort_book_known (L : LC) (H : AH) (a0 : Option Addr) (a1_0 : Int) (a1_1 : Int) (a1_2 : ByteArray) (a1_3 : Sl3) : Option Bool := (fam_sort_book_known L L.fuel) H a0 a1_0 a1_1 a1_2 a1_3

theorem sort_book_known_b0_ok {E : Ent} {m : Nat} {L : LC} {H : AH} {a0 : Option Addr} {a1_0 : Int} {a1_1 : Int} {a1_2 : ByteArray} {a1_3 : Sl3}  : ∀ s o, sort_book_known_b0 L H a0 a1_0 a1_1 a1_2 a1_3 s = some o →
    WS Tryz.prog (NE.plain 92) m E Tryz.f140.ntmps (cfst (cfst (csnd (cfst (csnd (csnd B140)))))) (sort_book_known_b0_kn L H a0 a1_0 a1_1 a1_2 a1_3 s) (sort_book_known_b0_ls L H a0 a1_0 a1_1 a1_2 a1_3 s) ((fun _ => H) s) (lpS Tryz.prog (NE.plain 92) m E Tryz.f140.ntmps (sort_book_known_b0_kn L H a0 a1_0 a1_1 a1_2 a1_3) (sort_book_known_b0_ls L H a0 a1_0 a1_1 a1_2 a1_3) (fun _ => H) 0 (fun r => RT Tryz.prog (NE.plain 92) m E Tryz.f140 (sort_book_known_enc r) (sort_book_known_hp H r)) o) := by
  rintro v34_1 o h
  unfold sort_book_known_b0 at h
  try dsimp only at h
  refine WS.sq ?_
  refine WS.rg ?_
  refine RS.mS 1 [(35, .val (Value.bool (decide (v34_1 < (a1_3.n : Int)))))] ?_
  refine RS.dn ?_
  refine WS.nxt ?_
  refine WS.sq ?_
  rcases ite_some h with ⟨hp, h⟩ | ⟨hp, h⟩
  · refine WS.fx 35 true (decide_eq_true hp) ?_
    refine WS.cT ?_
    cases h
  · refine WS.fx 35 false (decide_eq_false hp) ?_
    refine WS.cF ?_
    refine WS.ex 0 ?_
    cases h
    exact fun a w hs => sqE (lsB rfl (hs.sb 1))

theorem sort_book_known_body_ok {L : LC} {m : Nat} {H : AH} {a0 : Option Addr} {a1_0 : Int} {a1_1 : Int} {a1_2 : ByteArray} {a1_3 : Sl3} {r : Bool} (h : sort_book_known_body L H a0 a1_0 a1_1 a1_2 a1_3 = some r) :
    CallS Tryz.prog (NE.plain 92) m 140 #[(Value.pointer a0), (Value.agg #[(Value.int .i64 a1_0), (Value.int .i64 a1_1), (Value.string a1_2), (Sl3.v a1_3)])] H (sort_book_known_enc r) (sort_book_known_hp H r) := by
  refine CallS.mk (args := [(Value.pointer a0), (Value.agg #[(Value.int .i64 a1_0), (Value.int .i64 a1_1), (Value.string a1_2), (Sl3.v a1_3)])]) Tryz.func140 (B := B140) (by kernel_rfl) (fun E _ => ?_)
  unfold sort_book_known_body at h
  refine WS.sq ?_
  refine WS.rg ?_
  refine RS.mL 2 [(4, .val (Value.bool false)), (3, .loc 0 0)] ([some (32, [(Value.int .i64 a1_0), (Value.int .i64 a1_1), (Value.string a1_2), (Sl3.v a1_3)])]) ?_
  refine RS.dn ?_
  refine WS.nxt ?_
  refine WS.sq ?_
  refine WS.sq ?_
  refine WS.rg ?_
  refine RS.mS 4 [(12, .val (Value.bool (decide (a1_0 = 5)))), (11, .val (Value.bool (decide (a1_0 = 5)))), (10, .val (Value.int .i64 a1_0)), (9, .loc 0 0)] ?_
  rcases ite_some h with ⟨hp, h⟩ | ⟨hp, h⟩
  · refine RS.fx 12 true (decide_eq_true hp) ?_
    cases h
  · refine RS.fx 12 false (decide_eq_false hp) ?_
    refine RS.mS 4 [(16, .val (Value.bool (decide (a1_0 = 6)))), (15, .val (Value.bool (decide (a1_0 = 6)))), (14, .val (Value.int .i64 a1_0)), (13, .loc 0 0)] ?_
    refine RS.dn ?_
    refine WS.nxt ?_
    rcases ite_some h with ⟨hp, h⟩ | ⟨hp, h⟩
    · refine WS.fx 16 true (decide_eq_true hp) ?_
      refine WS.cT ?_
      cases h
    · refine WS.fx 16 false (decide_eq_false hp) ?_
      refine WS.cF ?_
      refine WS.sk ?_
      refine WS.nxt ?_
      refine WS.sq ?_
      refine WS.sq ?_
      refine WS.rg ?_
      refine RS.mS 4 [(34, .val (Value.int .i64 0)), (33, .val (Value.int .i64 (a1_3.n : Int))), (32, .val (Sl3.v a1_3)), (31, .loc 0 3)] ?_
      refine RS.dn ?_
      refine WS.nxt ?_
      refine WS.bk 0 ?_
      obtain ⟨o, hl, h⟩ := bind_some h
      rcases o with v34_2 | r
      · try dsimp only at h
        refine WS.lI (sort_book_known_b0_ok (L := L) (E := E) (m := m) (H := H)) (L.ok hl) 1 ?_
        clear hl
        refine fun a w hs => bkE ((WS.nxt ?_ a w hs))
        refine WS.sq ?_
        refine WS.rg ?_
        refine RS.mS 1 [(4, .val (Value.bool true))] ?_
        refine RS.dn ?_
        refine WS.nxt ?_
        refine WS.rt ?_
        cases h
        exact fun a w hs => rtR (rS hs)
      · try dsimp only at h
        refine WS.lR (sort_book_known_b0_ok (L := L) (E := E) (m := m) (H := H)) (L.ok hl) 1 ?_
        cases h
        exact fun a w hq => bkR (sqR (rtR hq))

theorem fam_sort_book_known_ok {L : LC} : ∀ n, (∀ (m : Nat) (H : AH) (a0 : Option Addr) (a1_0 : Int) (a1_1 : Int) (a1_2 : ByteArray) (a1_3 : Sl3) (r : Bool), ((fam_sort_book_known L n)) H a0 a1_0 a1_1 a1_2 a1_3 = some r → CallS Tryz.prog (NE.plain 92) m 140 #[(Value.pointer a0), (Value.agg #[(Value.int .i64 a1_0), (Value.int .i64 a1_1), (Value.string a1_2), (Sl3.v a1_3)])] H (sort_book_known_enc r) (sort_book_known_hp H r)) := by
  intro n
  induction n with
  | zero => exact (fun _ _ _ _ _ _ _ _ h => (Option.some_ne_none _ h.symm).elim)
  | succ n ih => exact (fun _ _ _ _ _ _ _ _ h => sort_book_known_body_ok (L := L)  h)

theorem sort_book_known_ok {L : LC} {m : Nat} {H : AH} {a0 : Option Addr} {a1_0 : Int} {a1_1 : Int} {a1_2 : ByteArray} {a1_3 : Sl3} {r : Bool} (h : sort_book_known L H a0 a1_0 a1_1 a1_2 a1_3 = some r) :
    CallS Tryz.prog (NE.plain 92) m 140 #[(Value.pointer a0), (Value.agg #[(Value.int .i64 a1_0), (Value.int .i64 a1_1), (Value.string a1_2), (Sl3.v a1_3)])] H (sort_book_known_enc r) (sort_book_known_hp H r) :=
  (fam_sort_book_known_ok _) _ _ _ _ _ _ _ _ h

def sort_parts_enc : (Int × Bool) → Value
  | (r0, r1) => (Value.tuple #[(Value.int .i64 r0), (Value.bool r1)])

def sort_parts_hp (H : AH) : (Int × Bool) → AH := fun _ => H

noncomputable def B98 : Code := (Tryz.f98.body).getD .skip

noncomputable def sort_parts_b0 (_L : LC) (_H : AH) (_a0_0 : Int) (_a0_1 : Int) (_a0_2 : ByteArray) (a0_3 : Sl3) (_a1 : Int) : (Int × Int) → Option (Lp (Int × Int) (Int × Bool)) := fun (v6_1, v16_2) =>
  if v16_2 < (a0_3.n : Int) then
    none
  else
    some (.brk (v6_1, v16_2))

def sort_parts_b0_kn (_L : LC) (_H : AH) (_a0_0 : Int) (_a0_1 : Int) (_a0_2 : ByteArray) (a0_3 : Sl3) (a1 : Int) : (Int × Int) → KN := fun (v6_1, v16_2) => [(6, .val (Value.int .i64 v6_1)), (16, .val (Value.int .i64 v16_2)), (1, .val (Value.int .i64 a1)), (14, .val (Sl3.v a0_3)), (15, .val (Value.int .i64 (a0_3.n : Int)))]

def sort_parts_b0_ls (_L : LC) (_H : AH) (a0_0 : Int) (a0_1 : Int) (a0_2 : ByteArray) (a0_3 : Sl3) (_a1 : Int) : (Int × Int) → Lcs := fun (_, _) => [some (32, [(Value.int .i64 a0_0), (Value.int .i64 a0_1), (Value.string a0_2), (Sl3.v a0_3)])]

noncomputable def sort_parts_body (L : LC) (H : AH) (a0_0 : Int) (a0_1 : Int) (a0_2 : ByteArray) (a0_3 : Sl3) (a1 : Int) : Option (Int × Bool) :=
  if a1 > 16 then
    none
  else
    Option.bind (L.run (sort_parts_b0 L H a0_0 a0_1 a0_2 a0_3 a1) (1, 0)) fun o => match o with
    | .inl (v6_3, _) =>
      some (v6_3, true)
    | .inr r => some r

noncomputable def fam_sort_parts (L : LC) (n : Nat) : (AH → Int → Int → ByteArray → Sl3 → Int → Option (Int × Bool)) := Nat.rec (motive := fun _ => (AH → Int → Int → ByteArray → Sl3 → Int → Option (Int × Bool))) (fun _ _ _ _ _ _ => none) (fun _ _ => sort_parts_body L) n

noncomputable def sort_parts (L : LC) (H : AH) (a0_0 : Int) (a0_1 : Int) (a0_2 : ByteArray) (a0_3 : Sl3) (a1 : Int) : Option (Int × Bool) := (fam_sort_parts L L.fuel) H a0_0 a0_1 a0_2 a0_3 a1

theorem sort_parts_b0_ok {E : Ent} {m : Nat} {L : LC} {H : AH} {a0_0 : Int} {a0_1 : Int} {a0_2 : ByteArray} {a0_3 : Sl3} {a1 : Int}  : ∀ s o, sort_parts_b0 L H a0_0 a0_1 a0_2 a0_3 a1 s = some o →
    WS Tryz.prog (NE.plain 92) m E Tryz.f98.ntmps (cfst (cfst (csnd (cfst (csnd (csnd (csnd B98))))))) (sort_parts_b0_kn L H a0_0 a0_1 a0_2 a0_3 a1 s) (sort_parts_b0_ls L H a0_0 a0_1 a0_2 a0_3 a1 s) ((fun _ => H) s) (lpS Tryz.prog (NE.plain 92) m E Tryz.f98.ntmps (sort_parts_b0_kn L H a0_0 a0_1 a0_2 a0_3 a1) (sort_parts_b0_ls L H a0_0 a0_1 a0_2 a0_3 a1) (fun _ => H) 0 (fun r => RT Tryz.prog (NE.plain 92) m E Tryz.f98 (sort_parts_enc r) (sort_parts_hp H r)) o) := by
  rintro ⟨v6_1, v16_2⟩ o h
  unfold sort_parts_b0 at h
  try dsimp only at h
  refine WS.sq ?_
  refine WS.rg ?_
  refine RS.mS 1 [(17, .val (Value.bool (decide (v16_2 < (a0_3.n : Int)))))] ?_
  refine RS.dn ?_
  refine WS.nxt ?_
  refine WS.sq ?_
  rcases ite_some h with ⟨hp, h⟩ | ⟨hp, h⟩
  · refine WS.fx 17 true (decide_eq_true hp) ?_
    refine WS.cT ?_
    cases h
  · refine WS.fx 17 false (decide_eq_false hp) ?_
    refine WS.cF ?_
    refine WS.ex 0 ?_
    cases h
    exact fun a w hs => sqE (lsB rfl (hs.sb 1))

theorem sort_parts_body_ok {L : LC} {m : Nat} {H : AH} {a0_0 : Int} {a0_1 : Int} {a0_2 : ByteArray} {a0_3 : Sl3} {a1 : Int} {r : (Int × Bool)} (h : sort_parts_body L H a0_0 a0_1 a0_2 a0_3 a1 = some r) :
    CallS Tryz.prog (NE.plain 92) m 98 #[(Value.agg #[(Value.int .i64 a0_0), (Value.int .i64 a0_1), (Value.string a0_2), (Sl3.v a0_3)]), (Value.int .i64 a1)] H (sort_parts_enc r) (sort_parts_hp H r) := by
  refine CallS.mk (args := [(Value.agg #[(Value.int .i64 a0_0), (Value.int .i64 a0_1), (Value.string a0_2), (Sl3.v a0_3)]), (Value.int .i64 a1)]) Tryz.func98 (B := B98) (by kernel_rfl) (fun E _ => ?_)
  unfold sort_parts_body at h
  refine WS.sq ?_
  refine WS.rg ?_
  refine RS.mL 3 [(5, .val (Value.bool false)), (4, .val (Value.int .i64 0)), (2, .loc 0 0)] ([some (32, [(Value.int .i64 a0_0), (Value.int .i64 a0_1), (Value.string a0_2), (Sl3.v a0_3)])]) ?_
  refine RS.dn ?_
  refine WS.nxt ?_
  refine WS.sq ?_
  refine WS.sq ?_
  refine WS.rg ?_
  refine RS.mS 2 [(12, .val (Value.bool (decide (a1 > 16)))), (11, .val (Value.int .i64 a1))] ?_
  refine RS.dn ?_
  refine WS.nxt ?_
  rcases ite_some h with ⟨hp, h⟩ | ⟨hp, h⟩
  · refine WS.fx 12 true (decide_eq_true hp) ?_
    refine WS.cT ?_
    cases h
  · refine WS.fx 12 false (decide_eq_false hp) ?_
    refine WS.cF ?_
    refine WS.sk ?_
    refine WS.nxt ?_
    refine WS.sq ?_
    refine WS.rg ?_
    refine RS.mS 1 [(6, .val (Value.int .i64 1))] ?_
    refine RS.dn ?_
    refine WS.nxt ?_
    refine WS.sq ?_
    refine WS.sq ?_
    refine WS.rg ?_
    refine RS.mS 4 [(16, .val (Value.int .i64 0)), (15, .val (Value.int .i64 (a0_3.n : Int))), (14, .val (Sl3.v a0_3)), (13, .loc 0 3)] ?_
    refine RS.dn ?_
    refine WS.nxt ?_
    refine WS.bk 0 ?_
    obtain ⟨o, hl, h⟩ := bind_some h
    rcases o with ⟨v6_3, v16_4⟩ | r
    · try dsimp only at h
      refine WS.lI (sort_parts_b0_ok (L := L) (E := E) (m := m) (H := H)) (L.ok hl) 1 ?_
      clear hl
      refine fun a w hs => bkE ((WS.nxt ?_ a w hs))
      refine WS.sq ?_
      refine WS.rg ?_
      refine RS.mS 3 [(5, .val (Value.bool true)), (4, .val (Value.int .i64 v6_3)), (38, .val (Value.int .i64 v6_3))] ?_
      refine RS.dn ?_
      refine WS.nxt ?_
      refine WS.rt ?_
      cases h
      exact fun a w hs => rtR (rS hs)
    · try dsimp only at h
      refine WS.lR (sort_parts_b0_ok (L := L) (E := E) (m := m) (H := H)) (L.ok hl) 1 ?_
      cases h
      exact fun a w hq => bkR (sqR (rtR hq))

theorem fam_sort_parts_ok {L : LC} : ∀ n, (∀ (m : Nat) (H : AH) (a0_0 : Int) (a0_1 : Int) (a0_2 : ByteArray) (a0_3 : Sl3) (a1 : Int) (r : (Int × Bool)), ((fam_sort_parts L n)) H a0_0 a0_1 a0_2 a0_3 a1 = some r → CallS Tryz.prog (NE.plain 92) m 98 #[(Value.agg #[(Value.int .i64 a0_0), (Value.int .i64 a0_1), (Value.string a0_2), (Sl3.v a0_3)]), (Value.int .i64 a1)] H (sort_parts_enc r) (sort_parts_hp H r)) := by
  intro n
  induction n with
  | zero => exact (fun _ _ _ _ _ _ _ _ h => (Option.some_ne_none _ h.symm).elim)
  | succ n ih => exact (fun _ _ _ _ _ _ _ _ h => sort_parts_body_ok (L := L)  h)

theorem sort_parts_ok {L : LC} {m : Nat} {H : AH} {a0_0 : Int} {a0_1 : Int} {a0_2 : ByteArray} {a0_3 : Sl3} {a1 : Int} {r : (Int × Bool)} (h : sort_parts L H a0_0 a0_1 a0_2 a0_3 a1 = some r) :
    CallS Tryz.prog (NE.plain 92) m 98 #[(Value.agg #[(Value.int .i64 a0_0), (Value.int .i64 a0_1), (Value.string a0_2), (Sl3.v a0_3)]), (Value.int .i64 a1)] H (sort_parts_enc r) (sort_parts_hp H r) :=
  (fam_sort_parts_ok _) _ _ _ _ _ _ _ _ h

end Go.Proofs.YtgkogeglciogkaaGreatDoor

namespace Go.Proofs.YtgkogeglciogkaaGreatDoor
open Go Go.Abs
set_option maxRecDepth 100000

def sort_shaped_enc : Bool → Value
  | r0 => (Value.bool r0)

def sort_shaped_hp (H : AH) : Bool → AH := fun _ => H

noncomputable def B99 : Code := (Tryz.f99.body).getD .skip

noncomputable def sort_shaped_b0 (_L : LC) (_H : AH) (_a0_0 : Int) (_a0_1 : Int) (_a0_2 : ByteArray) (a0_3 : Sl3) : (Bool × Int) → Option (Lp (Bool × Int) Bool) := fun (v3_1, v82_2) =>
  if v82_2 < (a0_3.n : Int) then
    none
  else
    some (.brk (v3_1, v82_2))

def sort_shaped_b0_kn (_L : LC) (_H : AH) (_a0_0 : Int) (_a0_1 : Int) (_a0_2 : ByteArray) (a0_3 : Sl3) : (Bool × Int) → KN := fun (v3_1, v82_2) => [(3, .val (Value.bool v3_1)), (82, .val (Value.int .i64 v82_2)), (80, .val (Sl3.v a0_3)), (81, .val (Value.int .i64 (a0_3.n : Int)))]

def sort_shaped_b0_ls (_L : LC) (_H : AH) (a0_0 : Int) (a0_1 : Int) (a0_2 : ByteArray) (a0_3 : Sl3) : (Bool × Int) → Lcs := fun (_, _) => [some (32, [(Value.int .i64 a0_0), (Value.int .i64 a0_1), (Value.string a0_2), (Sl3.v a0_3)])]

noncomputable def sort_shaped_body (L : LC) (H : AH) (a0_0 : Int) (a0_1 : Int) (a0_2 : ByteArray) (a0_3 : Sl3) : Option Bool :=
  if a0_0 = 1 then
    none
  else
    if a0_0 = 2 then
      if a0_1 = 0 then
        if (a0_2.toList == (⟨#[]⟩ : ByteArray).toList) = true then
          Option.bind (L.run (sort_shaped_b0 L H a0_0 a0_1 a0_2 a0_3) ((decide ((a0_3.n : Int) = 0)), 0)) fun o => match o with
          | .inl (v3_3, _) =>
            some v3_3
          | .inr r => some r
        else
          none
      else
        none
    else
      none

noncomputable def fam_sort_shaped (L : LC) (n : Nat) : (AH → Int → Int → ByteArray → Sl3 → Option Bool) := Nat.rec (motive := fun _ => (AH → Int → Int → ByteArray → Sl3 → Option Bool)) (fun _ _ _ _ _ => none) (fun _ _ => sort_shaped_body L) n

noncomputable def sort_shaped (L : LC) (H : AH) (a0_0 : Int) (a0_1 : Int) (a0_2 : ByteArray) (a0_3 : Sl3) : Option Bool := (fam_sort_shaped L L.fuel) H a0_0 a0_1 a0_2 a0_3

theorem sort_shaped_b0_ok {E : Ent} {m : Nat} {L : LC} {H : AH} {a0_0 : Int} {a0_1 : Int} {a0_2 : ByteArray} {a0_3 : Sl3}  : ∀ s o, sort_shaped_b0 L H a0_0 a0_1 a0_2 a0_3 s = some o →
    WS Tryz.prog (NE.plain 92) m E Tryz.f99.ntmps (cfst (cfst (csnd (cfst (csnd (csnd (csnd B99))))))) (sort_shaped_b0_kn L H a0_0 a0_1 a0_2 a0_3 s) (sort_shaped_b0_ls L H a0_0 a0_1 a0_2 a0_3 s) ((fun _ => H) s) (lpS Tryz.prog (NE.plain 92) m E Tryz.f99.ntmps (sort_shaped_b0_kn L H a0_0 a0_1 a0_2 a0_3) (sort_shaped_b0_ls L H a0_0 a0_1 a0_2 a0_3) (fun _ => H) 1 (fun r => RT Tryz.prog (NE.plain 92) m E Tryz.f99 (sort_shaped_enc r) (sort_shaped_hp H r)) o) := by
  rintro ⟨v3_1, v82_2⟩ o h
  unfold sort_shaped_b0 at h
  try dsimp only at h
  refine WS.sq ?_
  refine WS.rg ?_
  refine RS.mS 1 [(83, .val (Value.bool (decide (v82_2 < (a0_3.n : Int)))))] ?_
  refine RS.dn ?_
  refine WS.nxt ?_
  refine WS.sq ?_
  rcases ite_some h with ⟨hp, h⟩ | ⟨hp, h⟩
  · refine WS.fx 83 true (decide_eq_true hp) ?_
    refine WS.cT ?_
    cases h
  · refine WS.fx 83 false (decide_eq_false hp) ?_
    refine WS.cF ?_
    refine WS.ex 1 ?_
    cases h
    exact fun a w hs => sqE (lsB rfl (hs.sb 1))

theorem sort_shaped_body_ok {L : LC} {m : Nat} {H : AH} {a0_0 : Int} {a0_1 : Int} {a0_2 : ByteArray} {a0_3 : Sl3} {r : Bool} (h : sort_shaped_body L H a0_0 a0_1 a0_2 a0_3 = some r) :
    CallS Tryz.prog (NE.plain 92) m 99 #[(Value.agg #[(Value.int .i64 a0_0), (Value.int .i64 a0_1), (Value.string a0_2), (Sl3.v a0_3)])] H (sort_shaped_enc r) (sort_shaped_hp H r) := by
  refine CallS.mk (args := [(Value.agg #[(Value.int .i64 a0_0), (Value.int .i64 a0_1), (Value.string a0_2), (Sl3.v a0_3)])]) Tryz.func99 (B := B99) (by kernel_rfl) (fun E _ => ?_)
  unfold sort_shaped_body at h
  refine WS.sq ?_
  refine WS.rg ?_
  refine RS.mL 2 [(2, .val (Value.bool false)), (1, .loc 0 0)] ([some (32, [(Value.int .i64 a0_0), (Value.int .i64 a0_1), (Value.string a0_2), (Sl3.v a0_3)])]) ?_
  refine RS.dn ?_
  refine WS.nxt ?_
  refine WS.sq ?_
  refine WS.rg ?_
  refine RS.mS 1 [(3, .val (Value.bool false))] ?_
  refine RS.dn ?_
  refine WS.nxt ?_
  refine WS.sq ?_
  refine WS.sq ?_
  refine WS.rg ?_
  refine RS.mS 2 [(7, .val (Value.int .i64 a0_0)), (6, .loc 0 0)] ?_
  refine RS.dn ?_
  refine WS.nxt ?_
  refine WS.bk 0 ?_
  refine WS.sq ?_
  refine WS.sq ?_
  refine WS.rg ?_
  refine RS.mS 2 [(8, .val (Value.bool (decide (a0_0 = 1)))), (9, .val (Value.bool (decide (a0_0 = 1))))] ?_
  refine RS.dn ?_
  refine WS.nxt ?_
  rcases ite_some h with ⟨hp, h⟩ | ⟨hp, h⟩
  · refine WS.fx 8 true (decide_eq_true hp) ?_
    refine WS.cT ?_
    cases h
  · refine WS.fx 8 false (decide_eq_false hp) ?_
    refine WS.cF ?_
    refine WS.rg ?_
    refine RS.mS 2 [(8, .val (Value.bool (decide (a0_0 = 2)))), (10, .val (Value.bool (decide (a0_0 = 2))))] ?_
    refine RS.dn ?_
    refine WS.nxt ?_
    rcases ite_some h with ⟨hp, h⟩ | ⟨hp, h⟩
    · refine WS.fx 8 true (decide_eq_true hp) ?_
      refine WS.cT ?_
      refine WS.rg ?_
      refine RS.mS 4 [(14, .val (Value.bool (decide (a0_1 = 0)))), (13, .val (Value.bool (decide (a0_1 = 0)))), (12, .val (Value.int .i64 a0_1)), (11, .loc 0 1)] ?_
      rcases ite_some h with ⟨hp, h⟩ | ⟨hp, h⟩
      · refine RS.fx 14 true (decide_eq_true hp) ?_
        refine RS.mS 5 [(19, .val (Value.bool (a0_2.toList == (⟨#[]⟩ : ByteArray).toList))), (18, .val (Value.bool (a0_2.toList == (⟨#[]⟩ : ByteArray).toList))), (17, .val (Value.bool (a0_2.toList == (⟨#[]⟩ : ByteArray).toList))), (16, .val (Value.string a0_2)), (15, .loc 0 2)] ?_
        rcases ite_some h with ⟨hp, h⟩ | ⟨hp, h⟩
        · refine RS.fx 19 true hp ?_
          refine RS.mS 6 [(3, .val (Value.bool (decide ((a0_3.n : Int) = 0)))), (24, .val (Value.bool (decide ((a0_3.n : Int) = 0)))), (23, .val (Value.bool (decide ((a0_3.n : Int) = 0)))), (22, .val (Value.int .i64 (a0_3.n : Int))), (21, .val (Sl3.v a0_3)), (20, .loc 0 3)] ?_
          refine RS.dn ?_
          refine fun a w hs => bkN ((WS.nxt ?_ a w hs))
          refine WS.sq ?_
          refine WS.sq ?_
          refine WS.rg ?_
          refine RS.mS 4 [(82, .val (Value.int .i64 0)), (81, .val (Value.int .i64 (a0_3.n : Int))), (80, .val (Sl3.v a0_3)), (79, .loc 0 3)] ?_
          refine RS.dn ?_
          refine WS.nxt ?_
          refine WS.bk 1 ?_
          obtain ⟨o, hl, h⟩ := bind_some h
          rcases o with ⟨v3_3, v82_4⟩ | r
          · try dsimp only at h
            refine WS.lI (sort_shaped_b0_ok (L := L) (E := E) (m := m) (H := H)) (L.ok hl) 1 ?_
            clear hl
            refine fun a w hs => bkE ((WS.nxt ?_ a w hs))
            refine WS.sq ?_
            refine WS.rg ?_
            refine RS.mS 2 [(2, .val (Value.bool v3_3)), (92, .val (Value.bool v3_3))] ?_
            refine RS.dn ?_
            refine WS.nxt ?_
            refine WS.rt ?_
            cases h
            exact fun a w hs => rtR (rS hs)
          · try dsimp only at h
            refine WS.lR (sort_shaped_b0_ok (L := L) (E := E) (m := m) (H := H)) (L.ok hl) 1 ?_
            cases h
            exact fun a w hq => bkR (sqR (rtR hq))
        · refine RS.fx 19 false (b_not hp) ?_
          cases h
      · refine RS.fx 14 false (decide_eq_false hp) ?_
        cases h
    · refine WS.fx 8 false (decide_eq_false hp) ?_
      refine WS.cF ?_
      cases h

theorem fam_sort_shaped_ok {L : LC} : ∀ n, (∀ (m : Nat) (H : AH) (a0_0 : Int) (a0_1 : Int) (a0_2 : ByteArray) (a0_3 : Sl3) (r : Bool), ((fam_sort_shaped L n)) H a0_0 a0_1 a0_2 a0_3 = some r → CallS Tryz.prog (NE.plain 92) m 99 #[(Value.agg #[(Value.int .i64 a0_0), (Value.int .i64 a0_1), (Value.string a0_2), (Sl3.v a0_3)])] H (sort_shaped_enc r) (sort_shaped_hp H r)) := by
  intro n
  induction n with
  | zero => exact (fun _ _ _ _ _ _ _ h => (Option.some_ne_none _ h.symm).elim)
  | succ n ih => exact (fun _ _ _ _ _ _ _ h => sort_shaped_body_ok (L := L)  h)

theorem sort_shaped_ok {L : LC} {m : Nat} {H : AH} {a0_0 : Int} {a0_1 : Int} {a0_2 : ByteArray} {a0_3 : Sl3} {r : Bool} (h : sort_shaped L H a0_0 a0_1 a0_2 a0_3 = some r) :
    CallS Tryz.prog (NE.plain 92) m 99 #[(Value.agg #[(Value.int .i64 a0_0), (Value.int .i64 a0_1), (Value.string a0_2), (Sl3.v a0_3)])] H (sort_shaped_enc r) (sort_shaped_hp H r) :=
  (fam_sort_shaped_ok _) _ _ _ _ _ _ _ h

def sort_wrong_enc : Int → Value
  | r0 => (Value.int .i64 r0)

def sort_wrong_hp (H : AH) : Int → AH := fun _ => H

noncomputable def B64 : Code := (Tryz.f64.body).getD .skip

noncomputable def sort_wrong (L : LC) (H : AH) (a0_0 : Int) (a0_1 : Int) (a0_2 : ByteArray) (a0_3 : Sl3) : Option Int :=
  Option.bind (sort_parts L H a0_0 a0_1 a0_2 a0_3 1) fun (_, x2) =>
  if x2 = true then
    Option.bind (sort_shaped L H a0_0 a0_1 a0_2 a0_3) fun x3 =>
    if x3 = true then
      some 0
    else
      none
  else
    none

theorem sort_wrong_ok {L : LC} {m : Nat} {H : AH} {a0_0 : Int} {a0_1 : Int} {a0_2 : ByteArray} {a0_3 : Sl3} {r : Int} (h : sort_wrong L H a0_0 a0_1 a0_2 a0_3 = some r) :
    CallS Tryz.prog (NE.plain 92) m 64 #[(Value.agg #[(Value.int .i64 a0_0), (Value.int .i64 a0_1), (Value.string a0_2), (Sl3.v a0_3)])] H (sort_wrong_enc r) (sort_wrong_hp H r) := by
  refine CallS.mk (args := [(Value.agg #[(Value.int .i64 a0_0), (Value.int .i64 a0_1), (Value.string a0_2), (Sl3.v a0_3)])]) Tryz.func64 (B := B64) (by kernel_rfl) (fun E _ => ?_)
  unfold sort_wrong at h
  refine WS.sq ?_
  refine WS.rg ?_
  refine RS.mL 2 [(2, .val (Value.int .i64 0)), (1, .loc 0 0)] ([some (32, [(Value.int .i64 a0_0), (Value.int .i64 a0_1), (Value.string a0_2), (Sl3.v a0_3)])]) ?_
  refine RS.dn ?_
  refine WS.nxt ?_
  refine WS.sq ?_
  refine WS.sq ?_
  refine WS.rg ?_
  refine RS.mS 1 [(6, .val (Value.agg #[(Value.int .i64 a0_0), (Value.int .i64 a0_1), (Value.string a0_2), (Sl3.v a0_3)]))] ?_
  obtain ⟨⟨x1, x2⟩, hx, h⟩ := bind_some h
  try dsimp only at h
  refine RS.cl (some 7) (v := (Value.tuple #[(Value.int .i64 x1), (Value.bool x2)])) 98 #[(Value.agg #[(Value.int .i64 a0_0), (Value.int .i64 a0_1), (Value.string a0_2), (Sl3.v a0_3)]), (Value.int .i64 1)] (sort_parts_ok hx) ?_
  refine RS.mS 5 [(4, .val (Value.bool x2)), (3, .val (Value.int .i64 x1)), (9, .val (Value.bool x2)), (8, .val (Value.int .i64 x1)), (5, .val (Value.tuple #[(Value.int .i64 x1), (Value.bool x2)]))] ?_
  refine RS.dn ?_
  refine WS.nxt ?_
  refine WS.sq ?_
  refine WS.rg ?_
  refine RS.mS 2 [(11, .val (Value.bool (!x2))), (10, .val (Value.bool x2))] ?_
  refine RS.dn ?_
  refine WS.nxt ?_
  rcases ite_some h with ⟨hp, h⟩ | ⟨hp, h⟩
  · refine WS.fx 11 false (nb_not hp) ?_
    refine WS.cF ?_
    refine WS.sk ?_
    refine WS.nxt ?_
    refine WS.sq ?_
    refine WS.sq ?_
    refine WS.rg ?_
    refine RS.mS 1 [(12, .val (Value.agg #[(Value.int .i64 a0_0), (Value.int .i64 a0_1), (Value.string a0_2), (Sl3.v a0_3)]))] ?_
    obtain ⟨x3, hx, h⟩ := bind_some h
    refine RS.cl (some 13) (v := (Value.bool x3)) 99 #[(Value.agg #[(Value.int .i64 a0_0), (Value.int .i64 a0_1), (Value.string a0_2), (Sl3.v a0_3)])] (sort_shaped_ok hx) ?_
    refine RS.mS 1 [(14, .val (Value.bool (!x3)))] ?_
    refine RS.dn ?_
    refine WS.nxt ?_
    rcases ite_some h with ⟨hp, h⟩ | ⟨hp, h⟩
    · refine WS.fx 14 false (nb_not hp) ?_
      refine WS.cF ?_
      refine WS.sk ?_
      refine WS.nxt ?_
      refine WS.sq ?_
      refine WS.rg ?_
      refine RS.mS 1 [(2, .val (Value.int .i64 0))] ?_
      refine RS.dn ?_
      refine WS.nxt ?_
      refine WS.rt ?_
      cases h
      exact fun a w hs => rtR (rS hs)
    · refine WS.fx 14 true (nb_not' hp) ?_
      refine WS.cT ?_
      cases h
  · refine WS.fx 11 true (nb_not' hp) ?_
    refine WS.cT ?_
    cases h

def sort_book_check_enc : Int → Value
  | r0 => (Value.int .i64 r0)

def sort_book_check_hp (H : AH) : Int → AH := fun _ => H

noncomputable def B106 : Code := (Tryz.f106.body).getD .skip

noncomputable def sort_book_check (L : LC) (H : AH) (a0 : Option Addr) (a1_0 : Int) (a1_1 : Int) (a1_2 : ByteArray) (a1_3 : Sl3) : Option Int :=
  Option.bind (sort_wrong L H a1_0 a1_1 a1_2 a1_3) fun x1 =>
  if x1 = 0 then
    Option.bind (sort_book_known L H a0 a1_0 a1_1 a1_2 a1_3) fun x2 =>
    if x2 = true then
      some 0
    else
      none
  else
    none

theorem sort_book_check_ok {L : LC} {m : Nat} {H : AH} {a0 : Option Addr} {a1_0 : Int} {a1_1 : Int} {a1_2 : ByteArray} {a1_3 : Sl3} {r : Int} (h : sort_book_check L H a0 a1_0 a1_1 a1_2 a1_3 = some r) :
    CallS Tryz.prog (NE.plain 92) m 106 #[(Value.pointer a0), (Value.agg #[(Value.int .i64 a1_0), (Value.int .i64 a1_1), (Value.string a1_2), (Sl3.v a1_3)])] H (sort_book_check_enc r) (sort_book_check_hp H r) := by
  refine CallS.mk (args := [(Value.pointer a0), (Value.agg #[(Value.int .i64 a1_0), (Value.int .i64 a1_1), (Value.string a1_2), (Sl3.v a1_3)])]) Tryz.func106 (B := B106) (by kernel_rfl) (fun E _ => ?_)
  unfold sort_book_check at h
  refine WS.sq ?_
  refine WS.rg ?_
  refine RS.mL 2 [(4, .val (Value.int .i64 0)), (3, .loc 0 0)] ([some (32, [(Value.int .i64 a1_0), (Value.int .i64 a1_1), (Value.string a1_2), (Sl3.v a1_3)])]) ?_
  refine RS.dn ?_
  refine WS.nxt ?_
  refine WS.sq ?_
  refine WS.sq ?_
  refine WS.rg ?_
  refine RS.mS 1 [(6, .val (Value.agg #[(Value.int .i64 a1_0), (Value.int .i64 a1_1), (Value.string a1_2), (Sl3.v a1_3)]))] ?_
  obtain ⟨x1, hx, h⟩ := bind_some h
  refine RS.cl (some 7) (v := (Value.int .i64 x1)) 64 #[(Value.agg #[(Value.int .i64 a1_0), (Value.int .i64 a1_1), (Value.string a1_2), (Sl3.v a1_3)])] (sort_wrong_ok hx) ?_
  refine RS.mS 1 [(5, .val (Value.int .i64 x1))] ?_
  refine RS.dn ?_
  refine WS.nxt ?_
  refine WS.sq ?_
  refine WS.rg ?_
  refine RS.mS 2 [(9, .val (Value.bool (!decide (x1 = 0)))), (8, .val (Value.int .i64 x1))] ?_
  refine RS.dn ?_
  refine WS.nxt ?_
  rcases ite_some h with ⟨hp, h⟩ | ⟨hp, h⟩
  · refine WS.fx 9 false (dec_not hp) ?_
    refine WS.cF ?_
    refine WS.sk ?_
    refine WS.nxt ?_
    refine WS.sq ?_
    refine WS.sq ?_
    refine WS.rg ?_
    refine RS.mS 2 [(12, .val (Value.agg #[(Value.int .i64 a1_0), (Value.int .i64 a1_1), (Value.string a1_2), (Sl3.v a1_3)])), (11, .val (Value.pointer a0))] ?_
    obtain ⟨x2, hx, h⟩ := bind_some h
    refine RS.cl (some 13) (v := (Value.bool x2)) 140 #[(Value.pointer a0), (Value.agg #[(Value.int .i64 a1_0), (Value.int .i64 a1_1), (Value.string a1_2), (Sl3.v a1_3)])] (sort_book_known_ok hx) ?_
    refine RS.mS 1 [(14, .val (Value.bool (!x2)))] ?_
    refine RS.dn ?_
    refine WS.nxt ?_
    rcases ite_some h with ⟨hp, h⟩ | ⟨hp, h⟩
    · refine WS.fx 14 false (nb_not hp) ?_
      refine WS.cF ?_
      refine WS.sk ?_
      refine WS.nxt ?_
      refine WS.sq ?_
      refine WS.rg ?_
      refine RS.mS 1 [(4, .val (Value.int .i64 0))] ?_
      refine RS.dn ?_
      refine WS.nxt ?_
      refine WS.rt ?_
      cases h
      exact fun a w hs => rtR (rS hs)
    · refine WS.fx 14 true (nb_not' hp) ?_
      refine WS.cT ?_
      cases h
  · refine WS.fx 9 true (dec_not' hp) ?_
    refine WS.cT ?_
    cases h

def slices_Clone_107_enc : (Sl3 × AH) → Value
  | (r0, _) => (Sl3.v r0)

def slices_Clone_107_hp (_ : AH) : (Sl3 × AH) → AH := fun r => r.2

noncomputable def B107 : Code := (Tryz.f107.body).getD .skip

noncomputable def slices_Clone_107 (_L : LC) (m : Nat) (H : AH) (a0 : Sl3) : Option (Sl3 × AH) :=
  if (isNilS a0) = true then
    some (Sl3.nil, H)
  else
    Option.bind (newR 32 0 #[] H) fun (s1, H2) =>
    Option.bind (appS m 32 4 56 H2 s1 a0) fun (s3, H4) =>
    some (s3, H4)

theorem slices_Clone_107_ok {L : LC} {m : Nat} {H : AH} {a0 : Sl3} {r : (Sl3 × AH)} (h : slices_Clone_107 L m H a0 = some r) :
    CallS Tryz.prog (NE.plain 92) m 107 #[(Sl3.v a0)] H (slices_Clone_107_enc r) (slices_Clone_107_hp H r) := by
  refine CallS.mk (args := [(Sl3.v a0)]) Tryz.func107 (B := B107) (by kernel_rfl) (fun E _ => ?_)
  unfold slices_Clone_107 at h
  refine WS.sq ?_
  refine WS.rg ?_
  refine RS.mS 1 [(2, .val (Sl3.v Sl3.nil))] ?_
  refine RS.dn ?_
  refine WS.nxt ?_
  refine WS.sq ?_
  refine WS.sq ?_
  refine WS.rg ?_
  refine RS.mS 1 [(3, .val (Sl3.v a0))] ?_
  refine RS.o (H' := H) (some 4) (Value.bool (isNilS a0)) (run_nil_eql (t := 30) (e := 32) (u := 30) (x := .tmp 3) (y := .const (Sl3.v Sl3.nil)) (s := a0) (by kernel_rfl) (by kernel_rfl) (by kernel_rfl) (by kernel_rfl)) ?_
  refine RS.dn ?_
  refine WS.nxt ?_
  rcases ite_some h with ⟨hp, h⟩ | ⟨hp, h⟩
  · refine WS.fx 4 true hp ?_
    refine WS.cT ?_
    refine WS.sq ?_
    refine WS.rg ?_
    refine RS.mS 1 [(2, .val (Sl3.v Sl3.nil))] ?_
    refine RS.dn ?_
    refine WS.nxt ?_
    refine WS.rt ?_
    cases h
    exact fun a w hs => sqR (rtR (rS hs))
  · refine WS.fx 4 false (b_not hp) ?_
    refine WS.cF ?_
    refine WS.sk ?_
    refine WS.nxt ?_
    refine WS.sq ?_
    refine WS.rg ?_
    obtain ⟨⟨s1, H2⟩, hx, h⟩ := bind_some h
    try dsimp only at h
    refine RS.o (H' := H2) (some 5) (Sl3.v s1) (Abs.run_newR (by kernel_rfl) (by kernel_rfl) hx) ?_
    refine RS.mS 1 [(6, .val (Sl3.v a0))] ?_
    obtain ⟨⟨s3, H4⟩, hx, h⟩ := bind_some h
    try dsimp only at h
    refine RS.o (H' := H4) (some 7) (Sl3.v s3) (Abs.run_app (x := .tmp 5) (y := .tmp 6) (ts := #[30, 30]) (s := s1) (z := a0) (by kernel_rfl) (by kernel_rfl) (by kernel_rfl) (by kernel_rfl) hx) ?_
    refine RS.mS 1 [(2, .val (Sl3.v s3))] ?_
    refine RS.dn ?_
    refine WS.nxt ?_
    refine WS.rt ?_
    cases h
    exact fun a w hs => rtR (rS hs)

def sort_book_allSorts_enc : (Int × AH) → Value
  | (r0, _) => (Value.int .i64 r0)

def sort_book_allSorts_hp (_ : AH) : (Int × AH) → AH := fun r => r.2

noncomputable def B76 : Code := (Tryz.f76.body).getD .skip

noncomputable def sort_book_allSorts_b0 (_L : LC) (_H : AH) (_q1 : Addr) (x2 : Sl3) : Int → Option (Lp Int (Int × AH)) := fun v21_3 =>
  if v21_3 < (x2.n : Int) then
    none
  else
    some (.brk v21_3)

def sort_book_allSorts_b0_kn (_L : LC) (_H : AH) (q1 : Addr) (x2 : Sl3) : Int → KN := fun v21_3 => [(21, .val (Value.int .i64 v21_3)), (0, .val (Value.pointer (some q1))), (19, .val (Sl3.v x2)), (20, .val (Value.int .i64 (x2.n : Int)))]

def sort_book_allSorts_b0_ls (_L : LC) (_H : AH) (_q1 : Addr) (_x2 : Sl3) : Int → Lcs := fun _ => []

noncomputable def sort_book_allSorts_b2 (L : LC) (q1 : Addr) (_x5 : Sl3) (_v55_7 : Int) (_x9_0 : ByteArray) (_x9_1 : Sl3) (_x9_2 : Int) (_x9_3 : Int) (_x9_4 : ByteArray) (_x9_5 : Sl3) (s14 : Sl3) (H15 : AH) : Int → Option (Lp Int (Int × AH)) := fun v67_16 =>
  if v67_16 < (s14.n : Int) then
    Option.bind (idxA 4 s14 v67_16) fun p17 =>
    Option.bind (rd (deI .i64) H15 (Addr.add p17 0)) fun x18_0 =>
    Option.bind (rd (deI .i64) H15 (Addr.add p17 1)) fun x18_1 =>
    Option.bind (rd deS H15 (Addr.add p17 2)) fun x18_2 =>
    Option.bind (rd deSl H15 (Addr.add p17 3)) fun x18_3 =>
    Option.bind (sort_book_check L H15 (some q1) x18_0 x18_1 x18_2 x18_3) fun x19 =>
    if x19 = 0 then
      some (.next (IntKind.i64.wrap (v67_16 + 1)))
    else
      none
  else
    some (.brk v67_16)

def sort_book_allSorts_b2_kn (_L : LC) (q1 : Addr) (x5 : Sl3) (v55_7 : Int) (_x9_0 : ByteArray) (_x9_1 : Sl3) (_x9_2 : Int) (_x9_3 : Int) (_x9_4 : ByteArray) (_x9_5 : Sl3) (s14 : Sl3) (_H15 : AH) : Int → KN := fun v67_16 => [(67, .val (Value.int .i64 v67_16)), (0, .val (Value.pointer (some q1))), (53, .val (Sl3.v x5)), (54, .val (Value.int .i64 (x5.n : Int))), (55, .val (Value.int .i64 v55_7)), (65, .val (Sl3.v s14)), (66, .val (Value.int .i64 (s14.n : Int)))]

def sort_book_allSorts_b2_ls (_L : LC) (_q1 : Addr) (_x5 : Sl3) (_v55_7 : Int) (x9_0 : ByteArray) (x9_1 : Sl3) (x9_2 : Int) (x9_3 : Int) (x9_4 : ByteArray) (x9_5 : Sl3) (_s14 : Sl3) (_H15 : AH) : Int → Lcs := fun _ => [some (108, [(Value.string x9_0), (Sl3.v x9_1), (Value.int .i64 x9_2), (Value.int .i64 x9_3), (Value.string x9_4), (Sl3.v x9_5)]), none]

noncomputable def sort_book_allSorts_b1 (L : LC) (m : Nat) (q1 : Addr) (x5 : Sl3) : (AH × Int) → Option (Lp (AH × Int) (Int × AH)) := fun (H6, v55_7) =>
  if v55_7 < (x5.n : Int) then
    Option.bind (idxA 6 x5 v55_7) fun p8 =>
    Option.bind (rd deS H6 (Addr.add p8 0)) fun x9_0 =>
    Option.bind (rd deSl H6 (Addr.add p8 1)) fun x9_1 =>
    Option.bind (rd (deI .i64) H6 (Addr.add p8 2)) fun x9_2 =>
    Option.bind (rd (deI .i64) H6 (Addr.add p8 3)) fun x9_3 =>
    Option.bind (rd deS H6 (Addr.add p8 4)) fun x9_4 =>
    Option.bind (rd deSl H6 (Addr.add p8 5)) fun x9_5 =>
    Option.bind (slices_Clone_107 L (Nat.max m H6.next) H6 x9_1) fun (x10, H11) =>
    Option.bind (newS 32 [(Value.int .i64 x9_2), (Value.int .i64 x9_3), (Value.string x9_4), (Sl3.v x9_5)] H11) fun (k12, H13) =>
    Option.bind (appS m 32 4 56 H13 x10 (⟨some ⟨k12, 0, none⟩, 1, 1⟩ : Sl3)) fun (s14, H15) =>
    Option.bind (L.run (sort_book_allSorts_b2 L q1 x5 v55_7 x9_0 x9_1 x9_2 x9_3 x9_4 x9_5 s14 H15) 0) fun o => match o with
    | .inl _ =>
      some (.next (H15, (IntKind.i64.wrap (v55_7 + 1))))
    | .inr r => some (.ret r)
  else
    some (.brk (H6, v55_7))

def sort_book_allSorts_b1_kn (_L : LC) (_m : Nat) (q1 : Addr) (x5 : Sl3) : (AH × Int) → KN := fun (_, v55_7) => [(55, .val (Value.int .i64 v55_7)), (0, .val (Value.pointer (some q1))), (53, .val (Sl3.v x5)), (54, .val (Value.int .i64 (x5.n : Int)))]

def sort_book_allSorts_b1_ls (_L : LC) (_m : Nat) (_q1 : Addr) (_x5 : Sl3) : (AH × Int) → Lcs := fun (_, _) => []

noncomputable def sort_book_allSorts (L : LC) (m : Nat) (H : AH) (a0 : Option Addr) : Option (Int × AH) :=
  Option.bind a0 fun q1 =>
  Option.bind (rd deSl H (Addr.add (Addr.add q1 0) 1)) fun x2 =>
  Option.bind (L.run (sort_book_allSorts_b0 L H q1 x2) 0) fun o => match o with
  | .inl _ =>
    Option.bind (rd deSl H (Addr.add (Addr.add q1 0) 2)) fun x5 =>
    Option.bind (L.run (sort_book_allSorts_b1 L m q1 x5) (H, 0)) fun o => match o with
    | .inl (H21, _) =>
      some (0, H21)
    | .inr r => some r
  | .inr r => some r

theorem sort_book_allSorts_b0_ok {E : Ent} {m : Nat} {L : LC} {H : AH} {q1 : Addr} {x2 : Sl3}  : ∀ s o, sort_book_allSorts_b0 L H q1 x2 s = some o →
    WS Tryz.prog (NE.plain 92) m E Tryz.f76.ntmps (cfst (cfst (csnd (cfst (csnd B76))))) (sort_book_allSorts_b0_kn L H q1 x2 s) (sort_book_allSorts_b0_ls L H q1 x2 s) ((fun _ => H) s) (lpS Tryz.prog (NE.plain 92) m E Tryz.f76.ntmps (sort_book_allSorts_b0_kn L H q1 x2) (sort_book_allSorts_b0_ls L H q1 x2) (fun _ => H) 0 (fun r => RT Tryz.prog (NE.plain 92) m E Tryz.f76 (sort_book_allSorts_enc r) (sort_book_allSorts_hp H r)) o) := by
  rintro v21_3 o h
  unfold sort_book_allSorts_b0 at h
  try dsimp only at h
  refine WS.sq ?_
  refine WS.rg ?_
  refine RS.mS 1 [(22, .val (Value.bool (decide (v21_3 < (x2.n : Int)))))] ?_
  refine RS.dn ?_
  refine WS.nxt ?_
  refine WS.sq ?_
  rcases ite_some h with ⟨hp, h⟩ | ⟨hp, h⟩
  · refine WS.fx 22 true (decide_eq_true hp) ?_
    refine WS.cT ?_
    cases h
  · refine WS.fx 22 false (decide_eq_false hp) ?_
    refine WS.cF ?_
    refine WS.ex 0 ?_
    cases h
    exact fun a w hs => sqE (lsB rfl (hs.sb 0))

theorem sort_book_allSorts_b2_ok {E : Ent} {m : Nat} {H : AH} {L : LC} {q1 : Addr} {x5 : Sl3} {v55_7 : Int} {x9_0 : ByteArray} {x9_1 : Sl3} {x9_2 : Int} {x9_3 : Int} {x9_4 : ByteArray} {x9_5 : Sl3} {s14 : Sl3} {H15 : AH}  : ∀ s o, sort_book_allSorts_b2 L q1 x5 v55_7 x9_0 x9_1 x9_2 x9_3 x9_4 x9_5 s14 H15 s = some o →
    WS Tryz.prog (NE.plain 92) m E Tryz.f76.ntmps (cfst (cfst (csnd (csnd (cfst (cfst (csnd (csnd (cfst (cfst (csnd (cfst (csnd (csnd B76)))))))))))))) (sort_book_allSorts_b2_kn L q1 x5 v55_7 x9_0 x9_1 x9_2 x9_3 x9_4 x9_5 s14 H15 s) (sort_book_allSorts_b2_ls L q1 x5 v55_7 x9_0 x9_1 x9_2 x9_3 x9_4 x9_5 s14 H15 s) ((fun _ => H15) s) (lpS Tryz.prog (NE.plain 92) m E Tryz.f76.ntmps (sort_book_allSorts_b2_kn L q1 x5 v55_7 x9_0 x9_1 x9_2 x9_3 x9_4 x9_5 s14 H15) (sort_book_allSorts_b2_ls L q1 x5 v55_7 x9_0 x9_1 x9_2 x9_3 x9_4 x9_5 s14 H15) (fun _ => H15) 8 (fun r => RT Tryz.prog (NE.plain 92) m E Tryz.f76 (sort_book_allSorts_enc r) (sort_book_allSorts_hp H r)) o) := by
  rintro v67_16 o h
  unfold sort_book_allSorts_b2 at h
  try dsimp only at h
  refine WS.sq ?_
  refine WS.rg ?_
  refine RS.mS 1 [(68, .val (Value.bool (decide (v67_16 < (s14.n : Int)))))] ?_
  refine RS.dn ?_
  refine WS.nxt ?_
  refine WS.sq ?_
  rcases ite_some h with ⟨hp, h⟩ | ⟨hp, h⟩
  · refine WS.fx 68 true (decide_eq_true hp) ?_
    refine WS.cT ?_
    refine WS.sk ?_
    refine WS.nxt ?_
    refine WS.sq ?_
    refine WS.bk 9 ?_
    refine WS.sq ?_
    refine WS.rg ?_
    obtain ⟨p17, hx, h⟩ := bind_some h
    refine RS.o (H' := H15) (some 69) (Value.pointer (some p17)) (Abs.run_idx (s := s14) (k := .i64) (t := 30) (e := 32) (x := .tmp 65) (y := .tmp 67) (by kernel_rfl) (by kernel_rfl) (by kernel_rfl) (by kernel_rfl) (by kernel_rfl) hx) ?_
    obtain ⟨x18_0, hx0, h⟩ := bind_some h
    obtain ⟨x18_1, hx1, h⟩ := bind_some h
    obtain ⟨x18_2, hx2, h⟩ := bind_some h
    obtain ⟨x18_3, hx3, h⟩ := bind_some h
    refine RS.o (H' := H15) (some 70) (Value.agg #[(Value.int .i64 x18_0), (Value.int .i64 x18_1), (Value.string x18_2), (Sl3.v x18_3)]) (Abs.run_loadAg (t := 32) (x := .tmp 69) (a := p17) (k := 4) (by kernel_rfl) (by kernel_rfl) (by kernel_rfl) (by kernel_rfl) (rdc_cons (rd_cell hx0 deI_inv) (rdc_cons (rd_cell hx1 deI_inv) (rdc_cons (rd_cell hx2 deS_inv) (rdc_cons (rd_cell hx3 deSl_inv) rdc_nil))))) ?_
    refine RS.mL 2 [(13, .loc 2 0)] ([some (108, [(Value.string x9_0), (Sl3.v x9_1), (Value.int .i64 x9_2), (Value.int .i64 x9_3), (Value.string x9_4), (Sl3.v x9_5)]), none, some (32, [(Value.int .i64 x18_0), (Value.int .i64 x18_1), (Value.string x18_2), (Sl3.v x18_3)])]) ?_
    refine RS.dn ?_
    refine WS.nxt ?_
    refine WS.sq ?_
    refine WS.rg ?_
    refine RS.mS 2 [(72, .val (Value.agg #[(Value.int .i64 x18_0), (Value.int .i64 x18_1), (Value.string x18_2), (Sl3.v x18_3)])), (71, .val (Value.pointer (some q1)))] ?_
    obtain ⟨x19, hx, h⟩ := bind_some h
    refine RS.cl (some 73) (v := (Value.int .i64 x19)) 106 #[(Value.pointer (some q1)), (Value.agg #[(Value.int .i64 x18_0), (Value.int .i64 x18_1), (Value.string x18_2), (Sl3.v x18_3)])] (sort_book_check_ok hx) ?_
    refine RS.mS 1 [(14, .val (Value.int .i64 x19))] ?_
    refine RS.dn ?_
    refine WS.nxt ?_
    refine WS.sq ?_
    refine WS.rg ?_
    refine RS.mS 2 [(75, .val (Value.bool (!decide (x19 = 0)))), (74, .val (Value.int .i64 x19))] ?_
    refine RS.dn ?_
    refine WS.nxt ?_
    rcases ite_some h with ⟨hp, h⟩ | ⟨hp, h⟩
    · refine WS.fx 75 false (dec_not hp) ?_
      refine WS.cF ?_
      refine WS.sk ?_
      refine fun a w hs => bkN ((WS.nxt ?_ a w hs))
      refine WS.rg ?_
      refine RS.mS 2 [(67, .val (Value.int .i64 (IntKind.i64.wrap (v67_16 + 1)))), (77, .val (Value.int .i64 (IntKind.i64.wrap (v67_16 + 1))))] ?_
      refine RS.dn ?_
      cases h
      exact fun a w hs => lsN rfl (hs.sb 2)
    · refine WS.fx 75 true (dec_not' hp) ?_
      refine WS.cT ?_
      cases h
  · refine WS.fx 68 false (decide_eq_false hp) ?_
    refine WS.cF ?_
    refine WS.ex 8 ?_
    cases h
    exact fun a w hs => sqE (lsB rfl (hs.sb 2))

theorem sort_book_allSorts_b1_ok {E : Ent} {H : AH} {L : LC} {m : Nat} {q1 : Addr} {x5 : Sl3}  : ∀ s o, sort_book_allSorts_b1 L m q1 x5 s = some o →
    WS Tryz.prog (NE.plain 92) m E Tryz.f76.ntmps (cfst (cfst (csnd (cfst (csnd (csnd B76)))))) (sort_book_allSorts_b1_kn L m q1 x5 s) (sort_book_allSorts_b1_ls L m q1 x5 s) ((fun s => s.1) s) (lpS Tryz.prog (NE.plain 92) m E Tryz.f76.ntmps (sort_book_allSorts_b1_kn L m q1 x5) (sort_book_allSorts_b1_ls L m q1 x5) (fun s => s.1) 6 (fun r => RT Tryz.prog (NE.plain 92) m E Tryz.f76 (sort_book_allSorts_enc r) (sort_book_allSorts_hp H r)) o) := by
  rintro ⟨H6, v55_7⟩ o h
  unfold sort_book_allSorts_b1 at h
  try dsimp only at h
  refine WS.sq ?_
  refine WS.rg ?_
  refine RS.mS 1 [(56, .val (Value.bool (decide (v55_7 < (x5.n : Int)))))] ?_
  refine RS.dn ?_
  refine WS.nxt ?_
  refine WS.sq ?_
  rcases ite_some h with ⟨hp, h⟩ | ⟨hp, h⟩
  · refine WS.fx 56 true (decide_eq_true hp) ?_
    refine WS.cT ?_
    refine WS.sk ?_
    refine WS.nxt ?_
    refine WS.sq ?_
    refine WS.bk 7 ?_
    refine WS.sq ?_
    refine WS.rg ?_
    obtain ⟨p8, hx, h⟩ := bind_some h
    refine RS.o (H' := H6) (some 57) (Value.pointer (some p8)) (Abs.run_idx (s := x5) (k := .i64) (t := 39) (e := 108) (x := .tmp 53) (y := .tmp 55) (by kernel_rfl) (by kernel_rfl) (by kernel_rfl) (by kernel_rfl) (by kernel_rfl) hx) ?_
    obtain ⟨x9_0, hx0, h⟩ := bind_some h
    obtain ⟨x9_1, hx1, h⟩ := bind_some h
    obtain ⟨x9_2, hx2, h⟩ := bind_some h
    obtain ⟨x9_3, hx3, h⟩ := bind_some h
    obtain ⟨x9_4, hx4, h⟩ := bind_some h
    obtain ⟨x9_5, hx5, h⟩ := bind_some h
    refine RS.o (H' := H6) (some 58) (Value.agg #[(Value.string x9_0), (Sl3.v x9_1), (Value.int .i64 x9_2), (Value.int .i64 x9_3), (Value.string x9_4), (Sl3.v x9_5)]) (Abs.run_loadAg (t := 108) (x := .tmp 57) (a := p8) (k := 6) (by kernel_rfl) (by kernel_rfl) (by kernel_rfl) (by kernel_rfl) (rdc_cons (rd_cell hx0 deS_inv) (rdc_cons (rd_cell hx1 deSl_inv) (rdc_cons (rd_cell hx2 deI_inv) (rdc_cons (rd_cell hx3 deI_inv) (rdc_cons (rd_cell hx4 deS_inv) (rdc_cons (rd_cell hx5 deSl_inv) rdc_nil))))))) ?_
    refine RS.mL 2 [(11, .loc 0 0)] ([some (108, [(Value.string x9_0), (Sl3.v x9_1), (Value.int .i64 x9_2), (Value.int .i64 x9_3), (Value.string x9_4), (Sl3.v x9_5)])]) ?_
    refine RS.dn ?_
    refine WS.nxt ?_
    refine WS.sq ?_
    obtain ⟨⟨x10, H11⟩, hx_2, h⟩ := bind_some h
    try dsimp only at h
    obtain ⟨⟨k12, H13⟩, hx_k12, h⟩ := bind_some h
    try dsimp only at h
    obtain ⟨⟨s14, H15⟩, hx_6, h⟩ := bind_some h
    try dsimp only at h
    refine WS.toone ([(0, .val (Value.pointer (some q1))), (53, .val (Sl3.v x5)), (54, .val (Value.int .i64 (x5.n : Int))), (55, .val (Value.int .i64 v55_7)), (65, .val (Sl3.v s14)), (66, .val (Value.int .i64 (s14.n : Int))), (67, .val (Value.int .i64 0))]) ([some (108, [(Value.string x9_0), (Sl3.v x9_1), (Value.int .i64 x9_2), (Value.int .i64 x9_3), (Value.string x9_4), (Sl3.v x9_5)]), none]) H15 ?_ ?_
    · clear h
      refine WS.dr [0, 1] [0, 1, 3, 0, 8, 24, 63, 127, 0] 9 (fun hcl => ?_)
      refine DA.tL 0 (some 59) (.loc 0 1) ?_
      refine DA.tL 1 (some 60) (.val (Sl3.v x9_1)) ?_
      refine DA.tP 8 (some 67) (Value.int .i64 0) ?_
      refine DA.restart [0, 1, 3] (by kernel_rfl) ?_
      refine DA.tL 3 (some 62) (.loc 0 2) ?_
      refine DA.two 2 4 (by kernel_rfl) ?_ ?_
      · refine DA.aCk 2 (some 61) true (v := (Sl3.v x10)) 107 #[(Sl3.v x9_1)] (slices_Clone_107_ok hx_2) ?_
        refine DA.on 4 ?_
        refine DA.aL 4 (some 63) (.val (Value.agg #[(Value.int .i64 x9_2), (Value.int .i64 x9_3), (Value.string x9_4), (Sl3.v x9_5)])) ([some (108, [(Value.string x9_0), (Sl3.v x9_1), (Value.int .i64 x9_2), (Value.int .i64 x9_3), (Value.string x9_4), (Sl3.v x9_5)])]) true ?_
        refine DA.on 5 ?_
        refine DA.actS 5 (some 64) (.sli 1 1) ([some (108, [(Value.string x9_0), (Sl3.v x9_1), (Value.int .i64 x9_2), (Value.int .i64 x9_3), (Value.string x9_4), (Sl3.v x9_5)]), some (32, [(Value.int .i64 x9_2), (Value.int .i64 x9_3), (Value.string x9_4), (Sl3.v x9_5)])]) (by kernel_rfl) (by kernel_rfl) (by kernel_rfl) hcl (by kernel_rfl) (by kernel_rfl) (by kernel_rfl) ?_
        refine DA.on 6 ?_
        refine DA.pubK 1 _ _ hx_k12 (by kernel_rfl) rfl rfl ?_
        refine DA.aH (H' := H15) 6 (some 65) (Sl3.v s14) (Abs.run_app (x := .tmp 61) (y := .tmp 64) (ts := #[30, 30]) (s := x10) (z := (⟨some ⟨k12, 0, none⟩, 1, 1⟩ : Sl3)) (by kernel_rfl) (by kernel_rfl) (by kernel_rfl) (by kernel_rfl) hx_6) ?_
        refine DA.tP 7 (some 66) (Value.int .i64 (s14.n : Int)) ?_
        refine DA.dn ?_
        exact fun a w hs => jsN (hs.sb 2)
      · refine DA.aL 4 (some 63) (.val (Value.agg #[(Value.int .i64 x9_2), (Value.int .i64 x9_3), (Value.string x9_4), (Sl3.v x9_5)])) ([some (108, [(Value.string x9_0), (Sl3.v x9_1), (Value.int .i64 x9_2), (Value.int .i64 x9_3), (Value.string x9_4), (Sl3.v x9_5)])]) true ?_
        refine DA.two 2 5 (by kernel_rfl) ?_ ?_
        · refine DA.aCk 2 (some 61) true (v := (Sl3.v x10)) 107 #[(Sl3.v x9_1)] (slices_Clone_107_ok hx_2) ?_
          refine DA.on 5 ?_
          refine DA.actS 5 (some 64) (.sli 1 1) ([some (108, [(Value.string x9_0), (Sl3.v x9_1), (Value.int .i64 x9_2), (Value.int .i64 x9_3), (Value.string x9_4), (Sl3.v x9_5)]), some (32, [(Value.int .i64 x9_2), (Value.int .i64 x9_3), (Value.string x9_4), (Sl3.v x9_5)])]) (by kernel_rfl) (by kernel_rfl) (by kernel_rfl) hcl (by kernel_rfl) (by kernel_rfl) (by kernel_rfl) ?_
          refine DA.on 6 ?_
          refine DA.pubK 1 _ _ hx_k12 (by kernel_rfl) rfl rfl ?_
          refine DA.aH (H' := H15) 6 (some 65) (Sl3.v s14) (Abs.run_app (x := .tmp 61) (y := .tmp 64) (ts := #[30, 30]) (s := x10) (z := (⟨some ⟨k12, 0, none⟩, 1, 1⟩ : Sl3)) (by kernel_rfl) (by kernel_rfl) (by kernel_rfl) (by kernel_rfl) hx_6) ?_
          refine DA.tP 7 (some 66) (Value.int .i64 (s14.n : Int)) ?_
          refine DA.dn ?_
          exact fun a w hs => jsN (hs.sb 2)
        · refine DA.actS 5 (some 64) (.sli 1 1) ([some (108, [(Value.string x9_0), (Sl3.v x9_1), (Value.int .i64 x9_2), (Value.int .i64 x9_3), (Value.string x9_4), (Sl3.v x9_5)]), some (32, [(Value.int .i64 x9_2), (Value.int .i64 x9_3), (Value.string x9_4), (Sl3.v x9_5)])]) (by kernel_rfl) (by kernel_rfl) (by kernel_rfl) hcl (by kernel_rfl) (by kernel_rfl) (by kernel_rfl) ?_
          refine DA.on 2 ?_
          refine DA.aCk 2 (some 61) false (v := (Sl3.v x10)) 107 #[(Sl3.v x9_1)] (slices_Clone_107_ok hx_2) ?_
          refine DA.on 6 ?_
          refine DA.pubK 1 _ _ hx_k12 (by kernel_rfl) rfl rfl ?_
          refine DA.aH (H' := H15) 6 (some 65) (Sl3.v s14) (Abs.run_app (x := .tmp 61) (y := .tmp 64) (ts := #[30, 30]) (s := x10) (z := (⟨some ⟨k12, 0, none⟩, 1, 1⟩ : Sl3)) (by kernel_rfl) (by kernel_rfl) (by kernel_rfl) (by kernel_rfl) hx_6) ?_
          refine DA.tP 7 (some 66) (Value.int .i64 (s14.n : Int)) ?_
          refine DA.dn ?_
          exact fun a w hs => jsN (hs.sb 2)
    · refine WS.nxt ?_
      refine WS.bk 8 ?_
      obtain ⟨o, hl, h⟩ := bind_some h
      rcases o with v67_20 | r
      · try dsimp only at h
        refine WS.lI (sort_book_allSorts_b2_ok (L := L) (E := E) (m := m) (H := H)) (L.ok hl) 2 ?_
        clear hl
        refine fun a w hs => bkE (bkN ((WS.nxt ?_ a w hs)))
        refine WS.rg ?_
        refine RS.mS 2 [(55, .val (Value.int .i64 (IntKind.i64.wrap (v55_7 + 1)))), (78, .val (Value.int .i64 (IntKind.i64.wrap (v55_7 + 1))))] ?_
        refine RS.dn ?_
        cases h
        exact fun a w hs => lsN rfl (hs.sb 0)
      · try dsimp only at h
        refine WS.lR (sort_book_allSorts_b2_ok (L := L) (E := E) (m := m) (H := H)) (L.ok hl) 2 ?_
        cases h
        exact fun a w hq => bkR (bkR (sqR (lsR rfl hq)))
  · refine WS.fx 56 false (decide_eq_false hp) ?_
    refine WS.cF ?_
    refine WS.ex 6 ?_
    cases h
    exact fun a w hs => sqE (lsB rfl (hs.sb 0))

theorem sort_book_allSorts_ok {L : LC} {m : Nat} {H : AH} {a0 : Option Addr} {r : (Int × AH)} (h : sort_book_allSorts L m H a0 = some r) :
    CallS Tryz.prog (NE.plain 92) m 76 #[(Value.pointer a0)] H (sort_book_allSorts_enc r) (sort_book_allSorts_hp H r) := by
  refine CallS.mk (args := [(Value.pointer a0)]) Tryz.func76 (B := B76) (by kernel_rfl) (fun E _ => ?_)
  unfold sort_book_allSorts at h
  refine WS.sq ?_
  refine WS.rg ?_
  refine RS.mS 1 [(2, .val (Value.int .i64 0))] ?_
  refine RS.dn ?_
  refine WS.nxt ?_
  refine WS.sq ?_
  refine WS.sq ?_
  refine WS.rg ?_
  refine RS.mS 1 [(15, .val (Value.pointer a0))] ?_
  obtain ⟨q1, hx, hq1⟩ := bind_some h
  subst hx
  have h := hq1
  refine RS.mS 3 [(18, .val (Value.pointer (some (Addr.add (Addr.add q1 0) 1)))), (17, .val (Value.pointer (some (Addr.add q1 0)))), (16, .val (Value.pointer (some q1)))] ?_
  obtain ⟨x2, hx, h⟩ := bind_some h
  refine RS.o (H' := H) (some 19) (Sl3.v x2) (Abs.run_load (t := 38) (x := .tmp 18) (a := (Addr.add (Addr.add q1 0) 1)) (by kernel_rfl) (by kernel_rfl) (by kernel_rfl) (rd_cell hx deSl_inv)) ?_
  refine RS.mS 2 [(21, .val (Value.int .i64 0)), (20, .val (Value.int .i64 (x2.n : Int)))] ?_
  refine RS.dn ?_
  refine WS.nxt ?_
  refine WS.bk 0 ?_
  obtain ⟨o, hl, h⟩ := bind_some h
  rcases o with v21_4 | r
  · try dsimp only at h
    refine WS.lI (sort_book_allSorts_b0_ok (L := L) (E := E) (m := m) (H := H)) (L.ok hl) 0 ?_
    clear hl
    refine fun a w hs => bkE ((WS.nxt ?_ a w hs))
    refine WS.sq ?_
    refine WS.sq ?_
    refine WS.rg ?_
    refine RS.mS 4 [(52, .val (Value.pointer (some (Addr.add (Addr.add q1 0) 2)))), (51, .val (Value.pointer (some (Addr.add q1 0)))), (50, .val (Value.pointer (some q1))), (49, .val (Value.pointer (some q1)))] ?_
    obtain ⟨x5, hx, h⟩ := bind_some h
    refine RS.o (H' := H) (some 53) (Sl3.v x5) (Abs.run_load (t := 39) (x := .tmp 52) (a := (Addr.add (Addr.add q1 0) 2)) (by kernel_rfl) (by kernel_rfl) (by kernel_rfl) (rd_cell hx deSl_inv)) ?_
    refine RS.mS 2 [(55, .val (Value.int .i64 0)), (54, .val (Value.int .i64 (x5.n : Int)))] ?_
    refine RS.dn ?_
    refine WS.nxt ?_
    refine WS.bk 6 ?_
    obtain ⟨o, hl, h⟩ := bind_some h
    rcases o with ⟨H21, v55_22⟩ | r
    · try dsimp only at h
      refine WS.lI (sort_book_allSorts_b1_ok (L := L) (E := E) (m := m) (H := H)) (L.ok hl) 0 ?_
      clear hl
      refine fun a w hs => bkE ((WS.nxt ?_ a w hs))
      refine WS.sq ?_
      refine WS.rg ?_
      refine RS.mS 1 [(2, .val (Value.int .i64 0))] ?_
      refine RS.dn ?_
      refine WS.nxt ?_
      refine WS.rt ?_
      cases h
      exact fun a w hs => rtR (rS hs)
    · try dsimp only at h
      refine WS.lR (sort_book_allSorts_b1_ok (L := L) (E := E) (m := m) (H := H)) (L.ok hl) 0 ?_
      cases h
      exact fun a w hq => bkR (sqR (rtR hq))
  · try dsimp only at h
    refine WS.lR (sort_book_allSorts_b0_ok (L := L) (E := E) (m := m) (H := H)) (L.ok hl) 0 ?_
    cases h
    exact fun a w hq => bkR (sqR (rtR hq))

def sort_book_nested_enc : (Bool × AH) → Value
  | (r0, _) => (Value.bool r0)

def sort_book_nested_hp (_ : AH) : (Bool × AH) → AH := fun r => r.2

noncomputable def B77 : Code := (Tryz.f77.body).getD .skip

noncomputable def sort_book_nested_b0 (_L : LC) (_a1 : Sl3) (_q1 : Addr) (x2 : Sl3) : (AH × Int) → Option (Lp (AH × Int) (Bool × AH)) := fun (H3, v19_4) =>
  if v19_4 < (x2.n : Int) then
    none
  else
    some (.brk (H3, v19_4))

def sort_book_nested_b0_kn (_L : LC) (a1 : Sl3) (q1 : Addr) (x2 : Sl3) : (AH × Int) → KN := fun (_, v19_4) => [(19, .val (Value.int .i64 v19_4)), (0, .val (Value.pointer (some q1))), (1, .val (Sl3.v a1)), (17, .val (Sl3.v x2)), (18, .val (Value.int .i64 (x2.n : Int)))]

def sort_book_nested_b0_ls (_L : LC) (_a1 : Sl3) (_q1 : Addr) (_x2 : Sl3) : (AH × Int) → Lcs := fun (_, _) => []

noncomputable def sort_book_nested (L : LC) (_m : Nat) (H : AH) (a0 : Option Addr) (a1 : Sl3) : Option (Bool × AH) :=
  Option.bind a0 fun q1 =>
  Option.bind (rd deSl H (Addr.add (Addr.add q1 0) 1)) fun x2 =>
  Option.bind (L.run (sort_book_nested_b0 L a1 q1 x2) (H, 0)) fun o => match o with
  | .inl (H5, _) =>
    some (false, H5)
  | .inr r => some r

theorem sort_book_nested_b0_ok {E : Ent} {m : Nat} {H : AH} {L : LC} {a1 : Sl3} {q1 : Addr} {x2 : Sl3}  : ∀ s o, sort_book_nested_b0 L a1 q1 x2 s = some o →
    WS Tryz.prog (NE.plain 92) m E Tryz.f77.ntmps (cfst (cfst (csnd (cfst (csnd B77))))) (sort_book_nested_b0_kn L a1 q1 x2 s) (sort_book_nested_b0_ls L a1 q1 x2 s) ((fun s => s.1) s) (lpS Tryz.prog (NE.plain 92) m E Tryz.f77.ntmps (sort_book_nested_b0_kn L a1 q1 x2) (sort_book_nested_b0_ls L a1 q1 x2) (fun s => s.1) 0 (fun r => RT Tryz.prog (NE.plain 92) m E Tryz.f77 (sort_book_nested_enc r) (sort_book_nested_hp H r)) o) := by
  rintro ⟨H3, v19_4⟩ o h
  unfold sort_book_nested_b0 at h
  try dsimp only at h
  refine WS.sq ?_
  refine WS.rg ?_
  refine RS.mS 1 [(20, .val (Value.bool (decide (v19_4 < (x2.n : Int)))))] ?_
  refine RS.dn ?_
  refine WS.nxt ?_
  refine WS.sq ?_
  rcases ite_some h with ⟨hp, h⟩ | ⟨hp, h⟩
  · refine WS.fx 20 true (decide_eq_true hp) ?_
    refine WS.cT ?_
    cases h
  · refine WS.fx 20 false (decide_eq_false hp) ?_
    refine WS.cF ?_
    refine WS.ex 0 ?_
    cases h
    exact fun a w hs => sqE (lsB rfl (hs.sb 0))

theorem sort_book_nested_ok {L : LC} {m : Nat} {H : AH} {a0 : Option Addr} {a1 : Sl3} {r : (Bool × AH)} (h : sort_book_nested L m H a0 a1 = some r) :
    CallS Tryz.prog (NE.plain 92) m 77 #[(Value.pointer a0), (Sl3.v a1)] H (sort_book_nested_enc r) (sort_book_nested_hp H r) := by
  refine CallS.mk (args := [(Value.pointer a0), (Sl3.v a1)]) Tryz.func77 (B := B77) (by kernel_rfl) (fun E _ => ?_)
  unfold sort_book_nested at h
  refine WS.sq ?_
  refine WS.rg ?_
  refine RS.mS 1 [(4, .val (Value.bool false))] ?_
  refine RS.dn ?_
  refine WS.nxt ?_
  refine WS.sq ?_
  refine WS.sq ?_
  refine WS.rg ?_
  refine RS.mS 1 [(13, .val (Value.pointer a0))] ?_
  obtain ⟨q1, hx, hq1⟩ := bind_some h
  subst hx
  have h := hq1
  refine RS.mS 3 [(16, .val (Value.pointer (some (Addr.add (Addr.add q1 0) 1)))), (15, .val (Value.pointer (some (Addr.add q1 0)))), (14, .val (Value.pointer (some q1)))] ?_
  obtain ⟨x2, hx, h⟩ := bind_some h
  refine RS.o (H' := H) (some 17) (Sl3.v x2) (Abs.run_load (t := 38) (x := .tmp 16) (a := (Addr.add (Addr.add q1 0) 1)) (by kernel_rfl) (by kernel_rfl) (by kernel_rfl) (rd_cell hx deSl_inv)) ?_
  refine RS.mS 2 [(19, .val (Value.int .i64 0)), (18, .val (Value.int .i64 (x2.n : Int)))] ?_
  refine RS.dn ?_
  refine WS.nxt ?_
  refine WS.bk 0 ?_
  obtain ⟨o, hl, h⟩ := bind_some h
  rcases o with ⟨H5, v19_6⟩ | r
  · try dsimp only at h
    refine WS.lI (sort_book_nested_b0_ok (L := L) (E := E) (m := m) (H := H)) (L.ok hl) 0 ?_
    clear hl
    refine fun a w hs => bkE ((WS.nxt ?_ a w hs))
    refine WS.sq ?_
    refine WS.rg ?_
    refine RS.mS 1 [(4, .val (Value.bool false))] ?_
    refine RS.dn ?_
    refine WS.nxt ?_
    refine WS.rt ?_
    cases h
    exact fun a w hs => rtR (rS hs)
  · try dsimp only at h
    refine WS.lR (sort_book_nested_b0_ok (L := L) (E := E) (m := m) (H := H)) (L.ok hl) 0 ?_
    cases h
    exact fun a w hq => bkR (sqR (rtR hq))

def sort_book_leans_enc : (Sl3 × AH) → Value
  | (r0, _) => (Sl3.v r0)

def sort_book_leans_hp (_ : AH) : (Sl3 × AH) → AH := fun r => r.2

noncomputable def B78 : Code := (Tryz.f78.body).getD .skip

noncomputable def sort_book_leans_b0 (_L : LC) (_q1 : Addr) (x2 : Sl3) (_s3 : Sl3) : (AH × Int) → Option (Lp (AH × Int) (Sl3 × AH)) := fun (H5, v17_6) =>
  if v17_6 < (x2.n : Int) then
    none
  else
    some (.brk (H5, v17_6))

def sort_book_leans_b0_kn (_L : LC) (q1 : Addr) (x2 : Sl3) (s3 : Sl3) : (AH × Int) → KN := fun (_, v17_6) => [(17, .val (Value.int .i64 v17_6)), (0, .val (Value.pointer (some q1))), (3, .val (Value.int .i64 (x2.n : Int))), (4, .val (Sl3.v s3)), (16, .val (Value.int .i64 (x2.n : Int)))]

def sort_book_leans_b0_ls (_L : LC) (_q1 : Addr) (_x2 : Sl3) (_s3 : Sl3) : (AH × Int) → Lcs := fun (_, _) => []

noncomputable def sort_book_leans (L : LC) (_m : Nat) (H : AH) (a0 : Option Addr) : Option (Sl3 × AH) :=
  Option.bind a0 fun q1 =>
  Option.bind (rd deSl H (Addr.add (Addr.add q1 0) 1)) fun x2 =>
  Option.bind (mkS 84 1 24 #[(Sl3.v Sl3.nil)] H (x2.n : Int) (x2.n : Int)) fun (s3, H4) =>
  Option.bind (L.run (sort_book_leans_b0 L q1 x2 s3) (H4, 0)) fun o => match o with
  | .inl (H7, _) =>
    some (s3, H7)
  | .inr r => some r

theorem sort_book_leans_b0_ok {E : Ent} {m : Nat} {H : AH} {L : LC} {q1 : Addr} {x2 : Sl3} {s3 : Sl3}  : ∀ s o, sort_book_leans_b0 L q1 x2 s3 s = some o →
    WS Tryz.prog (NE.plain 92) m E Tryz.f78.ntmps (cfst (cfst (csnd (cfst (csnd (csnd (csnd B78))))))) (sort_book_leans_b0_kn L q1 x2 s3 s) (sort_book_leans_b0_ls L q1 x2 s3 s) ((fun s => s.1) s) (lpS Tryz.prog (NE.plain 92) m E Tryz.f78.ntmps (sort_book_leans_b0_kn L q1 x2 s3) (sort_book_leans_b0_ls L q1 x2 s3) (fun s => s.1) 0 (fun r => RT Tryz.prog (NE.plain 92) m E Tryz.f78 (sort_book_leans_enc r) (sort_book_leans_hp H r)) o) := by
  rintro ⟨H5, v17_6⟩ o h
  unfold sort_book_leans_b0 at h
  try dsimp only at h
  refine WS.sq ?_
  refine WS.rg ?_
  refine RS.mS 1 [(18, .val (Value.bool (decide (v17_6 < (x2.n : Int)))))] ?_
  refine RS.dn ?_
  refine WS.nxt ?_
  refine WS.sq ?_
  rcases ite_some h with ⟨hp, h⟩ | ⟨hp, h⟩
  · refine WS.fx 18 true (decide_eq_true hp) ?_
    refine WS.cT ?_
    cases h
  · refine WS.fx 18 false (decide_eq_false hp) ?_
    refine WS.cF ?_
    refine WS.ex 0 ?_
    cases h
    exact fun a w hs => sqE (lsB rfl (hs.sb 0))

theorem sort_book_leans_ok {L : LC} {m : Nat} {H : AH} {a0 : Option Addr} {r : (Sl3 × AH)} (h : sort_book_leans L m H a0 = some r) :
    CallS Tryz.prog (NE.plain 92) m 78 #[(Value.pointer a0)] H (sort_book_leans_enc r) (sort_book_leans_hp H r) := by
  refine CallS.mk (args := [(Value.pointer a0)]) Tryz.func78 (B := B78) (by kernel_rfl) (fun E _ => ?_)
  unfold sort_book_leans at h
  refine WS.sq ?_
  refine WS.rg ?_
  refine RS.mS 1 [(2, .val (Sl3.v Sl3.nil))] ?_
  refine RS.dn ?_
  refine WS.nxt ?_
  refine WS.sq ?_
  refine WS.rg ?_
  refine RS.mS 1 [(8, .val (Value.pointer a0))] ?_
  obtain ⟨q1, hx, hq1⟩ := bind_some h
  subst hx
  have h := hq1
  refine RS.mS 3 [(11, .val (Value.pointer (some (Addr.add (Addr.add q1 0) 1)))), (10, .val (Value.pointer (some (Addr.add q1 0)))), (9, .val (Value.pointer (some q1)))] ?_
  obtain ⟨x2, hx, h⟩ := bind_some h
  refine RS.o (H' := H) (some 12) (Sl3.v x2) (Abs.run_load (t := 38) (x := .tmp 11) (a := (Addr.add (Addr.add q1 0) 1)) (by kernel_rfl) (by kernel_rfl) (by kernel_rfl) (rd_cell hx deSl_inv)) ?_
  refine RS.mS 2 [(3, .val (Value.int .i64 (x2.n : Int))), (13, .val (Value.int .i64 (x2.n : Int)))] ?_
  refine RS.dn ?_
  refine WS.nxt ?_
  refine WS.sq ?_
  refine WS.rg ?_
  refine RS.mS 1 [(14, .val (Value.int .i64 (x2.n : Int)))] ?_
  obtain ⟨⟨s3, H4⟩, hx, h⟩ := bind_some h
  try dsimp only at h
  refine RS.o (H' := H4) (some 15) (Sl3.v s3) (Abs.run_mk (t := 147) (x := .tmp 14) (y := .tmp 14) (k1 := .i64) (k2 := .i64) (by kernel_rfl) (by kernel_rfl) (by kernel_rfl) (by kernel_rfl) hx) ?_
  refine RS.mS 1 [(4, .val (Sl3.v s3))] ?_
  refine RS.dn ?_
  refine WS.nxt ?_
  refine WS.sq ?_
  refine WS.sq ?_
  refine WS.rg ?_
  refine RS.mS 2 [(17, .val (Value.int .i64 0)), (16, .val (Value.int .i64 (x2.n : Int)))] ?_
  refine RS.dn ?_
  refine WS.nxt ?_
  refine WS.bk 0 ?_
  obtain ⟨o, hl, h⟩ := bind_some h
  rcases o with ⟨H7, v17_8⟩ | r
  · try dsimp only at h
    refine WS.lI (sort_book_leans_b0_ok (L := L) (E := E) (m := m) (H := H)) (L.ok hl) 0 ?_
    clear hl
    refine fun a w hs => bkE ((WS.nxt ?_ a w hs))
    refine WS.sq ?_
    refine WS.rg ?_
    refine RS.mS 2 [(2, .val (Sl3.v s3)), (56, .val (Sl3.v s3))] ?_
    refine RS.dn ?_
    refine WS.nxt ?_
    refine WS.rt ?_
    cases h
    exact fun a w hs => rtR (rS hs)
  · try dsimp only at h
    refine WS.lR (sort_book_leans_b0_ok (L := L) (E := E) (m := m) (H := H)) (L.ok hl) 0 ?_
    cases h
    exact fun a w hq => bkR (sqR (rtR hq))

def slices_Index_enc : Int → Value
  | r0 => (Value.int .i64 r0)

def slices_Index_hp (H : AH) : Int → AH := fun _ => H

noncomputable def B110 : Code := (Tryz.f110.body).getD .skip

noncomputable def slices_Index_b0 (_L : LC) (_H : AH) (a0 : Sl3) (_a1 : Bool) : Int → Option (Lp Int Int) := fun v8_1 =>
  if v8_1 < (a0.n : Int) then
    none
  else
    some (.brk v8_1)

def slices_Index_b0_kn (_L : LC) (_H : AH) (a0 : Sl3) (a1 : Bool) : Int → KN := fun v8_1 => [(8, .val (Value.int .i64 v8_1)), (0, .val (Sl3.v a0)), (1, .val (Value.bool a1)), (7, .val (Value.int .i64 (a0.n : Int)))]

def slices_Index_b0_ls (_L : LC) (_H : AH) (_a0 : Sl3) (_a1 : Bool) : Int → Lcs := fun _ => []

noncomputable def slices_Index (L : LC) (H : AH) (a0 : Sl3) (a1 : Bool) : Option Int :=
  Option.bind (L.run (slices_Index_b0 L H a0 a1) 0) fun o => match o with
  | .inl _ =>
    some (-1)
  | .inr r => some r

theorem slices_Index_b0_ok {E : Ent} {m : Nat} {L : LC} {H : AH} {a0 : Sl3} {a1 : Bool}  : ∀ s o, slices_Index_b0 L H a0 a1 s = some o →
    WS Tryz.prog (NE.plain 92) m E Tryz.f110.ntmps (cfst (cfst (csnd (cfst (csnd B110))))) (slices_Index_b0_kn L H a0 a1 s) (slices_Index_b0_ls L H a0 a1 s) ((fun _ => H) s) (lpS Tryz.prog (NE.plain 92) m E Tryz.f110.ntmps (slices_Index_b0_kn L H a0 a1) (slices_Index_b0_ls L H a0 a1) (fun _ => H) 0 (fun r => RT Tryz.prog (NE.plain 92) m E Tryz.f110 (slices_Index_enc r) (slices_Index_hp H r)) o) := by
  rintro v8_1 o h
  unfold slices_Index_b0 at h
  try dsimp only at h
  refine WS.sq ?_
  refine WS.rg ?_
  refine RS.mS 1 [(9, .val (Value.bool (decide (v8_1 < (a0.n : Int)))))] ?_
  refine RS.dn ?_
  refine WS.nxt ?_
  refine WS.sq ?_
  rcases ite_some h with ⟨hp, h⟩ | ⟨hp, h⟩
  · refine WS.fx 9 true (decide_eq_true hp) ?_
    refine WS.cT ?_
    cases h
  · refine WS.fx 9 false (decide_eq_false hp) ?_
    refine WS.cF ?_
    refine WS.ex 0 ?_
    cases h
    exact fun a w hs => sqE (lsB rfl (hs.sb 0))

theorem slices_Index_ok {L : LC} {m : Nat} {H : AH} {a0 : Sl3} {a1 : Bool} {r : Int} (h : slices_Index L H a0 a1 = some r) :
    CallS Tryz.prog (NE.plain 92) m 110 #[(Sl3.v a0), (Value.bool a1)] H (slices_Index_enc r) (slices_Index_hp H r) := by
  refine CallS.mk (args := [(Sl3.v a0), (Value.bool a1)]) Tryz.func110 (B := B110) (by kernel_rfl) (fun E _ => ?_)
  unfold slices_Index at h
  refine WS.sq ?_
  refine WS.rg ?_
  refine RS.mS 1 [(4, .val (Value.int .i64 0))] ?_
  refine RS.dn ?_
  refine WS.nxt ?_
  refine WS.sq ?_
  refine WS.sq ?_
  refine WS.rg ?_
  refine RS.mS 3 [(8, .val (Value.int .i64 0)), (7, .val (Value.int .i64 (a0.n : Int))), (6, .val (Sl3.v a0))] ?_
  refine RS.dn ?_
  refine WS.nxt ?_
  refine WS.bk 0 ?_
  obtain ⟨o, hl, h⟩ := bind_some h
  rcases o with v8_2 | r
  · try dsimp only at h
    refine WS.lI (slices_Index_b0_ok (L := L) (E := E) (m := m) (H := H)) (L.ok hl) 0 ?_
    clear hl
    refine fun a w hs => bkE ((WS.nxt ?_ a w hs))
    refine WS.sq ?_
    refine WS.rg ?_
    refine RS.mS 1 [(4, .val (Value.int .i64 (-1)))] ?_
    refine RS.dn ?_
    refine WS.nxt ?_
    refine WS.rt ?_
    cases h
    exact fun a w hs => rtR (rS hs)
  · try dsimp only at h
    refine WS.lR (slices_Index_b0_ok (L := L) (E := E) (m := m) (H := H)) (L.ok hl) 0 ?_
    cases h
    exact fun a w hq => bkR (sqR (rtR hq))

def slices_Contains_enc : Bool → Value
  | r0 => (Value.bool r0)

def slices_Contains_hp (H : AH) : Bool → AH := fun _ => H

noncomputable def B79 : Code := (Tryz.f79.body).getD .skip

noncomputable def slices_Contains (L : LC) (H : AH) (a0 : Sl3) (a1 : Bool) : Option Bool :=
  Option.bind (slices_Index L H a0 a1) fun x1 =>
  some (decide (x1 ≥ 0))

theorem slices_Contains_ok {L : LC} {m : Nat} {H : AH} {a0 : Sl3} {a1 : Bool} {r : Bool} (h : slices_Contains L H a0 a1 = some r) :
    CallS Tryz.prog (NE.plain 92) m 79 #[(Sl3.v a0), (Value.bool a1)] H (slices_Contains_enc r) (slices_Contains_hp H r) := by
  refine CallS.mk (args := [(Sl3.v a0), (Value.bool a1)]) Tryz.func79 (B := B79) (by kernel_rfl) (fun E _ => ?_)
  unfold slices_Contains at h
  refine WS.sq ?_
  refine WS.rg ?_
  refine RS.mS 1 [(4, .val (Value.bool false))] ?_
  refine RS.dn ?_
  refine WS.nxt ?_
  refine WS.sq ?_
  refine WS.rg ?_
  refine RS.mS 2 [(6, .val (Value.bool a1)), (5, .val (Sl3.v a0))] ?_
  obtain ⟨x1, hx, h⟩ := bind_some h
  refine RS.cl (some 7) (v := (Value.int .i64 x1)) 110 #[(Sl3.v a0), (Value.bool a1)] (slices_Index_ok hx) ?_
  refine RS.mS 2 [(4, .val (Value.bool (decide (x1 ≥ 0)))), (8, .val (Value.bool (decide (x1 ≥ 0))))] ?_
  refine RS.dn ?_
  refine WS.nxt ?_
  refine WS.rt ?_
  cases h
  exact fun a w hs => rtR (rS hs)

end Go.Proofs.YtgkogeglciogkaaGreatDoor

namespace Go.Proofs.YtgkogeglciogkaaGreatDoor
open Go Go.Abs
set_option maxRecDepth 100000

def sort_book_ground_enc : (Sl3 × AH) → Value
  | (r0, _) => (Sl3.v r0)

def sort_book_ground_hp (_ : AH) : (Sl3 × AH) → AH := fun r => r.2

noncomputable def B80 : Code := (Tryz.f80.body).getD .skip

noncomputable def sort_book_ground_b1 (_L : LC) (_p1 : Addr) (_p8 : Addr) (x14 : Sl3) : (AH × Int) → Option (Lp (AH × Int) ((Sl3 × AH) ⊕ AH)) := fun (H16, v21_17) =>
  if v21_17 < (x14.n : Int) then
    none
  else
    some (.brk (H16, v21_17))

def sort_book_ground_b1_kn (_L : LC) (p1 : Addr) (p8 : Addr) (x14 : Sl3) : (AH × Int) → KN := fun (_, v21_17) => [(21, .val (Value.int .i64 v21_17)), (1, .val (Value.pointer (some p1))), (3, .val (Value.pointer (some p8))), (19, .val (Sl3.v x14)), (20, .val (Value.int .i64 (x14.n : Int)))]

def sort_book_ground_b1_ls (_L : LC) (_p1 : Addr) (_p8 : Addr) (_x14 : Sl3) : (AH × Int) → Lcs := fun (_, _) => []

def sort_book_ground_b1_xkn (_L : LC) (p1 : Addr) (p8 : Addr) (_x14 : Sl3) : AH → KN := fun _ => [(1, .val (Value.pointer (some p1))), (3, .val (Value.pointer (some p8)))]

def sort_book_ground_b1_xls (_L : LC) (_p1 : Addr) (_p8 : Addr) (_x14 : Sl3) : AH → Lcs := fun _ => []

noncomputable def sort_book_ground_b0 (L : LC) (p1 : Addr) (p8 : Addr) : AH → Option (Lp AH (Sl3 × AH)) := fun H11 =>
  Option.bind (rd deP H11 p1) fun x12 =>
  Option.bind x12 fun q13 =>
  Option.bind (rd deSl H11 (Addr.add (Addr.add q13 0) 1)) fun x14 =>
  Option.bind (L.run (sort_book_ground_b1 L p1 p8 x14) (H11, 0)) fun o => match o with
  | .inl (H18, _) =>
    some (.brk H18)
  | .inr (.inl r) => some (.ret r)
  | .inr (.inr H20) =>
    some (.next H20)

def sort_book_ground_b0_kn (_L : LC) (p1 : Addr) (p8 : Addr) : AH → KN := fun _ => [(1, .val (Value.pointer (some p1))), (3, .val (Value.pointer (some p8)))]

def sort_book_ground_b0_ls (_L : LC) (_p1 : Addr) (_p8 : Addr) : AH → Lcs := fun _ => []

noncomputable def sort_book_ground (L : LC) (m : Nat) (H : AH) (a0 : Option Addr) : Option (Sl3 × AH) :=
  Option.bind (newB 143 [(Value.pointer a0)] H) fun (p1, H2) =>
  Option.bind (rd deP H2 p1) fun x3 =>
  Option.bind x3 fun q4 =>
  Option.bind (rd deSl H2 (Addr.add (Addr.add q4 0) 1)) fun x5 =>
  Option.bind (mkS 4 1 1 #[(Value.bool false)] H2 (x5.n : Int) (x5.n : Int)) fun (s6, H7) =>
  Option.bind (newB 84 [(Sl3.v Sl3.nil)] H7) fun (p8, H9) =>
  Option.bind (H9.setCell m p8 (Sl3.v s6)) fun H10 =>
  Option.bind (L.run (sort_book_ground_b0 L p1 p8) H10) fun o => match o with
  | .inl H21 =>
    Option.bind (rd deSl H21 p8) fun x22 =>
    some (x22, H21)
  | .inr r => some r

theorem sort_book_ground_b1_ok {E : Ent} {m : Nat} {H : AH} {L : LC} {p1 : Addr} {p8 : Addr} {x14 : Sl3}  : ∀ s o, sort_book_ground_b1 L p1 p8 x14 s = some o →
    WS Tryz.prog (NE.plain 92) m E Tryz.f80.ntmps (cfst (cfst (csnd (cfst (cfst (cfst (cfst (cfst (csnd (csnd (cfst (csnd B80)))))))))))) (sort_book_ground_b1_kn L p1 p8 x14 s) (sort_book_ground_b1_ls L p1 p8 x14 s) ((fun s => s.1) s) (lpX Tryz.prog (NE.plain 92) m E Tryz.f80.ntmps (sort_book_ground_b1_kn L p1 p8 x14) (sort_book_ground_b1_ls L p1 p8 x14) (fun s => s.1) 2 (fun r e a w => match r with | .inl r => e = .ret ∧ RT Tryz.prog (NE.plain 92) m E Tryz.f80 (sort_book_ground_enc r) (sort_book_ground_hp H r) a w | .inr x => e = .exit 1 ∧ SS Tryz.prog (NE.plain 92) m E Tryz.f80.ntmps (sort_book_ground_b1_xkn L p1 p8 x14 x) (sort_book_ground_b1_xls L p1 p8 x14 x) ((fun s => s) x) a w) o) := by
  rintro ⟨H16, v21_17⟩ o h
  unfold sort_book_ground_b1 at h
  try dsimp only at h
  refine WS.sq ?_
  refine WS.rg ?_
  refine RS.mS 1 [(22, .val (Value.bool (decide (v21_17 < (x14.n : Int)))))] ?_
  refine RS.dn ?_
  refine WS.nxt ?_
  refine WS.sq ?_
  rcases ite_some h with ⟨hp, h⟩ | ⟨hp, h⟩
  · refine WS.fx 22 true (decide_eq_true hp) ?_
    refine WS.cT ?_
    cases h
  · refine WS.fx 22 false (decide_eq_false hp) ?_
    refine WS.cF ?_
    refine WS.ex 2 ?_
    cases h
    exact fun a w hs => sqE (lxB rfl (hs.sb 0))

theorem sort_book_ground_b0_ok {E : Ent} {m : Nat} {H : AH} {L : LC} {p1 : Addr} {p8 : Addr}  : ∀ s o, sort_book_ground_b0 L p1 p8 s = some o →
    WS Tryz.prog (NE.plain 92) m E Tryz.f80.ntmps (cfst (cfst (cfst (csnd (csnd (cfst (csnd B80))))))) (sort_book_ground_b0_kn L p1 p8 s) (sort_book_ground_b0_ls L p1 p8 s) ((fun s => s) s) (lpS Tryz.prog (NE.plain 92) m E Tryz.f80.ntmps (sort_book_ground_b0_kn L p1 p8) (sort_book_ground_b0_ls L p1 p8) (fun s => s) 0 (fun r => RT Tryz.prog (NE.plain 92) m E Tryz.f80 (sort_book_ground_enc r) (sort_book_ground_hp H r)) o) := by
  rintro H11 o h
  unfold sort_book_ground_b0 at h
  try dsimp only at h
  refine WS.bk 1 ?_
  refine WS.sq ?_
  refine WS.sq ?_
  refine WS.rg ?_
  obtain ⟨x12, hx, h⟩ := bind_some h
  refine RS.o (H' := H11) (some 15) (Value.pointer x12) (Abs.run_load (t := 143) (x := .tmp 1) (a := p1) (by kernel_rfl) (by kernel_rfl) (by kernel_rfl) (rd_cell hx deP_inv)) ?_
  obtain ⟨q13, hx, hq13⟩ := bind_some h
  subst hx
  have h := hq13
  refine RS.mS 3 [(18, .val (Value.pointer (some (Addr.add (Addr.add q13 0) 1)))), (17, .val (Value.pointer (some (Addr.add q13 0)))), (16, .val (Value.pointer (some q13)))] ?_
  obtain ⟨x14, hx, h⟩ := bind_some h
  refine RS.o (H' := H11) (some 19) (Sl3.v x14) (Abs.run_load (t := 38) (x := .tmp 18) (a := (Addr.add (Addr.add q13 0) 1)) (by kernel_rfl) (by kernel_rfl) (by kernel_rfl) (rd_cell hx deSl_inv)) ?_
  refine RS.mS 2 [(21, .val (Value.int .i64 0)), (20, .val (Value.int .i64 (x14.n : Int)))] ?_
  refine RS.dn ?_
  refine WS.nxt ?_
  refine WS.bk 2 ?_
  obtain ⟨o, hl, h⟩ := bind_some h
  rcases o with ⟨H18, v21_19⟩ | (r | H20)
  · try dsimp only at h
    refine WS.lXI (sort_book_ground_b1_ok (L := L) (E := E) (m := m) (H := H)) (L.ok hl) 0 ?_
    clear hl
    refine fun a w hs => bkE ((WS.nxt ?_ a w hs))
    refine WS.ex 0 ?_
    cases h
    exact fun a w hs => bkX (by kernel_rfl) (lsB rfl (hs.sb 0))
  · try dsimp only at h
    refine WS.lXR (sort_book_ground_b1_ok (L := L) (E := E) (m := m) (H := H)) (L.ok hl) 0 ?_
    cases h
    refine fun e a w hq => ?_
    obtain ⟨rfl, hq⟩ := hq
    exact bkR (sqR (bkR (lsR rfl hq)))
  · try dsimp only at h
    refine WS.lXR (sort_book_ground_b1_ok (L := L) (E := E) (m := m) (H := H)) (L.ok hl) 0 ?_
    clear hl
    refine fun e a w hs => ?_
    obtain ⟨rfl, hs⟩ := hs
    revert hs
    revert w
    revert a
    cases h
    exact fun a w hs => bkX (by kernel_rfl) (sqE (bkE (lsN rfl (hs.sb 0))))

theorem sort_book_ground_ok {L : LC} {m : Nat} {H : AH} {a0 : Option Addr} {r : (Sl3 × AH)} (h : sort_book_ground L m H a0 = some r) :
    CallS Tryz.prog (NE.plain 92) m 80 #[(Value.pointer a0)] H (sort_book_ground_enc r) (sort_book_ground_hp H r) := by
  refine CallS.mk (args := [(Value.pointer a0)]) Tryz.func80 (B := B80) (by kernel_rfl) (fun E _ => ?_)
  unfold sort_book_ground at h
  refine WS.sq ?_
  refine WS.rg ?_
  obtain ⟨⟨p1, H2⟩, hx, h⟩ := bind_some h
  try dsimp only at h
  refine RS.o (H' := H2) (some 1) (Value.pointer (some p1)) (Abs.run_newB (by kernel_rfl) hx) ?_
  refine RS.mS 1 [(2, .val (Sl3.v Sl3.nil))] ?_
  refine RS.dn ?_
  refine WS.nxt ?_
  refine WS.scope (by kernel_rfl) ?_
  refine WS.sq ?_
  refine WS.rg ?_
  obtain ⟨x3, hx, h⟩ := bind_some h
  refine RS.o (H' := H2) (some 8) (Value.pointer x3) (Abs.run_load (t := 143) (x := .tmp 1) (a := p1) (by kernel_rfl) (by kernel_rfl) (by kernel_rfl) (rd_cell hx deP_inv)) ?_
  obtain ⟨q4, hx, hq4⟩ := bind_some h
  subst hx
  have h := hq4
  refine RS.mS 3 [(11, .val (Value.pointer (some (Addr.add (Addr.add q4 0) 1)))), (10, .val (Value.pointer (some (Addr.add q4 0)))), (9, .val (Value.pointer (some q4)))] ?_
  obtain ⟨x5, hx, h⟩ := bind_some h
  refine RS.o (H' := H2) (some 12) (Sl3.v x5) (Abs.run_load (t := 38) (x := .tmp 11) (a := (Addr.add (Addr.add q4 0) 1)) (by kernel_rfl) (by kernel_rfl) (by kernel_rfl) (rd_cell hx deSl_inv)) ?_
  refine RS.mS 1 [(13, .val (Value.int .i64 (x5.n : Int)))] ?_
  obtain ⟨⟨s6, H7⟩, hx, h⟩ := bind_some h
  try dsimp only at h
  refine RS.o (H' := H7) (some 14) (Sl3.v s6) (Abs.run_mk (t := 84) (x := .tmp 13) (y := .tmp 13) (k1 := .i64) (k2 := .i64) (by kernel_rfl) (by kernel_rfl) (by kernel_rfl) (by kernel_rfl) hx) ?_
  obtain ⟨⟨p8, H9⟩, hx, h⟩ := bind_some h
  try dsimp only at h
  refine RS.o (H' := H9) (some 3) (Value.pointer (some p8)) (Abs.run_newB (by kernel_rfl) hx) ?_
  obtain ⟨H10, hx, h⟩ := bind_some h
  refine RS.o (H' := H10) none undef (Abs.run_store1 (t := 84) (x := .tmp 3) (y := .tmp 14) (a := p8) (v := (Sl3.v s6)) (by kernel_rfl) (by kernel_rfl) (by kernel_rfl) (by kernel_rfl) (by kernel_rfl) hx) ?_
  refine RS.dn ?_
  refine WS.nxt ?_
  refine WS.sq ?_
  refine WS.sk ?_
  refine WS.nxt ?_
  refine WS.sq ?_
  refine WS.bk 0 ?_
  obtain ⟨o, hl, h⟩ := bind_some h
  rcases o with H21 | r
  · try dsimp only at h
    refine WS.lI (sort_book_ground_b0_ok (L := L) (E := E) (m := m) (H := H)) (L.ok hl) 0 ?_
    clear hl
    refine fun a w hs => bkE ((WS.nxt ?_ a w hs))
    refine WS.sq ?_
    refine WS.rg ?_
    obtain ⟨x22, hx, h⟩ := bind_some h
    refine RS.o (H' := H21) (some 47) (Sl3.v x22) (Abs.run_load (t := 84) (x := .tmp 3) (a := p8) (by kernel_rfl) (by kernel_rfl) (by kernel_rfl) (rd_cell hx deSl_inv)) ?_
    refine RS.mS 1 [(2, .val (Sl3.v x22))] ?_
    refine RS.dn ?_
    refine WS.nxt ?_
    refine WS.rt ?_
    cases h
    exact fun a w hs => sgR (rtR (rS hs))
  · try dsimp only at h
    refine WS.lR (sort_book_ground_b0_ok (L := L) (E := E) (m := m) (H := H)) (L.ok hl) 0 ?_
    cases h
    exact fun a w hq => bkR (sqR (sgR (rtR hq)))

def sort_CheckSig_enc : (Int × AH) → Value
  | (r0, _) => (Value.int .i64 r0)

def sort_CheckSig_hp (_ : AH) : (Int × AH) → AH := fun r => r.2

noncomputable def B46 : Code := (Tryz.f46.body).getD .skip

noncomputable def sort_CheckSig_b0 (L : LC) (_a0_0 : Sl3) (_a0_1 : Sl3) (_a0_2 : Sl3) (_x2 : Sl3) (_x3 : Sl3) (s7 : Sl3) (H8 : AH) : Int → Option (Lp Int (Int × AH)) := fun v21_9 =>
  if v21_9 < (s7.n : Int) then
    Option.bind (idxA 1 s7 v21_9) fun p10 =>
    Option.bind (rd deS H8 p10) fun x11 =>
    Option.bind (sort_Name L x11) fun x12 =>
    if x12 = true then
      some (.next (IntKind.i64.wrap (v21_9 + 1)))
    else
      none
  else
    some (.brk v21_9)

def sort_CheckSig_b0_kn (_L : LC) (_a0_0 : Sl3) (_a0_1 : Sl3) (_a0_2 : Sl3) (x2 : Sl3) (x3 : Sl3) (s7 : Sl3) (_H8 : AH) : Int → KN := fun v21_9 => [(21, .val (Value.int .i64 v21_9)), (1, .loc 0 0), (3, .val (Sl3.v x2)), (4, .val (Sl3.v x3)), (19, .val (Sl3.v s7)), (20, .val (Value.int .i64 (s7.n : Int)))]

def sort_CheckSig_b0_ls (_L : LC) (a0_0 : Sl3) (a0_1 : Sl3) (a0_2 : Sl3) (_x2 : Sl3) (_x3 : Sl3) (_s7 : Sl3) (_H8 : AH) : Int → Lcs := fun _ => [some (41, [(Sl3.v a0_0), (Sl3.v a0_1), (Sl3.v a0_2)])]

noncomputable def sort_CheckSig (L : LC) (m : Nat) (H : AH) (a0_0 : Sl3) (a0_1 : Sl3) (a0_2 : Sl3) : Option (Int × AH) :=
  Option.bind (sort_many L H a0_0 a0_1 a0_2) fun x1 =>
  if x1 = true then
    none
  else
    Option.bind (sort_names L m H a0_0 a0_1 a0_2) fun (x2, x3, H4) =>
    Option.bind (slices_Clone_47 L m H4 x2) fun (x5, H6) =>
    Option.bind (appS m 9 1 16 H6 x5 x3) fun (s7, H8) =>
    Option.bind (L.run (sort_CheckSig_b0 L a0_0 a0_1 a0_2 x2 x3 s7 H8) 0) fun o => match o with
    | .inl _ =>
      Option.bind (sort_twice L m H8 x2) fun (x14, H15) =>
      if x14 = true then
        none
      else
        Option.bind (sort_twice L m H15 x3) fun (x16, H17) =>
        if x16 = true then
          none
        else
          Option.bind (sort_open L m H17 a0_0 a0_1 a0_2) fun (x18, H19) =>
          Option.bind (sort_book_allSorts L m H19 x18) fun (x20, H21) =>
          if x20 = 0 then
            Option.bind (sort_book_leans L m H21 x18) fun (x22, H23) =>
            Option.bind (sort_book_nested L m H23 x18 x22) fun (x24, H25) =>
            if x24 = true then
              none
            else
              Option.bind (sort_book_ground L m H25 x18) fun (x26, H27) =>
              Option.bind (slices_Contains L H27 x26 false) fun x28 =>
              if x28 = true then
                none
              else
                some (0, H27)
          else
            none
    | .inr r => some r

theorem sort_CheckSig_b0_ok {E : Ent} {m : Nat} {H : AH} {L : LC} {a0_0 : Sl3} {a0_1 : Sl3} {a0_2 : Sl3} {x2 : Sl3} {x3 : Sl3} {s7 : Sl3} {H8 : AH}  : ∀ s o, sort_CheckSig_b0 L a0_0 a0_1 a0_2 x2 x3 s7 H8 s = some o →
    WS Tryz.prog (NE.plain 92) m E Tryz.f46.ntmps (cfst (cfst (csnd (cfst (csnd (csnd (csnd B46))))))) (sort_CheckSig_b0_kn L a0_0 a0_1 a0_2 x2 x3 s7 H8 s) (sort_CheckSig_b0_ls L a0_0 a0_1 a0_2 x2 x3 s7 H8 s) ((fun _ => H8) s) (lpS Tryz.prog (NE.plain 92) m E Tryz.f46.ntmps (sort_CheckSig_b0_kn L a0_0 a0_1 a0_2 x2 x3 s7 H8) (sort_CheckSig_b0_ls L a0_0 a0_1 a0_2 x2 x3 s7 H8) (fun _ => H8) 0 (fun r => RT Tryz.prog (NE.plain 92) m E Tryz.f46 (sort_CheckSig_enc r) (sort_CheckSig_hp H r)) o) := by
  rintro v21_9 o h
  unfold sort_CheckSig_b0 at h
  try dsimp only at h
  refine WS.sq ?_
  refine WS.rg ?_
  refine RS.mS 1 [(22, .val (Value.bool (decide (v21_9 < (s7.n : Int)))))] ?_
  refine RS.dn ?_
  refine WS.nxt ?_
  refine WS.sq ?_
  rcases ite_some h with ⟨hp, h⟩ | ⟨hp, h⟩
  · refine WS.fx 22 true (decide_eq_true hp) ?_
    refine WS.cT ?_
    refine WS.sk ?_
    refine WS.nxt ?_
    refine WS.sq ?_
    refine WS.bk 1 ?_
    refine WS.sq ?_
    refine WS.rg ?_
    obtain ⟨p10, hx, h⟩ := bind_some h
    refine RS.o (H' := H8) (some 23) (Value.pointer (some p10)) (Abs.run_idx (s := s7) (k := .i64) (t := 37) (e := 9) (x := .tmp 19) (y := .tmp 21) (by kernel_rfl) (by kernel_rfl) (by kernel_rfl) (by kernel_rfl) (by kernel_rfl) hx) ?_
    obtain ⟨x11, hx, h⟩ := bind_some h
    refine RS.o (H' := H8) (some 24) (Value.string x11) (Abs.run_load (t := 9) (x := .tmp 23) (a := p10) (by kernel_rfl) (by kernel_rfl) (by kernel_rfl) (rd_cell hx deS_inv)) ?_
    refine RS.mS 1 [(6, .val (Value.string x11))] ?_
    refine RS.dn ?_
    refine WS.nxt ?_
    refine WS.sq ?_
    refine WS.rg ?_
    refine RS.mS 1 [(25, .val (Value.string x11))] ?_
    obtain ⟨x12, hx, h⟩ := bind_some h
    refine RS.cl (some 26) (v := (Value.bool x12)) 73 #[(Value.string x11)] (sort_Name_ok hx) ?_
    refine RS.mS 1 [(27, .val (Value.bool (!x12)))] ?_
    refine RS.dn ?_
    refine WS.nxt ?_
    rcases ite_some h with ⟨hp, h⟩ | ⟨hp, h⟩
    · refine WS.fx 27 false (nb_not hp) ?_
      refine WS.cF ?_
      refine WS.sk ?_
      refine fun a w hs => bkN ((WS.nxt ?_ a w hs))
      refine WS.rg ?_
      refine RS.mS 2 [(21, .val (Value.int .i64 (IntKind.i64.wrap (v21_9 + 1)))), (28, .val (Value.int .i64 (IntKind.i64.wrap (v21_9 + 1))))] ?_
      refine RS.dn ?_
      cases h
      exact fun a w hs => lsN rfl (hs.sb 1)
    · refine WS.fx 27 true (nb_not' hp) ?_
      refine WS.cT ?_
      cases h
  · refine WS.fx 22 false (decide_eq_false hp) ?_
    refine WS.cF ?_
    refine WS.ex 0 ?_
    cases h
    exact fun a w hs => sqE (lsB rfl (hs.sb 1))

theorem sort_CheckSig_ok {L : LC} {m : Nat} {H : AH} {a0_0 : Sl3} {a0_1 : Sl3} {a0_2 : Sl3} {r : (Int × AH)} (h : sort_CheckSig L m H a0_0 a0_1 a0_2 = some r) :
    CallS Tryz.prog (NE.plain 92) m 46 #[(Value.agg #[(Sl3.v a0_0), (Sl3.v a0_1), (Sl3.v a0_2)])] H (sort_CheckSig_enc r) (sort_CheckSig_hp H r) := by
  refine CallS.mk (args := [(Value.agg #[(Sl3.v a0_0), (Sl3.v a0_1), (Sl3.v a0_2)])]) Tryz.func46 (B := B46) (by kernel_rfl) (fun E _ => ?_)
  unfold sort_CheckSig at h
  refine WS.sq ?_
  refine WS.rg ?_
  refine RS.mL 2 [(2, .val (Value.int .i64 0)), (1, .loc 0 0)] ([some (41, [(Sl3.v a0_0), (Sl3.v a0_1), (Sl3.v a0_2)])]) ?_
  refine RS.dn ?_
  refine WS.nxt ?_
  refine WS.sq ?_
  refine WS.sq ?_
  refine WS.rg ?_
  refine RS.mS 1 [(9, .val (Value.agg #[(Sl3.v a0_0), (Sl3.v a0_1), (Sl3.v a0_2)]))] ?_
  obtain ⟨x1, hx, h⟩ := bind_some h
  refine RS.cl (some 10) (v := (Value.bool x1)) 71 #[(Value.agg #[(Sl3.v a0_0), (Sl3.v a0_1), (Sl3.v a0_2)])] (sort_many_ok hx) ?_
  refine RS.dn ?_
  refine WS.nxt ?_
  rcases ite_some h with ⟨hp, h⟩ | ⟨hp, h⟩
  · refine WS.fx 10 true hp ?_
    refine WS.cT ?_
    cases h
  · refine WS.fx 10 false (b_not hp) ?_
    refine WS.cF ?_
    refine WS.sk ?_
    refine WS.nxt ?_
    refine WS.sq ?_
    refine WS.rg ?_
    refine RS.mS 1 [(12, .val (Value.agg #[(Sl3.v a0_0), (Sl3.v a0_1), (Sl3.v a0_2)]))] ?_
    obtain ⟨⟨x2, x3, H4⟩, hx, h⟩ := bind_some h
    try dsimp only at h
    refine RS.cl (some 13) (v := (Value.tuple #[(Sl3.v x2), (Sl3.v x3)])) 72 #[(Value.agg #[(Sl3.v a0_0), (Sl3.v a0_1), (Sl3.v a0_2)])] (sort_names_ok hx) ?_
    refine RS.mS 5 [(4, .val (Sl3.v x3)), (3, .val (Sl3.v x2)), (15, .val (Sl3.v x3)), (14, .val (Sl3.v x2)), (11, .val (Value.tuple #[(Sl3.v x2), (Sl3.v x3)]))] ?_
    refine RS.dn ?_
    refine WS.nxt ?_
    refine WS.sq ?_
    refine WS.sq ?_
    refine WS.rg ?_
    refine RS.mS 1 [(16, .val (Sl3.v x2))] ?_
    obtain ⟨⟨x5, H6⟩, hx, h⟩ := bind_some h
    try dsimp only at h
    refine RS.cl (some 17) (v := (Sl3.v x5)) 47 #[(Sl3.v x2)] (slices_Clone_47_ok hx) ?_
    refine RS.mS 1 [(18, .val (Sl3.v x3))] ?_
    obtain ⟨⟨s7, H8⟩, hx, h⟩ := bind_some h
    try dsimp only at h
    refine RS.o (H' := H8) (some 19) (Sl3.v s7) (Abs.run_app (x := .tmp 17) (y := .tmp 18) (ts := #[37, 37]) (s := x5) (z := x3) (by kernel_rfl) (by kernel_rfl) (by kernel_rfl) (by kernel_rfl) hx) ?_
    refine RS.mS 2 [(21, .val (Value.int .i64 0)), (20, .val (Value.int .i64 (s7.n : Int)))] ?_
    refine RS.dn ?_
    refine WS.nxt ?_
    refine WS.bk 0 ?_
    obtain ⟨o, hl, h⟩ := bind_some h
    rcases o with v21_13 | r
    · try dsimp only at h
      refine WS.lI (sort_CheckSig_b0_ok (L := L) (E := E) (m := m) (H := H)) (L.ok hl) 1 ?_
      clear hl
      refine fun a w hs => bkE ((WS.nxt ?_ a w hs))
      refine WS.sq ?_
      refine WS.sq ?_
      refine WS.rg ?_
      refine RS.mS 1 [(29, .val (Sl3.v x2))] ?_
      obtain ⟨⟨x14, H15⟩, hx, h⟩ := bind_some h
      try dsimp only at h
      refine RS.cl (some 30) (v := (Value.bool x14)) 74 #[(Sl3.v x2)] (sort_twice_ok hx) ?_
      refine RS.mS 1 [(31, .val (Value.bool x14))] ?_
      rcases ite_some h with ⟨hp, h⟩ | ⟨hp, h⟩
      · refine RS.fx 31 true hp ?_
        cases h
      · refine RS.fx 31 false (b_not hp) ?_
        refine RS.mS 1 [(32, .val (Sl3.v x3))] ?_
        obtain ⟨⟨x16, H17⟩, hx, h⟩ := bind_some h
        try dsimp only at h
        refine RS.cl (some 33) (v := (Value.bool x16)) 74 #[(Sl3.v x3)] (sort_twice_ok hx) ?_
        refine RS.mS 1 [(34, .val (Value.bool x16))] ?_
        refine RS.dn ?_
        refine WS.nxt ?_
        rcases ite_some h with ⟨hp, h⟩ | ⟨hp, h⟩
        · refine WS.fx 34 true hp ?_
          refine WS.cT ?_
          cases h
        · refine WS.fx 34 false (b_not hp) ?_
          refine WS.cF ?_
          refine WS.sk ?_
          refine WS.nxt ?_
          refine WS.sq ?_
          refine WS.rg ?_
          refine RS.mS 1 [(35, .val (Value.agg #[(Sl3.v a0_0), (Sl3.v a0_1), (Sl3.v a0_2)]))] ?_
          obtain ⟨⟨x18, H19⟩, hx, h⟩ := bind_some h
          try dsimp only at h
          refine RS.cl (some 36) (v := (Value.pointer x18)) 75 #[(Value.agg #[(Sl3.v a0_0), (Sl3.v a0_1), (Sl3.v a0_2)])] (sort_open_ok hx) ?_
          refine RS.mS 1 [(7, .val (Value.pointer x18))] ?_
          refine RS.dn ?_
          refine WS.nxt ?_
          refine WS.sq ?_
          refine WS.sq ?_
          refine WS.rg ?_
          refine RS.mS 1 [(37, .val (Value.pointer x18))] ?_
          obtain ⟨⟨x20, H21⟩, hx, h⟩ := bind_some h
          try dsimp only at h
          refine RS.cl (some 38) (v := (Value.int .i64 x20)) 76 #[(Value.pointer x18)] (sort_book_allSorts_ok hx) ?_
          refine RS.mS 1 [(8, .val (Value.int .i64 x20))] ?_
          refine RS.dn ?_
          refine WS.nxt ?_
          refine WS.sq ?_
          refine WS.rg ?_
          refine RS.mS 2 [(40, .val (Value.bool (!decide (x20 = 0)))), (39, .val (Value.int .i64 x20))] ?_
          refine RS.dn ?_
          refine WS.nxt ?_
          rcases ite_some h with ⟨hp, h⟩ | ⟨hp, h⟩
          · refine WS.fx 40 false (dec_not hp) ?_
            refine WS.cF ?_
            refine WS.sk ?_
            refine WS.nxt ?_
            refine WS.sq ?_
            refine WS.sq ?_
            refine WS.rg ?_
            refine RS.mS 2 [(43, .val (Value.pointer x18)), (42, .val (Value.pointer x18))] ?_
            obtain ⟨⟨x22, H23⟩, hx, h⟩ := bind_some h
            try dsimp only at h
            refine RS.cl (some 44) (v := (Sl3.v x22)) 78 #[(Value.pointer x18)] (sort_book_leans_ok hx) ?_
            obtain ⟨⟨x24, H25⟩, hx, h⟩ := bind_some h
            try dsimp only at h
            refine RS.cl (some 45) (v := (Value.bool x24)) 77 #[(Value.pointer x18), (Sl3.v x22)] (sort_book_nested_ok hx) ?_
            refine RS.dn ?_
            refine WS.nxt ?_
            rcases ite_some h with ⟨hp, h⟩ | ⟨hp, h⟩
            · refine WS.fx 45 true hp ?_
              refine WS.cT ?_
              cases h
            · refine WS.fx 45 false (b_not hp) ?_
              refine WS.cF ?_
              refine WS.sk ?_
              refine WS.nxt ?_
              refine WS.sq ?_
              refine WS.sq ?_
              refine WS.rg ?_
              refine RS.mS 1 [(46, .val (Value.pointer x18))] ?_
              obtain ⟨⟨x26, H27⟩, hx, h⟩ := bind_some h
              try dsimp only at h
              refine RS.cl (some 47) (v := (Sl3.v x26)) 80 #[(Value.pointer x18)] (sort_book_ground_ok hx) ?_
              obtain ⟨x28, hx, h⟩ := bind_some h
              refine RS.cl (some 48) (v := (Value.bool x28)) 79 #[(Sl3.v x26), (Value.bool false)] (slices_Contains_ok hx) ?_
              refine RS.dn ?_
              refine WS.nxt ?_
              rcases ite_some h with ⟨hp, h⟩ | ⟨hp, h⟩
              · refine WS.fx 48 true hp ?_
                refine WS.cT ?_
                cases h
              · refine WS.fx 48 false (b_not hp) ?_
                refine WS.cF ?_
                refine WS.sk ?_
                refine WS.nxt ?_
                refine WS.sq ?_
                refine WS.rg ?_
                refine RS.mS 1 [(2, .val (Value.int .i64 0))] ?_
                refine RS.dn ?_
                refine WS.nxt ?_
                refine WS.rt ?_
                cases h
                exact fun a w hs => rtR (rS hs)
          · refine WS.fx 40 true (dec_not' hp) ?_
            refine WS.cT ?_
            cases h
    · try dsimp only at h
      refine WS.lR (sort_CheckSig_b0_ok (L := L) (E := E) (m := m) (H := H)) (L.ok hl) 1 ?_
      cases h
      exact fun a w hq => bkR (sqR (rtR hq))

def term_New_enc : ((Option Addr) × Int × AH) → Value
  | (r0, r1, _) => (Value.tuple #[(Value.pointer r0), (Value.int .i64 r1)])

def term_New_hp (_ : AH) : ((Option Addr) × Int × AH) → AH := fun r => r.2.2

noncomputable def B24 : Code := (Tryz.f24.body).getD .skip

noncomputable def term_New (L : LC) (m : Nat) (H : AH) (a0_0 : Sl3) (a0_1 : Sl3) (a0_2 : Sl3) : Option ((Option Addr) × Int × AH) :=
  Option.bind (sort_CheckSig L m H a0_0 a0_1 a0_2) fun (x1, H2) =>
  if x1 = 0 then
    Option.bind (term_copySig L m H2 a0_0 a0_1 a0_2) fun (x3_0, x3_1, x3_2, H4) =>
    Option.bind (newM H4) fun (p5, H6) =>
    Option.bind (newB 45 [(Sl3.v x3_0), (Sl3.v x3_1), (Sl3.v x3_2), (Sl3.v Sl3.nil), (Value.map (some p5))] H6) fun (p7, H8) =>
    some ((some p7), 0, H8)
  else
    none

theorem term_New_ok {L : LC} {m : Nat} {H : AH} {a0_0 : Sl3} {a0_1 : Sl3} {a0_2 : Sl3} {r : ((Option Addr) × Int × AH)} (h : term_New L m H a0_0 a0_1 a0_2 = some r) :
    CallS Tryz.prog (NE.plain 92) m 24 #[(Value.agg #[(Sl3.v a0_0), (Sl3.v a0_1), (Sl3.v a0_2)])] H (term_New_enc r) (term_New_hp H r) := by
  refine CallS.mk (args := [(Value.agg #[(Sl3.v a0_0), (Sl3.v a0_1), (Sl3.v a0_2)])]) Tryz.func24 (B := B24) (by kernel_rfl) (fun E _ => ?_)
  unfold term_New at h
  refine WS.sq ?_
  refine WS.rg ?_
  refine RS.mL 3 [(3, .val (Value.int .i64 0)), (2, .val (Value.pointer none)), (1, .loc 0 0)] ([some (41, [(Sl3.v a0_0), (Sl3.v a0_1), (Sl3.v a0_2)])]) ?_
  refine RS.dn ?_
  refine WS.nxt ?_
  refine WS.sq ?_
  refine WS.sq ?_
  refine WS.rg ?_
  refine RS.mS 1 [(5, .val (Value.agg #[(Sl3.v a0_0), (Sl3.v a0_1), (Sl3.v a0_2)]))] ?_
  obtain ⟨⟨x1, H2⟩, hx, h⟩ := bind_some h
  try dsimp only at h
  refine RS.cl (some 6) (v := (Value.int .i64 x1)) 46 #[(Value.agg #[(Sl3.v a0_0), (Sl3.v a0_1), (Sl3.v a0_2)])] (sort_CheckSig_ok hx) ?_
  refine RS.mS 1 [(4, .val (Value.int .i64 x1))] ?_
  refine RS.dn ?_
  refine WS.nxt ?_
  refine WS.sq ?_
  refine WS.rg ?_
  refine RS.mS 2 [(8, .val (Value.bool (!decide (x1 = 0)))), (7, .val (Value.int .i64 x1))] ?_
  refine RS.dn ?_
  refine WS.nxt ?_
  rcases ite_some h with ⟨hp, h⟩ | ⟨hp, h⟩
  · refine WS.fx 8 false (dec_not hp) ?_
    refine WS.cF ?_
    refine WS.sk ?_
    refine WS.nxt ?_
    refine WS.sq ?_
    refine WS.rg ?_
    refine RS.mS 1 [(10, .val (Value.agg #[(Sl3.v a0_0), (Sl3.v a0_1), (Sl3.v a0_2)]))] ?_
    obtain ⟨⟨x3_0, x3_1, x3_2, H4⟩, hx, h⟩ := bind_some h
    try dsimp only at h
    refine RS.cl (some 11) (v := (Value.agg #[(Sl3.v x3_0), (Sl3.v x3_1), (Sl3.v x3_2)])) 30 #[(Value.agg #[(Sl3.v a0_0), (Sl3.v a0_1), (Sl3.v a0_2)])] (term_copySig_ok hx) ?_
    obtain ⟨⟨p5, H6⟩, hx, h⟩ := bind_some h
    try dsimp only at h
    refine RS.o (H' := H6) (some 12) (Value.map (some p5)) (Abs.run_newM (by kernel_rfl) hx) ?_
    refine RS.mS 1 [(13, .val (Value.agg #[(Sl3.v x3_0), (Sl3.v x3_1), (Sl3.v x3_2), (Sl3.v Sl3.nil), (Value.map (some p5))]))] ?_
    obtain ⟨⟨p7, H8⟩, hx, h⟩ := bind_some h
    try dsimp only at h
    refine RS.o (H' := H8) (some 14) (Value.pointer (some p7)) (Abs.run_newB (by kernel_rfl) hx) ?_
    refine RS.mS 2 [(3, .val (Value.int .i64 0)), (2, .val (Value.pointer (some p7)))] ?_
    refine RS.dn ?_
    refine WS.nxt ?_
    refine WS.rt ?_
    cases h
    exact fun a w hs => rtR (rS hs)
  · refine WS.fx 8 true (dec_not' hp) ?_
    refine WS.cT ?_
    cases h

def law05_sig_enc : (Sl3 × Sl3 × Sl3 × AH) → Value
  | (r0, r1, r2, _) => (Value.agg #[(Sl3.v r0), (Sl3.v r1), (Sl3.v r2)])

def law05_sig_hp (_ : AH) : (Sl3 × Sl3 × Sl3 × AH) → AH := fun r => r.2.2.2

noncomputable def B25 : Code := (Tryz.f25.body).getD .skip

noncomputable def law05_sig (_L : LC) (_m : Nat) (H : AH) : Option (Sl3 × Sl3 × Sl3 × AH) :=
  Option.bind (newR 32 1 #[(Value.int .i64 2), (Value.int .i64 0), (Value.string (⟨#[]⟩ : ByteArray)), (Sl3.v Sl3.nil)] H) fun (s1, H2) =>
  Option.bind (newR 108 2 #[(Value.string (⟨#[120]⟩ : ByteArray)), (Sl3.v Sl3.nil), (Value.int .i64 2), (Value.int .i64 0), (Value.string (⟨#[]⟩ : ByteArray)), (Sl3.v Sl3.nil), (Value.string (⟨#[102]⟩ : ByteArray)), (Sl3.v s1), (Value.int .i64 2), (Value.int .i64 0), (Value.string (⟨#[]⟩ : ByteArray)), (Sl3.v Sl3.nil)] H2) fun (s3, H4) =>
  some (Sl3.nil, Sl3.nil, s3, H4)

theorem law05_sig_ok {L : LC} {m : Nat} {H : AH} {r : (Sl3 × Sl3 × Sl3 × AH)} (h : law05_sig L m H = some r) :
    CallS Tryz.prog (NE.plain 92) m 25 #[] H (law05_sig_enc r) (law05_sig_hp H r) := by
  refine CallS.mk (args := []) Tryz.func25 (B := B25) (by kernel_rfl) (fun E _ => ?_)
  unfold law05_sig at h
  refine WS.sq ?_
  refine WS.rg ?_
  refine RS.mL 1 [(0, .loc 0 0)] ([some (41, [(Sl3.v Sl3.nil), (Sl3.v Sl3.nil), (Sl3.v Sl3.nil)])]) ?_
  refine RS.dn ?_
  refine WS.nxt ?_
  refine WS.sq ?_
  refine WS.rg ?_
  refine RS.mL 3 [(1, .loc 1 0), (2, .val (Value.agg #[(Value.int .i64 2), (Value.int .i64 0), (Value.string (⟨#[]⟩ : ByteArray)), (Sl3.v Sl3.nil)]))] ([some (41, [(Sl3.v Sl3.nil), (Sl3.v Sl3.nil), (Sl3.v Sl3.nil)]), some (32, [(Value.int .i64 2), (Value.int .i64 0), (Value.string (⟨#[]⟩ : ByteArray)), (Sl3.v Sl3.nil)])]) ?_
  refine RS.dn ?_
  refine WS.nxt ?_
  refine WS.sq ?_
  refine WS.rg ?_
  refine RS.mS 3 [(5, .val (Value.agg #[(Value.int .i64 2), (Value.int .i64 0), (Value.string (⟨#[]⟩ : ByteArray)), (Sl3.v Sl3.nil)])), (4, .val (Value.agg #[(Value.string (⟨#[120]⟩ : ByteArray)), (Sl3.v Sl3.nil), (Value.int .i64 2), (Value.int .i64 0), (Value.string (⟨#[]⟩ : ByteArray)), (Sl3.v Sl3.nil)])), (3, .val (Value.agg #[(Value.int .i64 2), (Value.int .i64 0), (Value.string (⟨#[]⟩ : ByteArray)), (Sl3.v Sl3.nil)]))] ?_
  obtain ⟨⟨s1, H2⟩, hx, h⟩ := bind_some h
  try dsimp only at h
  refine RS.o (H' := H2) (some 6) (Sl3.v s1) (Abs.run_newR (by kernel_rfl) (by kernel_rfl) hx) ?_
  refine RS.mS 2 [(8, .val (Value.agg #[(Value.string (⟨#[102]⟩ : ByteArray)), (Sl3.v s1), (Value.int .i64 2), (Value.int .i64 0), (Value.string (⟨#[]⟩ : ByteArray)), (Sl3.v Sl3.nil)])), (7, .val (Value.agg #[(Value.int .i64 2), (Value.int .i64 0), (Value.string (⟨#[]⟩ : ByteArray)), (Sl3.v Sl3.nil)]))] ?_
  obtain ⟨⟨s3, H4⟩, hx, h⟩ := bind_some h
  try dsimp only at h
  refine RS.o (H' := H4) (some 9) (Sl3.v s3) (Abs.run_newR (by kernel_rfl) (by kernel_rfl) hx) ?_
  refine RS.mL 2 [(10, .val (Value.agg #[(Sl3.v Sl3.nil), (Sl3.v Sl3.nil), (Sl3.v s3)]))] ([some (41, [(Sl3.v Sl3.nil), (Sl3.v Sl3.nil), (Sl3.v s3)]), some (32, [(Value.int .i64 2), (Value.int .i64 0), (Value.string (⟨#[]⟩ : ByteArray)), (Sl3.v Sl3.nil)])]) ?_
  refine RS.dn ?_
  refine WS.nxt ?_
  refine WS.rt ?_
  cases h
  exact fun a w hs => rtR (rS hs)

def term_form_enc : (Int × Int × Int × Bool) → Value
  | (r0, r1, r2, r3) => (Value.tuple #[(Value.int .i64 r0), (Value.int .i64 r1), (Value.int .i64 r2), (Value.bool r3)])

def term_form_hp (H : AH) : (Int × Int × Int × Bool) → AH := fun _ => H

noncomputable def B37 : Code := (Tryz.f37.body).getD .skip

noncomputable def term_form (_L : LC) (a0 : Int) : Option (Int × Int × Int × Bool) :=
  if a0 = 1 then
    none
  else
    if a0 = 2 then
      none
    else
      if a0 = 20 then
        none
      else
        if a0 = 40 then
          none
        else
          if a0 = 3 then
            none
          else
            if a0 = 21 then
              none
            else
              if a0 = 27 then
                none
              else
                if a0 = 34 then
                  none
                else
                  if a0 = 43 then
                    none
                  else
                    if a0 = 44 then
                      none
                    else
                      if a0 = 4 then
                        none
                      else
                        if a0 = 5 then
                          none
                        else
                          if a0 = 9 then
                            none
                          else
                            if a0 = 22 then
                              some (2, 64, 0, true)
                            else
                              if a0 = 10 then
                                none
                              else
                                if a0 = 33 then
                                  none
                                else
                                  if a0 = 11 then
                                    some (0, 64, 0, true)
                                  else
                                    none

theorem term_form_ok {L : LC} {m : Nat} {H : AH} {a0 : Int} {r : (Int × Int × Int × Bool)} (h : term_form L a0 = some r) :
    CallS Tryz.prog (NE.plain 92) m 37 #[(Value.int .i64 a0)] H (term_form_enc r) (term_form_hp H r) := by
  refine CallS.mk (args := [(Value.int .i64 a0)]) Tryz.func37 (B := B37) (by kernel_rfl) (fun E _ => ?_)
  unfold term_form at h
  refine WS.sq ?_
  refine WS.rg ?_
  refine RS.mS 4 [(5, .val (Value.bool false)), (4, .val (Value.int .i64 0)), (3, .val (Value.int .i64 0)), (2, .val (Value.int .i64 0))] ?_
  refine RS.dn ?_
  refine WS.nxt ?_
  refine WS.sq ?_
  refine WS.sq ?_
  refine WS.rg ?_
  refine RS.mS 1 [(7, .val (Value.int .i64 a0))] ?_
  refine RS.dn ?_
  refine WS.nxt ?_
  refine WS.bk 0 ?_
  refine WS.sq ?_
  refine WS.sq ?_
  refine WS.rg ?_
  refine RS.mS 2 [(8, .val (Value.bool (decide (a0 = 1)))), (9, .val (Value.bool (decide (a0 = 1))))] ?_
  refine RS.dn ?_
  refine WS.nxt ?_
  rcases ite_some h with ⟨hp, h⟩ | ⟨hp, h⟩
  · refine WS.fx 8 true (decide_eq_true hp) ?_
    refine WS.cT ?_
    cases h
  · refine WS.fx 8 false (decide_eq_false hp) ?_
    refine WS.cF ?_
    refine WS.sq ?_
    refine WS.rg ?_
    refine RS.mS 2 [(8, .val (Value.bool (decide (a0 = 2)))), (10, .val (Value.bool (decide (a0 = 2))))] ?_
    refine RS.dn ?_
    refine WS.nxt ?_
    rcases ite_some h with ⟨hp, h⟩ | ⟨hp, h⟩
    · refine WS.fx 8 true (decide_eq_true hp) ?_
      refine WS.cT ?_
      cases h
    · refine WS.fx 8 false (decide_eq_false hp) ?_
      refine WS.cF ?_
      refine WS.sq ?_
      refine WS.rg ?_
      refine RS.mS 2 [(8, .val (Value.bool (decide (a0 = 20)))), (11, .val (Value.bool (decide (a0 = 20))))] ?_
      refine RS.dn ?_
      refine WS.nxt ?_
      rcases ite_some h with ⟨hp, h⟩ | ⟨hp, h⟩
      · refine WS.fx 8 true (decide_eq_true hp) ?_
        refine WS.cT ?_
        cases h
      · refine WS.fx 8 false (decide_eq_false hp) ?_
        refine WS.cF ?_
        refine WS.rg ?_
        refine RS.mS 2 [(8, .val (Value.bool (decide (a0 = 40)))), (12, .val (Value.bool (decide (a0 = 40))))] ?_
        refine RS.dn ?_
        refine WS.nxt ?_
        rcases ite_some h with ⟨hp, h⟩ | ⟨hp, h⟩
        · refine WS.fx 8 true (decide_eq_true hp) ?_
          refine WS.cT ?_
          cases h
        · refine WS.fx 8 false (decide_eq_false hp) ?_
          refine WS.cF ?_
          refine WS.sq ?_
          refine WS.sq ?_
          refine WS.rg ?_
          refine RS.mS 2 [(13, .val (Value.bool (decide (a0 = 3)))), (14, .val (Value.bool (decide (a0 = 3))))] ?_
          refine RS.dn ?_
          refine WS.nxt ?_
          rcases ite_some h with ⟨hp, h⟩ | ⟨hp, h⟩
          · refine WS.fx 13 true (decide_eq_true hp) ?_
            refine WS.cT ?_
            cases h
          · refine WS.fx 13 false (decide_eq_false hp) ?_
            refine WS.cF ?_
            refine WS.sq ?_
            refine WS.rg ?_
            refine RS.mS 2 [(13, .val (Value.bool (decide (a0 = 21)))), (15, .val (Value.bool (decide (a0 = 21))))] ?_
            refine RS.dn ?_
            refine WS.nxt ?_
            rcases ite_some h with ⟨hp, h⟩ | ⟨hp, h⟩
            · refine WS.fx 13 true (decide_eq_true hp) ?_
              refine WS.cT ?_
              cases h
            · refine WS.fx 13 false (decide_eq_false hp) ?_
              refine WS.cF ?_
              refine WS.sq ?_
              refine WS.rg ?_
              refine RS.mS 2 [(13, .val (Value.bool (decide (a0 = 27)))), (16, .val (Value.bool (decide (a0 = 27))))] ?_
              refine RS.dn ?_
              refine WS.nxt ?_
              rcases ite_some h with ⟨hp, h⟩ | ⟨hp, h⟩
              · refine WS.fx 13 true (decide_eq_true hp) ?_
                refine WS.cT ?_
                cases h
              · refine WS.fx 13 false (decide_eq_false hp) ?_
                refine WS.cF ?_
                refine WS.sq ?_
                refine WS.rg ?_
                refine RS.mS 2 [(13, .val (Value.bool (decide (a0 = 34)))), (17, .val (Value.bool (decide (a0 = 34))))] ?_
                refine RS.dn ?_
                refine WS.nxt ?_
                rcases ite_some h with ⟨hp, h⟩ | ⟨hp, h⟩
                · refine WS.fx 13 true (decide_eq_true hp) ?_
                  refine WS.cT ?_
                  cases h
                · refine WS.fx 13 false (decide_eq_false hp) ?_
                  refine WS.cF ?_
                  refine WS.sq ?_
                  refine WS.rg ?_
                  refine RS.mS 2 [(13, .val (Value.bool (decide (a0 = 43)))), (18, .val (Value.bool (decide (a0 = 43))))] ?_
                  refine RS.dn ?_
                  refine WS.nxt ?_
                  rcases ite_some h with ⟨hp, h⟩ | ⟨hp, h⟩
                  · refine WS.fx 13 true (decide_eq_true hp) ?_
                    refine WS.cT ?_
                    cases h
                  · refine WS.fx 13 false (decide_eq_false hp) ?_
                    refine WS.cF ?_
                    refine WS.rg ?_
                    refine RS.mS 2 [(13, .val (Value.bool (decide (a0 = 44)))), (19, .val (Value.bool (decide (a0 = 44))))] ?_
                    refine RS.dn ?_
                    refine WS.nxt ?_
                    rcases ite_some h with ⟨hp, h⟩ | ⟨hp, h⟩
                    · refine WS.fx 13 true (decide_eq_true hp) ?_
                      refine WS.cT ?_
                      cases h
                    · refine WS.fx 13 false (decide_eq_false hp) ?_
                      refine WS.cF ?_
                      refine WS.sq ?_
                      refine WS.sq ?_
                      refine WS.rg ?_
                      refine RS.mS 2 [(20, .val (Value.bool (decide (a0 = 4)))), (21, .val (Value.bool (decide (a0 = 4))))] ?_
                      refine RS.dn ?_
                      refine WS.nxt ?_
                      rcases ite_some h with ⟨hp, h⟩ | ⟨hp, h⟩
                      · refine WS.fx 20 true (decide_eq_true hp) ?_
                        refine WS.cT ?_
                        cases h
                      · refine WS.fx 20 false (decide_eq_false hp) ?_
                        refine WS.cF ?_
                        refine WS.sq ?_
                        refine WS.rg ?_
                        refine RS.mS 2 [(20, .val (Value.bool (decide (a0 = 5)))), (22, .val (Value.bool (decide (a0 = 5))))] ?_
                        refine RS.dn ?_
                        refine WS.nxt ?_
                        rcases ite_some h with ⟨hp, h⟩ | ⟨hp, h⟩
                        · refine WS.fx 20 true (decide_eq_true hp) ?_
                          refine WS.cT ?_
                          cases h
                        · refine WS.fx 20 false (decide_eq_false hp) ?_
                          refine WS.cF ?_
                          refine WS.sq ?_
                          refine WS.rg ?_
                          refine RS.mS 2 [(20, .val (Value.bool (decide (a0 = 9)))), (23, .val (Value.bool (decide (a0 = 9))))] ?_
                          refine RS.dn ?_
                          refine WS.nxt ?_
                          rcases ite_some h with ⟨hp, h⟩ | ⟨hp, h⟩
                          · refine WS.fx 20 true (decide_eq_true hp) ?_
                            refine WS.cT ?_
                            cases h
                          · refine WS.fx 20 false (decide_eq_false hp) ?_
                            refine WS.cF ?_
                            refine WS.rg ?_
                            refine RS.mS 2 [(20, .val (Value.bool (decide (a0 = 22)))), (24, .val (Value.bool (decide (a0 = 22))))] ?_
                            refine RS.dn ?_
                            refine WS.nxt ?_
                            rcases ite_some h with ⟨hp, h⟩ | ⟨hp, h⟩
                            · refine WS.fx 20 true (decide_eq_true hp) ?_
                              refine WS.cT ?_
                              refine WS.sq ?_
                              refine WS.rg ?_
                              refine RS.mS 4 [(5, .val (Value.bool true)), (4, .val (Value.int .i64 0)), (3, .val (Value.int .i64 64)), (2, .val (Value.int .i64 2))] ?_
                              refine RS.dn ?_
                              refine WS.nxt ?_
                              refine WS.rt ?_
                              cases h
                              exact fun a w hs => bkR (sqR (rtR (rS hs)))
                            · refine WS.fx 20 false (decide_eq_false hp) ?_
                              refine WS.cF ?_
                              refine WS.sq ?_
                              refine WS.sq ?_
                              refine WS.rg ?_
                              refine RS.mS 2 [(25, .val (Value.bool (decide (a0 = 10)))), (26, .val (Value.bool (decide (a0 = 10))))] ?_
                              refine RS.dn ?_
                              refine WS.nxt ?_
                              rcases ite_some h with ⟨hp, h⟩ | ⟨hp, h⟩
                              · refine WS.fx 25 true (decide_eq_true hp) ?_
                                refine WS.cT ?_
                                cases h
                              · refine WS.fx 25 false (decide_eq_false hp) ?_
                                refine WS.cF ?_
                                refine WS.rg ?_
                                refine RS.mS 2 [(25, .val (Value.bool (decide (a0 = 33)))), (27, .val (Value.bool (decide (a0 = 33))))] ?_
                                refine RS.dn ?_
                                refine WS.nxt ?_
                                rcases ite_some h with ⟨hp, h⟩ | ⟨hp, h⟩
                                · refine WS.fx 25 true (decide_eq_true hp) ?_
                                  refine WS.cT ?_
                                  cases h
                                · refine WS.fx 25 false (decide_eq_false hp) ?_
                                  refine WS.cF ?_
                                  refine WS.sq ?_
                                  refine WS.sq ?_
                                  refine WS.rg ?_
                                  refine RS.mS 2 [(28, .val (Value.bool (decide (a0 = 11)))), (29, .val (Value.bool (decide (a0 = 11))))] ?_
                                  refine RS.dn ?_
                                  refine WS.nxt ?_
                                  rcases ite_some h with ⟨hp, h⟩ | ⟨hp, h⟩
                                  · refine WS.fx 28 true (decide_eq_true hp) ?_
                                    refine WS.cT ?_
                                    refine WS.sk ?_
                                    refine WS.nxt ?_
                                    refine WS.cT ?_
                                    refine WS.sq ?_
                                    refine WS.rg ?_
                                    refine RS.mS 4 [(5, .val (Value.bool true)), (4, .val (Value.int .i64 0)), (3, .val (Value.int .i64 64)), (2, .val (Value.int .i64 0))] ?_
                                    refine RS.dn ?_
                                    refine WS.nxt ?_
                                    refine WS.rt ?_
                                    cases h
                                    exact fun a w hs => bkR (sqR (rtR (rS hs)))
                                  · refine WS.fx 28 false (decide_eq_false hp) ?_
                                    refine WS.cF ?_
                                    cases h

def term_Table_symbol_1_enc : Bool → Value
  | r0 => (Value.bool r0)

def term_Table_symbol_1_hp (H : AH) : Bool → AH := fun _ => H

noncomputable def B82 : Code := (Tryz.f82.body).getD .skip

noncomputable def term_Table_symbol_1 (_L : LC) (H : AH) (a0_0 : ByteArray) (_a0_1 : Sl3) (_a0_2 : Int) (_a0_3 : Int) (_a0_4 : ByteArray) (_a0_5 : Sl3) (a1 : Option Addr) : Option Bool :=
  Option.bind a1 fun q1 =>
  Option.bind (rd deS H q1) fun x2 =>
  some (a0_0.toList == x2.toList)

theorem term_Table_symbol_1_ok {L : LC} {m : Nat} {H : AH} {a0_0 : ByteArray} {a0_1 : Sl3} {a0_2 : Int} {a0_3 : Int} {a0_4 : ByteArray} {a0_5 : Sl3} {a1 : Option Addr} {r : Bool} (h : term_Table_symbol_1 L H a0_0 a0_1 a0_2 a0_3 a0_4 a0_5 a1 = some r) :
    CallS Tryz.prog (NE.plain 92) m 82 #[(Value.agg #[(Value.string a0_0), (Sl3.v a0_1), (Value.int .i64 a0_2), (Value.int .i64 a0_3), (Value.string a0_4), (Sl3.v a0_5)]), (Value.pointer a1)] H (term_Table_symbol_1_enc r) (term_Table_symbol_1_hp H r) := by
  refine CallS.mk (args := [(Value.agg #[(Value.string a0_0), (Sl3.v a0_1), (Value.int .i64 a0_2), (Value.int .i64 a0_3), (Value.string a0_4), (Sl3.v a0_5)]), (Value.pointer a1)]) Tryz.func82 (B := B82) (by kernel_rfl) (fun E _ => ?_)
  unfold term_Table_symbol_1 at h
  refine WS.sq ?_
  refine WS.rg ?_
  refine RS.mL 2 [(3, .val (Value.bool false)), (2, .loc 0 0)] ([some (108, [(Value.string a0_0), (Sl3.v a0_1), (Value.int .i64 a0_2), (Value.int .i64 a0_3), (Value.string a0_4), (Sl3.v a0_5)])]) ?_
  refine RS.dn ?_
  refine WS.nxt ?_
  refine WS.sq ?_
  refine WS.rg ?_
  refine RS.mS 2 [(5, .val (Value.string a0_0)), (4, .loc 0 0)] ?_
  obtain ⟨q1, hx, hq1⟩ := bind_some h
  subst hx
  have h := hq1
  obtain ⟨x2, hx, h⟩ := bind_some h
  refine RS.o (H' := H) (some 6) (Value.string x2) (Abs.run_load (t := 9) (x := .tmp 1) (a := q1) (by kernel_rfl) (by kernel_rfl) (by kernel_rfl) (rd_cell hx deS_inv)) ?_
  refine RS.mS 2 [(3, .val (Value.bool (a0_0.toList == x2.toList))), (7, .val (Value.bool (a0_0.toList == x2.toList)))] ?_
  refine RS.dn ?_
  refine WS.nxt ?_
  refine WS.rt ?_
  cases h
  exact fun a w hs => rtR (rS hs)

def slices_IndexFunc__82_enc : Int → Value
  | r0 => (Value.int .i64 r0)

def slices_IndexFunc__82_hp (H : AH) : Int → AH := fun _ => H

noncomputable def B81 : Code := (Tryz.f81.body).getD .skip

noncomputable def slices_IndexFunc__82_b0 (L : LC) (H : AH) (a0 : Sl3) (a1_0 : Option Addr) : Int → Option (Lp Int Int) := fun v8_1 =>
  if v8_1 < (a0.n : Int) then
    Option.bind (idxA 6 a0 v8_1) fun p2 =>
    Option.bind (rd deS H (Addr.add p2 0)) fun x3_0 =>
    Option.bind (rd deSl H (Addr.add p2 1)) fun x3_1 =>
    Option.bind (rd (deI .i64) H (Addr.add p2 2)) fun x3_2 =>
    Option.bind (rd (deI .i64) H (Addr.add p2 3)) fun x3_3 =>
    Option.bind (rd deS H (Addr.add p2 4)) fun x3_4 =>
    Option.bind (rd deSl H (Addr.add p2 5)) fun x3_5 =>
    Option.bind (term_Table_symbol_1 L H x3_0 x3_1 x3_2 x3_3 x3_4 x3_5 a1_0) fun x4 =>
    if x4 = true then
      some (.ret v8_1)
    else
      some (.next (IntKind.i64.wrap (v8_1 + 1)))
  else
    none

def slices_IndexFunc__82_b0_kn (_L : LC) (_H : AH) (a0 : Sl3) (a1_0 : Option Addr) : Int → KN := fun v8_1 => [(8, .val (Value.int .i64 v8_1)), (0, .val (Sl3.v a0)), (1, .val (Value.func (.func 82) #[] #[(Value.pointer a1_0)])), (7, .val (Value.int .i64 (a0.n : Int)))]

def slices_IndexFunc__82_b0_ls (_L : LC) (_H : AH) (_a0 : Sl3) (_a1_0 : Option Addr) : Int → Lcs := fun _ => []

noncomputable def slices_IndexFunc__82 (L : LC) (H : AH) (a0 : Sl3) (a1_0 : Option Addr) : Option Int :=
  Option.bind (L.run (slices_IndexFunc__82_b0 L H a0 a1_0) 0) fun o => match o with
  | .inl _ =>
    some (-1)
  | .inr r => some r

theorem slices_IndexFunc__82_b0_ok {E : Ent} {m : Nat} {L : LC} {H : AH} {a0 : Sl3} {a1_0 : Option Addr}  : ∀ s o, slices_IndexFunc__82_b0 L H a0 a1_0 s = some o →
    WS Tryz.prog (NE.plain 92) m E Tryz.f81.ntmps (cfst (cfst (csnd (cfst (csnd B81))))) (slices_IndexFunc__82_b0_kn L H a0 a1_0 s) (slices_IndexFunc__82_b0_ls L H a0 a1_0 s) ((fun _ => H) s) (lpS Tryz.prog (NE.plain 92) m E Tryz.f81.ntmps (slices_IndexFunc__82_b0_kn L H a0 a1_0) (slices_IndexFunc__82_b0_ls L H a0 a1_0) (fun _ => H) 0 (fun r => RT Tryz.prog (NE.plain 92) m E Tryz.f81 (slices_IndexFunc__82_enc r) (slices_IndexFunc__82_hp H r)) o) := by
  rintro v8_1 o h
  unfold slices_IndexFunc__82_b0 at h
  try dsimp only at h
  refine WS.sq ?_
  refine WS.rg ?_
  refine RS.mS 1 [(9, .val (Value.bool (decide (v8_1 < (a0.n : Int)))))] ?_
  refine RS.dn ?_
  refine WS.nxt ?_
  refine WS.sq ?_
  rcases ite_some h with ⟨hp, h⟩ | ⟨hp, h⟩
  · refine WS.fx 9 true (decide_eq_true hp) ?_
    refine WS.cT ?_
    refine WS.sk ?_
    refine WS.nxt ?_
    refine WS.sq ?_
    refine WS.bk 1 ?_
    refine WS.sq ?_
    refine WS.rg ?_
    refine RS.mS 2 [(5, .val (Value.int .i64 v8_1)), (10, .val (Value.int .i64 v8_1))] ?_
    refine RS.dn ?_
    refine WS.nxt ?_
    refine WS.sq ?_
    refine WS.rg ?_
    refine RS.mS 3 [(13, .val (Value.int .i64 v8_1)), (12, .val (Sl3.v a0)), (11, .val (Value.func (.func 82) #[] #[(Value.pointer a1_0)]))] ?_
    obtain ⟨p2, hx, h⟩ := bind_some h
    refine RS.o (H' := H) (some 14) (Value.pointer (some p2)) (Abs.run_idx (s := a0) (k := .i64) (t := 39) (e := 108) (x := .tmp 12) (y := .tmp 13) (by kernel_rfl) (by kernel_rfl) (by kernel_rfl) (by kernel_rfl) (by kernel_rfl) hx) ?_
    obtain ⟨x3_0, hx0, h⟩ := bind_some h
    obtain ⟨x3_1, hx1, h⟩ := bind_some h
    obtain ⟨x3_2, hx2, h⟩ := bind_some h
    obtain ⟨x3_3, hx3, h⟩ := bind_some h
    obtain ⟨x3_4, hx4, h⟩ := bind_some h
    obtain ⟨x3_5, hx5, h⟩ := bind_some h
    refine RS.o (H' := H) (some 15) (Value.agg #[(Value.string x3_0), (Sl3.v x3_1), (Value.int .i64 x3_2), (Value.int .i64 x3_3), (Value.string x3_4), (Sl3.v x3_5)]) (Abs.run_loadAg (t := 108) (x := .tmp 14) (a := p2) (k := 6) (by kernel_rfl) (by kernel_rfl) (by kernel_rfl) (by kernel_rfl) (rdc_cons (rd_cell hx0 deS_inv) (rdc_cons (rd_cell hx1 deSl_inv) (rdc_cons (rd_cell hx2 deI_inv) (rdc_cons (rd_cell hx3 deI_inv) (rdc_cons (rd_cell hx4 deS_inv) (rdc_cons (rd_cell hx5 deSl_inv) rdc_nil))))))) ?_
    obtain ⟨x4, hx, h⟩ := bind_some h
    refine RS.cl (some 16) (v := (Value.bool x4)) 82 #[(Value.agg #[(Value.string x3_0), (Sl3.v x3_1), (Value.int .i64 x3_2), (Value.int .i64 x3_3), (Value.string x3_4), (Sl3.v x3_5)]), (Value.pointer a1_0)] (term_Table_symbol_1_ok hx) ?_
    refine RS.dn ?_
    refine WS.nxt ?_
    rcases ite_some h with ⟨hp, h⟩ | ⟨hp, h⟩
    · refine WS.fx 16 true hp ?_
      refine WS.cT ?_
      refine WS.sq ?_
      refine WS.rg ?_
      refine RS.mS 2 [(4, .val (Value.int .i64 v8_1)), (17, .val (Value.int .i64 v8_1))] ?_
      refine RS.dn ?_
      refine WS.nxt ?_
      refine WS.rt ?_
      cases h
      exact fun a w hs => bkR (sqR (lsR rfl (rS hs)))
    · refine WS.fx 16 false (b_not hp) ?_
      refine WS.cF ?_
      refine WS.sk ?_
      refine fun a w hs => bkN ((WS.nxt ?_ a w hs))
      refine WS.rg ?_
      refine RS.mS 2 [(8, .val (Value.int .i64 (IntKind.i64.wrap (v8_1 + 1)))), (18, .val (Value.int .i64 (IntKind.i64.wrap (v8_1 + 1))))] ?_
      refine RS.dn ?_
      cases h
      exact fun a w hs => lsN rfl (hs.sb 0)
  · refine WS.fx 9 false (decide_eq_false hp) ?_
    refine WS.cF ?_
    cases h

theorem slices_IndexFunc__82_ok {L : LC} {m : Nat} {H : AH} {a0 : Sl3} {a1_0 : Option Addr} {r : Int} (h : slices_IndexFunc__82 L H a0 a1_0 = some r) :
    CallS Tryz.prog (NE.plain 92) m 81 #[(Sl3.v a0), (Value.func (.func 82) #[] #[(Value.pointer a1_0)])] H (slices_IndexFunc__82_enc r) (slices_IndexFunc__82_hp H r) := by
  refine CallS.mk (args := [(Sl3.v a0), (Value.func (.func 82) #[] #[(Value.pointer a1_0)])]) Tryz.func81 (B := B81) (by kernel_rfl) (fun E _ => ?_)
  unfold slices_IndexFunc__82 at h
  refine WS.sq ?_
  refine WS.rg ?_
  refine RS.mS 1 [(4, .val (Value.int .i64 0))] ?_
  refine RS.dn ?_
  refine WS.nxt ?_
  refine WS.sq ?_
  refine WS.sq ?_
  refine WS.rg ?_
  refine RS.mS 3 [(8, .val (Value.int .i64 0)), (7, .val (Value.int .i64 (a0.n : Int))), (6, .val (Sl3.v a0))] ?_
  refine RS.dn ?_
  refine WS.nxt ?_
  refine WS.bk 0 ?_
  obtain ⟨o, hl, h⟩ := bind_some h
  rcases o with v8_5 | r
  · try dsimp only at h
    refine WS.lI (slices_IndexFunc__82_b0_ok (L := L) (E := E) (m := m) (H := H)) (L.ok hl) 0 ?_
    clear hl
    refine fun a w hs => bkE ((WS.nxt ?_ a w hs))
    refine WS.sq ?_
    refine WS.rg ?_
    refine RS.mS 1 [(4, .val (Value.int .i64 (-1)))] ?_
    refine RS.dn ?_
    refine WS.nxt ?_
    refine WS.rt ?_
    cases h
    exact fun a w hs => rtR (rS hs)
  · try dsimp only at h
    refine WS.lR (slices_IndexFunc__82_b0_ok (L := L) (E := E) (m := m) (H := H)) (L.ok hl) 0 ?_
    cases h
    exact fun a w hq => bkR (sqR (rtR hq))

def term_Table_symbol_enc : (Sl3 × Int × Int × ByteArray × Sl3 × Bool × AH) → Value
  | (r0, r1, r2, r3, r4, r5, _) => (Value.tuple #[(Sl3.v r0), (Value.agg #[(Value.int .i64 r1), (Value.int .i64 r2), (Value.string r3), (Sl3.v r4)]), (Value.bool r5)])

def term_Table_symbol_hp (_ : AH) : (Sl3 × Int × Int × ByteArray × Sl3 × Bool × AH) → AH := fun r => r.2.2.2.2.2.2

noncomputable def B48 : Code := (Tryz.f48.body).getD .skip

noncomputable def term_Table_symbol (L : LC) (_m : Nat) (H : AH) (a0 : Option Addr) (a1 : Int) (a2 : ByteArray) : Option (Sl3 × Int × Int × ByteArray × Sl3 × Bool × AH) :=
  Option.bind (newB 9 [(Value.string a2)] H) fun (p1, H2) =>
  if a1 = 11 then
    Option.bind a0 fun q3 =>
    Option.bind (rd deSl H2 (Addr.add (Addr.add q3 0) 2)) fun x4 =>
    Option.bind (slices_IndexFunc__82 L H2 x4 (some p1)) fun x5 =>
    if x5 < 0 then
      none
    else
      Option.bind (rd deSl H2 (Addr.add (Addr.add q3 0) 2)) fun x6 =>
      Option.bind (idxA 6 x6 x5) fun p7 =>
      Option.bind (rd deSl H2 (Addr.add p7 1)) fun x8 =>
      Option.bind (rd deSl H2 (Addr.add (Addr.add q3 0) 2)) fun x9 =>
      Option.bind (idxA 6 x9 x5) fun p10 =>
      Option.bind (rd (deI .i64) H2 (Addr.add (Addr.add p10 2) 0)) fun x11_0 =>
      Option.bind (rd (deI .i64) H2 (Addr.add (Addr.add p10 2) 1)) fun x11_1 =>
      Option.bind (rd deS H2 (Addr.add (Addr.add p10 2) 2)) fun x11_2 =>
      Option.bind (rd deSl H2 (Addr.add (Addr.add p10 2) 3)) fun x11_3 =>
      some (x8, x11_0, x11_1, x11_2, x11_3, true, H2)
  else
    none

theorem term_Table_symbol_ok {L : LC} {m : Nat} {H : AH} {a0 : Option Addr} {a1 : Int} {a2 : ByteArray} {r : (Sl3 × Int × Int × ByteArray × Sl3 × Bool × AH)} (h : term_Table_symbol L m H a0 a1 a2 = some r) :
    CallS Tryz.prog (NE.plain 92) m 48 #[(Value.pointer a0), (Value.int .i64 a1), (Value.string a2)] H (term_Table_symbol_enc r) (term_Table_symbol_hp H r) := by
  refine CallS.mk (args := [(Value.pointer a0), (Value.int .i64 a1), (Value.string a2)]) Tryz.func48 (B := B48) (by kernel_rfl) (fun E _ => ?_)
  unfold term_Table_symbol at h
  refine WS.sq ?_
  refine WS.rg ?_
  obtain ⟨⟨p1, H2⟩, hx, h⟩ := bind_some h
  try dsimp only at h
  refine RS.o (H' := H2) (some 5) (Value.pointer (some p1)) (Abs.run_newB (by kernel_rfl) hx) ?_
  refine RS.mL 3 [(8, .val (Value.bool false)), (7, .loc 0 0), (6, .val (Sl3.v Sl3.nil))] ([some (32, [(Value.int .i64 0), (Value.int .i64 0), (Value.string (⟨#[]⟩ : ByteArray)), (Sl3.v Sl3.nil)])]) ?_
  refine RS.dn ?_
  refine WS.nxt ?_
  refine WS.sq ?_
  refine WS.sq ?_
  refine WS.rg ?_
  refine RS.mS 2 [(21, .val (Value.bool (decide (a1 = 11)))), (20, .val (Value.int .i64 a1))] ?_
  refine RS.dn ?_
  refine WS.nxt ?_
  rcases ite_some h with ⟨hp, h⟩ | ⟨hp, h⟩
  · refine WS.fx 21 true (decide_eq_true hp) ?_
    refine WS.cT ?_
    refine WS.sq ?_
    refine WS.rg ?_
    refine RS.mS 1 [(22, .val (Value.pointer a0))] ?_
    obtain ⟨q3, hx, hq3⟩ := bind_some h
    subst hx
    have h := hq3
    refine RS.mS 3 [(25, .val (Value.pointer (some (Addr.add (Addr.add q3 0) 2)))), (24, .val (Value.pointer (some (Addr.add q3 0)))), (23, .val (Value.pointer (some q3)))] ?_
    obtain ⟨x4, hx, h⟩ := bind_some h
    refine RS.o (H' := H2) (some 26) (Sl3.v x4) (Abs.run_load (t := 39) (x := .tmp 25) (a := (Addr.add (Addr.add q3 0) 2)) (by kernel_rfl) (by kernel_rfl) (by kernel_rfl) (rd_cell hx deSl_inv)) ?_
    refine RS.mS 1 [(27, .val (Value.func (.func 82) #[] #[(Value.pointer (some p1))]))] ?_
    obtain ⟨x5, hx, h⟩ := bind_some h
    refine RS.cl (some 28) (v := (Value.int .i64 x5)) 81 #[(Sl3.v x4), (Value.func (.func 82) #[] #[(Value.pointer (some p1))])] (slices_IndexFunc__82_ok hx) ?_
    refine RS.mS 1 [(9, .val (Value.int .i64 x5))] ?_
    refine RS.dn ?_
    refine WS.nxt ?_
    refine WS.sq ?_
    refine WS.sq ?_
    refine WS.rg ?_
    refine RS.mS 2 [(30, .val (Value.bool (decide (x5 < 0)))), (29, .val (Value.int .i64 x5))] ?_
    refine RS.dn ?_
    refine WS.nxt ?_
    rcases ite_some h with ⟨hp, h⟩ | ⟨hp, h⟩
    · refine WS.fx 30 true (decide_eq_true hp) ?_
      refine WS.cT ?_
      cases h
    · refine WS.fx 30 false (decide_eq_false hp) ?_
      refine WS.cF ?_
      refine WS.sk ?_
      refine WS.nxt ?_
      refine WS.sq ?_
      refine WS.dr [0, 1, 2, 3, 4, 5, 6, 7, 8, 9, 10, 11, 12, 13, 14, 15, 16, 17] [0, 1, 3, 7, 15, 0, 63, 127, 255, 0, 512, 1536, 3584, 7680, 0, 32256, 65024, 130560, 511, 524287, 1048575] 21 (fun hcl => ?_)
      refine DA.tK 0 (some 32) (Value.pointer (some q3)) ?_
      refine DA.tK 1 (some 33) (Value.pointer (some q3)) ?_
      refine DA.tK 2 (some 34) (Value.pointer (some (Addr.add q3 0))) ?_
      refine DA.tK 3 (some 35) (Value.pointer (some (Addr.add (Addr.add q3 0) 2))) ?_
      obtain ⟨x6, hx, h⟩ := bind_some h
      refine DA.tD 4 (some 36) (Sl3.v x6) (Abs.det_load (t := 39) (x := .tmp 35) (a := (Addr.add (Addr.add q3 0) 2)) (by kernel_rfl) (by kernel_rfl) (by kernel_rfl) (by kernel_rfl) (rd_cell hx deSl_inv)) ?_
      refine DA.tK 5 (some 37) (Value.int .i64 x5) ?_
      obtain ⟨p7, hx, h⟩ := bind_some h
      refine DA.tD 6 (some 38) (Value.pointer (some p7)) (Abs.det_idx (s := x6) (k := .i64) (t := 39) (e := 108) (x := .tmp 36) (y := .tmp 37) (by kernel_rfl) (by kernel_rfl) (by kernel_rfl) (by kernel_rfl) (by kernel_rfl) hx) ?_
      refine DA.tK 7 (some 39) (Value.pointer (some (Addr.add p7 1))) ?_
      obtain ⟨x8, hx, h⟩ := bind_some h
      refine DA.tD 8 (some 40) (Sl3.v x8) (Abs.det_load (t := 30) (x := .tmp 39) (a := (Addr.add p7 1)) (by kernel_rfl) (by kernel_rfl) (by kernel_rfl) (by kernel_rfl) (rd_cell hx deSl_inv)) ?_
      refine DA.tK 9 (some 41) (Value.pointer (some q3)) ?_
      refine DA.tK 10 (some 42) (Value.pointer (some q3)) ?_
      refine DA.tK 11 (some 43) (Value.pointer (some (Addr.add q3 0))) ?_
      refine DA.tK 12 (some 44) (Value.pointer (some (Addr.add (Addr.add q3 0) 2))) ?_
      obtain ⟨x9, hx, h⟩ := bind_some h
      refine DA.tD 13 (some 45) (Sl3.v x9) (Abs.det_load (t := 39) (x := .tmp 44) (a := (Addr.add (Addr.add q3 0) 2)) (by kernel_rfl) (by kernel_rfl) (by kernel_rfl) (by kernel_rfl) (rd_cell hx deSl_inv)) ?_
      refine DA.tK 14 (some 46) (Value.int .i64 x5) ?_
      obtain ⟨p10, hx, h⟩ := bind_some h
      refine DA.tD 15 (some 47) (Value.pointer (some p10)) (Abs.det_idx (s := x9) (k := .i64) (t := 39) (e := 108) (x := .tmp 45) (y := .tmp 46) (by kernel_rfl) (by kernel_rfl) (by kernel_rfl) (by kernel_rfl) (by kernel_rfl) hx) ?_
      refine DA.tK 16 (some 48) (Value.pointer (some (Addr.add p10 2))) ?_
      obtain ⟨x11_0, hx0, h⟩ := bind_some h
      obtain ⟨x11_1, hx1, h⟩ := bind_some h
      obtain ⟨x11_2, hx2, h⟩ := bind_some h
      obtain ⟨x11_3, hx3, h⟩ := bind_some h
      refine DA.tD 17 (some 49) (Value.agg #[(Value.int .i64 x11_0), (Value.int .i64 x11_1), (Value.string x11_2), (Sl3.v x11_3)]) (Abs.det_loadA (t := 32) (x := .tmp 48) (a := (Addr.add p10 2)) (k := 4) (by kernel_rfl) (by kernel_rfl) (by kernel_rfl) (by kernel_rfl) (rdc_cons (rd_cell hx0 deI_inv) (rdc_cons (rd_cell hx1 deI_inv) (rdc_cons (rd_cell hx2 deS_inv) (rdc_cons (rd_cell hx3 deSl_inv) rdc_nil))))) ?_
      refine DA.tP 18 (some 6) (Sl3.v x8) ?_
      refine DA.on 19 ?_
      refine DA.aL 19 none (.val undef) ([some (32, [(Value.int .i64 x11_0), (Value.int .i64 x11_1), (Value.string x11_2), (Sl3.v x11_3)])]) false ?_
      refine DA.tP 20 (some 8) (Value.bool true) ?_
      refine DA.dn ?_
      refine WS.nxt ?_
      refine WS.rt ?_
      cases h
      exact fun a w hs => sqR (rtR (rS hs))
  · refine WS.fx 21 false (decide_eq_false hp) ?_
    refine WS.cF ?_
    cases h

end Go.Proofs.YtgkogeglciogkaaGreatDoor
