/- Functions of the program as Lean functions over the abstract heap, and that they are what the program computes (printed by a program of this project's own), part 3. No condition. -/
import Derived.Test.YtgkogeglciogkaaGreatDoorNobodyG2
namespace Go.Proofs.YtgkogeglciogkaaGreatDoor
open Go Go.Abs
set_option maxRecDepth 100000

def term_head_enc : (ByteArray × AH) → Value
  | (r0, _) => (Value.string r0)

def term_head_hp (_ : AH) : (ByteArray × AH) → AH := fun r => r.2

noncomputable def B45 : Code := (Tryz.f45.body).getD .skip

noncomputable def term_head (L : LC) (m : Nat) (H : AH) (a0_0 : Int) (a0_1 : ByteArray) (_a0_2 : Bool) (_a0_3 : Sl3) (_a0_4 : Int) (_a0_5 : Sl3) (_a0_6 : Int) (_a0_7 : Int) (_a0_8 : ByteArray) (_a0_9 : Sl3) (a0_10 : Sl3) (_a0_11 : Sl3) : Option (ByteArray × AH) :=
  Option.bind (α := Bool) (
    if a0_0 = 11 then
      some true
    else
      if a0_0 = 12 then
        none
      else
        some (decide (a0_0 = 13))) fun v10_1 =>
  if v10_1 = true then
    Option.bind (sort_Quote L m H a0_1) fun (x2, H3) =>
    some (x2, H3)
  else
    if a0_0 = 14 then
      none
    else
      if a0_0 = 20 then
        none
      else
        if a0_0 = 40 then
          none
        else
          if a0_0 = 34 then
            none
          else
            if (a0_10.n : Int) = 0 then
              Option.bind (term_named L m H a0_0) fun (x4, H5) =>
              some (x4, H5)
            else
              none

theorem term_head_ok {L : LC} {m : Nat} {H : AH} {a0_0 : Int} {a0_1 : ByteArray} {a0_2 : Bool} {a0_3 : Sl3} {a0_4 : Int} {a0_5 : Sl3} {a0_6 : Int} {a0_7 : Int} {a0_8 : ByteArray} {a0_9 : Sl3} {a0_10 : Sl3} {a0_11 : Sl3} {r : (ByteArray × AH)} (h : term_head L m H a0_0 a0_1 a0_2 a0_3 a0_4 a0_5 a0_6 a0_7 a0_8 a0_9 a0_10 a0_11 = some r) :
    CallS Tryz.prog (NE.plain 92) m 45 #[(Value.agg #[(Value.int .i64 a0_0), (Value.string a0_1), (Value.bool a0_2), (Sl3.v a0_3), (Value.int .i64 a0_4), (Sl3.v a0_5), (Value.int .i64 a0_6), (Value.int .i64 a0_7), (Value.string a0_8), (Sl3.v a0_9), (Sl3.v a0_10), (Sl3.v a0_11)])] H (term_head_enc r) (term_head_hp H r) := by
  refine CallS.mk (args := [(Value.agg #[(Value.int .i64 a0_0), (Value.string a0_1), (Value.bool a0_2), (Sl3.v a0_3), (Value.int .i64 a0_4), (Sl3.v a0_5), (Value.int .i64 a0_6), (Value.int .i64 a0_7), (Value.string a0_8), (Sl3.v a0_9), (Sl3.v a0_10), (Sl3.v a0_11)])]) Tryz.func45 (B := B45) (by kernel_rfl) (fun E _ => ?_)
  unfold term_head at h
  refine WS.sq ?_
  refine WS.rg ?_
  refine RS.mL 2 [(2, .val (Value.string (⟨#[]⟩ : ByteArray))), (1, .loc 0 0)] ([some (35, [(Value.int .i64 a0_0), (Value.string a0_1), (Value.bool a0_2), (Sl3.v a0_3), (Value.int .i64 a0_4), (Sl3.v a0_5), (Value.int .i64 a0_6), (Value.int .i64 a0_7), (Value.string a0_8), (Sl3.v a0_9), (Sl3.v a0_10), (Sl3.v a0_11)])]) ?_
  refine RS.dn ?_
  refine WS.nxt ?_
  refine WS.sq ?_
  refine WS.sq ?_
  refine WS.rg ?_
  refine RS.mS 2 [(9, .val (Value.int .i64 a0_0)), (8, .loc 0 0)] ?_
  refine RS.dn ?_
  refine WS.nxt ?_
  refine WS.bk 0 ?_
  obtain ⟨v10_1, hx, h⟩ := bind_some h
  refine WS.sq ?_
  refine WS.join ([(10, .val (Value.bool v10_1)), (1, .loc 0 0), (9, .val (Value.int .i64 a0_0))]) ([some (35, [(Value.int .i64 a0_0), (Value.string a0_1), (Value.bool a0_2), (Sl3.v a0_3), (Value.int .i64 a0_4), (Sl3.v a0_5), (Value.int .i64 a0_6), (Value.int .i64 a0_7), (Value.string a0_8), (Sl3.v a0_9), (Sl3.v a0_10), (Sl3.v a0_11)])]) H ?_ (fun a w hs => WS.nxt ?_ a w hs)
  · clear h; rename _ => h
    refine WS.sq ?_
    refine WS.rg ?_
    refine RS.mS 2 [(10, .val (Value.bool (decide (a0_0 = 11)))), (11, .val (Value.bool (decide (a0_0 = 11))))] ?_
    refine RS.dn ?_
    refine WS.nxt ?_
    rcases ite_some h with ⟨hp, h⟩ | ⟨hp, h⟩
    · refine WS.fx 10 true (decide_eq_true hp) ?_
      refine WS.cT ?_
      refine WS.sk ?_
      cases h
      exact fun a w hs => (jsN (hs.sb 1))
    · refine WS.fx 10 false (decide_eq_false hp) ?_
      refine WS.cF ?_
      refine WS.sq ?_
      refine WS.rg ?_
      refine RS.mS 2 [(10, .val (Value.bool (decide (a0_0 = 12)))), (12, .val (Value.bool (decide (a0_0 = 12))))] ?_
      refine RS.dn ?_
      refine WS.nxt ?_
      rcases ite_some h with ⟨hp, h⟩ | ⟨hp, h⟩
      · refine WS.fx 10 true (decide_eq_true hp) ?_
        refine WS.cT ?_
        cases h
      · refine WS.fx 10 false (decide_eq_false hp) ?_
        refine WS.cF ?_
        refine WS.rg ?_
        refine RS.mS 2 [(10, .val (Value.bool (decide (a0_0 = 13)))), (13, .val (Value.bool (decide (a0_0 = 13))))] ?_
        refine RS.dn ?_
        cases h
        exact fun a w hs => (jsN (hs.sb 1))
  · clear hx
    rcases ite_some h with ⟨hp, h⟩ | ⟨hp, h⟩
    · refine WS.fx 10 true hp ?_
      refine WS.cT ?_
      refine WS.sq ?_
      refine WS.rg ?_
      refine RS.mS 2 [(15, .val (Value.string a0_1)), (14, .loc 0 1)] ?_
      obtain ⟨⟨x2, H3⟩, hx, h⟩ := bind_some h
      try dsimp only at h
      refine RS.cl (some 16) (v := (Value.string x2)) 66 #[(Value.string a0_1)] (sort_Quote_ok hx) ?_
      refine RS.mS 1 [(2, .val (Value.string x2))] ?_
      refine RS.dn ?_
      refine WS.nxt ?_
      refine WS.rt ?_
      cases h
      exact fun a w hs => bkR (sqR (rtR (rS hs)))
    · refine WS.fx 10 false (b_not hp) ?_
      refine WS.cF ?_
      refine WS.sq ?_
      refine WS.rg ?_
      refine RS.mS 2 [(17, .val (Value.bool (decide (a0_0 = 14)))), (18, .val (Value.bool (decide (a0_0 = 14))))] ?_
      refine RS.dn ?_
      refine WS.nxt ?_
      rcases ite_some h with ⟨hp, h⟩ | ⟨hp, h⟩
      · refine WS.fx 17 true (decide_eq_true hp) ?_
        refine WS.cT ?_
        cases h
      · refine WS.fx 17 false (decide_eq_false hp) ?_
        refine WS.cF ?_
        refine WS.sq ?_
        refine WS.rg ?_
        refine RS.mS 2 [(24, .val (Value.bool (decide (a0_0 = 20)))), (25, .val (Value.bool (decide (a0_0 = 20))))] ?_
        refine RS.dn ?_
        refine WS.nxt ?_
        rcases ite_some h with ⟨hp, h⟩ | ⟨hp, h⟩
        · refine WS.fx 24 true (decide_eq_true hp) ?_
          refine WS.cT ?_
          cases h
        · refine WS.fx 24 false (decide_eq_false hp) ?_
          refine WS.cF ?_
          refine WS.sq ?_
          refine WS.rg ?_
          refine RS.mS 2 [(29, .val (Value.bool (decide (a0_0 = 40)))), (30, .val (Value.bool (decide (a0_0 = 40))))] ?_
          refine RS.dn ?_
          refine WS.nxt ?_
          rcases ite_some h with ⟨hp, h⟩ | ⟨hp, h⟩
          · refine WS.fx 29 true (decide_eq_true hp) ?_
            refine WS.cT ?_
            cases h
          · refine WS.fx 29 false (decide_eq_false hp) ?_
            refine WS.cF ?_
            refine WS.sq ?_
            refine WS.rg ?_
            refine RS.mS 2 [(34, .val (Value.bool (decide (a0_0 = 34)))), (35, .val (Value.bool (decide (a0_0 = 34))))] ?_
            refine RS.dn ?_
            refine WS.nxt ?_
            rcases ite_some h with ⟨hp, h⟩ | ⟨hp, h⟩
            · refine WS.fx 34 true (decide_eq_true hp) ?_
              refine WS.cT ?_
              cases h
            · refine WS.fx 34 false (decide_eq_false hp) ?_
              refine WS.cF ?_
              refine WS.sk ?_
              refine fun a w hs => bkN ((WS.nxt ?_ a w hs))
              refine WS.sq ?_
              refine WS.sq ?_
              refine WS.rg ?_
              refine RS.mS 4 [(48, .val (Value.bool (decide ((a0_10.n : Int) = 0)))), (47, .val (Value.int .i64 (a0_10.n : Int))), (46, .val (Sl3.v a0_10)), (45, .loc 0 10)] ?_
              refine RS.dn ?_
              refine WS.nxt ?_
              rcases ite_some h with ⟨hp, h⟩ | ⟨hp, h⟩
              · refine WS.fx 48 true (decide_eq_true hp) ?_
                refine WS.cT ?_
                refine WS.sq ?_
                refine WS.rg ?_
                refine RS.mS 2 [(50, .val (Value.int .i64 a0_0)), (49, .loc 0 0)] ?_
                obtain ⟨⟨x4, H5⟩, hx, h⟩ := bind_some h
                try dsimp only at h
                refine RS.cl (some 51) (v := (Value.string x4)) 69 #[(Value.int .i64 a0_0)] (term_named_ok hx) ?_
                refine RS.mS 1 [(2, .val (Value.string x4))] ?_
                refine RS.dn ?_
                refine WS.nxt ?_
                refine WS.rt ?_
                cases h
                exact fun a w hs => sqR (rtR (rS hs))
              · refine WS.fx 48 false (decide_eq_false hp) ?_
                refine WS.cF ?_
                cases h

def term_Table_write_enc : AH → Value
  | _ => (Value.tuple #[])

def term_Table_write_hp (_ : AH) : AH → AH := fun r => r

noncomputable def B21 : Code := (Tryz.f21.body).getD .skip

noncomputable def term_Table_write_b0 (L : LC) (rec_term_Table_write : Nat → AH → (Option Addr) → (Option Addr) → Int → Option AH) (m : Nat) (a1 : Option Addr) (q2 : Addr) (_x5_0 : Int) (_x5_1 : ByteArray) (_x5_2 : Bool) (_x5_3 : Sl3) (_x5_4 : Int) (_x5_5 : Sl3) (_x5_6 : Int) (_x5_7 : Int) (_x5_8 : ByteArray) (_x5_9 : Sl3) (_x5_10 : Sl3) (x5_11 : Sl3) : (AH × Int) → Option (Lp (AH × Int) AH) := fun (H17, v36_18) =>
  if v36_18 < (x5_11.n : Int) then
    Option.bind (idxA 1 x5_11 v36_18) fun p19 =>
    Option.bind (rd (deI .i64) H17 p19) fun x20 =>
    Option.bind (strings_Builder_Len L H17 a1) fun x21 =>
    if x21 > 1048576 then
      none
    else
      Option.bind (strings_Builder_WriteByte L m H17 a1 32) fun (_, H23) =>
      Option.bind (rec_term_Table_write m H23 (some q2) a1 x20) fun H24 =>
      some (.next (H24, (IntKind.i64.wrap (v36_18 + 1))))
  else
    some (.brk (H17, v36_18))

def term_Table_write_b0_kn (_L : LC) (_rec_term_Table_write : Nat → AH → (Option Addr) → (Option Addr) → Int → Option AH) (_m : Nat) (a1 : Option Addr) (q2 : Addr) (_x5_0 : Int) (_x5_1 : ByteArray) (_x5_2 : Bool) (_x5_3 : Sl3) (_x5_4 : Int) (_x5_5 : Sl3) (_x5_6 : Int) (_x5_7 : Int) (_x5_8 : ByteArray) (_x5_9 : Sl3) (_x5_10 : Sl3) (x5_11 : Sl3) : (AH × Int) → KN := fun (_, v36_18) => [(36, .val (Value.int .i64 v36_18)), (0, .val (Value.pointer (some q2))), (1, .val (Value.pointer a1)), (34, .val (Sl3.v x5_11)), (35, .val (Value.int .i64 (x5_11.n : Int)))]

def term_Table_write_b0_ls (_L : LC) (_rec_term_Table_write : Nat → AH → (Option Addr) → (Option Addr) → Int → Option AH) (_m : Nat) (_a1 : Option Addr) (_q2 : Addr) (x5_0 : Int) (x5_1 : ByteArray) (x5_2 : Bool) (x5_3 : Sl3) (x5_4 : Int) (x5_5 : Sl3) (x5_6 : Int) (x5_7 : Int) (x5_8 : ByteArray) (x5_9 : Sl3) (x5_10 : Sl3) (x5_11 : Sl3) : (AH × Int) → Lcs := fun (_, _) => [some (35, [(Value.int .i64 x5_0), (Value.string x5_1), (Value.bool x5_2), (Sl3.v x5_3), (Value.int .i64 x5_4), (Sl3.v x5_5), (Value.int .i64 x5_6), (Value.int .i64 x5_7), (Value.string x5_8), (Sl3.v x5_9), (Sl3.v x5_10), (Sl3.v x5_11)])]

noncomputable def term_Table_write_body (L : LC) (rec_term_Table_write : Nat → AH → (Option Addr) → (Option Addr) → Int → Option AH) (m : Nat) (H : AH) (a0 : Option Addr) (a1 : Option Addr) (a2 : Int) : Option AH :=
  Option.bind (strings_Builder_Len L H a1) fun x1 =>
  if x1 > 1048576 then
    none
  else
    Option.bind a0 fun q2 =>
    Option.bind (rd deSl H (Addr.add q2 3)) fun x3 =>
    Option.bind (idxA 16 x3 a2) fun p4 =>
    Option.bind (rd (deI .i64) H (Addr.add (Addr.add p4 0) 0)) fun x5_0 =>
    Option.bind (rd deS H (Addr.add (Addr.add p4 0) 1)) fun x5_1 =>
    Option.bind (rd deB H (Addr.add (Addr.add p4 0) 2)) fun x5_2 =>
    Option.bind (rd deSl H (Addr.add (Addr.add p4 0) 3)) fun x5_3 =>
    Option.bind (rd (deI .i64) H (Addr.add (Addr.add p4 0) 4)) fun x5_4 =>
    Option.bind (rd deSl H (Addr.add (Addr.add p4 0) 5)) fun x5_5 =>
    Option.bind (rd (deI .i64) H (Addr.add (Addr.add p4 0) 6)) fun x5_6 =>
    Option.bind (rd (deI .i64) H (Addr.add (Addr.add p4 0) 7)) fun x5_7 =>
    Option.bind (rd deS H (Addr.add (Addr.add p4 0) 8)) fun x5_8 =>
    Option.bind (rd deSl H (Addr.add (Addr.add p4 0) 9)) fun x5_9 =>
    Option.bind (rd deSl H (Addr.add (Addr.add p4 0) 10)) fun x5_10 =>
    Option.bind (rd deSl H (Addr.add (Addr.add p4 0) 11)) fun x5_11 =>
    if (x5_11.n : Int) = 0 then
      Option.bind (term_head L m H x5_0 x5_1 x5_2 x5_3 x5_4 x5_5 x5_6 x5_7 x5_8 x5_9 x5_10 x5_11) fun (x6, H7) =>
      Option.bind (strings_Builder_WriteString L m H7 a1 x6) fun (_, _, H10) =>
      some H10
    else
      Option.bind (term_head L m H x5_0 x5_1 x5_2 x5_3 x5_4 x5_5 x5_6 x5_7 x5_8 x5_9 x5_10 x5_11) fun (x11, H12) =>
      Option.bind (strcat (⟨#[40]⟩ : ByteArray) x11) fun s13 =>
      Option.bind (strings_Builder_WriteString L m H12 a1 s13) fun (_, _, H16) =>
      Option.bind (L.run (term_Table_write_b0 L rec_term_Table_write m a1 q2 x5_0 x5_1 x5_2 x5_3 x5_4 x5_5 x5_6 x5_7 x5_8 x5_9 x5_10 x5_11) (H16, 0)) fun o => match o with
      | .inl (H25, _) =>
        Option.bind (strings_Builder_WriteByte L m H25 a1 41) fun (_, H28) =>
        some H28
      | .inr r => some r

noncomputable def fam_term_Table_write (L : LC) (n : Nat) : (Nat → AH → (Option Addr) → (Option Addr) → Int → Option AH) := Nat.rec (motive := fun _ => (Nat → AH → (Option Addr) → (Option Addr) → Int → Option AH)) (fun _ _ _ _ _ => none) (fun _ p => term_Table_write_body L p) n

noncomputable def term_Table_write (L : LC) (m : Nat) (H : AH) (a0 : Option Addr) (a1 : Option Addr) (a2 : Int) : Option AH := (fam_term_Table_write L L.fuel) m H a0 a1 a2

theorem term_Table_write_b0_ok {E : Ent} {H : AH} {L : LC} {rec_term_Table_write : Nat → AH → (Option Addr) → (Option Addr) → Int → Option AH} {m : Nat} {a1 : Option Addr} {q2 : Addr} {x5_0 : Int} {x5_1 : ByteArray} {x5_2 : Bool} {x5_3 : Sl3} {x5_4 : Int} {x5_5 : Sl3} {x5_6 : Int} {x5_7 : Int} {x5_8 : ByteArray} {x5_9 : Sl3} {x5_10 : Sl3} {x5_11 : Sl3} (hrec_term_Table_write : ∀ (m : Nat) (H : AH) (a0 : Option Addr) (a1 : Option Addr) (a2 : Int) (r : AH), rec_term_Table_write m H a0 a1 a2 = some r → CallS Tryz.prog (NE.plain 92) m 21 #[(Value.pointer a0), (Value.pointer a1), (Value.int .i64 a2)] H (term_Table_write_enc r) (term_Table_write_hp H r)) : ∀ s o, term_Table_write_b0 L rec_term_Table_write m a1 q2 x5_0 x5_1 x5_2 x5_3 x5_4 x5_5 x5_6 x5_7 x5_8 x5_9 x5_10 x5_11 s = some o →
    WS Tryz.prog (NE.plain 92) m E Tryz.f21.ntmps (cfst (cfst (csnd (cfst (csnd (csnd (csnd (csnd B21)))))))) (term_Table_write_b0_kn L rec_term_Table_write m a1 q2 x5_0 x5_1 x5_2 x5_3 x5_4 x5_5 x5_6 x5_7 x5_8 x5_9 x5_10 x5_11 s) (term_Table_write_b0_ls L rec_term_Table_write m a1 q2 x5_0 x5_1 x5_2 x5_3 x5_4 x5_5 x5_6 x5_7 x5_8 x5_9 x5_10 x5_11 s) ((fun s => s.1) s) (lpS Tryz.prog (NE.plain 92) m E Tryz.f21.ntmps (term_Table_write_b0_kn L rec_term_Table_write m a1 q2 x5_0 x5_1 x5_2 x5_3 x5_4 x5_5 x5_6 x5_7 x5_8 x5_9 x5_10 x5_11) (term_Table_write_b0_ls L rec_term_Table_write m a1 q2 x5_0 x5_1 x5_2 x5_3 x5_4 x5_5 x5_6 x5_7 x5_8 x5_9 x5_10 x5_11) (fun s => s.1) 0 (fun r => RT Tryz.prog (NE.plain 92) m E Tryz.f21 (term_Table_write_enc r) (term_Table_write_hp H r)) o) := by
  rintro ⟨H17, v36_18⟩ o h
  unfold term_Table_write_b0 at h
  try dsimp only at h
  refine WS.sq ?_
  refine WS.rg ?_
  refine RS.mS 1 [(37, .val (Value.bool (decide (v36_18 < (x5_11.n : Int)))))] ?_
  refine RS.dn ?_
  refine WS.nxt ?_
  refine WS.sq ?_
  rcases ite_some h with ⟨hp, h⟩ | ⟨hp, h⟩
  · refine WS.fx 37 true (decide_eq_true hp) ?_
    refine WS.cT ?_
    refine WS.sk ?_
    refine WS.nxt ?_
    refine WS.sq ?_
    refine WS.bk 1 ?_
    refine WS.sq ?_
    refine WS.rg ?_
    obtain ⟨p19, hx, h⟩ := bind_some h
    refine RS.o (H' := H17) (some 38) (Value.pointer (some p19)) (Abs.run_idx (s := x5_11) (k := .i64) (t := 33) (e := 3) (x := .tmp 34) (y := .tmp 36) (by kernel_rfl) (by kernel_rfl) (by kernel_rfl) (by kernel_rfl) (by kernel_rfl) hx) ?_
    obtain ⟨x20, hx, h⟩ := bind_some h
    refine RS.o (H' := H17) (some 39) (Value.int .i64 x20) (Abs.run_load (t := 3) (x := .tmp 38) (a := p19) (by kernel_rfl) (by kernel_rfl) (by kernel_rfl) (rd_cell hx deI_inv)) ?_
    refine RS.mS 1 [(8, .val (Value.int .i64 x20))] ?_
    refine RS.dn ?_
    refine WS.nxt ?_
    refine WS.sq ?_
    refine WS.sq ?_
    refine WS.rg ?_
    refine RS.mS 1 [(40, .val (Value.pointer a1))] ?_
    obtain ⟨x21, hx, h⟩ := bind_some h
    refine RS.cl (some 41) (v := (Value.int .i64 x21)) 22 #[(Value.pointer a1)] (strings_Builder_Len_ok hx) ?_
    refine RS.mS 1 [(42, .val (Value.bool (decide (x21 > 1048576))))] ?_
    refine RS.dn ?_
    refine WS.nxt ?_
    rcases ite_some h with ⟨hp, h⟩ | ⟨hp, h⟩
    · refine WS.fx 42 true (decide_eq_true hp) ?_
      refine WS.cT ?_
      cases h
    · refine WS.fx 42 false (decide_eq_false hp) ?_
      refine WS.cF ?_
      refine WS.sk ?_
      refine WS.nxt ?_
      refine WS.sq ?_
      refine WS.rg ?_
      refine RS.mS 1 [(43, .val (Value.pointer a1))] ?_
      obtain ⟨⟨x22, H23⟩, hx, h⟩ := bind_some h
      try dsimp only at h
      refine RS.cl (some 44) (v := x22) 41 #[(Value.pointer a1), (Value.int .u8 32)] (strings_Builder_WriteByte_ok hx) ?_
      refine RS.dn ?_
      refine WS.nxt ?_
      refine WS.rg ?_
      refine RS.mS 3 [(47, .val (Value.int .i64 x20)), (46, .val (Value.pointer a1)), (45, .val (Value.pointer (some q2)))] ?_
      obtain ⟨H24, hx, h⟩ := bind_some h
      refine RS.cl (some 48) (v := (Value.tuple #[])) 21 #[(Value.pointer (some q2)), (Value.pointer a1), (Value.int .i64 x20)] (hrec_term_Table_write _ _ _ _ _ _ hx) ?_
      refine RS.dn ?_
      refine fun a w hs => bkN ((WS.nxt ?_ a w hs))
      refine WS.rg ?_
      refine RS.mS 2 [(36, .val (Value.int .i64 (IntKind.i64.wrap (v36_18 + 1)))), (49, .val (Value.int .i64 (IntKind.i64.wrap (v36_18 + 1))))] ?_
      refine RS.dn ?_
      cases h
      exact fun a w hs => lsN rfl (hs.sb 1)
  · refine WS.fx 37 false (decide_eq_false hp) ?_
    refine WS.cF ?_
    refine WS.ex 0 ?_
    cases h
    exact fun a w hs => sqE (lsB rfl (hs.sb 1))

theorem term_Table_write_body_ok {L : LC} {rec_term_Table_write : Nat → AH → (Option Addr) → (Option Addr) → Int → Option AH} (hrec_term_Table_write : ∀ (m : Nat) (H : AH) (a0 : Option Addr) (a1 : Option Addr) (a2 : Int) (r : AH), rec_term_Table_write m H a0 a1 a2 = some r → CallS Tryz.prog (NE.plain 92) m 21 #[(Value.pointer a0), (Value.pointer a1), (Value.int .i64 a2)] H (term_Table_write_enc r) (term_Table_write_hp H r)) {m : Nat} {H : AH} {a0 : Option Addr} {a1 : Option Addr} {a2 : Int} {r : AH} (h : term_Table_write_body L rec_term_Table_write m H a0 a1 a2 = some r) :
    CallS Tryz.prog (NE.plain 92) m 21 #[(Value.pointer a0), (Value.pointer a1), (Value.int .i64 a2)] H (term_Table_write_enc r) (term_Table_write_hp H r) := by
  refine CallS.mk (args := [(Value.pointer a0), (Value.pointer a1), (Value.int .i64 a2)]) Tryz.func21 (B := B21) (by kernel_rfl) (fun E _ => ?_)
  unfold term_Table_write_body at h
  refine WS.sq ?_
  refine WS.sq ?_
  refine WS.rg ?_
  refine RS.mS 1 [(9, .val (Value.pointer a1))] ?_
  obtain ⟨x1, hx, h⟩ := bind_some h
  refine RS.cl (some 10) (v := (Value.int .i64 x1)) 22 #[(Value.pointer a1)] (strings_Builder_Len_ok hx) ?_
  refine RS.mS 1 [(11, .val (Value.bool (decide (x1 > 1048576))))] ?_
  refine RS.dn ?_
  refine WS.nxt ?_
  rcases ite_some h with ⟨hp, h⟩ | ⟨hp, h⟩
  · refine WS.fx 11 true (decide_eq_true hp) ?_
    refine WS.cT ?_
    cases h
  · refine WS.fx 11 false (decide_eq_false hp) ?_
    refine WS.cF ?_
    refine WS.sk ?_
    refine WS.nxt ?_
    refine WS.sq ?_
    refine WS.rg ?_
    refine RS.mS 1 [(12, .val (Value.pointer a0))] ?_
    obtain ⟨q2, hx, hq2⟩ := bind_some h
    subst hx
    have h := hq2
    refine RS.mS 2 [(14, .val (Value.pointer (some (Addr.add q2 3)))), (13, .val (Value.pointer (some q2)))] ?_
    obtain ⟨x3, hx, h⟩ := bind_some h
    refine RS.o (H' := H) (some 15) (Sl3.v x3) (Abs.run_load (t := 42) (x := .tmp 14) (a := (Addr.add q2 3)) (by kernel_rfl) (by kernel_rfl) (by kernel_rfl) (rd_cell hx deSl_inv)) ?_
    refine RS.mS 1 [(16, .val (Value.int .i64 a2))] ?_
    obtain ⟨p4, hx, h⟩ := bind_some h
    refine RS.o (H' := H) (some 17) (Value.pointer (some p4)) (Abs.run_idx (s := x3) (k := .i64) (t := 42) (e := 70) (x := .tmp 15) (y := .tmp 16) (by kernel_rfl) (by kernel_rfl) (by kernel_rfl) (by kernel_rfl) (by kernel_rfl) hx) ?_
    refine RS.mS 1 [(18, .val (Value.pointer (some (Addr.add p4 0))))] ?_
    obtain ⟨x5_0, hx0, h⟩ := bind_some h
    obtain ⟨x5_1, hx1, h⟩ := bind_some h
    obtain ⟨x5_2, hx2, h⟩ := bind_some h
    obtain ⟨x5_3, hx3, h⟩ := bind_some h
    obtain ⟨x5_4, hx4, h⟩ := bind_some h
    obtain ⟨x5_5, hx5, h⟩ := bind_some h
    obtain ⟨x5_6, hx6, h⟩ := bind_some h
    obtain ⟨x5_7, hx7, h⟩ := bind_some h
    obtain ⟨x5_8, hx8, h⟩ := bind_some h
    obtain ⟨x5_9, hx9, h⟩ := bind_some h
    obtain ⟨x5_10, hx10, h⟩ := bind_some h
    obtain ⟨x5_11, hx11, h⟩ := bind_some h
    refine RS.o (H' := H) (some 19) (Value.agg #[(Value.int .i64 x5_0), (Value.string x5_1), (Value.bool x5_2), (Sl3.v x5_3), (Value.int .i64 x5_4), (Sl3.v x5_5), (Value.int .i64 x5_6), (Value.int .i64 x5_7), (Value.string x5_8), (Sl3.v x5_9), (Sl3.v x5_10), (Sl3.v x5_11)]) (Abs.run_loadAg (t := 35) (x := .tmp 18) (a := (Addr.add p4 0)) (k := 12) (by kernel_rfl) (by kernel_rfl) (by kernel_rfl) (by kernel_rfl) (rdc_cons (rd_cell hx0 deI_inv) (rdc_cons (rd_cell hx1 deS_inv) (rdc_cons (rd_cell hx2 deB_inv) (rdc_cons (rd_cell hx3 deSl_inv) (rdc_cons (rd_cell hx4 deI_inv) (rdc_cons (rd_cell hx5 deSl_inv) (rdc_cons (rd_cell hx6 deI_inv) (rdc_cons (rd_cell hx7 deI_inv) (rdc_cons (rd_cell hx8 deS_inv) (rdc_cons (rd_cell hx9 deSl_inv) (rdc_cons (rd_cell hx10 deSl_inv) (rdc_cons (rd_cell hx11 deSl_inv) rdc_nil))))))))))))) ?_
    refine RS.mL 2 [(6, .loc 0 0)] ([some (35, [(Value.int .i64 x5_0), (Value.string x5_1), (Value.bool x5_2), (Sl3.v x5_3), (Value.int .i64 x5_4), (Sl3.v x5_5), (Value.int .i64 x5_6), (Value.int .i64 x5_7), (Value.string x5_8), (Sl3.v x5_9), (Sl3.v x5_10), (Sl3.v x5_11)])]) ?_
    refine RS.dn ?_
    refine WS.nxt ?_
    refine WS.sq ?_
    refine WS.sq ?_
    refine WS.rg ?_
    refine RS.mS 4 [(23, .val (Value.bool (decide ((x5_11.n : Int) = 0)))), (22, .val (Value.int .i64 (x5_11.n : Int))), (21, .val (Sl3.v x5_11)), (20, .loc 0 11)] ?_
    refine RS.dn ?_
    refine WS.nxt ?_
    rcases ite_some h with ⟨hp, h⟩ | ⟨hp, h⟩
    · refine WS.fx 23 true (decide_eq_true hp) ?_
      refine WS.cT ?_
      refine WS.sq ?_
      refine WS.rg ?_
      refine RS.mS 2 [(25, .val (Value.agg #[(Value.int .i64 x5_0), (Value.string x5_1), (Value.bool x5_2), (Sl3.v x5_3), (Value.int .i64 x5_4), (Sl3.v x5_5), (Value.int .i64 x5_6), (Value.int .i64 x5_7), (Value.string x5_8), (Sl3.v x5_9), (Sl3.v x5_10), (Sl3.v x5_11)])), (24, .val (Value.pointer a1))] ?_
      obtain ⟨⟨x6, H7⟩, hx, h⟩ := bind_some h
      try dsimp only at h
      refine RS.cl (some 26) (v := (Value.string x6)) 45 #[(Value.agg #[(Value.int .i64 x5_0), (Value.string x5_1), (Value.bool x5_2), (Sl3.v x5_3), (Value.int .i64 x5_4), (Sl3.v x5_5), (Value.int .i64 x5_6), (Value.int .i64 x5_7), (Value.string x5_8), (Sl3.v x5_9), (Sl3.v x5_10), (Sl3.v x5_11)])] (term_head_ok hx) ?_
      obtain ⟨⟨x8, x9, H10⟩, hx, h⟩ := bind_some h
      try dsimp only at h
      refine RS.cl (some 27) (v := (Value.tuple #[(Value.int .i64 x8), x9])) 39 #[(Value.pointer a1), (Value.string x6)] (strings_Builder_WriteString_ok hx) ?_
      refine RS.dn ?_
      refine WS.nxt ?_
      refine WS.rt ?_
      cases h
      exact fun a w hs => sqR (rtR (rS hs))
    · refine WS.fx 23 false (decide_eq_false hp) ?_
      refine WS.cF ?_
      refine WS.sk ?_
      refine WS.nxt ?_
      refine WS.sq ?_
      refine WS.rg ?_
      refine RS.mS 2 [(29, .val (Value.agg #[(Value.int .i64 x5_0), (Value.string x5_1), (Value.bool x5_2), (Sl3.v x5_3), (Value.int .i64 x5_4), (Sl3.v x5_5), (Value.int .i64 x5_6), (Value.int .i64 x5_7), (Value.string x5_8), (Sl3.v x5_9), (Sl3.v x5_10), (Sl3.v x5_11)])), (28, .val (Value.pointer a1))] ?_
      obtain ⟨⟨x11, H12⟩, hx, h⟩ := bind_some h
      try dsimp only at h
      refine RS.cl (some 30) (v := (Value.string x11)) 45 #[(Value.agg #[(Value.int .i64 x5_0), (Value.string x5_1), (Value.bool x5_2), (Sl3.v x5_3), (Value.int .i64 x5_4), (Sl3.v x5_5), (Value.int .i64 x5_6), (Value.int .i64 x5_7), (Value.string x5_8), (Sl3.v x5_9), (Sl3.v x5_10), (Sl3.v x5_11)])] (term_head_ok hx) ?_
      obtain ⟨s13, hx, h⟩ := bind_some h
      refine RS.o (H' := H12) (some 31) (Value.string s13) (Abs.run_strcat (t := 9) (u := 9) (x := .const (Value.string (⟨#[40]⟩ : ByteArray))) (y := .tmp 30) (a := (⟨#[40]⟩ : ByteArray)) (b := x11) (by kernel_rfl) (by kernel_rfl) (by kernel_rfl) hx) ?_
      obtain ⟨⟨x14, x15, H16⟩, hx, h⟩ := bind_some h
      try dsimp only at h
      refine RS.cl (some 32) (v := (Value.tuple #[(Value.int .i64 x14), x15])) 39 #[(Value.pointer a1), (Value.string s13)] (strings_Builder_WriteString_ok hx) ?_
      refine RS.dn ?_
      refine WS.nxt ?_
      refine WS.sq ?_
      refine WS.sq ?_
      refine WS.rg ?_
      refine RS.mS 4 [(36, .val (Value.int .i64 0)), (35, .val (Value.int .i64 (x5_11.n : Int))), (34, .val (Sl3.v x5_11)), (33, .loc 0 11)] ?_
      refine RS.dn ?_
      refine WS.nxt ?_
      refine WS.bk 0 ?_
      obtain ⟨o, hl, h⟩ := bind_some h
      rcases o with ⟨H25, v36_26⟩ | r
      · try dsimp only at h
        refine WS.lI (term_Table_write_b0_ok (L := L) (E := E) (m := m) (H := H) hrec_term_Table_write) (L.ok hl) 1 ?_
        clear hl
        refine fun a w hs => bkE ((WS.nxt ?_ a w hs))
        refine WS.rg ?_
        refine RS.mS 1 [(50, .val (Value.pointer a1))] ?_
        obtain ⟨⟨x27, H28⟩, hx, h⟩ := bind_some h
        try dsimp only at h
        refine RS.cl (some 51) (v := x27) 41 #[(Value.pointer a1), (Value.int .u8 41)] (strings_Builder_WriteByte_ok hx) ?_
        refine RS.dn ?_
        cases h
        exact fun a w hs => rtN (rS hs)
      · try dsimp only at h
        refine WS.lR (term_Table_write_b0_ok (L := L) (E := E) (m := m) (H := H) hrec_term_Table_write) (L.ok hl) 1 ?_
        cases h
        exact fun a w hq => bkR (sqR (rtR hq))

theorem fam_term_Table_write_ok {L : LC} : ∀ n, (∀ (m : Nat) (H : AH) (a0 : Option Addr) (a1 : Option Addr) (a2 : Int) (r : AH), ((fam_term_Table_write L n)) m H a0 a1 a2 = some r → CallS Tryz.prog (NE.plain 92) m 21 #[(Value.pointer a0), (Value.pointer a1), (Value.int .i64 a2)] H (term_Table_write_enc r) (term_Table_write_hp H r)) := by
  intro n
  induction n with
  | zero => exact (fun _ _ _ _ _ _ h => (Option.some_ne_none _ h.symm).elim)
  | succ n ih => exact (fun _ _ _ _ _ _ h => term_Table_write_body_ok (L := L) ih h)

theorem term_Table_write_ok {L : LC} {m : Nat} {H : AH} {a0 : Option Addr} {a1 : Option Addr} {a2 : Int} {r : AH} (h : term_Table_write L m H a0 a1 a2 = some r) :
    CallS Tryz.prog (NE.plain 92) m 21 #[(Value.pointer a0), (Value.pointer a1), (Value.int .i64 a2)] H (term_Table_write_enc r) (term_Table_write_hp H r) :=
  (fam_term_Table_write_ok _) _ _ _ _ _ _ h

def term_Table_Text_enc : (ByteArray × Int × AH) → Value
  | (r0, r1, _) => (Value.tuple #[(Value.string r0), (Value.int .i64 r1)])

def term_Table_Text_hp (_ : AH) : (ByteArray × Int × AH) → AH := fun r => r.2.2

noncomputable def term_Table_Text (L : LC) (m : Nat) (H : AH) (a0 : Option Addr) (a1 : Int) : Option (ByteArray × Int × AH) :=
  Option.bind (term_Table_made L H a0) fun x1 =>
  if x1 = true then
    if a1 < 0 then
      none
    else
      Option.bind a0 fun q2 =>
      Option.bind (rd deSl H (Addr.add q2 3)) fun x3 =>
      if a1 ≥ (x3.n : Int) then
        none
      else
        Option.bind (newB 76 [(Value.pointer none), (Sl3.v Sl3.nil)] H) fun (p4, H5) =>
        Option.bind (term_Table_write L m H5 (some q2) (some p4) a1) fun H6 =>
        Option.bind (strings_Builder_Len L H6 (some p4)) fun x7 =>
        if x7 > 1048576 then
          none
        else
          Option.bind (strings_Builder_String L m H6 (some p4)) fun (x8, H9) =>
          some (x8, 0, H9)
  else
    none

theorem term_Table_Text_ok {L : LC} {m : Nat} {H : AH} {a0 : Option Addr} {a1 : Int} {r : (ByteArray × Int × AH)} (h : term_Table_Text L m H a0 a1 = some r) :
    CallS Tryz.prog (NE.plain 92) m 7 #[(Value.pointer a0), (Value.int .i64 a1)] H (term_Table_Text_enc r) (term_Table_Text_hp H r) := by
  refine CallS.mk (args := [(Value.pointer a0), (Value.int .i64 a1)]) Tryz.func7 (B := B7) (by kernel_rfl) (fun E _ => ?_)
  unfold term_Table_Text at h
  refine WS.sq ?_
  refine WS.rg ?_
  refine RS.mS 2 [(5, .val (Value.int .i64 0)), (4, .val (Value.string (⟨#[]⟩ : ByteArray)))] ?_
  refine RS.dn ?_
  refine WS.nxt ?_
  refine WS.sq ?_
  refine WS.sq ?_
  refine WS.rg ?_
  refine RS.mS 1 [(7, .val (Value.pointer a0))] ?_
  obtain ⟨x1, hx, h⟩ := bind_some h
  refine RS.cl (some 8) (v := (Value.bool x1)) 15 #[(Value.pointer a0)] (term_Table_made_ok hx) ?_
  refine RS.mS 1 [(9, .val (Value.bool (!x1)))] ?_
  refine RS.dn ?_
  refine WS.nxt ?_
  rcases ite_some h with ⟨hp, h⟩ | ⟨hp, h⟩
  · refine WS.fx 9 false (nb_not hp) ?_
    refine WS.cF ?_
    refine WS.sk ?_
    refine WS.nxt ?_
    refine WS.sq ?_
    refine WS.sq ?_
    refine WS.rg ?_
    refine RS.mS 3 [(12, .val (Value.bool (decide (a1 < 0)))), (11, .val (Value.bool (decide (a1 < 0)))), (10, .val (Value.int .i64 a1))] ?_
    rcases ite_some h with ⟨hp, h⟩ | ⟨hp, h⟩
    · refine RS.fx 12 true (decide_eq_true hp) ?_
      cases h
    · refine RS.fx 12 false (decide_eq_false hp) ?_
      refine RS.mS 2 [(14, .val (Value.pointer a0)), (13, .val (Value.int .i64 a1))] ?_
      obtain ⟨q2, hx, hq2⟩ := bind_some h
      subst hx
      have h := hq2
      refine RS.mS 2 [(16, .val (Value.pointer (some (Addr.add q2 3)))), (15, .val (Value.pointer (some q2)))] ?_
      obtain ⟨x3, hx, h⟩ := bind_some h
      refine RS.o (H' := H) (some 17) (Sl3.v x3) (Abs.run_load (t := 42) (x := .tmp 16) (a := (Addr.add q2 3)) (by kernel_rfl) (by kernel_rfl) (by kernel_rfl) (rd_cell hx deSl_inv)) ?_
      refine RS.mS 3 [(20, .val (Value.bool (decide (a1 ≥ (x3.n : Int))))), (19, .val (Value.bool (decide (a1 ≥ (x3.n : Int))))), (18, .val (Value.int .i64 (x3.n : Int)))] ?_
      refine RS.dn ?_
      refine WS.nxt ?_
      rcases ite_some h with ⟨hp, h⟩ | ⟨hp, h⟩
      · refine WS.fx 20 true (decide_eq_true hp) ?_
        refine WS.cT ?_
        cases h
      · refine WS.fx 20 false (decide_eq_false hp) ?_
        refine WS.cF ?_
        refine WS.sk ?_
        refine WS.nxt ?_
        refine WS.sq ?_
        refine WS.rg ?_
        obtain ⟨⟨p4, H5⟩, hx, h⟩ := bind_some h
        try dsimp only at h
        refine RS.o (H' := H5) (some 6) (Value.pointer (some p4)) (Abs.run_newB (by kernel_rfl) hx) ?_
        refine RS.dn ?_
        refine WS.nxt ?_
        refine WS.sq ?_
        refine WS.rg ?_
        refine RS.mS 2 [(22, .val (Value.int .i64 a1)), (21, .val (Value.pointer (some q2)))] ?_
        obtain ⟨H6, hx, h⟩ := bind_some h
        refine RS.cl (some 23) (v := (Value.tuple #[])) 21 #[(Value.pointer (some q2)), (Value.pointer (some p4)), (Value.int .i64 a1)] (term_Table_write_ok hx) ?_
        refine RS.dn ?_
        refine WS.nxt ?_
        refine WS.sq ?_
        refine WS.sq ?_
        refine WS.rg ?_
        obtain ⟨x7, hx, h⟩ := bind_some h
        refine RS.cl (some 24) (v := (Value.int .i64 x7)) 22 #[(Value.pointer (some p4))] (strings_Builder_Len_ok hx) ?_
        refine RS.mS 1 [(25, .val (Value.bool (decide (x7 > 1048576))))] ?_
        refine RS.dn ?_
        refine WS.nxt ?_
        rcases ite_some h with ⟨hp, h⟩ | ⟨hp, h⟩
        · refine WS.fx 25 true (decide_eq_true hp) ?_
          refine WS.cT ?_
          cases h
        · refine WS.fx 25 false (decide_eq_false hp) ?_
          refine WS.cF ?_
          refine WS.sk ?_
          refine WS.nxt ?_
          refine WS.sq ?_
          refine WS.rg ?_
          obtain ⟨⟨x8, H9⟩, hx, h⟩ := bind_some h
          try dsimp only at h
          refine RS.cl (some 26) (v := (Value.string x8)) 23 #[(Value.pointer (some p4))] (strings_Builder_String_ok hx) ?_
          refine RS.mS 2 [(5, .val (Value.int .i64 0)), (4, .val (Value.string x8))] ?_
          refine RS.dn ?_
          refine WS.nxt ?_
          refine WS.rt ?_
          cases h
          exact fun a w hs => rtR (rS hs)
  · refine WS.fx 9 true (nb_not' hp) ?_
    refine WS.cT ?_
    cases h

def law05_alive_enc : (Bool × AH) → Value
  | (r0, _) => (Value.bool r0)

def law05_alive_hp (_ : AH) : (Bool × AH) → AH := fun r => r.2

noncomputable def B9 : Code := (Tryz.f9.body).getD .skip

noncomputable def law05_alive (L : LC) (m : Nat) (H : AH) : Option (Bool × AH) :=
  Option.bind (law05_sig L m H) fun (x1_0, x1_1, x1_2, H2) =>
  Option.bind (term_New L m H2 x1_0 x1_1 x1_2) fun (x3, x4, H5) =>
  if x4 = 0 then
    match x3 with
    | none =>
      none
    | some q6 =>
      Option.bind (term_Table_Add L m H5 (some q6) 11 (⟨#[120]⟩ : ByteArray) false Sl3.nil 0 Sl3.nil 0 0 (⟨#[]⟩ : ByteArray) Sl3.nil Sl3.nil Sl3.nil) fun (x7, x8, H9) =>
      Option.bind (newR 3 1 #[(Value.int .i64 0)] H9) fun (s10, H11) =>
      Option.bind (term_Table_Add L m H11 (some q6) 11 (⟨#[102]⟩ : ByteArray) false Sl3.nil 0 Sl3.nil 0 0 (⟨#[]⟩ : ByteArray) Sl3.nil Sl3.nil s10) fun (x12, x13, H14) =>
      Option.bind (newR 3 2 #[(Value.int .i64 0), (Value.int .i64 1)] H14) fun (s15, H16) =>
      Option.bind (term_Table_Make L m H16 (some q6) 22 s15) fun (x17, x18, H19) =>
      Option.bind (newR 3 2 #[(Value.int .i64 0), (Value.int .i64 1)] H19) fun (s20, H21) =>
      Option.bind (term_Table_Make L m H21 (some q6) 22 s20) fun (x22, x23, H24) =>
      Option.bind (term_Table_Text L m H24 (some q6) 2) fun (x25, x26, H27) =>
      if x8 = 0 then
        if x13 = 0 then
          if x18 = 0 then
            if x23 = 0 then
              if x26 = 0 then
                if x7 = 0 then
                  if x12 = 1 then
                    if x17 = 2 then
                      if x22 = 2 then
                        Option.bind (term_Table_Len L H27 (some q6)) fun x28 =>
                        if x28 = 3 then
                          some ((x25.toList == (⟨#[40, 43, 32, 120, 32, 40, 102, 32, 120, 41, 41]⟩ : ByteArray).toList), H27)
                        else
                          none
                      else
                        none
                    else
                      none
                  else
                    none
                else
                  none
              else
                none
            else
              none
          else
            none
        else
          none
      else
        none
  else
    none

theorem law05_alive_ok {L : LC} {m : Nat} {H : AH} {r : (Bool × AH)} (h : law05_alive L m H = some r) :
    CallS Tryz.prog (NE.plain 92) m 9 #[] H (law05_alive_enc r) (law05_alive_hp H r) := by
  refine CallS.mk (args := []) Tryz.func9 (B := B9) (by kernel_rfl) (fun E _ => ?_)
  unfold law05_alive at h
  refine WS.sq ?_
  refine WS.rg ?_
  refine RS.mS 1 [(0, .val (Value.bool false))] ?_
  refine RS.dn ?_
  refine WS.nxt ?_
  refine WS.sq ?_
  refine WS.rg ?_
  obtain ⟨⟨x1_0, x1_1, x1_2, H2⟩, hx, h⟩ := bind_some h
  try dsimp only at h
  refine RS.cl (some 13) (v := (Value.agg #[(Sl3.v x1_0), (Sl3.v x1_1), (Sl3.v x1_2)])) 25 #[] (law05_sig_ok hx) ?_
  obtain ⟨⟨x3, x4, H5⟩, hx, h⟩ := bind_some h
  try dsimp only at h
  refine RS.cl (some 14) (v := (Value.tuple #[(Value.pointer x3), (Value.int .i64 x4)])) 24 #[(Value.agg #[(Sl3.v x1_0), (Sl3.v x1_1), (Sl3.v x1_2)])] (term_New_ok hx) ?_
  refine RS.mS 5 [(2, .val (Value.int .i64 x4)), (1, .val (Value.pointer x3)), (16, .val (Value.int .i64 x4)), (15, .val (Value.pointer x3)), (12, .val (Value.tuple #[(Value.pointer x3), (Value.int .i64 x4)]))] ?_
  refine RS.dn ?_
  refine WS.nxt ?_
  refine WS.sq ?_
  refine WS.sq ?_
  refine WS.rg ?_
  refine RS.mS 3 [(19, .val (Value.bool (!decide (x4 = 0)))), (18, .val (Value.bool (!decide (x4 = 0)))), (17, .val (Value.int .i64 x4))] ?_
  rcases ite_some h with ⟨hp, h⟩ | ⟨hp, h⟩
  · refine RS.fx 19 false (dec_not hp) ?_
    refine RS.mS 1 [(20, .val (Value.pointer x3))] ?_
    rcases x3 with _ | q6
    · try dsimp only at h
      cases h
    · try dsimp only at h
      refine RS.mS 2 [(22, .val (Value.bool false)), (21, .val (Value.bool false))] ?_
      refine RS.dn ?_
      refine WS.nxt ?_
      refine WS.cF ?_
      refine WS.sk ?_
      refine WS.nxt ?_
      refine WS.sq ?_
      refine WS.rg ?_
      refine RS.mS 2 [(25, .val (Value.agg #[(Value.int .i64 11), (Value.string (⟨#[120]⟩ : ByteArray)), (Value.bool false), (Sl3.v Sl3.nil), (Value.int .i64 0), (Sl3.v Sl3.nil), (Value.int .i64 0), (Value.int .i64 0), (Value.string (⟨#[]⟩ : ByteArray)), (Sl3.v Sl3.nil), (Sl3.v Sl3.nil), (Sl3.v Sl3.nil)])), (24, .val (Value.pointer (some q6)))] ?_
      obtain ⟨⟨x7, x8, H9⟩, hx, h⟩ := bind_some h
      try dsimp only at h
      refine RS.cl (some 26) (v := (Value.tuple #[(Value.int .i64 x7), (Value.int .i64 x8)])) 4 #[(Value.pointer (some q6)), (Value.agg #[(Value.int .i64 11), (Value.string (⟨#[120]⟩ : ByteArray)), (Value.bool false), (Sl3.v Sl3.nil), (Value.int .i64 0), (Sl3.v Sl3.nil), (Value.int .i64 0), (Value.int .i64 0), (Value.string (⟨#[]⟩ : ByteArray)), (Sl3.v Sl3.nil), (Sl3.v Sl3.nil), (Sl3.v Sl3.nil)])] (term_Table_Add_ok hx) ?_
      refine RS.mS 5 [(2, .val (Value.int .i64 x8)), (3, .val (Value.int .i64 x7)), (28, .val (Value.int .i64 x8)), (27, .val (Value.int .i64 x7)), (23, .val (Value.tuple #[(Value.int .i64 x7), (Value.int .i64 x8)]))] ?_
      refine RS.dn ?_
      refine WS.nxt ?_
      refine WS.sq ?_
      refine WS.rg ?_
      refine RS.mS 1 [(30, .val (Value.pointer (some q6)))] ?_
      obtain ⟨⟨s10, H11⟩, hx, h⟩ := bind_some h
      try dsimp only at h
      refine RS.o (H' := H11) (some 31) (Sl3.v s10) (Abs.run_newR (by kernel_rfl) (by kernel_rfl) hx) ?_
      refine RS.mS 1 [(32, .val (Value.agg #[(Value.int .i64 11), (Value.string (⟨#[102]⟩ : ByteArray)), (Value.bool false), (Sl3.v Sl3.nil), (Value.int .i64 0), (Sl3.v Sl3.nil), (Value.int .i64 0), (Value.int .i64 0), (Value.string (⟨#[]⟩ : ByteArray)), (Sl3.v Sl3.nil), (Sl3.v Sl3.nil), (Sl3.v s10)]))] ?_
      obtain ⟨⟨x12, x13, H14⟩, hx, h⟩ := bind_some h
      try dsimp only at h
      refine RS.cl (some 33) (v := (Value.tuple #[(Value.int .i64 x12), (Value.int .i64 x13)])) 4 #[(Value.pointer (some q6)), (Value.agg #[(Value.int .i64 11), (Value.string (⟨#[102]⟩ : ByteArray)), (Value.bool false), (Sl3.v Sl3.nil), (Value.int .i64 0), (Sl3.v Sl3.nil), (Value.int .i64 0), (Value.int .i64 0), (Value.string (⟨#[]⟩ : ByteArray)), (Sl3.v Sl3.nil), (Sl3.v Sl3.nil), (Sl3.v s10)])] (term_Table_Add_ok hx) ?_
      refine RS.mS 5 [(5, .val (Value.int .i64 x13)), (4, .val (Value.int .i64 x12)), (35, .val (Value.int .i64 x13)), (34, .val (Value.int .i64 x12)), (29, .val (Value.tuple #[(Value.int .i64 x12), (Value.int .i64 x13)]))] ?_
      refine RS.dn ?_
      refine WS.nxt ?_
      refine WS.sq ?_
      refine WS.rg ?_
      refine RS.mS 1 [(37, .val (Value.pointer (some q6)))] ?_
      obtain ⟨⟨s15, H16⟩, hx, h⟩ := bind_some h
      try dsimp only at h
      refine RS.o (H' := H16) (some 38) (Sl3.v s15) (Abs.run_newR (by kernel_rfl) (by kernel_rfl) hx) ?_
      obtain ⟨⟨x17, x18, H19⟩, hx, h⟩ := bind_some h
      try dsimp only at h
      refine RS.cl (some 39) (v := (Value.tuple #[(Value.int .i64 x17), (Value.int .i64 x18)])) 5 #[(Value.pointer (some q6)), (Value.int .i64 22), (Sl3.v s15)] (term_Table_Make_ok hx) ?_
      refine RS.mS 5 [(7, .val (Value.int .i64 x18)), (6, .val (Value.int .i64 x17)), (41, .val (Value.int .i64 x18)), (40, .val (Value.int .i64 x17)), (36, .val (Value.tuple #[(Value.int .i64 x17), (Value.int .i64 x18)]))] ?_
      refine RS.dn ?_
      refine WS.nxt ?_
      refine WS.sq ?_
      refine WS.rg ?_
      refine RS.mS 1 [(43, .val (Value.pointer (some q6)))] ?_
      obtain ⟨⟨s20, H21⟩, hx, h⟩ := bind_some h
      try dsimp only at h
      refine RS.o (H' := H21) (some 44) (Sl3.v s20) (Abs.run_newR (by kernel_rfl) (by kernel_rfl) hx) ?_
      obtain ⟨⟨x22, x23, H24⟩, hx, h⟩ := bind_some h
      try dsimp only at h
      refine RS.cl (some 45) (v := (Value.tuple #[(Value.int .i64 x22), (Value.int .i64 x23)])) 5 #[(Value.pointer (some q6)), (Value.int .i64 22), (Sl3.v s20)] (term_Table_Make_ok hx) ?_
      refine RS.mS 5 [(9, .val (Value.int .i64 x23)), (8, .val (Value.int .i64 x22)), (47, .val (Value.int .i64 x23)), (46, .val (Value.int .i64 x22)), (42, .val (Value.tuple #[(Value.int .i64 x22), (Value.int .i64 x23)]))] ?_
      refine RS.dn ?_
      refine WS.nxt ?_
      refine WS.sq ?_
      refine WS.rg ?_
      refine RS.mS 1 [(49, .val (Value.pointer (some q6)))] ?_
      obtain ⟨⟨x25, x26, H27⟩, hx, h⟩ := bind_some h
      try dsimp only at h
      refine RS.cl (some 50) (v := (Value.tuple #[(Value.string x25), (Value.int .i64 x26)])) 7 #[(Value.pointer (some q6)), (Value.int .i64 2)] (term_Table_Text_ok hx) ?_
      refine RS.mS 5 [(11, .val (Value.int .i64 x26)), (10, .val (Value.string x25)), (52, .val (Value.int .i64 x26)), (51, .val (Value.string x25)), (48, .val (Value.tuple #[(Value.string x25), (Value.int .i64 x26)]))] ?_
      refine RS.dn ?_
      refine WS.nxt ?_
      refine WS.sq ?_
      refine WS.rg ?_
      refine RS.mS 3 [(55, .val (Value.bool (decide (x8 = 0)))), (54, .val (Value.bool (decide (x8 = 0)))), (53, .val (Value.int .i64 x8))] ?_
      rcases ite_some h with ⟨hp, h⟩ | ⟨hp, h⟩
      · refine RS.fx 55 true (decide_eq_true hp) ?_
        refine RS.mS 4 [(59, .val (Value.bool (decide (x13 = 0)))), (58, .val (Value.bool (decide (x13 = 0)))), (57, .val (Value.bool (decide (x13 = 0)))), (56, .val (Value.int .i64 x13))] ?_
        rcases ite_some h with ⟨hp, h⟩ | ⟨hp, h⟩
        · refine RS.fx 59 true (decide_eq_true hp) ?_
          refine RS.mS 4 [(63, .val (Value.bool (decide (x18 = 0)))), (62, .val (Value.bool (decide (x18 = 0)))), (61, .val (Value.bool (decide (x18 = 0)))), (60, .val (Value.int .i64 x18))] ?_
          rcases ite_some h with ⟨hp, h⟩ | ⟨hp, h⟩
          · refine RS.fx 63 true (decide_eq_true hp) ?_
            refine RS.mS 4 [(67, .val (Value.bool (decide (x23 = 0)))), (66, .val (Value.bool (decide (x23 = 0)))), (65, .val (Value.bool (decide (x23 = 0)))), (64, .val (Value.int .i64 x23))] ?_
            rcases ite_some h with ⟨hp, h⟩ | ⟨hp, h⟩
            · refine RS.fx 67 true (decide_eq_true hp) ?_
              refine RS.mS 4 [(71, .val (Value.bool (decide (x26 = 0)))), (70, .val (Value.bool (decide (x26 = 0)))), (69, .val (Value.bool (decide (x26 = 0)))), (68, .val (Value.int .i64 x26))] ?_
              rcases ite_some h with ⟨hp, h⟩ | ⟨hp, h⟩
              · refine RS.fx 71 true (decide_eq_true hp) ?_
                refine RS.mS 4 [(75, .val (Value.bool (decide (x7 = 0)))), (74, .val (Value.bool (decide (x7 = 0)))), (73, .val (Value.bool (decide (x7 = 0)))), (72, .val (Value.int .i64 x7))] ?_
                rcases ite_some h with ⟨hp, h⟩ | ⟨hp, h⟩
                · refine RS.fx 75 true (decide_eq_true hp) ?_
                  refine RS.mS 4 [(79, .val (Value.bool (decide (x12 = 1)))), (78, .val (Value.bool (decide (x12 = 1)))), (77, .val (Value.bool (decide (x12 = 1)))), (76, .val (Value.int .i64 x12))] ?_
                  rcases ite_some h with ⟨hp, h⟩ | ⟨hp, h⟩
                  · refine RS.fx 79 true (decide_eq_true hp) ?_
                    refine RS.mS 4 [(83, .val (Value.bool (decide (x17 = 2)))), (82, .val (Value.bool (decide (x17 = 2)))), (81, .val (Value.bool (decide (x17 = 2)))), (80, .val (Value.int .i64 x17))] ?_
                    rcases ite_some h with ⟨hp, h⟩ | ⟨hp, h⟩
                    · refine RS.fx 83 true (decide_eq_true hp) ?_
                      refine RS.mS 4 [(87, .val (Value.bool (decide (x22 = 2)))), (86, .val (Value.bool (decide (x22 = 2)))), (85, .val (Value.bool (decide (x22 = 2)))), (84, .val (Value.int .i64 x22))] ?_
                      rcases ite_some h with ⟨hp, h⟩ | ⟨hp, h⟩
                      · refine RS.fx 87 true (decide_eq_true hp) ?_
                        refine RS.mS 1 [(88, .val (Value.pointer (some q6)))] ?_
                        obtain ⟨x28, hx, h⟩ := bind_some h
                        refine RS.cl (some 89) (v := (Value.int .i64 x28)) 12 #[(Value.pointer (some q6))] (term_Table_Len_ok hx) ?_
                        refine RS.mS 3 [(92, .val (Value.bool (decide (x28 = 3)))), (91, .val (Value.bool (decide (x28 = 3)))), (90, .val (Value.bool (decide (x28 = 3))))] ?_
                        rcases ite_some h with ⟨hp, h⟩ | ⟨hp, h⟩
                        · refine RS.fx 92 true (decide_eq_true hp) ?_
                          refine RS.mS 4 [(0, .val (Value.bool (x25.toList == (⟨#[40, 43, 32, 120, 32, 40, 102, 32, 120, 41, 41]⟩ : ByteArray).toList))), (95, .val (Value.bool (x25.toList == (⟨#[40, 43, 32, 120, 32, 40, 102, 32, 120, 41, 41]⟩ : ByteArray).toList))), (94, .val (Value.bool (x25.toList == (⟨#[40, 43, 32, 120, 32, 40, 102, 32, 120, 41, 41]⟩ : ByteArray).toList))), (93, .val (Value.string x25))] ?_
                          refine RS.dn ?_
                          refine WS.nxt ?_
                          refine WS.rt ?_
                          cases h
                          exact fun a w hs => rtR (rS hs)
                        · refine RS.fx 92 false (decide_eq_false hp) ?_
                          cases h
                      · refine RS.fx 87 false (decide_eq_false hp) ?_
                        cases h
                    · refine RS.fx 83 false (decide_eq_false hp) ?_
                      cases h
                  · refine RS.fx 79 false (decide_eq_false hp) ?_
                    cases h
                · refine RS.fx 75 false (decide_eq_false hp) ?_
                  cases h
              · refine RS.fx 71 false (decide_eq_false hp) ?_
                cases h
            · refine RS.fx 67 false (decide_eq_false hp) ?_
              cases h
          · refine RS.fx 63 false (decide_eq_false hp) ?_
            cases h
        · refine RS.fx 59 false (decide_eq_false hp) ?_
          cases h
      · refine RS.fx 55 false (decide_eq_false hp) ?_
        cases h
  · refine RS.fx 19 true (dec_not' hp) ?_
    cases h

end Go.Proofs.YtgkogeglciogkaaGreatDoor

namespace Go.Proofs.YtgkogeglciogkaaGreatDoor
open Go Go.Abs
set_option maxRecDepth 100000

def law05_TermNobody_o_enc : (Bool × AH) → Value
  | (r0, _) => (Value.bool r0)

def law05_TermNobody_o_hp (_ : AH) : (Bool × AH) → AH := fun r => r.2

noncomputable def B3 : Code := (Tryz.f3.body).getD .skip

noncomputable def law05_TermNobody_o (L : LC) (m : Nat) (H : AH) : Option (Bool × AH) :=
  Option.bind (newB 45 [(Sl3.v Sl3.nil), (Sl3.v Sl3.nil), (Sl3.v Sl3.nil), (Sl3.v Sl3.nil), (Value.map none)] H) fun (p1, H2) =>
  Option.bind (term_Table_Add_o L m H2 none) fun (x3, x4, H5) =>
  Option.bind (term_Table_Add_o L m H5 (some p1)) fun (x6, x7, H8) =>
  Option.bind (term_Table_Make_o L m H8 none Sl3.nil) fun (x9, x10, H11) =>
  Option.bind (term_Table_Make_o L m H11 (some p1) Sl3.nil) fun (x12, x13, H14) =>
  Option.bind (term_Table_Node_o L m H14 none) fun (x15_0, x15_1, x15_2, x15_3, x15_4, x15_5, x15_6, x15_7, x15_8, x15_9, x15_10, x15_11, x16, H17) =>
  Option.bind (term_Table_Node_o L m H17 (some p1)) fun (x18_0, x18_1, x18_2, x18_3, x18_4, x18_5, x18_6, x18_7, x18_8, x18_9, x18_10, x18_11, x19, H20) =>
  Option.bind (term_Table_Text_o L m H20 none) fun (x21, x22, H23) =>
  Option.bind (term_Table_Text_o L m H23 (some p1)) fun (x24, x25, H26) =>
  Option.bind (term_Table_Sort_o L m H26 none) fun (x27_0, x27_1, x27_2, x27_3, x28, H29) =>
  Option.bind (term_Table_Sort_o L m H29 (some p1)) fun (x30_0, x30_1, x30_2, x30_3, x31, H32) =>
  Option.bind (law05_alive L m H32) fun (x33, H34) =>
  if x33 = true then
    if x4 = 4 then
      if x7 = 4 then
        if x10 = 4 then
          if x13 = 4 then
            if x22 = 4 then
              if x25 = 4 then
                if (IntKind.i64.wrap ((IntKind.i64.wrap ((IntKind.i64.wrap (x3 + x6)) + x9)) + x12)) = 0 then
                  if (x21.toList == (⟨#[]⟩ : ByteArray).toList) = true then
                    if (x24.toList == (⟨#[]⟩ : ByteArray).toList) = true then
                      if x16 = true then
                        none
                      else
                        if x19 = true then
                          none
                        else
                          if x28 = true then
                            none
                          else
                            if x31 = true then
                              none
                            else
                              Option.bind (ref05_Same L H34 x15_0 x15_1 x15_2 x15_3 x15_4 x15_5 x15_6 x15_7 x15_8 x15_9 x15_10 x15_11 0 (⟨#[]⟩ : ByteArray) false Sl3.nil 0 Sl3.nil 0 0 (⟨#[]⟩ : ByteArray) Sl3.nil Sl3.nil Sl3.nil) fun x35 =>
                              if x35 = true then
                                Option.bind (ref05_Same L H34 x18_0 x18_1 x18_2 x18_3 x18_4 x18_5 x18_6 x18_7 x18_8 x18_9 x18_10 x18_11 0 (⟨#[]⟩ : ByteArray) false Sl3.nil 0 Sl3.nil 0 0 (⟨#[]⟩ : ByteArray) Sl3.nil Sl3.nil Sl3.nil) fun x36 =>
                                if x36 = true then
                                  Option.bind (ref04_Same L H34 x27_0 x27_1 x27_2 x27_3 0 0 (⟨#[]⟩ : ByteArray) Sl3.nil) fun x37 =>
                                  if x37 = true then
                                    Option.bind (ref04_Same L H34 x30_0 x30_1 x30_2 x30_3 0 0 (⟨#[]⟩ : ByteArray) Sl3.nil) fun x38 =>
                                    if x38 = true then
                                      Option.bind (term_Table_Len L H34 none) fun x39 =>
                                      Option.bind (term_Table_Len L H34 (some p1)) fun x40 =>
                                      if (IntKind.i64.wrap (x39 + x40)) = 0 then
                                        Option.bind (newR 3 1 #[anyV] H34) fun (s41, H42) =>
                                        Option.bind (term_Table_Below L m H42 none s41) fun (x43, H44) =>
                                        Option.bind (newR 3 1 #[anyV] H44) fun (s45, H46) =>
                                        Option.bind (term_Table_Below L m H46 (some p1) s45) fun (x47, H48) =>
                                        if (IntKind.i64.wrap ((x43.n : Int) + (x47.n : Int))) = 0 then
                                          Option.bind (term_Table_Sig L m H48 none) fun (_, _, x49_2, H50) =>
                                          Option.bind (term_Table_Sig L m H50 (some p1)) fun (_, _, x51_2, H52) =>
                                          some ((decide ((IntKind.i64.wrap ((x49_2.n : Int) + (x51_2.n : Int))) = 0)), H52)
                                        else
                                          none
                                      else
                                        none
                                    else
                                      none
                                  else
                                    none
                                else
                                  none
                              else
                                none
                    else
                      none
                  else
                    none
                else
                  none
              else
                none
            else
              none
          else
            none
        else
          none
      else
        none
    else
      none
  else
    none

theorem law05_TermNobody_o_ok {L : LC} {m : Nat} {H : AH} {r : (Bool × AH)} (h : law05_TermNobody_o L m H = some r) :
    CallS Tryz.prog (NE.plain 92) m 3 #[(Value.agg #[anyV, anyV, anyV, anyV, anyV, anyV, anyV, anyV, anyV, anyV, anyV, anyV]), anyV] H (law05_TermNobody_o_enc r) (law05_TermNobody_o_hp H r) := by
  refine CallS.mk (args := [(Value.agg #[anyV, anyV, anyV, anyV, anyV, anyV, anyV, anyV, anyV, anyV, anyV, anyV]), anyV]) Tryz.func3 (B := B3) (by kernel_rfl) (fun E _ => ?_)
  unfold law05_TermNobody_o at h
  refine WS.sq ?_
  refine WS.rg ?_
  refine RS.mL 2 [(4, .val (Value.bool false)), (2, .loc 0 0)] ([some (35, [anyV, anyV, anyV, anyV, anyV, anyV, anyV, anyV, anyV, anyV, anyV, anyV])]) ?_
  refine RS.dn ?_
  refine WS.nxt ?_
  refine WS.sq ?_
  refine WS.rg ?_
  refine RS.mS 1 [(5, .val (Value.pointer none))] ?_
  refine RS.dn ?_
  refine WS.nxt ?_
  refine WS.sq ?_
  refine WS.rg ?_
  refine RS.mS 1 [(27, .val (Value.agg #[(Sl3.v Sl3.nil), (Sl3.v Sl3.nil), (Sl3.v Sl3.nil), (Sl3.v Sl3.nil), (Value.map none)]))] ?_
  obtain ⟨⟨p1, H2⟩, hx, h⟩ := bind_some h
  try dsimp only at h
  refine RS.o (H' := H2) (some 28) (Value.pointer (some p1)) (Abs.run_newB (by kernel_rfl) hx) ?_
  refine RS.mS 1 [(6, .val (Value.pointer (some p1)))] ?_
  refine RS.dn ?_
  refine WS.nxt ?_
  refine WS.sq ?_
  refine WS.rg ?_
  refine RS.mS 2 [(31, .val (Value.agg #[anyV, anyV, anyV, anyV, anyV, anyV, anyV, anyV, anyV, anyV, anyV, anyV])), (30, .val (Value.pointer none))] ?_
  obtain ⟨⟨x3, x4, H5⟩, hx, h⟩ := bind_some h
  try dsimp only at h
  refine RS.cl (some 32) (v := (Value.tuple #[(Value.int .i64 x3), (Value.int .i64 x4)])) 4 #[(Value.pointer none), (Value.agg #[anyV, anyV, anyV, anyV, anyV, anyV, anyV, anyV, anyV, anyV, anyV, anyV])] (term_Table_Add_o_ok hx) ?_
  refine RS.mS 5 [(8, .val (Value.int .i64 x4)), (7, .val (Value.int .i64 x3)), (34, .val (Value.int .i64 x4)), (33, .val (Value.int .i64 x3)), (29, .val (Value.tuple #[(Value.int .i64 x3), (Value.int .i64 x4)]))] ?_
  refine RS.dn ?_
  refine WS.nxt ?_
  refine WS.sq ?_
  refine WS.rg ?_
  refine RS.mS 2 [(37, .val (Value.agg #[anyV, anyV, anyV, anyV, anyV, anyV, anyV, anyV, anyV, anyV, anyV, anyV])), (36, .val (Value.pointer (some p1)))] ?_
  obtain ⟨⟨x6, x7, H8⟩, hx, h⟩ := bind_some h
  try dsimp only at h
  refine RS.cl (some 38) (v := (Value.tuple #[(Value.int .i64 x6), (Value.int .i64 x7)])) 4 #[(Value.pointer (some p1)), (Value.agg #[anyV, anyV, anyV, anyV, anyV, anyV, anyV, anyV, anyV, anyV, anyV, anyV])] (term_Table_Add_o_ok hx) ?_
  refine RS.mS 5 [(10, .val (Value.int .i64 x7)), (9, .val (Value.int .i64 x6)), (40, .val (Value.int .i64 x7)), (39, .val (Value.int .i64 x6)), (35, .val (Value.tuple #[(Value.int .i64 x6), (Value.int .i64 x7)]))] ?_
  refine RS.dn ?_
  refine WS.nxt ?_
  refine WS.sq ?_
  refine WS.rg ?_
  refine RS.mS 3 [(44, .val anyV), (43, .loc 0 0), (42, .val (Value.pointer none))] ?_
  obtain ⟨⟨x9, x10, H11⟩, hx, h⟩ := bind_some h
  try dsimp only at h
  refine RS.cl (some 45) (v := (Value.tuple #[(Value.int .i64 x9), (Value.int .i64 x10)])) 5 #[(Value.pointer none), anyV, (Sl3.v Sl3.nil)] (term_Table_Make_o_ok hx) ?_
  refine RS.mS 5 [(12, .val (Value.int .i64 x10)), (11, .val (Value.int .i64 x9)), (47, .val (Value.int .i64 x10)), (46, .val (Value.int .i64 x9)), (41, .val (Value.tuple #[(Value.int .i64 x9), (Value.int .i64 x10)]))] ?_
  refine RS.dn ?_
  refine WS.nxt ?_
  refine WS.sq ?_
  refine WS.rg ?_
  refine RS.mS 3 [(51, .val anyV), (50, .loc 0 0), (49, .val (Value.pointer (some p1)))] ?_
  obtain ⟨⟨x12, x13, H14⟩, hx, h⟩ := bind_some h
  try dsimp only at h
  refine RS.cl (some 52) (v := (Value.tuple #[(Value.int .i64 x12), (Value.int .i64 x13)])) 5 #[(Value.pointer (some p1)), anyV, (Sl3.v Sl3.nil)] (term_Table_Make_o_ok hx) ?_
  refine RS.mS 5 [(14, .val (Value.int .i64 x13)), (13, .val (Value.int .i64 x12)), (54, .val (Value.int .i64 x13)), (53, .val (Value.int .i64 x12)), (48, .val (Value.tuple #[(Value.int .i64 x12), (Value.int .i64 x13)]))] ?_
  refine RS.dn ?_
  refine WS.nxt ?_
  refine WS.sq ?_
  refine WS.rg ?_
  refine RS.mS 2 [(57, .val anyV), (56, .val (Value.pointer none))] ?_
  obtain ⟨⟨x15_0, x15_1, x15_2, x15_3, x15_4, x15_5, x15_6, x15_7, x15_8, x15_9, x15_10, x15_11, x16, H17⟩, hx, h⟩ := bind_some h
  try dsimp only at h
  refine RS.cl (some 58) (v := (Value.tuple #[(Value.agg #[(Value.int .i64 x15_0), (Value.string x15_1), (Value.bool x15_2), (Sl3.v x15_3), (Value.int .i64 x15_4), (Sl3.v x15_5), (Value.int .i64 x15_6), (Value.int .i64 x15_7), (Value.string x15_8), (Sl3.v x15_9), (Sl3.v x15_10), (Sl3.v x15_11)]), (Value.bool x16)])) 6 #[(Value.pointer none), anyV] (term_Table_Node_o_ok hx) ?_
  refine RS.mL 6 [(16, .val (Value.bool x16)), (15, .loc 1 0), (60, .val (Value.bool x16)), (59, .val (Value.agg #[(Value.int .i64 x15_0), (Value.string x15_1), (Value.bool x15_2), (Sl3.v x15_3), (Value.int .i64 x15_4), (Sl3.v x15_5), (Value.int .i64 x15_6), (Value.int .i64 x15_7), (Value.string x15_8), (Sl3.v x15_9), (Sl3.v x15_10), (Sl3.v x15_11)])), (55, .val (Value.tuple #[(Value.agg #[(Value.int .i64 x15_0), (Value.string x15_1), (Value.bool x15_2), (Sl3.v x15_3), (Value.int .i64 x15_4), (Sl3.v x15_5), (Value.int .i64 x15_6), (Value.int .i64 x15_7), (Value.string x15_8), (Sl3.v x15_9), (Sl3.v x15_10), (Sl3.v x15_11)]), (Value.bool x16)]))] ([some (35, [anyV, anyV, anyV, anyV, anyV, anyV, anyV, anyV, anyV, anyV, anyV, anyV]), some (35, [(Value.int .i64 x15_0), (Value.string x15_1), (Value.bool x15_2), (Sl3.v x15_3), (Value.int .i64 x15_4), (Sl3.v x15_5), (Value.int .i64 x15_6), (Value.int .i64 x15_7), (Value.string x15_8), (Sl3.v x15_9), (Sl3.v x15_10), (Sl3.v x15_11)])]) ?_
  refine RS.dn ?_
  refine WS.nxt ?_
  refine WS.sq ?_
  refine WS.rg ?_
  refine RS.mS 2 [(63, .val anyV), (62, .val (Value.pointer (some p1)))] ?_
  obtain ⟨⟨x18_0, x18_1, x18_2, x18_3, x18_4, x18_5, x18_6, x18_7, x18_8, x18_9, x18_10, x18_11, x19, H20⟩, hx, h⟩ := bind_some h
  try dsimp only at h
  refine RS.cl (some 64) (v := (Value.tuple #[(Value.agg #[(Value.int .i64 x18_0), (Value.string x18_1), (Value.bool x18_2), (Sl3.v x18_3), (Value.int .i64 x18_4), (Sl3.v x18_5), (Value.int .i64 x18_6), (Value.int .i64 x18_7), (Value.string x18_8), (Sl3.v x18_9), (Sl3.v x18_10), (Sl3.v x18_11)]), (Value.bool x19)])) 6 #[(Value.pointer (some p1)), anyV] (term_Table_Node_o_ok hx) ?_
  refine RS.mL 6 [(18, .val (Value.bool x19)), (17, .loc 2 0), (66, .val (Value.bool x19)), (65, .val (Value.agg #[(Value.int .i64 x18_0), (Value.string x18_1), (Value.bool x18_2), (Sl3.v x18_3), (Value.int .i64 x18_4), (Sl3.v x18_5), (Value.int .i64 x18_6), (Value.int .i64 x18_7), (Value.string x18_8), (Sl3.v x18_9), (Sl3.v x18_10), (Sl3.v x18_11)])), (61, .val (Value.tuple #[(Value.agg #[(Value.int .i64 x18_0), (Value.string x18_1), (Value.bool x18_2), (Sl3.v x18_3), (Value.int .i64 x18_4), (Sl3.v x18_5), (Value.int .i64 x18_6), (Value.int .i64 x18_7), (Value.string x18_8), (Sl3.v x18_9), (Sl3.v x18_10), (Sl3.v x18_11)]), (Value.bool x19)]))] ([some (35, [anyV, anyV, anyV, anyV, anyV, anyV, anyV, anyV, anyV, anyV, anyV, anyV]), some (35, [(Value.int .i64 x15_0), (Value.string x15_1), (Value.bool x15_2), (Sl3.v x15_3), (Value.int .i64 x15_4), (Sl3.v x15_5), (Value.int .i64 x15_6), (Value.int .i64 x15_7), (Value.string x15_8), (Sl3.v x15_9), (Sl3.v x15_10), (Sl3.v x15_11)]), some (35, [(Value.int .i64 x18_0), (Value.string x18_1), (Value.bool x18_2), (Sl3.v x18_3), (Value.int .i64 x18_4), (Sl3.v x18_5), (Value.int .i64 x18_6), (Value.int .i64 x18_7), (Value.string x18_8), (Sl3.v x18_9), (Sl3.v x18_10), (Sl3.v x18_11)])]) ?_
  refine RS.dn ?_
  refine WS.nxt ?_
  refine WS.sq ?_
  refine WS.rg ?_
  refine RS.mS 2 [(69, .val anyV), (68, .val (Value.pointer none))] ?_
  obtain ⟨⟨x21, x22, H23⟩, hx, h⟩ := bind_some h
  try dsimp only at h
  refine RS.cl (some 70) (v := (Value.tuple #[(Value.string x21), (Value.int .i64 x22)])) 7 #[(Value.pointer none), anyV] (term_Table_Text_o_ok hx) ?_
  refine RS.mS 5 [(20, .val (Value.int .i64 x22)), (19, .val (Value.string x21)), (72, .val (Value.int .i64 x22)), (71, .val (Value.string x21)), (67, .val (Value.tuple #[(Value.string x21), (Value.int .i64 x22)]))] ?_
  refine RS.dn ?_
  refine WS.nxt ?_
  refine WS.sq ?_
  refine WS.rg ?_
  refine RS.mS 2 [(75, .val anyV), (74, .val (Value.pointer (some p1)))] ?_
  obtain ⟨⟨x24, x25, H26⟩, hx, h⟩ := bind_some h
  try dsimp only at h
  refine RS.cl (some 76) (v := (Value.tuple #[(Value.string x24), (Value.int .i64 x25)])) 7 #[(Value.pointer (some p1)), anyV] (term_Table_Text_o_ok hx) ?_
  refine RS.mS 5 [(22, .val (Value.int .i64 x25)), (21, .val (Value.string x24)), (78, .val (Value.int .i64 x25)), (77, .val (Value.string x24)), (73, .val (Value.tuple #[(Value.string x24), (Value.int .i64 x25)]))] ?_
  refine RS.dn ?_
  refine WS.nxt ?_
  refine WS.sq ?_
  refine WS.rg ?_
  refine RS.mS 2 [(81, .val anyV), (80, .val (Value.pointer none))] ?_
  obtain ⟨⟨x27_0, x27_1, x27_2, x27_3, x28, H29⟩, hx, h⟩ := bind_some h
  try dsimp only at h
  refine RS.cl (some 82) (v := (Value.tuple #[(Value.agg #[(Value.int .i64 x27_0), (Value.int .i64 x27_1), (Value.string x27_2), (Sl3.v x27_3)]), (Value.bool x28)])) 8 #[(Value.pointer none), anyV] (term_Table_Sort_o_ok hx) ?_
  refine RS.mL 6 [(24, .val (Value.bool x28)), (23, .loc 3 0), (84, .val (Value.bool x28)), (83, .val (Value.agg #[(Value.int .i64 x27_0), (Value.int .i64 x27_1), (Value.string x27_2), (Sl3.v x27_3)])), (79, .val (Value.tuple #[(Value.agg #[(Value.int .i64 x27_0), (Value.int .i64 x27_1), (Value.string x27_2), (Sl3.v x27_3)]), (Value.bool x28)]))] ([some (35, [anyV, anyV, anyV, anyV, anyV, anyV, anyV, anyV, anyV, anyV, anyV, anyV]), some (35, [(Value.int .i64 x15_0), (Value.string x15_1), (Value.bool x15_2), (Sl3.v x15_3), (Value.int .i64 x15_4), (Sl3.v x15_5), (Value.int .i64 x15_6), (Value.int .i64 x15_7), (Value.string x15_8), (Sl3.v x15_9), (Sl3.v x15_10), (Sl3.v x15_11)]), some (35, [(Value.int .i64 x18_0), (Value.string x18_1), (Value.bool x18_2), (Sl3.v x18_3), (Value.int .i64 x18_4), (Sl3.v x18_5), (Value.int .i64 x18_6), (Value.int .i64 x18_7), (Value.string x18_8), (Sl3.v x18_9), (Sl3.v x18_10), (Sl3.v x18_11)]), some (32, [(Value.int .i64 x27_0), (Value.int .i64 x27_1), (Value.string x27_2), (Sl3.v x27_3)])]) ?_
  refine RS.dn ?_
  refine WS.nxt ?_
  refine WS.sq ?_
  refine WS.rg ?_
  refine RS.mS 2 [(87, .val anyV), (86, .val (Value.pointer (some p1)))] ?_
  obtain ⟨⟨x30_0, x30_1, x30_2, x30_3, x31, H32⟩, hx, h⟩ := bind_some h
  try dsimp only at h
  refine RS.cl (some 88) (v := (Value.tuple #[(Value.agg #[(Value.int .i64 x30_0), (Value.int .i64 x30_1), (Value.string x30_2), (Sl3.v x30_3)]), (Value.bool x31)])) 8 #[(Value.pointer (some p1)), anyV] (term_Table_Sort_o_ok hx) ?_
  refine RS.mL 6 [(26, .val (Value.bool x31)), (25, .loc 4 0), (90, .val (Value.bool x31)), (89, .val (Value.agg #[(Value.int .i64 x30_0), (Value.int .i64 x30_1), (Value.string x30_2), (Sl3.v x30_3)])), (85, .val (Value.tuple #[(Value.agg #[(Value.int .i64 x30_0), (Value.int .i64 x30_1), (Value.string x30_2), (Sl3.v x30_3)]), (Value.bool x31)]))] ([some (35, [anyV, anyV, anyV, anyV, anyV, anyV, anyV, anyV, anyV, anyV, anyV, anyV]), some (35, [(Value.int .i64 x15_0), (Value.string x15_1), (Value.bool x15_2), (Sl3.v x15_3), (Value.int .i64 x15_4), (Sl3.v x15_5), (Value.int .i64 x15_6), (Value.int .i64 x15_7), (Value.string x15_8), (Sl3.v x15_9), (Sl3.v x15_10), (Sl3.v x15_11)]), some (35, [(Value.int .i64 x18_0), (Value.string x18_1), (Value.bool x18_2), (Sl3.v x18_3), (Value.int .i64 x18_4), (Sl3.v x18_5), (Value.int .i64 x18_6), (Value.int .i64 x18_7), (Value.string x18_8), (Sl3.v x18_9), (Sl3.v x18_10), (Sl3.v x18_11)]), some (32, [(Value.int .i64 x27_0), (Value.int .i64 x27_1), (Value.string x27_2), (Sl3.v x27_3)]), some (32, [(Value.int .i64 x30_0), (Value.int .i64 x30_1), (Value.string x30_2), (Sl3.v x30_3)])]) ?_
  refine RS.dn ?_
  refine WS.nxt ?_
  refine WS.sq ?_
  refine WS.rg ?_
  obtain ⟨⟨x33, H34⟩, hx, h⟩ := bind_some h
  try dsimp only at h
  refine RS.cl (some 91) (v := (Value.bool x33)) 9 #[] (law05_alive_ok hx) ?_
  refine RS.mS 1 [(92, .val (Value.bool x33))] ?_
  rcases ite_some h with ⟨hp, h⟩ | ⟨hp, h⟩
  · refine RS.fx 92 true hp ?_
    refine RS.mS 4 [(96, .val (Value.bool (decide (x4 = 4)))), (95, .val (Value.bool (decide (x4 = 4)))), (94, .val (Value.bool (decide (x4 = 4)))), (93, .val (Value.int .i64 x4))] ?_
    rcases ite_some h with ⟨hp, h⟩ | ⟨hp, h⟩
    · refine RS.fx 96 true (decide_eq_true hp) ?_
      refine RS.mS 4 [(100, .val (Value.bool (decide (x7 = 4)))), (99, .val (Value.bool (decide (x7 = 4)))), (98, .val (Value.bool (decide (x7 = 4)))), (97, .val (Value.int .i64 x7))] ?_
      rcases ite_some h with ⟨hp, h⟩ | ⟨hp, h⟩
      · refine RS.fx 100 true (decide_eq_true hp) ?_
        refine RS.mS 4 [(104, .val (Value.bool (decide (x10 = 4)))), (103, .val (Value.bool (decide (x10 = 4)))), (102, .val (Value.bool (decide (x10 = 4)))), (101, .val (Value.int .i64 x10))] ?_
        rcases ite_some h with ⟨hp, h⟩ | ⟨hp, h⟩
        · refine RS.fx 104 true (decide_eq_true hp) ?_
          refine RS.mS 4 [(108, .val (Value.bool (decide (x13 = 4)))), (107, .val (Value.bool (decide (x13 = 4)))), (106, .val (Value.bool (decide (x13 = 4)))), (105, .val (Value.int .i64 x13))] ?_
          rcases ite_some h with ⟨hp, h⟩ | ⟨hp, h⟩
          · refine RS.fx 108 true (decide_eq_true hp) ?_
            refine RS.mS 4 [(112, .val (Value.bool (decide (x22 = 4)))), (111, .val (Value.bool (decide (x22 = 4)))), (110, .val (Value.bool (decide (x22 = 4)))), (109, .val (Value.int .i64 x22))] ?_
            rcases ite_some h with ⟨hp, h⟩ | ⟨hp, h⟩
            · refine RS.fx 112 true (decide_eq_true hp) ?_
              refine RS.mS 4 [(116, .val (Value.bool (decide (x25 = 4)))), (115, .val (Value.bool (decide (x25 = 4)))), (114, .val (Value.bool (decide (x25 = 4)))), (113, .val (Value.int .i64 x25))] ?_
              rcases ite_some h with ⟨hp, h⟩ | ⟨hp, h⟩
              · refine RS.fx 116 true (decide_eq_true hp) ?_
                refine RS.mS 10 [(126, .val (Value.bool (decide ((IntKind.i64.wrap ((IntKind.i64.wrap ((IntKind.i64.wrap (x3 + x6)) + x9)) + x12)) = 0)))), (125, .val (Value.bool (decide ((IntKind.i64.wrap ((IntKind.i64.wrap ((IntKind.i64.wrap (x3 + x6)) + x9)) + x12)) = 0)))), (124, .val (Value.bool (decide ((IntKind.i64.wrap ((IntKind.i64.wrap ((IntKind.i64.wrap (x3 + x6)) + x9)) + x12)) = 0)))), (123, .val (Value.int .i64 (IntKind.i64.wrap ((IntKind.i64.wrap ((IntKind.i64.wrap (x3 + x6)) + x9)) + x12)))), (122, .val (Value.int .i64 x12)), (121, .val (Value.int .i64 (IntKind.i64.wrap ((IntKind.i64.wrap (x3 + x6)) + x9)))), (120, .val (Value.int .i64 x9)), (119, .val (Value.int .i64 (IntKind.i64.wrap (x3 + x6)))), (118, .val (Value.int .i64 x6)), (117, .val (Value.int .i64 x3))] ?_
                rcases ite_some h with ⟨hp, h⟩ | ⟨hp, h⟩
                · refine RS.fx 126 true (decide_eq_true hp) ?_
                  refine RS.mS 4 [(130, .val (Value.bool (x21.toList == (⟨#[]⟩ : ByteArray).toList))), (129, .val (Value.bool (x21.toList == (⟨#[]⟩ : ByteArray).toList))), (128, .val (Value.bool (x21.toList == (⟨#[]⟩ : ByteArray).toList))), (127, .val (Value.string x21))] ?_
                  rcases ite_some h with ⟨hp, h⟩ | ⟨hp, h⟩
                  · refine RS.fx 130 true hp ?_
                    refine RS.mS 4 [(134, .val (Value.bool (x24.toList == (⟨#[]⟩ : ByteArray).toList))), (133, .val (Value.bool (x24.toList == (⟨#[]⟩ : ByteArray).toList))), (132, .val (Value.bool (x24.toList == (⟨#[]⟩ : ByteArray).toList))), (131, .val (Value.string x24))] ?_
                    rcases ite_some h with ⟨hp, h⟩ | ⟨hp, h⟩
                    · refine RS.fx 134 true hp ?_
                      refine RS.mS 4 [(138, .val (Value.bool (!x16))), (137, .val (Value.bool (!x16))), (136, .val (Value.bool (!x16))), (135, .val (Value.bool x16))] ?_
                      rcases ite_some h with ⟨hp, h⟩ | ⟨hp, h⟩
                      · refine RS.fx 138 false (nb_not hp) ?_
                        cases h
                      · refine RS.fx 138 true (nb_not' hp) ?_
                        refine RS.mS 4 [(142, .val (Value.bool (!x19))), (141, .val (Value.bool (!x19))), (140, .val (Value.bool (!x19))), (139, .val (Value.bool x19))] ?_
                        rcases ite_some h with ⟨hp, h⟩ | ⟨hp, h⟩
                        · refine RS.fx 142 false (nb_not hp) ?_
                          cases h
                        · refine RS.fx 142 true (nb_not' hp) ?_
                          refine RS.mS 4 [(146, .val (Value.bool (!x28))), (145, .val (Value.bool (!x28))), (144, .val (Value.bool (!x28))), (143, .val (Value.bool x28))] ?_
                          rcases ite_some h with ⟨hp, h⟩ | ⟨hp, h⟩
                          · refine RS.fx 146 false (nb_not hp) ?_
                            cases h
                          · refine RS.fx 146 true (nb_not' hp) ?_
                            refine RS.mS 4 [(150, .val (Value.bool (!x31))), (149, .val (Value.bool (!x31))), (148, .val (Value.bool (!x31))), (147, .val (Value.bool x31))] ?_
                            rcases ite_some h with ⟨hp, h⟩ | ⟨hp, h⟩
                            · refine RS.fx 150 false (nb_not hp) ?_
                              cases h
                            · refine RS.fx 150 true (nb_not' hp) ?_
                              refine RS.mS 2 [(152, .val (Value.agg #[(Value.int .i64 0), (Value.string (⟨#[]⟩ : ByteArray)), (Value.bool false), (Sl3.v Sl3.nil), (Value.int .i64 0), (Sl3.v Sl3.nil), (Value.int .i64 0), (Value.int .i64 0), (Value.string (⟨#[]⟩ : ByteArray)), (Sl3.v Sl3.nil), (Sl3.v Sl3.nil), (Sl3.v Sl3.nil)])), (151, .val (Value.agg #[(Value.int .i64 x15_0), (Value.string x15_1), (Value.bool x15_2), (Sl3.v x15_3), (Value.int .i64 x15_4), (Sl3.v x15_5), (Value.int .i64 x15_6), (Value.int .i64 x15_7), (Value.string x15_8), (Sl3.v x15_9), (Sl3.v x15_10), (Sl3.v x15_11)]))] ?_
                              obtain ⟨x35, hx, h⟩ := bind_some h
                              refine RS.cl (some 153) (v := (Value.bool x35)) 10 #[(Value.agg #[(Value.int .i64 x15_0), (Value.string x15_1), (Value.bool x15_2), (Sl3.v x15_3), (Value.int .i64 x15_4), (Sl3.v x15_5), (Value.int .i64 x15_6), (Value.int .i64 x15_7), (Value.string x15_8), (Sl3.v x15_9), (Sl3.v x15_10), (Sl3.v x15_11)]), (Value.agg #[(Value.int .i64 0), (Value.string (⟨#[]⟩ : ByteArray)), (Value.bool false), (Sl3.v Sl3.nil), (Value.int .i64 0), (Sl3.v Sl3.nil), (Value.int .i64 0), (Value.int .i64 0), (Value.string (⟨#[]⟩ : ByteArray)), (Sl3.v Sl3.nil), (Sl3.v Sl3.nil), (Sl3.v Sl3.nil)])] (ref05_Same_ok hx) ?_
                              refine RS.mS 2 [(155, .val (Value.bool x35)), (154, .val (Value.bool x35))] ?_
                              rcases ite_some h with ⟨hp, h⟩ | ⟨hp, h⟩
                              · refine RS.fx 155 true hp ?_
                                refine RS.mS 2 [(157, .val (Value.agg #[(Value.int .i64 0), (Value.string (⟨#[]⟩ : ByteArray)), (Value.bool false), (Sl3.v Sl3.nil), (Value.int .i64 0), (Sl3.v Sl3.nil), (Value.int .i64 0), (Value.int .i64 0), (Value.string (⟨#[]⟩ : ByteArray)), (Sl3.v Sl3.nil), (Sl3.v Sl3.nil), (Sl3.v Sl3.nil)])), (156, .val (Value.agg #[(Value.int .i64 x18_0), (Value.string x18_1), (Value.bool x18_2), (Sl3.v x18_3), (Value.int .i64 x18_4), (Sl3.v x18_5), (Value.int .i64 x18_6), (Value.int .i64 x18_7), (Value.string x18_8), (Sl3.v x18_9), (Sl3.v x18_10), (Sl3.v x18_11)]))] ?_
                                obtain ⟨x36, hx, h⟩ := bind_some h
                                refine RS.cl (some 158) (v := (Value.bool x36)) 10 #[(Value.agg #[(Value.int .i64 x18_0), (Value.string x18_1), (Value.bool x18_2), (Sl3.v x18_3), (Value.int .i64 x18_4), (Sl3.v x18_5), (Value.int .i64 x18_6), (Value.int .i64 x18_7), (Value.string x18_8), (Sl3.v x18_9), (Sl3.v x18_10), (Sl3.v x18_11)]), (Value.agg #[(Value.int .i64 0), (Value.string (⟨#[]⟩ : ByteArray)), (Value.bool false), (Sl3.v Sl3.nil), (Value.int .i64 0), (Sl3.v Sl3.nil), (Value.int .i64 0), (Value.int .i64 0), (Value.string (⟨#[]⟩ : ByteArray)), (Sl3.v Sl3.nil), (Sl3.v Sl3.nil), (Sl3.v Sl3.nil)])] (ref05_Same_ok hx) ?_
                                refine RS.mS 2 [(160, .val (Value.bool x36)), (159, .val (Value.bool x36))] ?_
                                rcases ite_some h with ⟨hp, h⟩ | ⟨hp, h⟩
                                · refine RS.fx 160 true hp ?_
                                  refine RS.mS 2 [(162, .val (Value.agg #[(Value.int .i64 0), (Value.int .i64 0), (Value.string (⟨#[]⟩ : ByteArray)), (Sl3.v Sl3.nil)])), (161, .val (Value.agg #[(Value.int .i64 x27_0), (Value.int .i64 x27_1), (Value.string x27_2), (Sl3.v x27_3)]))] ?_
                                  obtain ⟨x37, hx, h⟩ := bind_some h
                                  refine RS.cl (some 163) (v := (Value.bool x37)) 11 #[(Value.agg #[(Value.int .i64 x27_0), (Value.int .i64 x27_1), (Value.string x27_2), (Sl3.v x27_3)]), (Value.agg #[(Value.int .i64 0), (Value.int .i64 0), (Value.string (⟨#[]⟩ : ByteArray)), (Sl3.v Sl3.nil)])] (ref04_Same_ok hx) ?_
                                  refine RS.mS 2 [(165, .val (Value.bool x37)), (164, .val (Value.bool x37))] ?_
                                  rcases ite_some h with ⟨hp, h⟩ | ⟨hp, h⟩
                                  · refine RS.fx 165 true hp ?_
                                    refine RS.mS 2 [(167, .val (Value.agg #[(Value.int .i64 0), (Value.int .i64 0), (Value.string (⟨#[]⟩ : ByteArray)), (Sl3.v Sl3.nil)])), (166, .val (Value.agg #[(Value.int .i64 x30_0), (Value.int .i64 x30_1), (Value.string x30_2), (Sl3.v x30_3)]))] ?_
                                    obtain ⟨x38, hx, h⟩ := bind_some h
                                    refine RS.cl (some 168) (v := (Value.bool x38)) 11 #[(Value.agg #[(Value.int .i64 x30_0), (Value.int .i64 x30_1), (Value.string x30_2), (Sl3.v x30_3)]), (Value.agg #[(Value.int .i64 0), (Value.int .i64 0), (Value.string (⟨#[]⟩ : ByteArray)), (Sl3.v Sl3.nil)])] (ref04_Same_ok hx) ?_
                                    refine RS.mS 2 [(170, .val (Value.bool x38)), (169, .val (Value.bool x38))] ?_
                                    rcases ite_some h with ⟨hp, h⟩ | ⟨hp, h⟩
                                    · refine RS.fx 170 true hp ?_
                                      refine RS.mS 1 [(171, .val (Value.pointer none))] ?_
                                      obtain ⟨x39, hx, h⟩ := bind_some h
                                      refine RS.cl (some 172) (v := (Value.int .i64 x39)) 12 #[(Value.pointer none)] (term_Table_Len_ok hx) ?_
                                      refine RS.mS 1 [(173, .val (Value.pointer (some p1)))] ?_
                                      obtain ⟨x40, hx, h⟩ := bind_some h
                                      refine RS.cl (some 174) (v := (Value.int .i64 x40)) 12 #[(Value.pointer (some p1))] (term_Table_Len_ok hx) ?_
                                      refine RS.mS 4 [(178, .val (Value.bool (decide ((IntKind.i64.wrap (x39 + x40)) = 0)))), (177, .val (Value.bool (decide ((IntKind.i64.wrap (x39 + x40)) = 0)))), (176, .val (Value.bool (decide ((IntKind.i64.wrap (x39 + x40)) = 0)))), (175, .val (Value.int .i64 (IntKind.i64.wrap (x39 + x40))))] ?_
                                      rcases ite_some h with ⟨hp, h⟩ | ⟨hp, h⟩
                                      · refine RS.fx 178 true (decide_eq_true hp) ?_
                                        refine RS.mS 2 [(180, .val anyV), (179, .val (Value.pointer none))] ?_
                                        obtain ⟨⟨s41, H42⟩, hx, h⟩ := bind_some h
                                        try dsimp only at h
                                        refine RS.o (H' := H42) (some 181) (Sl3.v s41) (Abs.run_newR (by kernel_rfl) (by kernel_rfl) hx) ?_
                                        obtain ⟨⟨x43, H44⟩, hx, h⟩ := bind_some h
                                        try dsimp only at h
                                        refine RS.cl (some 182) (v := (Sl3.v x43)) 13 #[(Value.pointer none), (Sl3.v s41)] (term_Table_Below_ok hx) ?_
                                        refine RS.mS 3 [(185, .val anyV), (184, .val (Value.pointer (some p1))), (183, .val (Value.int .i64 (x43.n : Int)))] ?_
                                        obtain ⟨⟨s45, H46⟩, hx, h⟩ := bind_some h
                                        try dsimp only at h
                                        refine RS.o (H' := H46) (some 186) (Sl3.v s45) (Abs.run_newR (by kernel_rfl) (by kernel_rfl) hx) ?_
                                        obtain ⟨⟨x47, H48⟩, hx, h⟩ := bind_some h
                                        try dsimp only at h
                                        refine RS.cl (some 187) (v := (Sl3.v x47)) 13 #[(Value.pointer (some p1)), (Sl3.v s45)] (term_Table_Below_ok hx) ?_
                                        refine RS.mS 5 [(192, .val (Value.bool (decide ((IntKind.i64.wrap ((x43.n : Int) + (x47.n : Int))) = 0)))), (191, .val (Value.bool (decide ((IntKind.i64.wrap ((x43.n : Int) + (x47.n : Int))) = 0)))), (190, .val (Value.bool (decide ((IntKind.i64.wrap ((x43.n : Int) + (x47.n : Int))) = 0)))), (189, .val (Value.int .i64 (IntKind.i64.wrap ((x43.n : Int) + (x47.n : Int))))), (188, .val (Value.int .i64 (x47.n : Int)))] ?_
                                        rcases ite_some h with ⟨hp, h⟩ | ⟨hp, h⟩
                                        · refine RS.fx 192 true (decide_eq_true hp) ?_
                                          refine RS.mS 1 [(193, .val (Value.pointer none))] ?_
                                          obtain ⟨⟨x49_0, x49_1, x49_2, H50⟩, hx, h⟩ := bind_some h
                                          try dsimp only at h
                                          refine RS.cl (some 194) (v := (Value.agg #[(Sl3.v x49_0), (Sl3.v x49_1), (Sl3.v x49_2)])) 14 #[(Value.pointer none)] (term_Table_Sig_ok hx) ?_
                                          refine RS.mS 3 [(197, .val (Value.pointer (some p1))), (196, .val (Value.int .i64 (x49_2.n : Int))), (195, .val (Sl3.v x49_2))] ?_
                                          obtain ⟨⟨x51_0, x51_1, x51_2, H52⟩, hx, h⟩ := bind_some h
                                          try dsimp only at h
                                          refine RS.cl (some 198) (v := (Value.agg #[(Sl3.v x51_0), (Sl3.v x51_1), (Sl3.v x51_2)])) 14 #[(Value.pointer (some p1))] (term_Table_Sig_ok hx) ?_
                                          refine RS.mS 6 [(4, .val (Value.bool (decide ((IntKind.i64.wrap ((x49_2.n : Int) + (x51_2.n : Int))) = 0)))), (203, .val (Value.bool (decide ((IntKind.i64.wrap ((x49_2.n : Int) + (x51_2.n : Int))) = 0)))), (202, .val (Value.bool (decide ((IntKind.i64.wrap ((x49_2.n : Int) + (x51_2.n : Int))) = 0)))), (201, .val (Value.int .i64 (IntKind.i64.wrap ((x49_2.n : Int) + (x51_2.n : Int))))), (200, .val (Value.int .i64 (x51_2.n : Int))), (199, .val (Sl3.v x51_2))] ?_
                                          refine RS.dn ?_
                                          refine WS.nxt ?_
                                          refine WS.rt ?_
                                          cases h
                                          exact fun a w hs => rtR (rS hs)
                                        · refine RS.fx 192 false (decide_eq_false hp) ?_
                                          cases h
                                      · refine RS.fx 178 false (decide_eq_false hp) ?_
                                        cases h
                                    · refine RS.fx 170 false (b_not hp) ?_
                                      cases h
                                  · refine RS.fx 165 false (b_not hp) ?_
                                    cases h
                                · refine RS.fx 160 false (b_not hp) ?_
                                  cases h
                              · refine RS.fx 155 false (b_not hp) ?_
                                cases h
                    · refine RS.fx 134 false (b_not hp) ?_
                      cases h
                  · refine RS.fx 130 false (b_not hp) ?_
                    cases h
                · refine RS.fx 126 false (decide_eq_false hp) ?_
                  cases h
              · refine RS.fx 116 false (decide_eq_false hp) ?_
                cases h
            · refine RS.fx 112 false (decide_eq_false hp) ?_
              cases h
          · refine RS.fx 108 false (decide_eq_false hp) ?_
            cases h
        · refine RS.fx 104 false (decide_eq_false hp) ?_
          cases h
      · refine RS.fx 100 false (decide_eq_false hp) ?_
        cases h
    · refine RS.fx 96 false (decide_eq_false hp) ?_
      cases h
  · refine RS.fx 92 false (b_not hp) ?_
    cases h

end Go.Proofs.YtgkogeglciogkaaGreatDoor
