/- Functions of the program as Lean functions over the abstract heap, and that the interpreter comes to them (printed by a program of this project's own), part 2. No condition. -/
import Derived.Test.YtoadagekdnkciaaDigitsG1
namespace Go.Proofs.Ytoadagekdnkciaa
open Go Go.Abs
set_option maxRecDepth 100000

noncomputable def B9 : Code := (Try.f9.body).getD .skip

def law01_NatDigits_enc : (Bool × AH) → Value
  | (r0, _) => (Value.bool r0)

def law01_NatDigits_hp (_ : AH) : (Bool × AH) → AH := fun r => r.2

noncomputable def law01_NatDigits (H : AH) (a0 : Sl3) (a1 : Int) (a2 : Int) : Option (Bool × AH) :=
  Option.bind (nat_Len H a0) fun x1 =>
  Option.bind (α := Unit ⊕ (Bool × AH)) (
    if x1 > 0 then
      Option.bind (nat_Bit H a0 (IntKind.i64.wrap (x1 - 1))) fun x2 =>
      if x2 = true then
        Option.bind (nat_Bit H a0 x1) fun x3 =>
        if x3 = true then
          ((some (false, H)).map .inr)
        else
          Option.bind (nat_Bit H a0 (-1)) fun x4 =>
          if x4 = true then
            ((some (false, H)).map .inr)
          else
            some (.inl ())
      else
        ((some (false, H)).map .inr)
    else
      Option.bind (nat_Bit H a0 x1) fun x5 =>
      if x5 = true then
        ((some (false, H)).map .inr)
      else
        Option.bind (nat_Bit H a0 (-1)) fun x6 =>
        if x6 = true then
          ((some (false, H)).map .inr)
        else
          some (.inl ())) fun o => match o with
  | .inl _ =>
    Option.bind (nat_Shl H a0 (IntKind.i64.wrap a1)) fun (x7, x8, H9) =>
    Option.bind (nat_Shr H9 a0 (IntKind.i64.wrap a1)) fun (x10, x11, H12) =>
    if x8 = 0 then
      if x11 = 0 then
        Option.bind (nat_Bit H12 x7 (IntKind.i64.wrap ((IntKind.i64.wrap a2) + (IntKind.i64.wrap a1)))) fun x21 =>
        Option.bind (nat_Bit H12 a0 (IntKind.i64.wrap a2)) fun x22 =>
        if (x21 == x22) = true then
          Option.bind (nat_Bit H12 x10 (IntKind.i64.wrap a2)) fun x23 =>
          Option.bind (nat_Bit H12 a0 (IntKind.i64.wrap ((IntKind.i64.wrap a2) + (IntKind.i64.wrap a1)))) fun x24 =>
          if (x23 == x24) = true then
            if (IntKind.i64.wrap a2) ≥ (IntKind.i64.wrap a1) then
              if x1 = 0 then
                Option.bind (law01_alive H12) fun (x25, H26) =>
                some (x25, H26)
              else
                Option.bind (nat_Len H12 x7) fun x27 =>
                if x27 = (IntKind.i64.wrap (x1 + (IntKind.i64.wrap a1))) then
                  Option.bind (law01_alive H12) fun (x28, H29) =>
                  some (x28, H29)
                else
                  some (false, H12)
            else
              Option.bind (nat_Bit H12 x7 (IntKind.i64.wrap a2)) fun x30 =>
              if x30 = true then
                some (false, H12)
              else
                if x1 = 0 then
                  Option.bind (law01_alive H12) fun (x31, H32) =>
                  some (x31, H32)
                else
                  Option.bind (nat_Len H12 x7) fun x33 =>
                  if x33 = (IntKind.i64.wrap (x1 + (IntKind.i64.wrap a1))) then
                    Option.bind (law01_alive H12) fun (x34, H35) =>
                    some (x34, H35)
                  else
                    some (false, H12)
          else
            some (false, H12)
        else
          some (false, H12)
      else
        if x8 = 5 then
          Option.bind (law01_alive H12) fun (x17, H18) =>
          some (x17, H18)
        else
          if x11 = 5 then
            Option.bind (law01_alive H12) fun (x19, H20) =>
            some (x19, H20)
          else
            some (false, H12)
    else
      if x8 = 5 then
        Option.bind (law01_alive H12) fun (x13, H14) =>
        some (x13, H14)
      else
        if x11 = 5 then
          Option.bind (law01_alive H12) fun (x15, H16) =>
          some (x15, H16)
        else
          some (false, H12)
  | .inr r => some r

theorem law01_NatDigits_ok {H : AH} {a0 : Sl3} {a1 : Int} {a2 : Int} {r : (Bool × AH)} (h : law01_NatDigits H a0 a1 a2 = some r) :
    CallE Try.prog 1000 4294967296 9 #[(Sl3.v a0), (Value.int .u8 a1), (Value.int .u16 a2)] H (law01_NatDigits_enc r) (law01_NatDigits_hp H r) := by
  refine CallE.mk (args := [(Sl3.v a0), (Value.int .u8 a1), (Value.int .u16 a2)]) Try.func9 (B := B9) (by kernel_rfl) ?_
  unfold law01_NatDigits at h
  refine WX.seq (by kernel_rfl) ?_
  refine WX.region (opsOf (cfst B9)) (by kernel_rfl) ?_
  refine RX.psn 1 [(6, (Value.bool false))] (by kernel_rfl) ?_
  refine RX.done (by kernel_rfl) ?_
  refine fun ss hs => (WX.nxt ?_ ss hs)
  refine WX.seq (by kernel_rfl) ?_
  refine WX.region (opsOf (cfst (csnd B9))) (by kernel_rfl) ?_
  refine RX.psn 1 [(13, (Sl3.v a0))] (by kernel_rfl) ?_
  obtain ⟨x1, hx, h⟩ := bind_some h
  refine RX.callAt (some 14) (v := (Value.int .i64 x1)) 28 #[(Sl3.v a0)] (by kernel_rfl) (by kernel_rfl) (by kernel_rfl) (nat_Len_ok hx) ?_
  refine RX.psn 1 [(7, (Value.int .i64 x1))] (by kernel_rfl) ?_
  refine RX.done (by kernel_rfl) ?_
  refine fun ss hs => (WX.nxt ?_ ss hs)
  obtain ⟨o, hx, h⟩ := bind_some h
  rcases o with _ | ro
  · dsimp only at h
    refine WX.seq (by kernel_rfl) ?_
    refine WX.join ([(0, (Sl3.v a0)), (1, (Value.int .u8 a1)), (2, (Value.int .u16 a2)), (7, (Value.int .i64 x1))]) H ?_ (fun ss hs => WX.nxt ?_ ss hs)
    · clear h; rename _ => h
      refine WX.seq (by kernel_rfl) ?_
      refine WX.region (opsOf (cfst (cfst (csnd (csnd B9))))) (by kernel_rfl) ?_
      refine RX.psn 3 [(17, (Value.bool (decide (x1 > 0)))), (16, (Value.bool (decide (x1 > 0)))), (15, (Value.int .i64 x1))] (by kernel_rfl) ?_
      rcases ite_some h with ⟨hp, h⟩ | ⟨hp, h⟩
      · refine RX.fix 17 true (decide_eq_true hp) (by kernel_rfl) ?_
        refine RX.psn 3 [(20, (Value.int .i64 (IntKind.i64.wrap (x1 - 1)))), (19, (Value.int .i64 x1)), (18, (Sl3.v a0))] (by kernel_rfl) ?_
        obtain ⟨x2, hx, h⟩ := bind_some h
        refine RX.callAt (some 21) (v := (Value.bool x2)) 30 #[(Sl3.v a0), (Value.int .i64 (IntKind.i64.wrap (x1 - 1)))] (by kernel_rfl) (by kernel_rfl) (by kernel_rfl) (nat_Bit_ok hx) ?_
        refine RX.psn 3 [(24, (Value.bool (!x2))), (23, (Value.bool (!x2))), (22, (Value.bool (!x2)))] (by kernel_rfl) ?_
        rcases ite_some h with ⟨hp, h⟩ | ⟨hp, h⟩
        · refine RX.fix 24 false (nb_not hp) (by kernel_rfl) ?_
          refine RX.psn 2 [(26, (Value.int .i64 x1)), (25, (Sl3.v a0))] (by kernel_rfl) ?_
          obtain ⟨x3, hx, h⟩ := bind_some h
          refine RX.callAt (some 27) (v := (Value.bool x3)) 30 #[(Sl3.v a0), (Value.int .i64 x1)] (by kernel_rfl) (by kernel_rfl) (by kernel_rfl) (nat_Bit_ok hx) ?_
          refine RX.psn 2 [(29, (Value.bool x3)), (28, (Value.bool x3))] (by kernel_rfl) ?_
          rcases ite_some h with ⟨hp, h⟩ | ⟨hp, h⟩
          · refine RX.fix 29 true hp (by kernel_rfl) ?_
            refine RX.psn 3 [(32, (Value.bool true)), (31, undef), (30, undef)] (by kernel_rfl) ?_
            refine RX.done (by kernel_rfl) ?_
            refine fun ss hs => (WX.nxt ?_ ss hs)
            refine WX.condT true rfl (by kernel_rfl) ?_
            refine WX.seq (by kernel_rfl) ?_
            refine WX.region (opsOf (cfst (cfst (csnd (cfst (csnd (csnd B9))))))) (by kernel_rfl) ?_
            refine RX.psn 1 [(6, (Value.bool false))] (by kernel_rfl) ?_
            refine RX.done (by kernel_rfl) ?_
            refine fun ss hs => (WX.nxt ?_ ss hs)
            refine WX.ret (by kernel_rfl) ?_
            exact (map_inl h).elim
          · refine RX.fix 29 false (b_not hp) (by kernel_rfl) ?_
            refine RX.psn 1 [(30, (Sl3.v a0))] (by kernel_rfl) ?_
            obtain ⟨x4, hx, h⟩ := bind_some h
            refine RX.callAt (some 31) (v := (Value.bool x4)) 30 #[(Sl3.v a0), (Value.int .i64 (-1))] (by kernel_rfl) (by kernel_rfl) (by kernel_rfl) (nat_Bit_ok hx) ?_
            refine RX.psn 1 [(32, (Value.bool x4))] (by kernel_rfl) ?_
            refine RX.done (by kernel_rfl) ?_
            refine fun ss hs => (WX.nxt ?_ ss hs)
            rcases ite_some h with ⟨hp, h⟩ | ⟨hp, h⟩
            · refine WX.condT _ hp (by kernel_rfl) ?_
              refine WX.seq (by kernel_rfl) ?_
              refine WX.region (opsOf (cfst (cfst (csnd (cfst (csnd (csnd B9))))))) (by kernel_rfl) ?_
              refine RX.psn 1 [(6, (Value.bool false))] (by kernel_rfl) ?_
              refine RX.done (by kernel_rfl) ?_
              refine fun ss hs => (WX.nxt ?_ ss hs)
              refine WX.ret (by kernel_rfl) ?_
              exact (map_inl h).elim
            · refine WX.condF _ (b_not hp) (by kernel_rfl) ?_
              refine WX.skip (by kernel_rfl) ?_
              cases h
              exact fun ss hs => ⟨rfl, hs.sub ((SubK.cons (by kernel_rfl) (SubK.cons (by kernel_rfl) (SubK.cons (by kernel_rfl) (SubK.cons (by kernel_rfl) SubK.nil))))), rfl⟩
        · refine RX.fix 24 true (nb_not' hp) (by kernel_rfl) ?_
          refine RX.psn 8 [(32, (Value.bool true)), (31, undef), (30, undef), (29, (Value.bool true)), (28, (Value.bool true)), (27, undef), (26, undef), (25, undef)] (by kernel_rfl) ?_
          refine RX.done (by kernel_rfl) ?_
          refine fun ss hs => (WX.nxt ?_ ss hs)
          refine WX.condT true rfl (by kernel_rfl) ?_
          refine WX.seq (by kernel_rfl) ?_
          refine WX.region (opsOf (cfst (cfst (csnd (cfst (csnd (csnd B9))))))) (by kernel_rfl) ?_
          refine RX.psn 1 [(6, (Value.bool false))] (by kernel_rfl) ?_
          refine RX.done (by kernel_rfl) ?_
          refine fun ss hs => (WX.nxt ?_ ss hs)
          refine WX.ret (by kernel_rfl) ?_
          exact (map_inl h).elim
      · refine RX.fix 17 false (decide_eq_false hp) (by kernel_rfl) ?_
        refine RX.psn 9 [(26, (Value.int .i64 x1)), (25, (Sl3.v a0)), (24, (Value.bool false)), (23, (Value.bool false)), (22, undef), (21, undef), (20, undef), (19, undef), (18, undef)] (by kernel_rfl) ?_
        obtain ⟨x5, hx, h⟩ := bind_some h
        refine RX.callAt (some 27) (v := (Value.bool x5)) 30 #[(Sl3.v a0), (Value.int .i64 x1)] (by kernel_rfl) (by kernel_rfl) (by kernel_rfl) (nat_Bit_ok hx) ?_
        refine RX.psn 2 [(29, (Value.bool x5)), (28, (Value.bool x5))] (by kernel_rfl) ?_
        rcases ite_some h with ⟨hp, h⟩ | ⟨hp, h⟩
        · refine RX.fix 29 true hp (by kernel_rfl) ?_
          refine RX.psn 3 [(32, (Value.bool true)), (31, undef), (30, undef)] (by kernel_rfl) ?_
          refine RX.done (by kernel_rfl) ?_
          refine fun ss hs => (WX.nxt ?_ ss hs)
          refine WX.condT true rfl (by kernel_rfl) ?_
          refine WX.seq (by kernel_rfl) ?_
          refine WX.region (opsOf (cfst (cfst (csnd (cfst (csnd (csnd B9))))))) (by kernel_rfl) ?_
          refine RX.psn 1 [(6, (Value.bool false))] (by kernel_rfl) ?_
          refine RX.done (by kernel_rfl) ?_
          refine fun ss hs => (WX.nxt ?_ ss hs)
          refine WX.ret (by kernel_rfl) ?_
          exact (map_inl h).elim
        · refine RX.fix 29 false (b_not hp) (by kernel_rfl) ?_
          refine RX.psn 1 [(30, (Sl3.v a0))] (by kernel_rfl) ?_
          obtain ⟨x6, hx, h⟩ := bind_some h
          refine RX.callAt (some 31) (v := (Value.bool x6)) 30 #[(Sl3.v a0), (Value.int .i64 (-1))] (by kernel_rfl) (by kernel_rfl) (by kernel_rfl) (nat_Bit_ok hx) ?_
          refine RX.psn 1 [(32, (Value.bool x6))] (by kernel_rfl) ?_
          refine RX.done (by kernel_rfl) ?_
          refine fun ss hs => (WX.nxt ?_ ss hs)
          rcases ite_some h with ⟨hp, h⟩ | ⟨hp, h⟩
          · refine WX.condT _ hp (by kernel_rfl) ?_
            refine WX.seq (by kernel_rfl) ?_
            refine WX.region (opsOf (cfst (cfst (csnd (cfst (csnd (csnd B9))))))) (by kernel_rfl) ?_
            refine RX.psn 1 [(6, (Value.bool false))] (by kernel_rfl) ?_
            refine RX.done (by kernel_rfl) ?_
            refine fun ss hs => (WX.nxt ?_ ss hs)
            refine WX.ret (by kernel_rfl) ?_
            exact (map_inl h).elim
          · refine WX.condF _ (b_not hp) (by kernel_rfl) ?_
            refine WX.skip (by kernel_rfl) ?_
            cases h
            exact fun ss hs => ⟨rfl, hs.sub ((SubK.cons (by kernel_rfl) (SubK.cons (by kernel_rfl) (SubK.cons (by kernel_rfl) (SubK.cons (by kernel_rfl) SubK.nil))))), rfl⟩
    · clear hx
      refine WX.seq (by kernel_rfl) ?_
      refine WX.region (opsOf (cfst (csnd (csnd (csnd B9))))) (by kernel_rfl) ?_
      refine RX.psn 3 [(36, (Value.int .i64 (IntKind.i64.wrap a1))), (35, (Value.int .u8 a1)), (34, (Sl3.v a0))] (by kernel_rfl) ?_
      obtain ⟨⟨x7, x8, H9⟩, hx, h⟩ := bind_some h
      dsimp only at h
      refine RX.callAt (some 37) (v := (Value.tuple #[(Sl3.v x7), (Value.int .i64 x8)])) 32 #[(Sl3.v a0), (Value.int .i64 (IntKind.i64.wrap a1))] (by kernel_rfl) (by kernel_rfl) (by kernel_rfl) (nat_Shl_ok hx) ?_
      refine RX.psn 5 [(9, (Value.int .i64 x8)), (8, (Sl3.v x7)), (39, (Value.int .i64 x8)), (38, (Sl3.v x7)), (33, (Value.tuple #[(Sl3.v x7), (Value.int .i64 x8)]))] (by kernel_rfl) ?_
      refine RX.done (by kernel_rfl) ?_
      refine fun ss hs => (WX.nxt ?_ ss hs)
      refine WX.seq (by kernel_rfl) ?_
      refine WX.region (opsOf (cfst (csnd (csnd (csnd (csnd B9)))))) (by kernel_rfl) ?_
      refine RX.psn 3 [(43, (Value.int .i64 (IntKind.i64.wrap a1))), (42, (Value.int .u8 a1)), (41, (Sl3.v a0))] (by kernel_rfl) ?_
      obtain ⟨⟨x10, x11, H12⟩, hx, h⟩ := bind_some h
      dsimp only at h
      refine RX.callAt (some 44) (v := (Value.tuple #[(Sl3.v x10), (Value.int .i64 x11)])) 34 #[(Sl3.v a0), (Value.int .i64 (IntKind.i64.wrap a1))] (by kernel_rfl) (by kernel_rfl) (by kernel_rfl) (nat_Shr_ok hx) ?_
      refine RX.psn 5 [(11, (Value.int .i64 x11)), (10, (Sl3.v x10)), (46, (Value.int .i64 x11)), (45, (Sl3.v x10)), (40, (Value.tuple #[(Sl3.v x10), (Value.int .i64 x11)]))] (by kernel_rfl) ?_
      refine RX.done (by kernel_rfl) ?_
      refine fun ss hs => (WX.nxt ?_ ss hs)
      refine WX.seq (by kernel_rfl) ?_
      refine WX.seq (by kernel_rfl) ?_
      refine WX.region (opsOf (cfst (cfst (csnd (csnd (csnd (csnd (csnd B9)))))))) (by kernel_rfl) ?_
      refine RX.psn 3 [(49, (Value.bool (!decide (x8 = 0)))), (48, (Value.bool (!decide (x8 = 0)))), (47, (Value.int .i64 x8))] (by kernel_rfl) ?_
      rcases ite_some h with ⟨hp, h⟩ | ⟨hp, h⟩
      · refine RX.fix 49 false (dec_not hp) (by kernel_rfl) ?_
        refine RX.psn 3 [(52, (Value.bool (!decide (x11 = 0)))), (51, (Value.bool (!decide (x11 = 0)))), (50, (Value.int .i64 x11))] (by kernel_rfl) ?_
        refine RX.done (by kernel_rfl) ?_
        refine fun ss hs => (WX.nxt ?_ ss hs)
        rcases ite_some h with ⟨hp, h⟩ | ⟨hp, h⟩
        · refine WX.condF _ (dec_not hp) (by kernel_rfl) ?_
          refine WX.skip (by kernel_rfl) ?_
          refine fun ss hs => (WX.nxt ?_ ss hs)
          refine WX.seq (by kernel_rfl) ?_
          refine WX.region (opsOf (cfst (csnd (csnd (csnd (csnd (csnd (csnd B9)))))))) (by kernel_rfl) ?_
          refine RX.psn 3 [(12, (Value.int .i64 (IntKind.i64.wrap a2))), (63, (Value.int .i64 (IntKind.i64.wrap a2))), (62, (Value.int .u16 a2))] (by kernel_rfl) ?_
          refine RX.done (by kernel_rfl) ?_
          refine fun ss hs => (WX.nxt ?_ ss hs)
          refine WX.seq (by kernel_rfl) ?_
          refine WX.region (opsOf (cfst (csnd (csnd (csnd (csnd (csnd (csnd (csnd B9))))))))) (by kernel_rfl) ?_
          refine RX.psn 5 [(68, (Value.int .i64 (IntKind.i64.wrap ((IntKind.i64.wrap a2) + (IntKind.i64.wrap a1))))), (67, (Value.int .i64 (IntKind.i64.wrap a1))), (66, (Value.int .u8 a1)), (65, (Value.int .i64 (IntKind.i64.wrap a2))), (64, (Sl3.v x7))] (by kernel_rfl) ?_
          obtain ⟨x21, hx, h⟩ := bind_some h
          refine RX.callAt (some 69) (v := (Value.bool x21)) 30 #[(Sl3.v x7), (Value.int .i64 (IntKind.i64.wrap ((IntKind.i64.wrap a2) + (IntKind.i64.wrap a1))))] (by kernel_rfl) (by kernel_rfl) (by kernel_rfl) (nat_Bit_ok hx) ?_
          refine RX.psn 2 [(71, (Value.int .i64 (IntKind.i64.wrap a2))), (70, (Sl3.v a0))] (by kernel_rfl) ?_
          obtain ⟨x22, hx, h⟩ := bind_some h
          refine RX.callAt (some 72) (v := (Value.bool x22)) 30 #[(Sl3.v a0), (Value.int .i64 (IntKind.i64.wrap a2))] (by kernel_rfl) (by kernel_rfl) (by kernel_rfl) (nat_Bit_ok hx) ?_
          refine RX.psn 2 [(74, (Value.bool (x21 == x22))), (73, (Value.bool (x21 == x22)))] (by kernel_rfl) ?_
          rcases ite_some h with ⟨hp, h⟩ | ⟨hp, h⟩
          · refine RX.fix 74 true hp (by kernel_rfl) ?_
            refine RX.psn 2 [(76, (Value.int .i64 (IntKind.i64.wrap a2))), (75, (Sl3.v x10))] (by kernel_rfl) ?_
            obtain ⟨x23, hx, h⟩ := bind_some h
            refine RX.callAt (some 77) (v := (Value.bool x23)) 30 #[(Sl3.v x10), (Value.int .i64 (IntKind.i64.wrap a2))] (by kernel_rfl) (by kernel_rfl) (by kernel_rfl) (nat_Bit_ok hx) ?_
            refine RX.psn 5 [(82, (Value.int .i64 (IntKind.i64.wrap ((IntKind.i64.wrap a2) + (IntKind.i64.wrap a1))))), (81, (Value.int .i64 (IntKind.i64.wrap a1))), (80, (Value.int .u8 a1)), (79, (Value.int .i64 (IntKind.i64.wrap a2))), (78, (Sl3.v a0))] (by kernel_rfl) ?_
            obtain ⟨x24, hx, h⟩ := bind_some h
            refine RX.callAt (some 83) (v := (Value.bool x24)) 30 #[(Sl3.v a0), (Value.int .i64 (IntKind.i64.wrap ((IntKind.i64.wrap a2) + (IntKind.i64.wrap a1))))] (by kernel_rfl) (by kernel_rfl) (by kernel_rfl) (nat_Bit_ok hx) ?_
            refine RX.psn 3 [(86, (Value.bool (x23 == x24))), (85, (Value.bool (x23 == x24))), (84, (Value.bool (x23 == x24)))] (by kernel_rfl) ?_
            rcases ite_some h with ⟨hp, h⟩ | ⟨hp, h⟩
            · refine RX.fix 86 true hp (by kernel_rfl) ?_
              refine RX.psn 5 [(91, (Value.bool (decide ((IntKind.i64.wrap a2) ≥ (IntKind.i64.wrap a1))))), (90, (Value.bool (decide ((IntKind.i64.wrap a2) ≥ (IntKind.i64.wrap a1))))), (89, (Value.int .i64 (IntKind.i64.wrap a1))), (88, (Value.int .u8 a1)), (87, (Value.int .i64 (IntKind.i64.wrap a2)))] (by kernel_rfl) ?_
              rcases ite_some h with ⟨hp, h⟩ | ⟨hp, h⟩
              · refine RX.fix 91 true (decide_eq_true hp) (by kernel_rfl) ?_
                refine RX.psn 10 [(101, (Value.bool (decide (x1 = 0)))), (100, (Value.bool (decide (x1 = 0)))), (99, (Value.int .i64 x1)), (98, (Value.bool true)), (97, (Value.bool true)), (96, (Value.bool true)), (95, undef), (94, undef), (93, undef), (92, undef)] (by kernel_rfl) ?_
                rcases ite_some h with ⟨hp, h⟩ | ⟨hp, h⟩
                · refine RX.fix 101 true (decide_eq_true hp) (by kernel_rfl) ?_
                  refine RX.psn 10 [(111, (Value.bool true)), (110, (Value.bool true)), (109, (Value.bool true)), (108, undef), (107, undef), (106, undef), (105, undef), (104, undef), (103, undef), (102, undef)] (by kernel_rfl) ?_
                  obtain ⟨⟨x25, H26⟩, hx, h⟩ := bind_some h
                  dsimp only at h
                  refine RX.callAt (some 112) (v := (Value.bool x25)) 17 #[] (by kernel_rfl) (by kernel_rfl) (by kernel_rfl) (law01_alive_ok hx) ?_
                  refine RX.psn 2 [(6, (Value.bool x25)), (113, (Value.bool x25))] (by kernel_rfl) ?_
                  refine RX.done (by kernel_rfl) ?_
                  refine fun ss hs => (WX.nxt ?_ ss hs)
                  refine WX.ret (by kernel_rfl) ?_
                  cases h
                  exact fun ss hs => retR (rq hs (by kernel_rfl))
                · refine RX.fix 101 false (decide_eq_false hp) (by kernel_rfl) ?_
                  refine RX.psn 1 [(102, (Sl3.v x7))] (by kernel_rfl) ?_
                  obtain ⟨x27, hx, h⟩ := bind_some h
                  refine RX.callAt (some 103) (v := (Value.int .i64 x27)) 28 #[(Sl3.v x7)] (by kernel_rfl) (by kernel_rfl) (by kernel_rfl) (nat_Len_ok hx) ?_
                  refine RX.psn 8 [(111, (Value.bool (decide (x27 = (IntKind.i64.wrap (x1 + (IntKind.i64.wrap a1))))))), (110, (Value.bool (decide (x27 = (IntKind.i64.wrap (x1 + (IntKind.i64.wrap a1))))))), (109, (Value.bool (decide (x27 = (IntKind.i64.wrap (x1 + (IntKind.i64.wrap a1))))))), (108, (Value.bool (decide (x27 = (IntKind.i64.wrap (x1 + (IntKind.i64.wrap a1))))))), (107, (Value.int .i64 (IntKind.i64.wrap (x1 + (IntKind.i64.wrap a1))))), (106, (Value.int .i64 (IntKind.i64.wrap a1))), (105, (Value.int .u8 a1)), (104, (Value.int .i64 x1))] (by kernel_rfl) ?_
                  rcases ite_some h with ⟨hp, h⟩ | ⟨hp, h⟩
                  · refine RX.fix 111 true (decide_eq_true hp) (by kernel_rfl) ?_
                    obtain ⟨⟨x28, H29⟩, hx, h⟩ := bind_some h
                    dsimp only at h
                    refine RX.callAt (some 112) (v := (Value.bool x28)) 17 #[] (by kernel_rfl) (by kernel_rfl) (by kernel_rfl) (law01_alive_ok hx) ?_
                    refine RX.psn 2 [(6, (Value.bool x28)), (113, (Value.bool x28))] (by kernel_rfl) ?_
                    refine RX.done (by kernel_rfl) ?_
                    refine fun ss hs => (WX.nxt ?_ ss hs)
                    refine WX.ret (by kernel_rfl) ?_
                    cases h
                    exact fun ss hs => retR (rq hs (by kernel_rfl))
                  · refine RX.fix 111 false (decide_eq_false hp) (by kernel_rfl) ?_
                    refine RX.psn 3 [(6, (Value.bool false)), (113, (Value.bool false)), (112, undef)] (by kernel_rfl) ?_
                    refine RX.done (by kernel_rfl) ?_
                    refine fun ss hs => (WX.nxt ?_ ss hs)
                    refine WX.ret (by kernel_rfl) ?_
                    cases h
                    exact fun ss hs => retR (rq hs (by kernel_rfl))
              · refine RX.fix 91 false (decide_eq_false hp) (by kernel_rfl) ?_
                refine RX.psn 2 [(93, (Value.int .i64 (IntKind.i64.wrap a2))), (92, (Sl3.v x7))] (by kernel_rfl) ?_
                obtain ⟨x30, hx, h⟩ := bind_some h
                refine RX.callAt (some 94) (v := (Value.bool x30)) 30 #[(Sl3.v x7), (Value.int .i64 (IntKind.i64.wrap a2))] (by kernel_rfl) (by kernel_rfl) (by kernel_rfl) (nat_Bit_ok hx) ?_
                refine RX.psn 4 [(98, (Value.bool (!x30))), (97, (Value.bool (!x30))), (96, (Value.bool (!x30))), (95, (Value.bool (!x30)))] (by kernel_rfl) ?_
                rcases ite_some h with ⟨hp, h⟩ | ⟨hp, h⟩
                · refine RX.fix 98 false (nb_not hp) (by kernel_rfl) ?_
                  refine RX.psn 16 [(6, (Value.bool false)), (113, (Value.bool false)), (112, undef), (111, (Value.bool false)), (110, (Value.bool false)), (109, undef), (108, undef), (107, undef), (106, undef), (105, undef), (104, undef), (103, undef), (102, undef), (101, undef), (100, undef), (99, undef)] (by kernel_rfl) ?_
                  refine RX.done (by kernel_rfl) ?_
                  refine fun ss hs => (WX.nxt ?_ ss hs)
                  refine WX.ret (by kernel_rfl) ?_
                  cases h
                  exact fun ss hs => retR (rq hs (by kernel_rfl))
                · refine RX.fix 98 true (nb_not' hp) (by kernel_rfl) ?_
                  refine RX.psn 3 [(101, (Value.bool (decide (x1 = 0)))), (100, (Value.bool (decide (x1 = 0)))), (99, (Value.int .i64 x1))] (by kernel_rfl) ?_
                  rcases ite_some h with ⟨hp, h⟩ | ⟨hp, h⟩
                  · refine RX.fix 101 true (decide_eq_true hp) (by kernel_rfl) ?_
                    refine RX.psn 10 [(111, (Value.bool true)), (110, (Value.bool true)), (109, (Value.bool true)), (108, undef), (107, undef), (106, undef), (105, undef), (104, undef), (103, undef), (102, undef)] (by kernel_rfl) ?_
                    obtain ⟨⟨x31, H32⟩, hx, h⟩ := bind_some h
                    dsimp only at h
                    refine RX.callAt (some 112) (v := (Value.bool x31)) 17 #[] (by kernel_rfl) (by kernel_rfl) (by kernel_rfl) (law01_alive_ok hx) ?_
                    refine RX.psn 2 [(6, (Value.bool x31)), (113, (Value.bool x31))] (by kernel_rfl) ?_
                    refine RX.done (by kernel_rfl) ?_
                    refine fun ss hs => (WX.nxt ?_ ss hs)
                    refine WX.ret (by kernel_rfl) ?_
                    cases h
                    exact fun ss hs => retR (rq hs (by kernel_rfl))
                  · refine RX.fix 101 false (decide_eq_false hp) (by kernel_rfl) ?_
                    refine RX.psn 1 [(102, (Sl3.v x7))] (by kernel_rfl) ?_
                    obtain ⟨x33, hx, h⟩ := bind_some h
                    refine RX.callAt (some 103) (v := (Value.int .i64 x33)) 28 #[(Sl3.v x7)] (by kernel_rfl) (by kernel_rfl) (by kernel_rfl) (nat_Len_ok hx) ?_
                    refine RX.psn 8 [(111, (Value.bool (decide (x33 = (IntKind.i64.wrap (x1 + (IntKind.i64.wrap a1))))))), (110, (Value.bool (decide (x33 = (IntKind.i64.wrap (x1 + (IntKind.i64.wrap a1))))))), (109, (Value.bool (decide (x33 = (IntKind.i64.wrap (x1 + (IntKind.i64.wrap a1))))))), (108, (Value.bool (decide (x33 = (IntKind.i64.wrap (x1 + (IntKind.i64.wrap a1))))))), (107, (Value.int .i64 (IntKind.i64.wrap (x1 + (IntKind.i64.wrap a1))))), (106, (Value.int .i64 (IntKind.i64.wrap a1))), (105, (Value.int .u8 a1)), (104, (Value.int .i64 x1))] (by kernel_rfl) ?_
                    rcases ite_some h with ⟨hp, h⟩ | ⟨hp, h⟩
                    · refine RX.fix 111 true (decide_eq_true hp) (by kernel_rfl) ?_
                      obtain ⟨⟨x34, H35⟩, hx, h⟩ := bind_some h
                      dsimp only at h
                      refine RX.callAt (some 112) (v := (Value.bool x34)) 17 #[] (by kernel_rfl) (by kernel_rfl) (by kernel_rfl) (law01_alive_ok hx) ?_
                      refine RX.psn 2 [(6, (Value.bool x34)), (113, (Value.bool x34))] (by kernel_rfl) ?_
                      refine RX.done (by kernel_rfl) ?_
                      refine fun ss hs => (WX.nxt ?_ ss hs)
                      refine WX.ret (by kernel_rfl) ?_
                      cases h
                      exact fun ss hs => retR (rq hs (by kernel_rfl))
                    · refine RX.fix 111 false (decide_eq_false hp) (by kernel_rfl) ?_
                      refine RX.psn 3 [(6, (Value.bool false)), (113, (Value.bool false)), (112, undef)] (by kernel_rfl) ?_
                      refine RX.done (by kernel_rfl) ?_
                      refine fun ss hs => (WX.nxt ?_ ss hs)
                      refine WX.ret (by kernel_rfl) ?_
                      cases h
                      exact fun ss hs => retR (rq hs (by kernel_rfl))
            · refine RX.fix 86 false (b_not hp) (by kernel_rfl) ?_
              refine RX.psn 28 [(6, (Value.bool false)), (113, (Value.bool false)), (112, undef), (111, (Value.bool false)), (110, (Value.bool false)), (109, undef), (108, undef), (107, undef), (106, undef), (105, undef), (104, undef), (103, undef), (102, undef), (101, undef), (100, undef), (99, undef), (98, (Value.bool false)), (97, (Value.bool false)), (96, undef), (95, undef), (94, undef), (93, undef), (92, undef), (91, undef), (90, undef), (89, undef), (88, undef), (87, undef)] (by kernel_rfl) ?_
              refine RX.done (by kernel_rfl) ?_
              refine fun ss hs => (WX.nxt ?_ ss hs)
              refine WX.ret (by kernel_rfl) ?_
              cases h
              exact fun ss hs => retR (rq hs (by kernel_rfl))
          · refine RX.fix 74 false (b_not hp) (by kernel_rfl) ?_
            refine RX.psn 40 [(6, (Value.bool false)), (113, (Value.bool false)), (112, undef), (111, (Value.bool false)), (110, (Value.bool false)), (109, undef), (108, undef), (107, undef), (106, undef), (105, undef), (104, undef), (103, undef), (102, undef), (101, undef), (100, undef), (99, undef), (98, (Value.bool false)), (97, (Value.bool false)), (96, undef), (95, undef), (94, undef), (93, undef), (92, undef), (91, undef), (90, undef), (89, undef), (88, undef), (87, undef), (86, (Value.bool false)), (85, (Value.bool false)), (84, undef), (83, undef), (82, undef), (81, undef), (80, undef), (79, undef), (78, undef), (77, undef), (76, undef), (75, undef)] (by kernel_rfl) ?_
            refine RX.done (by kernel_rfl) ?_
            refine fun ss hs => (WX.nxt ?_ ss hs)
            refine WX.ret (by kernel_rfl) ?_
            cases h
            exact fun ss hs => retR (rq hs (by kernel_rfl))
        · refine WX.condT _ (dec_not' hp) (by kernel_rfl) ?_
          refine WX.seq (by kernel_rfl) ?_
          refine WX.region (opsOf (cfst (cfst (csnd (cfst (csnd (csnd (csnd (csnd (csnd B9)))))))))) (by kernel_rfl) ?_
          refine RX.psn 3 [(55, (Value.bool (decide (x8 = 5)))), (54, (Value.bool (decide (x8 = 5)))), (53, (Value.int .i64 x8))] (by kernel_rfl) ?_
          rcases ite_some h with ⟨hp, h⟩ | ⟨hp, h⟩
          · refine RX.fix 55 true (decide_eq_true hp) (by kernel_rfl) ?_
            refine RX.psn 4 [(59, (Value.bool true)), (58, (Value.bool true)), (57, undef), (56, undef)] (by kernel_rfl) ?_
            obtain ⟨⟨x17, H18⟩, hx, h⟩ := bind_some h
            dsimp only at h
            refine RX.callAt (some 60) (v := (Value.bool x17)) 17 #[] (by kernel_rfl) (by kernel_rfl) (by kernel_rfl) (law01_alive_ok hx) ?_
            refine RX.psn 2 [(6, (Value.bool x17)), (61, (Value.bool x17))] (by kernel_rfl) ?_
            refine RX.done (by kernel_rfl) ?_
            refine fun ss hs => (WX.nxt ?_ ss hs)
            refine WX.ret (by kernel_rfl) ?_
            cases h
            exact fun ss hs => seqR (retR (rq hs (by kernel_rfl)))
          · refine RX.fix 55 false (decide_eq_false hp) (by kernel_rfl) ?_
            refine RX.psn 4 [(59, (Value.bool (decide (x11 = 5)))), (58, (Value.bool (decide (x11 = 5)))), (57, (Value.bool (decide (x11 = 5)))), (56, (Value.int .i64 x11))] (by kernel_rfl) ?_
            rcases ite_some h with ⟨hp, h⟩ | ⟨hp, h⟩
            · refine RX.fix 59 true (decide_eq_true hp) (by kernel_rfl) ?_
              obtain ⟨⟨x19, H20⟩, hx, h⟩ := bind_some h
              dsimp only at h
              refine RX.callAt (some 60) (v := (Value.bool x19)) 17 #[] (by kernel_rfl) (by kernel_rfl) (by kernel_rfl) (law01_alive_ok hx) ?_
              refine RX.psn 2 [(6, (Value.bool x19)), (61, (Value.bool x19))] (by kernel_rfl) ?_
              refine RX.done (by kernel_rfl) ?_
              refine fun ss hs => (WX.nxt ?_ ss hs)
              refine WX.ret (by kernel_rfl) ?_
              cases h
              exact fun ss hs => seqR (retR (rq hs (by kernel_rfl)))
            · refine RX.fix 59 false (decide_eq_false hp) (by kernel_rfl) ?_
              refine RX.psn 3 [(6, (Value.bool false)), (61, (Value.bool false)), (60, undef)] (by kernel_rfl) ?_
              refine RX.done (by kernel_rfl) ?_
              refine fun ss hs => (WX.nxt ?_ ss hs)
              refine WX.ret (by kernel_rfl) ?_
              cases h
              exact fun ss hs => seqR (retR (rq hs (by kernel_rfl)))
      · refine RX.fix 49 true (dec_not' hp) (by kernel_rfl) ?_
        refine RX.psn 3 [(52, (Value.bool true)), (51, undef), (50, undef)] (by kernel_rfl) ?_
        refine RX.done (by kernel_rfl) ?_
        refine fun ss hs => (WX.nxt ?_ ss hs)
        refine WX.condT true rfl (by kernel_rfl) ?_
        refine WX.seq (by kernel_rfl) ?_
        refine WX.region (opsOf (cfst (cfst (csnd (cfst (csnd (csnd (csnd (csnd (csnd B9)))))))))) (by kernel_rfl) ?_
        refine RX.psn 3 [(55, (Value.bool (decide (x8 = 5)))), (54, (Value.bool (decide (x8 = 5)))), (53, (Value.int .i64 x8))] (by kernel_rfl) ?_
        rcases ite_some h with ⟨hp, h⟩ | ⟨hp, h⟩
        · refine RX.fix 55 true (decide_eq_true hp) (by kernel_rfl) ?_
          refine RX.psn 4 [(59, (Value.bool true)), (58, (Value.bool true)), (57, undef), (56, undef)] (by kernel_rfl) ?_
          obtain ⟨⟨x13, H14⟩, hx, h⟩ := bind_some h
          dsimp only at h
          refine RX.callAt (some 60) (v := (Value.bool x13)) 17 #[] (by kernel_rfl) (by kernel_rfl) (by kernel_rfl) (law01_alive_ok hx) ?_
          refine RX.psn 2 [(6, (Value.bool x13)), (61, (Value.bool x13))] (by kernel_rfl) ?_
          refine RX.done (by kernel_rfl) ?_
          refine fun ss hs => (WX.nxt ?_ ss hs)
          refine WX.ret (by kernel_rfl) ?_
          cases h
          exact fun ss hs => seqR (retR (rq hs (by kernel_rfl)))
        · refine RX.fix 55 false (decide_eq_false hp) (by kernel_rfl) ?_
          refine RX.psn 4 [(59, (Value.bool (decide (x11 = 5)))), (58, (Value.bool (decide (x11 = 5)))), (57, (Value.bool (decide (x11 = 5)))), (56, (Value.int .i64 x11))] (by kernel_rfl) ?_
          rcases ite_some h with ⟨hp, h⟩ | ⟨hp, h⟩
          · refine RX.fix 59 true (decide_eq_true hp) (by kernel_rfl) ?_
            obtain ⟨⟨x15, H16⟩, hx, h⟩ := bind_some h
            dsimp only at h
            refine RX.callAt (some 60) (v := (Value.bool x15)) 17 #[] (by kernel_rfl) (by kernel_rfl) (by kernel_rfl) (law01_alive_ok hx) ?_
            refine RX.psn 2 [(6, (Value.bool x15)), (61, (Value.bool x15))] (by kernel_rfl) ?_
            refine RX.done (by kernel_rfl) ?_
            refine fun ss hs => (WX.nxt ?_ ss hs)
            refine WX.ret (by kernel_rfl) ?_
            cases h
            exact fun ss hs => seqR (retR (rq hs (by kernel_rfl)))
          · refine RX.fix 59 false (decide_eq_false hp) (by kernel_rfl) ?_
            refine RX.psn 3 [(6, (Value.bool false)), (61, (Value.bool false)), (60, undef)] (by kernel_rfl) ?_
            refine RX.done (by kernel_rfl) ?_
            refine fun ss hs => (WX.nxt ?_ ss hs)
            refine WX.ret (by kernel_rfl) ?_
            cases h
            exact fun ss hs => seqR (retR (rq hs (by kernel_rfl)))
  · cases h; rename _ => h
    refine WX.seq (by kernel_rfl) ?_
    refine WX.seq (by kernel_rfl) ?_
    refine WX.region (opsOf (cfst (cfst (csnd (csnd B9))))) (by kernel_rfl) ?_
    refine RX.psn 3 [(17, (Value.bool (decide (x1 > 0)))), (16, (Value.bool (decide (x1 > 0)))), (15, (Value.int .i64 x1))] (by kernel_rfl) ?_
    rcases ite_some h with ⟨hp, h⟩ | ⟨hp, h⟩
    · refine RX.fix 17 true (decide_eq_true hp) (by kernel_rfl) ?_
      refine RX.psn 3 [(20, (Value.int .i64 (IntKind.i64.wrap (x1 - 1)))), (19, (Value.int .i64 x1)), (18, (Sl3.v a0))] (by kernel_rfl) ?_
      obtain ⟨x2, hx, h⟩ := bind_some h
      refine RX.callAt (some 21) (v := (Value.bool x2)) 30 #[(Sl3.v a0), (Value.int .i64 (IntKind.i64.wrap (x1 - 1)))] (by kernel_rfl) (by kernel_rfl) (by kernel_rfl) (nat_Bit_ok hx) ?_
      refine RX.psn 3 [(24, (Value.bool (!x2))), (23, (Value.bool (!x2))), (22, (Value.bool (!x2)))] (by kernel_rfl) ?_
      rcases ite_some h with ⟨hp, h⟩ | ⟨hp, h⟩
      · refine RX.fix 24 false (nb_not hp) (by kernel_rfl) ?_
        refine RX.psn 2 [(26, (Value.int .i64 x1)), (25, (Sl3.v a0))] (by kernel_rfl) ?_
        obtain ⟨x3, hx, h⟩ := bind_some h
        refine RX.callAt (some 27) (v := (Value.bool x3)) 30 #[(Sl3.v a0), (Value.int .i64 x1)] (by kernel_rfl) (by kernel_rfl) (by kernel_rfl) (nat_Bit_ok hx) ?_
        refine RX.psn 2 [(29, (Value.bool x3)), (28, (Value.bool x3))] (by kernel_rfl) ?_
        rcases ite_some h with ⟨hp, h⟩ | ⟨hp, h⟩
        · refine RX.fix 29 true hp (by kernel_rfl) ?_
          refine RX.psn 3 [(32, (Value.bool true)), (31, undef), (30, undef)] (by kernel_rfl) ?_
          refine RX.done (by kernel_rfl) ?_
          refine fun ss hs => (WX.nxt ?_ ss hs)
          refine WX.condT true rfl (by kernel_rfl) ?_
          refine WX.seq (by kernel_rfl) ?_
          refine WX.region (opsOf (cfst (cfst (csnd (cfst (csnd (csnd B9))))))) (by kernel_rfl) ?_
          refine RX.psn 1 [(6, (Value.bool false))] (by kernel_rfl) ?_
          refine RX.done (by kernel_rfl) ?_
          refine fun ss hs => (WX.nxt ?_ ss hs)
          refine WX.ret (by kernel_rfl) ?_
          replace h := map_inr h
          cases h
          exact fun ss hs => seqR (retR (rq hs (by kernel_rfl)))
        · refine RX.fix 29 false (b_not hp) (by kernel_rfl) ?_
          refine RX.psn 1 [(30, (Sl3.v a0))] (by kernel_rfl) ?_
          obtain ⟨x4, hx, h⟩ := bind_some h
          refine RX.callAt (some 31) (v := (Value.bool x4)) 30 #[(Sl3.v a0), (Value.int .i64 (-1))] (by kernel_rfl) (by kernel_rfl) (by kernel_rfl) (nat_Bit_ok hx) ?_
          refine RX.psn 1 [(32, (Value.bool x4))] (by kernel_rfl) ?_
          refine RX.done (by kernel_rfl) ?_
          refine fun ss hs => (WX.nxt ?_ ss hs)
          rcases ite_some h with ⟨hp, h⟩ | ⟨hp, h⟩
          · refine WX.condT _ hp (by kernel_rfl) ?_
            refine WX.seq (by kernel_rfl) ?_
            refine WX.region (opsOf (cfst (cfst (csnd (cfst (csnd (csnd B9))))))) (by kernel_rfl) ?_
            refine RX.psn 1 [(6, (Value.bool false))] (by kernel_rfl) ?_
            refine RX.done (by kernel_rfl) ?_
            refine fun ss hs => (WX.nxt ?_ ss hs)
            refine WX.ret (by kernel_rfl) ?_
            replace h := map_inr h
            cases h
            exact fun ss hs => seqR (retR (rq hs (by kernel_rfl)))
          · refine WX.condF _ (b_not hp) (by kernel_rfl) ?_
            refine WX.skip (by kernel_rfl) ?_
            cases h
      · refine RX.fix 24 true (nb_not' hp) (by kernel_rfl) ?_
        refine RX.psn 8 [(32, (Value.bool true)), (31, undef), (30, undef), (29, (Value.bool true)), (28, (Value.bool true)), (27, undef), (26, undef), (25, undef)] (by kernel_rfl) ?_
        refine RX.done (by kernel_rfl) ?_
        refine fun ss hs => (WX.nxt ?_ ss hs)
        refine WX.condT true rfl (by kernel_rfl) ?_
        refine WX.seq (by kernel_rfl) ?_
        refine WX.region (opsOf (cfst (cfst (csnd (cfst (csnd (csnd B9))))))) (by kernel_rfl) ?_
        refine RX.psn 1 [(6, (Value.bool false))] (by kernel_rfl) ?_
        refine RX.done (by kernel_rfl) ?_
        refine fun ss hs => (WX.nxt ?_ ss hs)
        refine WX.ret (by kernel_rfl) ?_
        replace h := map_inr h
        cases h
        exact fun ss hs => seqR (retR (rq hs (by kernel_rfl)))
    · refine RX.fix 17 false (decide_eq_false hp) (by kernel_rfl) ?_
      refine RX.psn 9 [(26, (Value.int .i64 x1)), (25, (Sl3.v a0)), (24, (Value.bool false)), (23, (Value.bool false)), (22, undef), (21, undef), (20, undef), (19, undef), (18, undef)] (by kernel_rfl) ?_
      obtain ⟨x5, hx, h⟩ := bind_some h
      refine RX.callAt (some 27) (v := (Value.bool x5)) 30 #[(Sl3.v a0), (Value.int .i64 x1)] (by kernel_rfl) (by kernel_rfl) (by kernel_rfl) (nat_Bit_ok hx) ?_
      refine RX.psn 2 [(29, (Value.bool x5)), (28, (Value.bool x5))] (by kernel_rfl) ?_
      rcases ite_some h with ⟨hp, h⟩ | ⟨hp, h⟩
      · refine RX.fix 29 true hp (by kernel_rfl) ?_
        refine RX.psn 3 [(32, (Value.bool true)), (31, undef), (30, undef)] (by kernel_rfl) ?_
        refine RX.done (by kernel_rfl) ?_
        refine fun ss hs => (WX.nxt ?_ ss hs)
        refine WX.condT true rfl (by kernel_rfl) ?_
        refine WX.seq (by kernel_rfl) ?_
        refine WX.region (opsOf (cfst (cfst (csnd (cfst (csnd (csnd B9))))))) (by kernel_rfl) ?_
        refine RX.psn 1 [(6, (Value.bool false))] (by kernel_rfl) ?_
        refine RX.done (by kernel_rfl) ?_
        refine fun ss hs => (WX.nxt ?_ ss hs)
        refine WX.ret (by kernel_rfl) ?_
        replace h := map_inr h
        cases h
        exact fun ss hs => seqR (retR (rq hs (by kernel_rfl)))
      · refine RX.fix 29 false (b_not hp) (by kernel_rfl) ?_
        refine RX.psn 1 [(30, (Sl3.v a0))] (by kernel_rfl) ?_
        obtain ⟨x6, hx, h⟩ := bind_some h
        refine RX.callAt (some 31) (v := (Value.bool x6)) 30 #[(Sl3.v a0), (Value.int .i64 (-1))] (by kernel_rfl) (by kernel_rfl) (by kernel_rfl) (nat_Bit_ok hx) ?_
        refine RX.psn 1 [(32, (Value.bool x6))] (by kernel_rfl) ?_
        refine RX.done (by kernel_rfl) ?_
        refine fun ss hs => (WX.nxt ?_ ss hs)
        rcases ite_some h with ⟨hp, h⟩ | ⟨hp, h⟩
        · refine WX.condT _ hp (by kernel_rfl) ?_
          refine WX.seq (by kernel_rfl) ?_
          refine WX.region (opsOf (cfst (cfst (csnd (cfst (csnd (csnd B9))))))) (by kernel_rfl) ?_
          refine RX.psn 1 [(6, (Value.bool false))] (by kernel_rfl) ?_
          refine RX.done (by kernel_rfl) ?_
          refine fun ss hs => (WX.nxt ?_ ss hs)
          refine WX.ret (by kernel_rfl) ?_
          replace h := map_inr h
          cases h
          exact fun ss hs => seqR (retR (rq hs (by kernel_rfl)))
        · refine WX.condF _ (b_not hp) (by kernel_rfl) ?_
          refine WX.skip (by kernel_rfl) ?_
          cases h

end Go.Proofs.Ytoadagekdnkciaa
