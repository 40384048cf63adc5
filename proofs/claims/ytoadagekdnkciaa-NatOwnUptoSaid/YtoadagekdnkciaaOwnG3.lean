/- Functions of the program as Lean functions over the abstract heap, and that the interpreter comes to them (printed by a program of this project's own), part 3. No condition. -/
import Derived.Test.YtoadagekdnkciaaOwnG2
namespace Go.Proofs.Ytoadagekdnkciaa
open Go Go.Abs
set_option maxRecDepth 100000

noncomputable def B12 : Code := (Try.f12.body).getD .skip

def law01_NatOwn_enc : (Bool × AH) → Value
  | (r0, _) => (Value.bool r0)

def law01_NatOwn_hp (_ : AH) : (Bool × AH) → AH := fun r => r.2

noncomputable def law01_NatOwn_b0 (a1 : Sl3) (s1 : Sl3) (s3 : Sl3) (x7 : Sl3) (x12 : Sl3) (x15 : Sl3) (x20 : Sl3) (x24 : Sl3) (x29 : Sl3) : (AH × Int) → Option (Lp (AH × Int) (Bool × AH)) := fun (H41, v22_42) =>
  if v22_42 < (x12.n : Int) then
    Option.bind (idxA 1 x12 v22_42) fun p43 =>
    Option.bind (H41.setCell 4294967296 p43 (Value.int .u64 1)) fun H44 =>
    some (.next (H44, (IntKind.i64.wrap (v22_42 + 1))))
  else
    some (.brk (H41, v22_42))

def law01_NatOwn_b0_kn (a1 : Sl3) (s1 : Sl3) (s3 : Sl3) (x7 : Sl3) (x12 : Sl3) (x15 : Sl3) (x20 : Sl3) (x24 : Sl3) (x29 : Sl3) : (AH × Int) → Kn := fun (H41, v22_42) => [(22, (Value.int .i64 v22_42)), (1, (Sl3.v a1)), (5, (Sl3.v s1)), (6, (Sl3.v s3)), (7, (Sl3.v x7)), (9, (Sl3.v x12)), (11, (Sl3.v x15)), (13, (Sl3.v x20)), (16, (Sl3.v x24)), (18, (Sl3.v x29))]

noncomputable def law01_NatOwn_b1 (a1 : Sl3) (s1 : Sl3) (s3 : Sl3) (x7 : Sl3) (x15 : Sl3) (x20 : Sl3) (x24 : Sl3) (x29 : Sl3) : (AH × Int) → Option (Lp (AH × Int) (Bool × AH)) := fun (H47, v23_48) =>
  if v23_48 < (x15.n : Int) then
    Option.bind (idxA 1 x15 v23_48) fun p49 =>
    Option.bind (H47.setCell 4294967296 p49 (Value.int .u64 2)) fun H50 =>
    some (.next (H50, (IntKind.i64.wrap (v23_48 + 1))))
  else
    some (.brk (H47, v23_48))

def law01_NatOwn_b1_kn (a1 : Sl3) (s1 : Sl3) (s3 : Sl3) (x7 : Sl3) (x15 : Sl3) (x20 : Sl3) (x24 : Sl3) (x29 : Sl3) : (AH × Int) → Kn := fun (H47, v23_48) => [(23, (Value.int .i64 v23_48)), (1, (Sl3.v a1)), (5, (Sl3.v s1)), (6, (Sl3.v s3)), (7, (Sl3.v x7)), (11, (Sl3.v x15)), (13, (Sl3.v x20)), (16, (Sl3.v x24)), (18, (Sl3.v x29))]

noncomputable def law01_NatOwn_b2 (a1 : Sl3) (s1 : Sl3) (s3 : Sl3) (x7 : Sl3) (x20 : Sl3) (x24 : Sl3) (x29 : Sl3) : (AH × Int) → Option (Lp (AH × Int) (Bool × AH)) := fun (H53, v24_54) =>
  if v24_54 < (x20.n : Int) then
    Option.bind (idxA 1 x20 v24_54) fun p55 =>
    Option.bind (H53.setCell 4294967296 p55 (Value.int .u64 3)) fun H56 =>
    some (.next (H56, (IntKind.i64.wrap (v24_54 + 1))))
  else
    some (.brk (H53, v24_54))

def law01_NatOwn_b2_kn (a1 : Sl3) (s1 : Sl3) (s3 : Sl3) (x7 : Sl3) (x20 : Sl3) (x24 : Sl3) (x29 : Sl3) : (AH × Int) → Kn := fun (H53, v24_54) => [(24, (Value.int .i64 v24_54)), (1, (Sl3.v a1)), (5, (Sl3.v s1)), (6, (Sl3.v s3)), (7, (Sl3.v x7)), (13, (Sl3.v x20)), (16, (Sl3.v x24)), (18, (Sl3.v x29))]

noncomputable def law01_NatOwn_b3 (a1 : Sl3) (s1 : Sl3) (s3 : Sl3) (x7 : Sl3) (x24 : Sl3) (x29 : Sl3) : (AH × Int) → Option (Lp (AH × Int) (Bool × AH)) := fun (H59, v25_60) =>
  if v25_60 < (x24.n : Int) then
    Option.bind (idxA 1 x24 v25_60) fun p61 =>
    Option.bind (H59.setCell 4294967296 p61 (Value.int .u64 4)) fun H62 =>
    some (.next (H62, (IntKind.i64.wrap (v25_60 + 1))))
  else
    some (.brk (H59, v25_60))

def law01_NatOwn_b3_kn (a1 : Sl3) (s1 : Sl3) (s3 : Sl3) (x7 : Sl3) (x24 : Sl3) (x29 : Sl3) : (AH × Int) → Kn := fun (H59, v25_60) => [(25, (Value.int .i64 v25_60)), (1, (Sl3.v a1)), (5, (Sl3.v s1)), (6, (Sl3.v s3)), (7, (Sl3.v x7)), (16, (Sl3.v x24)), (18, (Sl3.v x29))]

noncomputable def law01_NatOwn_b4 (a1 : Sl3) (s1 : Sl3) (s3 : Sl3) (x7 : Sl3) (x29 : Sl3) : (AH × Int) → Option (Lp (AH × Int) (Bool × AH)) := fun (H65, v26_66) =>
  if v26_66 < (s1.n : Int) then
    Option.bind (idxA 1 s1 v26_66) fun p67 =>
    Option.bind (H65.setCell 4294967296 p67 (Value.int .u64 5)) fun H68 =>
    some (.next (H68, (IntKind.i64.wrap (v26_66 + 1))))
  else
    some (.brk (H65, v26_66))

def law01_NatOwn_b4_kn (a1 : Sl3) (s1 : Sl3) (s3 : Sl3) (x7 : Sl3) (x29 : Sl3) : (AH × Int) → Kn := fun (H65, v26_66) => [(26, (Value.int .i64 v26_66)), (1, (Sl3.v a1)), (5, (Sl3.v s1)), (6, (Sl3.v s3)), (7, (Sl3.v x7)), (18, (Sl3.v x29))]

noncomputable def law01_NatOwn (H : AH) (a0 : Sl3) (a1 : Sl3) : Option (Bool × AH) :=
  Option.bind (appS 4294967296 38 1 8 H Sl3.nil a0) fun (s1, H2) =>
  Option.bind (appS 4294967296 38 1 8 H2 Sl3.nil a1) fun (s3, H4) =>
  Option.bind (newR 24 2 #[(Sl3.v s1), (Sl3.v s3)] H4) fun (s5, H6) =>
  Option.bind (nat_Add H6 s5) fun (x7, x8, H9) =>
  Option.bind (newR 24 1 #[(Sl3.v s1)] H9) fun (s10, H11) =>
  Option.bind (nat_Mul H11 s10) fun (x12, x13, H14) =>
  Option.bind (nat_Shl H14 s1 0) fun (x15, x16, H17) =>
  Option.bind (nat_Of H17 1) fun (x18, H19) =>
  Option.bind (nat_Quo H19 s1 x18) fun (x20, x21, x22, H23) =>
  Option.bind (nat_Gcd H23 s1 Sl3.nil) fun (x24, x25, H26) =>
  Option.bind (newR 24 2 #[(Sl3.v a0), (Sl3.v a1)] H26) fun (s27, H28) =>
  Option.bind (ref01_Add H28 s27) fun (x29, x30, H31) =>
  Option.bind (newR 24 1 #[(Sl3.v a0)] H31) fun (s32, H33) =>
  Option.bind (ref01_Mul H33 s32) fun (x34, x35, H36) =>
  if x8 = x30 then
    if x13 = x35 then
      Option.bind (ref01_Same H36 s1 a0) fun x37 =>
      if x37 = true then
        Option.bind (ref01_Same H36 s3 a1) fun x38 =>
        if x38 = true then
          Option.bind (ref01_Same H36 x7 x29) fun x39 =>
          if x39 = true then
            Option.bind (ref01_Same H36 x12 x34) fun x40 =>
            if x40 = true then
              Option.bind (loopO (law01_NatOwn_b0 a1 s1 s3 x7 x12 x15 x20 x24 x29) (H36, 0)) fun o => match o with
              | .inl (H45, v22_46) =>
                Option.bind (loopO (law01_NatOwn_b1 a1 s1 s3 x7 x15 x20 x24 x29) (H45, 0)) fun o => match o with
                | .inl (H51, v23_52) =>
                  Option.bind (loopO (law01_NatOwn_b2 a1 s1 s3 x7 x20 x24 x29) (H51, 0)) fun o => match o with
                  | .inl (H57, v24_58) =>
                    Option.bind (loopO (law01_NatOwn_b3 a1 s1 s3 x7 x24 x29) (H57, 0)) fun o => match o with
                    | .inl (H63, v25_64) =>
                      Option.bind (loopO (law01_NatOwn_b4 a1 s1 s3 x7 x29) (H63, 0)) fun o => match o with
                      | .inl (H69, v26_70) =>
                        Option.bind (ref01_Same H69 x7 x29) fun x71 =>
                        if x71 = true then
                          Option.bind (ref01_Same H69 s3 a1) fun x72 =>
                          if x72 = true then
                            Option.bind (law01_alive H69) fun (x73, H74) =>
                            some (x73, H74)
                          else
                            some (false, H69)
                        else
                          some (false, H69)
                      | .inr r => some r
                    | .inr r => some r
                  | .inr r => some r
                | .inr r => some r
              | .inr r => some r
            else
              some (false, H36)
          else
            some (false, H36)
        else
          some (false, H36)
      else
        some (false, H36)
    else
      some (false, H36)
  else
    some (false, H36)

theorem law01_NatOwn_b0_ok {a1 : Sl3} {s1 : Sl3} {s3 : Sl3} {x7 : Sl3} {x12 : Sl3} {x15 : Sl3} {x20 : Sl3} {x24 : Sl3} {x29 : Sl3} : ∀ s o, law01_NatOwn_b0 a1 s1 s3 x7 x12 x15 x20 x24 x29 s = some o →
    WX Try.prog 1000 4294967296 Try.f12.ntmps (cfst (cfst (csnd (cfst (csnd (csnd (csnd (csnd (csnd (csnd (csnd (csnd (csnd (csnd (csnd (csnd B12)))))))))))))))) (law01_NatOwn_b0_kn a1 s1 s3 x7 x12 x15 x20 x24 x29 s) ((fun s => s.1) s) (lpQ (law01_NatOwn_b0_kn a1 s1 s3 x7 x12 x15 x20 x24 x29) (fun s => s.1) 0 (fun r => RQ Try.f12 (law01_NatOwn_enc r) (law01_NatOwn_hp ⟨0, .nil⟩ r)) o) := by
  rintro ⟨H41, v22_42⟩ o h
  unfold law01_NatOwn_b0 at h
  try dsimp only at h
  refine WX.seq (by kernel_rfl) ?_
  refine WX.seq (by kernel_rfl) ?_
  refine WX.region (opsOf (cfst (cfst (cfst (cfst (csnd (cfst (csnd (csnd (csnd (csnd (csnd (csnd (csnd (csnd (csnd (csnd (csnd (csnd B12))))))))))))))))))) (by kernel_rfl) ?_
  refine RX.psn 4 [(111, (Value.bool (decide (v22_42 < (x12.n : Int))))), (110, (Value.int .i64 (x12.n : Int))), (109, (Sl3.v x12)), (108, (Value.int .i64 v22_42))] (by kernel_rfl) ?_
  refine RX.done (by kernel_rfl) ?_
  refine fun ss hs => (WX.nxt ?_ ss hs)
  rcases ite_some h with ⟨hp, h⟩ | ⟨hp, h⟩
  · refine WX.condT _ (decide_eq_true hp) (by kernel_rfl) ?_
    refine WX.skip (by kernel_rfl) ?_
    refine fun ss hs => (WX.nxt ?_ ss hs)
    refine WX.seq (by kernel_rfl) ?_
    refine WX.block 1 (by kernel_rfl) ?_
    refine WX.region (opsOf (cfst (cfst (csnd (cfst (cfst (csnd (cfst (csnd (csnd (csnd (csnd (csnd (csnd (csnd (csnd (csnd (csnd (csnd (csnd B12)))))))))))))))))))) (by kernel_rfl) ?_
    refine RX.psn 2 [(115, (Value.int .i64 v22_42)), (114, (Sl3.v x12))] (by kernel_rfl) ?_
    obtain ⟨p43, hx, h⟩ := bind_some h
    refine RX.at (some 116) (Value.pointer (some p43)) (by kernel_rfl) (by kernel_rfl) (fun ih => Abs.run_idx (s := x12) (k := .i64) (t := 24) (e := 38) (x := .tmp 114) (y := .tmp 115) (by kernel_rfl) (by kernel_rfl) (by kernel_rfl) (by kernel_rfl) (by kernel_rfl) hx) ?_
    obtain ⟨H44, hx, h⟩ := bind_some h
    refine RX.at none undef (by kernel_rfl) (by kernel_rfl) (fun ih => Abs.run_store1 (t := 38) (x := .tmp 116) (y := .const (Value.int .u64 1)) (a := p43) (v := (Value.int .u64 1)) (by kernel_rfl) (by kernel_rfl) (by kernel_rfl) (by kernel_rfl) (by kernel_rfl) hx) ?_
    refine RX.done (by kernel_rfl) ?_
    refine fun ss hs => blkN ((WX.nxt ?_ ss hs))
    refine WX.region (opsOf (csnd (csnd (cfst (cfst (csnd (cfst (csnd (csnd (csnd (csnd (csnd (csnd (csnd (csnd (csnd (csnd (csnd (csnd B12))))))))))))))))))) (by kernel_rfl) ?_
    refine RX.psn 3 [(22, (Value.int .i64 (IntKind.i64.wrap (v22_42 + 1)))), (113, (Value.int .i64 (IntKind.i64.wrap (v22_42 + 1)))), (112, (Value.int .i64 v22_42))] (by kernel_rfl) ?_
    refine RX.done (by kernel_rfl) ?_
    cases h
    exact fun ss hs => lpN rfl (hs.sub ((SubK.cons (by kernel_rfl) (SubK.cons (by kernel_rfl) (SubK.cons (by kernel_rfl) (SubK.cons (by kernel_rfl) (SubK.cons (by kernel_rfl) (SubK.cons (by kernel_rfl) (SubK.cons (by kernel_rfl) (SubK.cons (by kernel_rfl) (SubK.cons (by kernel_rfl) (SubK.cons (by kernel_rfl) SubK.nil))))))))))))
  · refine WX.condF _ (decide_eq_false hp) (by kernel_rfl) ?_
    refine WX.exit 0 (by kernel_rfl) ?_
    cases h
    exact fun ss hs => seqE (lpB rfl (hs.sub ((SubK.cons (by kernel_rfl) (SubK.cons (by kernel_rfl) (SubK.cons (by kernel_rfl) (SubK.cons (by kernel_rfl) (SubK.cons (by kernel_rfl) (SubK.cons (by kernel_rfl) (SubK.cons (by kernel_rfl) (SubK.cons (by kernel_rfl) (SubK.cons (by kernel_rfl) (SubK.cons (by kernel_rfl) SubK.nil)))))))))))))

theorem law01_NatOwn_b1_ok {a1 : Sl3} {s1 : Sl3} {s3 : Sl3} {x7 : Sl3} {x15 : Sl3} {x20 : Sl3} {x24 : Sl3} {x29 : Sl3} : ∀ s o, law01_NatOwn_b1 a1 s1 s3 x7 x15 x20 x24 x29 s = some o →
    WX Try.prog 1000 4294967296 Try.f12.ntmps (cfst (cfst (csnd (cfst (csnd (csnd (csnd (csnd (csnd (csnd (csnd (csnd (csnd (csnd (csnd (csnd (csnd B12))))))))))))))))) (law01_NatOwn_b1_kn a1 s1 s3 x7 x15 x20 x24 x29 s) ((fun s => s.1) s) (lpQ (law01_NatOwn_b1_kn a1 s1 s3 x7 x15 x20 x24 x29) (fun s => s.1) 2 (fun r => RQ Try.f12 (law01_NatOwn_enc r) (law01_NatOwn_hp ⟨0, .nil⟩ r)) o) := by
  rintro ⟨H47, v23_48⟩ o h
  unfold law01_NatOwn_b1 at h
  try dsimp only at h
  refine WX.seq (by kernel_rfl) ?_
  refine WX.seq (by kernel_rfl) ?_
  refine WX.region (opsOf (cfst (cfst (cfst (cfst (csnd (cfst (csnd (csnd (csnd (csnd (csnd (csnd (csnd (csnd (csnd (csnd (csnd (csnd (csnd B12)))))))))))))))))))) (by kernel_rfl) ?_
  refine RX.psn 4 [(120, (Value.bool (decide (v23_48 < (x15.n : Int))))), (119, (Value.int .i64 (x15.n : Int))), (118, (Sl3.v x15)), (117, (Value.int .i64 v23_48))] (by kernel_rfl) ?_
  refine RX.done (by kernel_rfl) ?_
  refine fun ss hs => (WX.nxt ?_ ss hs)
  rcases ite_some h with ⟨hp, h⟩ | ⟨hp, h⟩
  · refine WX.condT _ (decide_eq_true hp) (by kernel_rfl) ?_
    refine WX.skip (by kernel_rfl) ?_
    refine fun ss hs => (WX.nxt ?_ ss hs)
    refine WX.seq (by kernel_rfl) ?_
    refine WX.block 3 (by kernel_rfl) ?_
    refine WX.region (opsOf (cfst (cfst (csnd (cfst (cfst (csnd (cfst (csnd (csnd (csnd (csnd (csnd (csnd (csnd (csnd (csnd (csnd (csnd (csnd (csnd B12))))))))))))))))))))) (by kernel_rfl) ?_
    refine RX.psn 2 [(124, (Value.int .i64 v23_48)), (123, (Sl3.v x15))] (by kernel_rfl) ?_
    obtain ⟨p49, hx, h⟩ := bind_some h
    refine RX.at (some 125) (Value.pointer (some p49)) (by kernel_rfl) (by kernel_rfl) (fun ih => Abs.run_idx (s := x15) (k := .i64) (t := 24) (e := 38) (x := .tmp 123) (y := .tmp 124) (by kernel_rfl) (by kernel_rfl) (by kernel_rfl) (by kernel_rfl) (by kernel_rfl) hx) ?_
    obtain ⟨H50, hx, h⟩ := bind_some h
    refine RX.at none undef (by kernel_rfl) (by kernel_rfl) (fun ih => Abs.run_store1 (t := 38) (x := .tmp 125) (y := .const (Value.int .u64 2)) (a := p49) (v := (Value.int .u64 2)) (by kernel_rfl) (by kernel_rfl) (by kernel_rfl) (by kernel_rfl) (by kernel_rfl) hx) ?_
    refine RX.done (by kernel_rfl) ?_
    refine fun ss hs => blkN ((WX.nxt ?_ ss hs))
    refine WX.region (opsOf (csnd (csnd (cfst (cfst (csnd (cfst (csnd (csnd (csnd (csnd (csnd (csnd (csnd (csnd (csnd (csnd (csnd (csnd (csnd B12)))))))))))))))))))) (by kernel_rfl) ?_
    refine RX.psn 3 [(23, (Value.int .i64 (IntKind.i64.wrap (v23_48 + 1)))), (122, (Value.int .i64 (IntKind.i64.wrap (v23_48 + 1)))), (121, (Value.int .i64 v23_48))] (by kernel_rfl) ?_
    refine RX.done (by kernel_rfl) ?_
    cases h
    exact fun ss hs => lpN rfl (hs.sub ((SubK.cons (by kernel_rfl) (SubK.cons (by kernel_rfl) (SubK.cons (by kernel_rfl) (SubK.cons (by kernel_rfl) (SubK.cons (by kernel_rfl) (SubK.cons (by kernel_rfl) (SubK.cons (by kernel_rfl) (SubK.cons (by kernel_rfl) (SubK.cons (by kernel_rfl) SubK.nil)))))))))))
  · refine WX.condF _ (decide_eq_false hp) (by kernel_rfl) ?_
    refine WX.exit 2 (by kernel_rfl) ?_
    cases h
    exact fun ss hs => seqE (lpB rfl (hs.sub ((SubK.cons (by kernel_rfl) (SubK.cons (by kernel_rfl) (SubK.cons (by kernel_rfl) (SubK.cons (by kernel_rfl) (SubK.cons (by kernel_rfl) (SubK.cons (by kernel_rfl) (SubK.cons (by kernel_rfl) (SubK.cons (by kernel_rfl) (SubK.cons (by kernel_rfl) SubK.nil))))))))))))

theorem law01_NatOwn_b2_ok {a1 : Sl3} {s1 : Sl3} {s3 : Sl3} {x7 : Sl3} {x20 : Sl3} {x24 : Sl3} {x29 : Sl3} : ∀ s o, law01_NatOwn_b2 a1 s1 s3 x7 x20 x24 x29 s = some o →
    WX Try.prog 1000 4294967296 Try.f12.ntmps (cfst (cfst (csnd (cfst (csnd (csnd (csnd (csnd (csnd (csnd (csnd (csnd (csnd (csnd (csnd (csnd (csnd (csnd B12)))))))))))))))))) (law01_NatOwn_b2_kn a1 s1 s3 x7 x20 x24 x29 s) ((fun s => s.1) s) (lpQ (law01_NatOwn_b2_kn a1 s1 s3 x7 x20 x24 x29) (fun s => s.1) 4 (fun r => RQ Try.f12 (law01_NatOwn_enc r) (law01_NatOwn_hp ⟨0, .nil⟩ r)) o) := by
  rintro ⟨H53, v24_54⟩ o h
  unfold law01_NatOwn_b2 at h
  try dsimp only at h
  refine WX.seq (by kernel_rfl) ?_
  refine WX.seq (by kernel_rfl) ?_
  refine WX.region (opsOf (cfst (cfst (cfst (cfst (csnd (cfst (csnd (csnd (csnd (csnd (csnd (csnd (csnd (csnd (csnd (csnd (csnd (csnd (csnd (csnd B12))))))))))))))))))))) (by kernel_rfl) ?_
  refine RX.psn 4 [(129, (Value.bool (decide (v24_54 < (x20.n : Int))))), (128, (Value.int .i64 (x20.n : Int))), (127, (Sl3.v x20)), (126, (Value.int .i64 v24_54))] (by kernel_rfl) ?_
  refine RX.done (by kernel_rfl) ?_
  refine fun ss hs => (WX.nxt ?_ ss hs)
  rcases ite_some h with ⟨hp, h⟩ | ⟨hp, h⟩
  · refine WX.condT _ (decide_eq_true hp) (by kernel_rfl) ?_
    refine WX.skip (by kernel_rfl) ?_
    refine fun ss hs => (WX.nxt ?_ ss hs)
    refine WX.seq (by kernel_rfl) ?_
    refine WX.block 5 (by kernel_rfl) ?_
    refine WX.region (opsOf (cfst (cfst (csnd (cfst (cfst (csnd (cfst (csnd (csnd (csnd (csnd (csnd (csnd (csnd (csnd (csnd (csnd (csnd (csnd (csnd (csnd B12)))))))))))))))))))))) (by kernel_rfl) ?_
    refine RX.psn 2 [(133, (Value.int .i64 v24_54)), (132, (Sl3.v x20))] (by kernel_rfl) ?_
    obtain ⟨p55, hx, h⟩ := bind_some h
    refine RX.at (some 134) (Value.pointer (some p55)) (by kernel_rfl) (by kernel_rfl) (fun ih => Abs.run_idx (s := x20) (k := .i64) (t := 24) (e := 38) (x := .tmp 132) (y := .tmp 133) (by kernel_rfl) (by kernel_rfl) (by kernel_rfl) (by kernel_rfl) (by kernel_rfl) hx) ?_
    obtain ⟨H56, hx, h⟩ := bind_some h
    refine RX.at none undef (by kernel_rfl) (by kernel_rfl) (fun ih => Abs.run_store1 (t := 38) (x := .tmp 134) (y := .const (Value.int .u64 3)) (a := p55) (v := (Value.int .u64 3)) (by kernel_rfl) (by kernel_rfl) (by kernel_rfl) (by kernel_rfl) (by kernel_rfl) hx) ?_
    refine RX.done (by kernel_rfl) ?_
    refine fun ss hs => blkN ((WX.nxt ?_ ss hs))
    refine WX.region (opsOf (csnd (csnd (cfst (cfst (csnd (cfst (csnd (csnd (csnd (csnd (csnd (csnd (csnd (csnd (csnd (csnd (csnd (csnd (csnd (csnd B12))))))))))))))))))))) (by kernel_rfl) ?_
    refine RX.psn 3 [(24, (Value.int .i64 (IntKind.i64.wrap (v24_54 + 1)))), (131, (Value.int .i64 (IntKind.i64.wrap (v24_54 + 1)))), (130, (Value.int .i64 v24_54))] (by kernel_rfl) ?_
    refine RX.done (by kernel_rfl) ?_
    cases h
    exact fun ss hs => lpN rfl (hs.sub ((SubK.cons (by kernel_rfl) (SubK.cons (by kernel_rfl) (SubK.cons (by kernel_rfl) (SubK.cons (by kernel_rfl) (SubK.cons (by kernel_rfl) (SubK.cons (by kernel_rfl) (SubK.cons (by kernel_rfl) (SubK.cons (by kernel_rfl) SubK.nil))))))))))
  · refine WX.condF _ (decide_eq_false hp) (by kernel_rfl) ?_
    refine WX.exit 4 (by kernel_rfl) ?_
    cases h
    exact fun ss hs => seqE (lpB rfl (hs.sub ((SubK.cons (by kernel_rfl) (SubK.cons (by kernel_rfl) (SubK.cons (by kernel_rfl) (SubK.cons (by kernel_rfl) (SubK.cons (by kernel_rfl) (SubK.cons (by kernel_rfl) (SubK.cons (by kernel_rfl) (SubK.cons (by kernel_rfl) SubK.nil)))))))))))

theorem law01_NatOwn_b3_ok {a1 : Sl3} {s1 : Sl3} {s3 : Sl3} {x7 : Sl3} {x24 : Sl3} {x29 : Sl3} : ∀ s o, law01_NatOwn_b3 a1 s1 s3 x7 x24 x29 s = some o →
    WX Try.prog 1000 4294967296 Try.f12.ntmps (cfst (cfst (csnd (cfst (csnd (csnd (csnd (csnd (csnd (csnd (csnd (csnd (csnd (csnd (csnd (csnd (csnd (csnd (csnd B12))))))))))))))))))) (law01_NatOwn_b3_kn a1 s1 s3 x7 x24 x29 s) ((fun s => s.1) s) (lpQ (law01_NatOwn_b3_kn a1 s1 s3 x7 x24 x29) (fun s => s.1) 6 (fun r => RQ Try.f12 (law01_NatOwn_enc r) (law01_NatOwn_hp ⟨0, .nil⟩ r)) o) := by
  rintro ⟨H59, v25_60⟩ o h
  unfold law01_NatOwn_b3 at h
  try dsimp only at h
  refine WX.seq (by kernel_rfl) ?_
  refine WX.seq (by kernel_rfl) ?_
  refine WX.region (opsOf (cfst (cfst (cfst (cfst (csnd (cfst (csnd (csnd (csnd (csnd (csnd (csnd (csnd (csnd (csnd (csnd (csnd (csnd (csnd (csnd (csnd B12)))))))))))))))))))))) (by kernel_rfl) ?_
  refine RX.psn 4 [(138, (Value.bool (decide (v25_60 < (x24.n : Int))))), (137, (Value.int .i64 (x24.n : Int))), (136, (Sl3.v x24)), (135, (Value.int .i64 v25_60))] (by kernel_rfl) ?_
  refine RX.done (by kernel_rfl) ?_
  refine fun ss hs => (WX.nxt ?_ ss hs)
  rcases ite_some h with ⟨hp, h⟩ | ⟨hp, h⟩
  · refine WX.condT _ (decide_eq_true hp) (by kernel_rfl) ?_
    refine WX.skip (by kernel_rfl) ?_
    refine fun ss hs => (WX.nxt ?_ ss hs)
    refine WX.seq (by kernel_rfl) ?_
    refine WX.block 7 (by kernel_rfl) ?_
    refine WX.region (opsOf (cfst (cfst (csnd (cfst (cfst (csnd (cfst (csnd (csnd (csnd (csnd (csnd (csnd (csnd (csnd (csnd (csnd (csnd (csnd (csnd (csnd (csnd B12))))))))))))))))))))))) (by kernel_rfl) ?_
    refine RX.psn 2 [(142, (Value.int .i64 v25_60)), (141, (Sl3.v x24))] (by kernel_rfl) ?_
    obtain ⟨p61, hx, h⟩ := bind_some h
    refine RX.at (some 143) (Value.pointer (some p61)) (by kernel_rfl) (by kernel_rfl) (fun ih => Abs.run_idx (s := x24) (k := .i64) (t := 24) (e := 38) (x := .tmp 141) (y := .tmp 142) (by kernel_rfl) (by kernel_rfl) (by kernel_rfl) (by kernel_rfl) (by kernel_rfl) hx) ?_
    obtain ⟨H62, hx, h⟩ := bind_some h
    refine RX.at none undef (by kernel_rfl) (by kernel_rfl) (fun ih => Abs.run_store1 (t := 38) (x := .tmp 143) (y := .const (Value.int .u64 4)) (a := p61) (v := (Value.int .u64 4)) (by kernel_rfl) (by kernel_rfl) (by kernel_rfl) (by kernel_rfl) (by kernel_rfl) hx) ?_
    refine RX.done (by kernel_rfl) ?_
    refine fun ss hs => blkN ((WX.nxt ?_ ss hs))
    refine WX.region (opsOf (csnd (csnd (cfst (cfst (csnd (cfst (csnd (csnd (csnd (csnd (csnd (csnd (csnd (csnd (csnd (csnd (csnd (csnd (csnd (csnd (csnd B12)))))))))))))))))))))) (by kernel_rfl) ?_
    refine RX.psn 3 [(25, (Value.int .i64 (IntKind.i64.wrap (v25_60 + 1)))), (140, (Value.int .i64 (IntKind.i64.wrap (v25_60 + 1)))), (139, (Value.int .i64 v25_60))] (by kernel_rfl) ?_
    refine RX.done (by kernel_rfl) ?_
    cases h
    exact fun ss hs => lpN rfl (hs.sub ((SubK.cons (by kernel_rfl) (SubK.cons (by kernel_rfl) (SubK.cons (by kernel_rfl) (SubK.cons (by kernel_rfl) (SubK.cons (by kernel_rfl) (SubK.cons (by kernel_rfl) (SubK.cons (by kernel_rfl) SubK.nil)))))))))
  · refine WX.condF _ (decide_eq_false hp) (by kernel_rfl) ?_
    refine WX.exit 6 (by kernel_rfl) ?_
    cases h
    exact fun ss hs => seqE (lpB rfl (hs.sub ((SubK.cons (by kernel_rfl) (SubK.cons (by kernel_rfl) (SubK.cons (by kernel_rfl) (SubK.cons (by kernel_rfl) (SubK.cons (by kernel_rfl) (SubK.cons (by kernel_rfl) (SubK.cons (by kernel_rfl) SubK.nil))))))))))

theorem law01_NatOwn_b4_ok {a1 : Sl3} {s1 : Sl3} {s3 : Sl3} {x7 : Sl3} {x29 : Sl3} : ∀ s o, law01_NatOwn_b4 a1 s1 s3 x7 x29 s = some o →
    WX Try.prog 1000 4294967296 Try.f12.ntmps (cfst (cfst (csnd (cfst (csnd (csnd (csnd (csnd (csnd (csnd (csnd (csnd (csnd (csnd (csnd (csnd (csnd (csnd (csnd (csnd B12)))))))))))))))))))) (law01_NatOwn_b4_kn a1 s1 s3 x7 x29 s) ((fun s => s.1) s) (lpQ (law01_NatOwn_b4_kn a1 s1 s3 x7 x29) (fun s => s.1) 8 (fun r => RQ Try.f12 (law01_NatOwn_enc r) (law01_NatOwn_hp ⟨0, .nil⟩ r)) o) := by
  rintro ⟨H65, v26_66⟩ o h
  unfold law01_NatOwn_b4 at h
  try dsimp only at h
  refine WX.seq (by kernel_rfl) ?_
  refine WX.seq (by kernel_rfl) ?_
  refine WX.region (opsOf (cfst (cfst (cfst (cfst (csnd (cfst (csnd (csnd (csnd (csnd (csnd (csnd (csnd (csnd (csnd (csnd (csnd (csnd (csnd (csnd (csnd (csnd B12))))))))))))))))))))))) (by kernel_rfl) ?_
  refine RX.psn 4 [(147, (Value.bool (decide (v26_66 < (s1.n : Int))))), (146, (Value.int .i64 (s1.n : Int))), (145, (Sl3.v s1)), (144, (Value.int .i64 v26_66))] (by kernel_rfl) ?_
  refine RX.done (by kernel_rfl) ?_
  refine fun ss hs => (WX.nxt ?_ ss hs)
  rcases ite_some h with ⟨hp, h⟩ | ⟨hp, h⟩
  · refine WX.condT _ (decide_eq_true hp) (by kernel_rfl) ?_
    refine WX.skip (by kernel_rfl) ?_
    refine fun ss hs => (WX.nxt ?_ ss hs)
    refine WX.seq (by kernel_rfl) ?_
    refine WX.block 9 (by kernel_rfl) ?_
    refine WX.region (opsOf (cfst (cfst (csnd (cfst (cfst (csnd (cfst (csnd (csnd (csnd (csnd (csnd (csnd (csnd (csnd (csnd (csnd (csnd (csnd (csnd (csnd (csnd (csnd B12)))))))))))))))))))))))) (by kernel_rfl) ?_
    refine RX.psn 2 [(151, (Value.int .i64 v26_66)), (150, (Sl3.v s1))] (by kernel_rfl) ?_
    obtain ⟨p67, hx, h⟩ := bind_some h
    refine RX.at (some 152) (Value.pointer (some p67)) (by kernel_rfl) (by kernel_rfl) (fun ih => Abs.run_idx (s := s1) (k := .i64) (t := 24) (e := 38) (x := .tmp 150) (y := .tmp 151) (by kernel_rfl) (by kernel_rfl) (by kernel_rfl) (by kernel_rfl) (by kernel_rfl) hx) ?_
    obtain ⟨H68, hx, h⟩ := bind_some h
    refine RX.at none undef (by kernel_rfl) (by kernel_rfl) (fun ih => Abs.run_store1 (t := 38) (x := .tmp 152) (y := .const (Value.int .u64 5)) (a := p67) (v := (Value.int .u64 5)) (by kernel_rfl) (by kernel_rfl) (by kernel_rfl) (by kernel_rfl) (by kernel_rfl) hx) ?_
    refine RX.done (by kernel_rfl) ?_
    refine fun ss hs => blkN ((WX.nxt ?_ ss hs))
    refine WX.region (opsOf (csnd (csnd (cfst (cfst (csnd (cfst (csnd (csnd (csnd (csnd (csnd (csnd (csnd (csnd (csnd (csnd (csnd (csnd (csnd (csnd (csnd (csnd B12))))))))))))))))))))))) (by kernel_rfl) ?_
    refine RX.psn 3 [(26, (Value.int .i64 (IntKind.i64.wrap (v26_66 + 1)))), (149, (Value.int .i64 (IntKind.i64.wrap (v26_66 + 1)))), (148, (Value.int .i64 v26_66))] (by kernel_rfl) ?_
    refine RX.done (by kernel_rfl) ?_
    cases h
    exact fun ss hs => lpN rfl (hs.sub ((SubK.cons (by kernel_rfl) (SubK.cons (by kernel_rfl) (SubK.cons (by kernel_rfl) (SubK.cons (by kernel_rfl) (SubK.cons (by kernel_rfl) (SubK.cons (by kernel_rfl) SubK.nil))))))))
  · refine WX.condF _ (decide_eq_false hp) (by kernel_rfl) ?_
    refine WX.exit 8 (by kernel_rfl) ?_
    cases h
    exact fun ss hs => seqE (lpB rfl (hs.sub ((SubK.cons (by kernel_rfl) (SubK.cons (by kernel_rfl) (SubK.cons (by kernel_rfl) (SubK.cons (by kernel_rfl) (SubK.cons (by kernel_rfl) (SubK.cons (by kernel_rfl) SubK.nil)))))))))

theorem law01_NatOwn_ok {H : AH} {a0 : Sl3} {a1 : Sl3} {r : (Bool × AH)} (h : law01_NatOwn H a0 a1 = some r) :
    CallE Try.prog 1000 4294967296 12 #[(Sl3.v a0), (Sl3.v a1)] H (law01_NatOwn_enc r) (law01_NatOwn_hp H r) := by
  refine CallE.mk (args := [(Sl3.v a0), (Sl3.v a1)]) Try.func12 (B := B12) (by kernel_rfl) ?_
  unfold law01_NatOwn at h
  refine WX.seq (by kernel_rfl) ?_
  refine WX.region (opsOf (cfst B12)) (by kernel_rfl) ?_
  refine RX.psn 1 [(4, (Value.bool false))] (by kernel_rfl) ?_
  refine RX.done (by kernel_rfl) ?_
  refine fun ss hs => (WX.nxt ?_ ss hs)
  refine WX.seq (by kernel_rfl) ?_
  refine WX.region (opsOf (cfst (csnd B12))) (by kernel_rfl) ?_
  refine RX.psn 2 [(6, (Sl3.v Sl3.nil)), (5, (Sl3.v Sl3.nil))] (by kernel_rfl) ?_
  refine RX.done (by kernel_rfl) ?_
  refine fun ss hs => (WX.nxt ?_ ss hs)
  refine WX.seq (by kernel_rfl) ?_
  refine WX.region (opsOf (cfst (csnd (csnd B12)))) (by kernel_rfl) ?_
  refine RX.psn 2 [(28, (Sl3.v a0)), (27, (Sl3.v Sl3.nil))] (by kernel_rfl) ?_
  obtain ⟨⟨s1, H2⟩, hx, h⟩ := bind_some h
  dsimp only at h
  refine RX.at (some 29) (Sl3.v s1) (by kernel_rfl) (by kernel_rfl) (fun ih => Abs.run_app (x := .tmp 27) (y := .tmp 28) (ts := #[24, 24]) (s := Sl3.nil) (z := a0) (by kernel_rfl) (by kernel_rfl) (by kernel_rfl) (by kernel_rfl) hx) ?_
  refine RX.psn 1 [(5, (Sl3.v s1))] (by kernel_rfl) ?_
  refine RX.done (by kernel_rfl) ?_
  refine fun ss hs => (WX.nxt ?_ ss hs)
  refine WX.seq (by kernel_rfl) ?_
  refine WX.region (opsOf (cfst (csnd (csnd (csnd B12))))) (by kernel_rfl) ?_
  refine RX.psn 2 [(31, (Sl3.v a1)), (30, (Sl3.v Sl3.nil))] (by kernel_rfl) ?_
  obtain ⟨⟨s3, H4⟩, hx, h⟩ := bind_some h
  dsimp only at h
  refine RX.at (some 32) (Sl3.v s3) (by kernel_rfl) (by kernel_rfl) (fun ih => Abs.run_app (x := .tmp 30) (y := .tmp 31) (ts := #[24, 24]) (s := Sl3.nil) (z := a1) (by kernel_rfl) (by kernel_rfl) (by kernel_rfl) (by kernel_rfl) hx) ?_
  refine RX.psn 1 [(6, (Sl3.v s3))] (by kernel_rfl) ?_
  refine RX.done (by kernel_rfl) ?_
  refine fun ss hs => (WX.nxt ?_ ss hs)
  refine WX.seq (by kernel_rfl) ?_
  refine WX.region (opsOf (cfst (csnd (csnd (csnd (csnd B12)))))) (by kernel_rfl) ?_
  refine RX.psn 2 [(35, (Sl3.v s3)), (34, (Sl3.v s1))] (by kernel_rfl) ?_
  obtain ⟨⟨s5, H6⟩, hx, h⟩ := bind_some h
  dsimp only at h
  refine RX.at (some 36) (Sl3.v s5) (by kernel_rfl) (by kernel_rfl) (fun ih => Abs.run_newR (by kernel_rfl) (by kernel_rfl) hx) ?_
  obtain ⟨⟨x7, x8, H9⟩, hx, h⟩ := bind_some h
  dsimp only at h
  refine RX.callAt (some 37) (v := (Value.tuple #[(Sl3.v x7), (Value.int .i64 x8)])) 20 #[(Sl3.v s5)] (by kernel_rfl) (by kernel_rfl) (by kernel_rfl) (nat_Add_ok hx) ?_
  refine RX.psn 5 [(8, (Value.int .i64 x8)), (7, (Sl3.v x7)), (39, (Value.int .i64 x8)), (38, (Sl3.v x7)), (33, (Value.tuple #[(Sl3.v x7), (Value.int .i64 x8)]))] (by kernel_rfl) ?_
  refine RX.done (by kernel_rfl) ?_
  refine fun ss hs => (WX.nxt ?_ ss hs)
  refine WX.seq (by kernel_rfl) ?_
  refine WX.region (opsOf (cfst (csnd (csnd (csnd (csnd (csnd B12))))))) (by kernel_rfl) ?_
  refine RX.psn 1 [(41, (Sl3.v s1))] (by kernel_rfl) ?_
  obtain ⟨⟨s10, H11⟩, hx, h⟩ := bind_some h
  dsimp only at h
  refine RX.at (some 42) (Sl3.v s10) (by kernel_rfl) (by kernel_rfl) (fun ih => Abs.run_newR (by kernel_rfl) (by kernel_rfl) hx) ?_
  obtain ⟨⟨x12, x13, H14⟩, hx, h⟩ := bind_some h
  dsimp only at h
  refine RX.callAt (some 43) (v := (Value.tuple #[(Sl3.v x12), (Value.int .i64 x13)])) 14 #[(Sl3.v s10)] (by kernel_rfl) (by kernel_rfl) (by kernel_rfl) (nat_Mul_ok hx) ?_
  refine RX.psn 5 [(10, (Value.int .i64 x13)), (9, (Sl3.v x12)), (45, (Value.int .i64 x13)), (44, (Sl3.v x12)), (40, (Value.tuple #[(Sl3.v x12), (Value.int .i64 x13)]))] (by kernel_rfl) ?_
  refine RX.done (by kernel_rfl) ?_
  refine fun ss hs => (WX.nxt ?_ ss hs)
  refine WX.seq (by kernel_rfl) ?_
  refine WX.region (opsOf (cfst (csnd (csnd (csnd (csnd (csnd (csnd B12)))))))) (by kernel_rfl) ?_
  refine RX.psn 1 [(47, (Sl3.v s1))] (by kernel_rfl) ?_
  obtain ⟨⟨x15, x16, H17⟩, hx, h⟩ := bind_some h
  dsimp only at h
  refine RX.callAt (some 48) (v := (Value.tuple #[(Sl3.v x15), (Value.int .i64 x16)])) 32 #[(Sl3.v s1), (Value.int .i64 0)] (by kernel_rfl) (by kernel_rfl) (by kernel_rfl) (nat_Shl_ok hx) ?_
  refine RX.psn 5 [(12, (Value.int .i64 x16)), (11, (Sl3.v x15)), (50, (Value.int .i64 x16)), (49, (Sl3.v x15)), (46, (Value.tuple #[(Sl3.v x15), (Value.int .i64 x16)]))] (by kernel_rfl) ?_
  refine RX.done (by kernel_rfl) ?_
  refine fun ss hs => (WX.nxt ?_ ss hs)
  refine WX.seq (by kernel_rfl) ?_
  refine WX.region (opsOf (cfst (csnd (csnd (csnd (csnd (csnd (csnd (csnd B12))))))))) (by kernel_rfl) ?_
  refine RX.psn 1 [(52, (Sl3.v s1))] (by kernel_rfl) ?_
  obtain ⟨⟨x18, H19⟩, hx, h⟩ := bind_some h
  dsimp only at h
  refine RX.callAt (some 53) (v := (Sl3.v x18)) 24 #[(Value.int .u64 1)] (by kernel_rfl) (by kernel_rfl) (by kernel_rfl) (nat_Of_ok hx) ?_
  obtain ⟨⟨x20, x21, x22, H23⟩, hx, h⟩ := bind_some h
  dsimp only at h
  refine RX.callAt (some 54) (v := (Value.tuple #[(Sl3.v x20), (Sl3.v x21), (Value.int .i64 x22)])) 38 #[(Sl3.v s1), (Sl3.v x18)] (by kernel_rfl) (by kernel_rfl) (by kernel_rfl) (nat_Quo_ok hx) ?_
  refine RX.psn 7 [(15, (Value.int .i64 x22)), (14, (Sl3.v x21)), (13, (Sl3.v x20)), (57, (Value.int .i64 x22)), (56, (Sl3.v x21)), (55, (Sl3.v x20)), (51, (Value.tuple #[(Sl3.v x20), (Sl3.v x21), (Value.int .i64 x22)]))] (by kernel_rfl) ?_
  refine RX.done (by kernel_rfl) ?_
  refine fun ss hs => (WX.nxt ?_ ss hs)
  refine WX.seq (by kernel_rfl) ?_
  refine WX.region (opsOf (cfst (csnd (csnd (csnd (csnd (csnd (csnd (csnd (csnd B12)))))))))) (by kernel_rfl) ?_
  refine RX.psn 1 [(59, (Sl3.v s1))] (by kernel_rfl) ?_
  obtain ⟨⟨x24, x25, H26⟩, hx, h⟩ := bind_some h
  dsimp only at h
  refine RX.callAt (some 60) (v := (Value.tuple #[(Sl3.v x24), (Value.int .i64 x25)])) 40 #[(Sl3.v s1), (Sl3.v Sl3.nil)] (by kernel_rfl) (by kernel_rfl) (by kernel_rfl) (nat_Gcd_ok hx) ?_
  refine RX.psn 5 [(17, (Value.int .i64 x25)), (16, (Sl3.v x24)), (62, (Value.int .i64 x25)), (61, (Sl3.v x24)), (58, (Value.tuple #[(Sl3.v x24), (Value.int .i64 x25)]))] (by kernel_rfl) ?_
  refine RX.done (by kernel_rfl) ?_
  refine fun ss hs => (WX.nxt ?_ ss hs)
  refine WX.seq (by kernel_rfl) ?_
  refine WX.region (opsOf (cfst (csnd (csnd (csnd (csnd (csnd (csnd (csnd (csnd (csnd B12))))))))))) (by kernel_rfl) ?_
  refine RX.psn 2 [(65, (Sl3.v a1)), (64, (Sl3.v a0))] (by kernel_rfl) ?_
  obtain ⟨⟨s27, H28⟩, hx, h⟩ := bind_some h
  dsimp only at h
  refine RX.at (some 66) (Sl3.v s27) (by kernel_rfl) (by kernel_rfl) (fun ih => Abs.run_newR (by kernel_rfl) (by kernel_rfl) hx) ?_
  obtain ⟨⟨x29, x30, H31⟩, hx, h⟩ := bind_some h
  dsimp only at h
  refine RX.callAt (some 67) (v := (Value.tuple #[(Sl3.v x29), (Value.int .i64 x30)])) 21 #[(Sl3.v s27)] (by kernel_rfl) (by kernel_rfl) (by kernel_rfl) (ref01_Add_ok hx) ?_
  refine RX.psn 5 [(19, (Value.int .i64 x30)), (18, (Sl3.v x29)), (69, (Value.int .i64 x30)), (68, (Sl3.v x29)), (63, (Value.tuple #[(Sl3.v x29), (Value.int .i64 x30)]))] (by kernel_rfl) ?_
  refine RX.done (by kernel_rfl) ?_
  refine fun ss hs => (WX.nxt ?_ ss hs)
  refine WX.seq (by kernel_rfl) ?_
  refine WX.region (opsOf (cfst (csnd (csnd (csnd (csnd (csnd (csnd (csnd (csnd (csnd (csnd B12)))))))))))) (by kernel_rfl) ?_
  refine RX.psn 1 [(71, (Sl3.v a0))] (by kernel_rfl) ?_
  obtain ⟨⟨s32, H33⟩, hx, h⟩ := bind_some h
  dsimp only at h
  refine RX.at (some 72) (Sl3.v s32) (by kernel_rfl) (by kernel_rfl) (fun ih => Abs.run_newR (by kernel_rfl) (by kernel_rfl) hx) ?_
  obtain ⟨⟨x34, x35, H36⟩, hx, h⟩ := bind_some h
  dsimp only at h
  refine RX.callAt (some 73) (v := (Value.tuple #[(Sl3.v x34), (Value.int .i64 x35)])) 15 #[(Sl3.v s32)] (by kernel_rfl) (by kernel_rfl) (by kernel_rfl) (ref01_Mul_ok hx) ?_
  refine RX.psn 5 [(21, (Value.int .i64 x35)), (20, (Sl3.v x34)), (75, (Value.int .i64 x35)), (74, (Sl3.v x34)), (70, (Value.tuple #[(Sl3.v x34), (Value.int .i64 x35)]))] (by kernel_rfl) ?_
  refine RX.done (by kernel_rfl) ?_
  refine fun ss hs => (WX.nxt ?_ ss hs)
  refine WX.seq (by kernel_rfl) ?_
  refine WX.seq (by kernel_rfl) ?_
  refine WX.region (opsOf (cfst (cfst (csnd (csnd (csnd (csnd (csnd (csnd (csnd (csnd (csnd (csnd (csnd B12)))))))))))))) (by kernel_rfl) ?_
  refine RX.psn 4 [(79, (Value.bool (!decide (x8 = x30)))), (78, (Value.bool (!decide (x8 = x30)))), (77, (Value.int .i64 x30)), (76, (Value.int .i64 x8))] (by kernel_rfl) ?_
  rcases ite_some h with ⟨hp, h⟩ | ⟨hp, h⟩
  · refine RX.fix 79 false (dec_not hp) (by kernel_rfl) ?_
    refine RX.psn 5 [(84, (Value.bool (!decide (x13 = x35)))), (83, (Value.bool (!decide (x13 = x35)))), (82, (Value.bool (!decide (x13 = x35)))), (81, (Value.int .i64 x35)), (80, (Value.int .i64 x13))] (by kernel_rfl) ?_
    rcases ite_some h with ⟨hp, h⟩ | ⟨hp, h⟩
    · refine RX.fix 84 false (dec_not hp) (by kernel_rfl) ?_
      refine RX.psn 2 [(86, (Sl3.v a0)), (85, (Sl3.v s1))] (by kernel_rfl) ?_
      obtain ⟨x37, hx, h⟩ := bind_some h
      refine RX.callAt (some 87) (v := (Value.bool x37)) 16 #[(Sl3.v s1), (Sl3.v a0)] (by kernel_rfl) (by kernel_rfl) (by kernel_rfl) (ref01_Same_ok hx) ?_
      refine RX.psn 3 [(90, (Value.bool (!x37))), (89, (Value.bool (!x37))), (88, (Value.bool (!x37)))] (by kernel_rfl) ?_
      rcases ite_some h with ⟨hp, h⟩ | ⟨hp, h⟩
      · refine RX.fix 90 false (nb_not hp) (by kernel_rfl) ?_
        refine RX.psn 2 [(92, (Sl3.v a1)), (91, (Sl3.v s3))] (by kernel_rfl) ?_
        obtain ⟨x38, hx, h⟩ := bind_some h
        refine RX.callAt (some 93) (v := (Value.bool x38)) 16 #[(Sl3.v s3), (Sl3.v a1)] (by kernel_rfl) (by kernel_rfl) (by kernel_rfl) (ref01_Same_ok hx) ?_
        refine RX.psn 3 [(96, (Value.bool (!x38))), (95, (Value.bool (!x38))), (94, (Value.bool (!x38)))] (by kernel_rfl) ?_
        rcases ite_some h with ⟨hp, h⟩ | ⟨hp, h⟩
        · refine RX.fix 96 false (nb_not hp) (by kernel_rfl) ?_
          refine RX.psn 2 [(98, (Sl3.v x29)), (97, (Sl3.v x7))] (by kernel_rfl) ?_
          obtain ⟨x39, hx, h⟩ := bind_some h
          refine RX.callAt (some 99) (v := (Value.bool x39)) 16 #[(Sl3.v x7), (Sl3.v x29)] (by kernel_rfl) (by kernel_rfl) (by kernel_rfl) (ref01_Same_ok hx) ?_
          refine RX.psn 3 [(102, (Value.bool (!x39))), (101, (Value.bool (!x39))), (100, (Value.bool (!x39)))] (by kernel_rfl) ?_
          rcases ite_some h with ⟨hp, h⟩ | ⟨hp, h⟩
          · refine RX.fix 102 false (nb_not hp) (by kernel_rfl) ?_
            refine RX.psn 2 [(104, (Sl3.v x34)), (103, (Sl3.v x12))] (by kernel_rfl) ?_
            obtain ⟨x40, hx, h⟩ := bind_some h
            refine RX.callAt (some 105) (v := (Value.bool x40)) 16 #[(Sl3.v x12), (Sl3.v x34)] (by kernel_rfl) (by kernel_rfl) (by kernel_rfl) (ref01_Same_ok hx) ?_
            refine RX.psn 2 [(107, (Value.bool (!x40))), (106, (Value.bool (!x40)))] (by kernel_rfl) ?_
            refine RX.done (by kernel_rfl) ?_
            refine fun ss hs => (WX.nxt ?_ ss hs)
            rcases ite_some h with ⟨hp, h⟩ | ⟨hp, h⟩
            · refine WX.condF _ (nb_not hp) (by kernel_rfl) ?_
              refine WX.skip (by kernel_rfl) ?_
              refine fun ss hs => (WX.nxt ?_ ss hs)
              refine WX.seq (by kernel_rfl) ?_
              refine WX.seq (by kernel_rfl) ?_
              refine WX.region (opsOf (cfst (cfst (csnd (csnd (csnd (csnd (csnd (csnd (csnd (csnd (csnd (csnd (csnd (csnd B12))))))))))))))) (by kernel_rfl) ?_
              refine RX.psn 1 [(22, (Value.int .i64 0))] (by kernel_rfl) ?_
              refine RX.done (by kernel_rfl) ?_
              refine fun ss hs => (WX.nxt ?_ ss hs)
              refine WX.block 0 (by kernel_rfl) ?_
              obtain ⟨o, hl, h⟩ := bind_some h
              rcases o with ⟨H45, v22_46⟩ | r
              · dsimp only at h
                refine WX.loopI (by kernel_rfl) (law01_NatOwn_b0 a1 s1 s3 x7 x12 x15 x20 x24 x29) (law01_NatOwn_b0_kn a1 s1 s3 x7 x12 x15 x20 x24 x29) (fun s => s.1) 0 (fun r => RQ Try.f12 (law01_NatOwn_enc r) (law01_NatOwn_hp ⟨0, .nil⟩ r)) law01_NatOwn_b0_ok hl ((SubK.cons (by kernel_rfl) (SubK.cons (by kernel_rfl) (SubK.cons (by kernel_rfl) (SubK.cons (by kernel_rfl) (SubK.cons (by kernel_rfl) (SubK.cons (by kernel_rfl) (SubK.cons (by kernel_rfl) (SubK.cons (by kernel_rfl) (SubK.cons (by kernel_rfl) (SubK.cons (by kernel_rfl) SubK.nil))))))))))) rfl ?_
                clear hl
                refine fun ss hs => blkE ((WX.nxt ?_ ss hs))
                refine WX.seq (by kernel_rfl) ?_
                refine WX.seq (by kernel_rfl) ?_
                refine WX.region (opsOf (cfst (cfst (csnd (csnd (csnd (csnd (csnd (csnd (csnd (csnd (csnd (csnd (csnd (csnd (csnd B12)))))))))))))))) (by kernel_rfl) ?_
                refine RX.psn 1 [(23, (Value.int .i64 0))] (by kernel_rfl) ?_
                refine RX.done (by kernel_rfl) ?_
                refine fun ss hs => (WX.nxt ?_ ss hs)
                refine WX.block 2 (by kernel_rfl) ?_
                obtain ⟨o, hl, h⟩ := bind_some h
                rcases o with ⟨H51, v23_52⟩ | r
                · dsimp only at h
                  refine WX.loopI (by kernel_rfl) (law01_NatOwn_b1 a1 s1 s3 x7 x15 x20 x24 x29) (law01_NatOwn_b1_kn a1 s1 s3 x7 x15 x20 x24 x29) (fun s => s.1) 2 (fun r => RQ Try.f12 (law01_NatOwn_enc r) (law01_NatOwn_hp ⟨0, .nil⟩ r)) law01_NatOwn_b1_ok hl ((SubK.cons (by kernel_rfl) (SubK.cons (by kernel_rfl) (SubK.cons (by kernel_rfl) (SubK.cons (by kernel_rfl) (SubK.cons (by kernel_rfl) (SubK.cons (by kernel_rfl) (SubK.cons (by kernel_rfl) (SubK.cons (by kernel_rfl) (SubK.cons (by kernel_rfl) SubK.nil)))))))))) rfl ?_
                  clear hl
                  refine fun ss hs => blkE ((WX.nxt ?_ ss hs))
                  refine WX.seq (by kernel_rfl) ?_
                  refine WX.seq (by kernel_rfl) ?_
                  refine WX.region (opsOf (cfst (cfst (csnd (csnd (csnd (csnd (csnd (csnd (csnd (csnd (csnd (csnd (csnd (csnd (csnd (csnd B12))))))))))))))))) (by kernel_rfl) ?_
                  refine RX.psn 1 [(24, (Value.int .i64 0))] (by kernel_rfl) ?_
                  refine RX.done (by kernel_rfl) ?_
                  refine fun ss hs => (WX.nxt ?_ ss hs)
                  refine WX.block 4 (by kernel_rfl) ?_
                  obtain ⟨o, hl, h⟩ := bind_some h
                  rcases o with ⟨H57, v24_58⟩ | r
                  · dsimp only at h
                    refine WX.loopI (by kernel_rfl) (law01_NatOwn_b2 a1 s1 s3 x7 x20 x24 x29) (law01_NatOwn_b2_kn a1 s1 s3 x7 x20 x24 x29) (fun s => s.1) 4 (fun r => RQ Try.f12 (law01_NatOwn_enc r) (law01_NatOwn_hp ⟨0, .nil⟩ r)) law01_NatOwn_b2_ok hl ((SubK.cons (by kernel_rfl) (SubK.cons (by kernel_rfl) (SubK.cons (by kernel_rfl) (SubK.cons (by kernel_rfl) (SubK.cons (by kernel_rfl) (SubK.cons (by kernel_rfl) (SubK.cons (by kernel_rfl) (SubK.cons (by kernel_rfl) SubK.nil))))))))) rfl ?_
                    clear hl
                    refine fun ss hs => blkE ((WX.nxt ?_ ss hs))
                    refine WX.seq (by kernel_rfl) ?_
                    refine WX.seq (by kernel_rfl) ?_
                    refine WX.region (opsOf (cfst (cfst (csnd (csnd (csnd (csnd (csnd (csnd (csnd (csnd (csnd (csnd (csnd (csnd (csnd (csnd (csnd B12)))))))))))))))))) (by kernel_rfl) ?_
                    refine RX.psn 1 [(25, (Value.int .i64 0))] (by kernel_rfl) ?_
                    refine RX.done (by kernel_rfl) ?_
                    refine fun ss hs => (WX.nxt ?_ ss hs)
                    refine WX.block 6 (by kernel_rfl) ?_
                    obtain ⟨o, hl, h⟩ := bind_some h
                    rcases o with ⟨H63, v25_64⟩ | r
                    · dsimp only at h
                      refine WX.loopI (by kernel_rfl) (law01_NatOwn_b3 a1 s1 s3 x7 x24 x29) (law01_NatOwn_b3_kn a1 s1 s3 x7 x24 x29) (fun s => s.1) 6 (fun r => RQ Try.f12 (law01_NatOwn_enc r) (law01_NatOwn_hp ⟨0, .nil⟩ r)) law01_NatOwn_b3_ok hl ((SubK.cons (by kernel_rfl) (SubK.cons (by kernel_rfl) (SubK.cons (by kernel_rfl) (SubK.cons (by kernel_rfl) (SubK.cons (by kernel_rfl) (SubK.cons (by kernel_rfl) (SubK.cons (by kernel_rfl) SubK.nil)))))))) rfl ?_
                      clear hl
                      refine fun ss hs => blkE ((WX.nxt ?_ ss hs))
                      refine WX.seq (by kernel_rfl) ?_
                      refine WX.seq (by kernel_rfl) ?_
                      refine WX.region (opsOf (cfst (cfst (csnd (csnd (csnd (csnd (csnd (csnd (csnd (csnd (csnd (csnd (csnd (csnd (csnd (csnd (csnd (csnd B12))))))))))))))))))) (by kernel_rfl) ?_
                      refine RX.psn 1 [(26, (Value.int .i64 0))] (by kernel_rfl) ?_
                      refine RX.done (by kernel_rfl) ?_
                      refine fun ss hs => (WX.nxt ?_ ss hs)
                      refine WX.block 8 (by kernel_rfl) ?_
                      obtain ⟨o, hl, h⟩ := bind_some h
                      rcases o with ⟨H69, v26_70⟩ | r
                      · dsimp only at h
                        refine WX.loopI (by kernel_rfl) (law01_NatOwn_b4 a1 s1 s3 x7 x29) (law01_NatOwn_b4_kn a1 s1 s3 x7 x29) (fun s => s.1) 8 (fun r => RQ Try.f12 (law01_NatOwn_enc r) (law01_NatOwn_hp ⟨0, .nil⟩ r)) law01_NatOwn_b4_ok hl ((SubK.cons (by kernel_rfl) (SubK.cons (by kernel_rfl) (SubK.cons (by kernel_rfl) (SubK.cons (by kernel_rfl) (SubK.cons (by kernel_rfl) (SubK.cons (by kernel_rfl) SubK.nil))))))) rfl ?_
                        clear hl
                        refine fun ss hs => blkE ((WX.nxt ?_ ss hs))
                        refine WX.seq (by kernel_rfl) ?_
                        refine WX.region (opsOf (cfst (csnd (csnd (csnd (csnd (csnd (csnd (csnd (csnd (csnd (csnd (csnd (csnd (csnd (csnd (csnd (csnd (csnd B12))))))))))))))))))) (by kernel_rfl) ?_
                        refine RX.psn 2 [(154, (Sl3.v x29)), (153, (Sl3.v x7))] (by kernel_rfl) ?_
                        obtain ⟨x71, hx, h⟩ := bind_some h
                        refine RX.callAt (some 155) (v := (Value.bool x71)) 16 #[(Sl3.v x7), (Sl3.v x29)] (by kernel_rfl) (by kernel_rfl) (by kernel_rfl) (ref01_Same_ok hx) ?_
                        refine RX.psn 1 [(156, (Value.bool x71))] (by kernel_rfl) ?_
                        rcases ite_some h with ⟨hp, h⟩ | ⟨hp, h⟩
                        · refine RX.fix 156 true hp (by kernel_rfl) ?_
                          refine RX.psn 2 [(158, (Sl3.v a1)), (157, (Sl3.v s3))] (by kernel_rfl) ?_
                          obtain ⟨x72, hx, h⟩ := bind_some h
                          refine RX.callAt (some 159) (v := (Value.bool x72)) 16 #[(Sl3.v s3), (Sl3.v a1)] (by kernel_rfl) (by kernel_rfl) (by kernel_rfl) (ref01_Same_ok hx) ?_
                          refine RX.psn 2 [(161, (Value.bool x72)), (160, (Value.bool x72))] (by kernel_rfl) ?_
                          rcases ite_some h with ⟨hp, h⟩ | ⟨hp, h⟩
                          · refine RX.fix 161 true hp (by kernel_rfl) ?_
                            obtain ⟨⟨x73, H74⟩, hx, h⟩ := bind_some h
                            dsimp only at h
                            refine RX.callAt (some 162) (v := (Value.bool x73)) 17 #[] (by kernel_rfl) (by kernel_rfl) (by kernel_rfl) (law01_alive_ok hx) ?_
                            refine RX.psn 2 [(4, (Value.bool x73)), (163, (Value.bool x73))] (by kernel_rfl) ?_
                            refine RX.done (by kernel_rfl) ?_
                            refine fun ss hs => (WX.nxt ?_ ss hs)
                            refine WX.ret (by kernel_rfl) ?_
                            cases h
                            exact fun ss hs => retR (rq hs (by kernel_rfl))
                          · refine RX.fix 161 false (b_not hp) (by kernel_rfl) ?_
                            refine RX.psn 3 [(4, (Value.bool false)), (163, (Value.bool false)), (162, undef)] (by kernel_rfl) ?_
                            refine RX.done (by kernel_rfl) ?_
                            refine fun ss hs => (WX.nxt ?_ ss hs)
                            refine WX.ret (by kernel_rfl) ?_
                            cases h
                            exact fun ss hs => retR (rq hs (by kernel_rfl))
                        · refine RX.fix 156 false (b_not hp) (by kernel_rfl) ?_
                          refine RX.psn 8 [(4, (Value.bool false)), (163, (Value.bool false)), (162, undef), (161, (Value.bool false)), (160, (Value.bool false)), (159, undef), (158, undef), (157, undef)] (by kernel_rfl) ?_
                          refine RX.done (by kernel_rfl) ?_
                          refine fun ss hs => (WX.nxt ?_ ss hs)
                          refine WX.ret (by kernel_rfl) ?_
                          cases h
                          exact fun ss hs => retR (rq hs (by kernel_rfl))
                      · dsimp only at h
                        refine WX.loopR (by kernel_rfl) (law01_NatOwn_b4 a1 s1 s3 x7 x29) (law01_NatOwn_b4_kn a1 s1 s3 x7 x29) (fun s => s.1) 8 (fun r => RQ Try.f12 (law01_NatOwn_enc r) (law01_NatOwn_hp ⟨0, .nil⟩ r)) law01_NatOwn_b4_ok hl ((SubK.cons (by kernel_rfl) (SubK.cons (by kernel_rfl) (SubK.cons (by kernel_rfl) (SubK.cons (by kernel_rfl) (SubK.cons (by kernel_rfl) (SubK.cons (by kernel_rfl) SubK.nil))))))) rfl ?_
                        cases h
                        exact fun ss H hq => blkR (seqR (retR hq))
                    · dsimp only at h
                      refine WX.loopR (by kernel_rfl) (law01_NatOwn_b3 a1 s1 s3 x7 x24 x29) (law01_NatOwn_b3_kn a1 s1 s3 x7 x24 x29) (fun s => s.1) 6 (fun r => RQ Try.f12 (law01_NatOwn_enc r) (law01_NatOwn_hp ⟨0, .nil⟩ r)) law01_NatOwn_b3_ok hl ((SubK.cons (by kernel_rfl) (SubK.cons (by kernel_rfl) (SubK.cons (by kernel_rfl) (SubK.cons (by kernel_rfl) (SubK.cons (by kernel_rfl) (SubK.cons (by kernel_rfl) (SubK.cons (by kernel_rfl) SubK.nil)))))))) rfl ?_
                      cases h
                      exact fun ss H hq => blkR (seqR (retR hq))
                  · dsimp only at h
                    refine WX.loopR (by kernel_rfl) (law01_NatOwn_b2 a1 s1 s3 x7 x20 x24 x29) (law01_NatOwn_b2_kn a1 s1 s3 x7 x20 x24 x29) (fun s => s.1) 4 (fun r => RQ Try.f12 (law01_NatOwn_enc r) (law01_NatOwn_hp ⟨0, .nil⟩ r)) law01_NatOwn_b2_ok hl ((SubK.cons (by kernel_rfl) (SubK.cons (by kernel_rfl) (SubK.cons (by kernel_rfl) (SubK.cons (by kernel_rfl) (SubK.cons (by kernel_rfl) (SubK.cons (by kernel_rfl) (SubK.cons (by kernel_rfl) (SubK.cons (by kernel_rfl) SubK.nil))))))))) rfl ?_
                    cases h
                    exact fun ss H hq => blkR (seqR (retR hq))
                · dsimp only at h
                  refine WX.loopR (by kernel_rfl) (law01_NatOwn_b1 a1 s1 s3 x7 x15 x20 x24 x29) (law01_NatOwn_b1_kn a1 s1 s3 x7 x15 x20 x24 x29) (fun s => s.1) 2 (fun r => RQ Try.f12 (law01_NatOwn_enc r) (law01_NatOwn_hp ⟨0, .nil⟩ r)) law01_NatOwn_b1_ok hl ((SubK.cons (by kernel_rfl) (SubK.cons (by kernel_rfl) (SubK.cons (by kernel_rfl) (SubK.cons (by kernel_rfl) (SubK.cons (by kernel_rfl) (SubK.cons (by kernel_rfl) (SubK.cons (by kernel_rfl) (SubK.cons (by kernel_rfl) (SubK.cons (by kernel_rfl) SubK.nil)))))))))) rfl ?_
                  cases h
                  exact fun ss H hq => blkR (seqR (retR hq))
              · dsimp only at h
                refine WX.loopR (by kernel_rfl) (law01_NatOwn_b0 a1 s1 s3 x7 x12 x15 x20 x24 x29) (law01_NatOwn_b0_kn a1 s1 s3 x7 x12 x15 x20 x24 x29) (fun s => s.1) 0 (fun r => RQ Try.f12 (law01_NatOwn_enc r) (law01_NatOwn_hp ⟨0, .nil⟩ r)) law01_NatOwn_b0_ok hl ((SubK.cons (by kernel_rfl) (SubK.cons (by kernel_rfl) (SubK.cons (by kernel_rfl) (SubK.cons (by kernel_rfl) (SubK.cons (by kernel_rfl) (SubK.cons (by kernel_rfl) (SubK.cons (by kernel_rfl) (SubK.cons (by kernel_rfl) (SubK.cons (by kernel_rfl) (SubK.cons (by kernel_rfl) SubK.nil))))))))))) rfl ?_
                cases h
                exact fun ss H hq => blkR (seqR (retR hq))
            · refine WX.condT _ (nb_not' hp) (by kernel_rfl) ?_
              refine WX.seq (by kernel_rfl) ?_
              refine WX.region (opsOf (cfst (cfst (csnd (cfst (csnd (csnd (csnd (csnd (csnd (csnd (csnd (csnd (csnd (csnd (csnd B12)))))))))))))))) (by kernel_rfl) ?_
              refine RX.psn 1 [(4, (Value.bool false))] (by kernel_rfl) ?_
              refine RX.done (by kernel_rfl) ?_
              refine fun ss hs => (WX.nxt ?_ ss hs)
              refine WX.ret (by kernel_rfl) ?_
              cases h
              exact fun ss hs => seqR (retR (rq hs (by kernel_rfl)))
          · refine RX.fix 102 true (nb_not' hp) (by kernel_rfl) ?_
            refine RX.psn 5 [(107, (Value.bool true)), (106, undef), (105, undef), (104, undef), (103, undef)] (by kernel_rfl) ?_
            refine RX.done (by kernel_rfl) ?_
            refine fun ss hs => (WX.nxt ?_ ss hs)
            refine WX.condT true rfl (by kernel_rfl) ?_
            refine WX.seq (by kernel_rfl) ?_
            refine WX.region (opsOf (cfst (cfst (csnd (cfst (csnd (csnd (csnd (csnd (csnd (csnd (csnd (csnd (csnd (csnd (csnd B12)))))))))))))))) (by kernel_rfl) ?_
            refine RX.psn 1 [(4, (Value.bool false))] (by kernel_rfl) ?_
            refine RX.done (by kernel_rfl) ?_
            refine fun ss hs => (WX.nxt ?_ ss hs)
            refine WX.ret (by kernel_rfl) ?_
            cases h
            exact fun ss hs => seqR (retR (rq hs (by kernel_rfl)))
        · refine RX.fix 96 true (nb_not' hp) (by kernel_rfl) ?_
          refine RX.psn 11 [(107, (Value.bool true)), (106, undef), (105, undef), (104, undef), (103, undef), (102, (Value.bool true)), (101, (Value.bool true)), (100, undef), (99, undef), (98, undef), (97, undef)] (by kernel_rfl) ?_
          refine RX.done (by kernel_rfl) ?_
          refine fun ss hs => (WX.nxt ?_ ss hs)
          refine WX.condT true rfl (by kernel_rfl) ?_
          refine WX.seq (by kernel_rfl) ?_
          refine WX.region (opsOf (cfst (cfst (csnd (cfst (csnd (csnd (csnd (csnd (csnd (csnd (csnd (csnd (csnd (csnd (csnd B12)))))))))))))))) (by kernel_rfl) ?_
          refine RX.psn 1 [(4, (Value.bool false))] (by kernel_rfl) ?_
          refine RX.done (by kernel_rfl) ?_
          refine fun ss hs => (WX.nxt ?_ ss hs)
          refine WX.ret (by kernel_rfl) ?_
          cases h
          exact fun ss hs => seqR (retR (rq hs (by kernel_rfl)))
      · refine RX.fix 90 true (nb_not' hp) (by kernel_rfl) ?_
        refine RX.psn 17 [(107, (Value.bool true)), (106, undef), (105, undef), (104, undef), (103, undef), (102, (Value.bool true)), (101, (Value.bool true)), (100, undef), (99, undef), (98, undef), (97, undef), (96, (Value.bool true)), (95, (Value.bool true)), (94, undef), (93, undef), (92, undef), (91, undef)] (by kernel_rfl) ?_
        refine RX.done (by kernel_rfl) ?_
        refine fun ss hs => (WX.nxt ?_ ss hs)
        refine WX.condT true rfl (by kernel_rfl) ?_
        refine WX.seq (by kernel_rfl) ?_
        refine WX.region (opsOf (cfst (cfst (csnd (cfst (csnd (csnd (csnd (csnd (csnd (csnd (csnd (csnd (csnd (csnd (csnd B12)))))))))))))))) (by kernel_rfl) ?_
        refine RX.psn 1 [(4, (Value.bool false))] (by kernel_rfl) ?_
        refine RX.done (by kernel_rfl) ?_
        refine fun ss hs => (WX.nxt ?_ ss hs)
        refine WX.ret (by kernel_rfl) ?_
        cases h
        exact fun ss hs => seqR (retR (rq hs (by kernel_rfl)))
    · refine RX.fix 84 true (dec_not' hp) (by kernel_rfl) ?_
      refine RX.psn 23 [(107, (Value.bool true)), (106, undef), (105, undef), (104, undef), (103, undef), (102, (Value.bool true)), (101, (Value.bool true)), (100, undef), (99, undef), (98, undef), (97, undef), (96, (Value.bool true)), (95, (Value.bool true)), (94, undef), (93, undef), (92, undef), (91, undef), (90, (Value.bool true)), (89, (Value.bool true)), (88, undef), (87, undef), (86, undef), (85, undef)] (by kernel_rfl) ?_
      refine RX.done (by kernel_rfl) ?_
      refine fun ss hs => (WX.nxt ?_ ss hs)
      refine WX.condT true rfl (by kernel_rfl) ?_
      refine WX.seq (by kernel_rfl) ?_
      refine WX.region (opsOf (cfst (cfst (csnd (cfst (csnd (csnd (csnd (csnd (csnd (csnd (csnd (csnd (csnd (csnd (csnd B12)))))))))))))))) (by kernel_rfl) ?_
      refine RX.psn 1 [(4, (Value.bool false))] (by kernel_rfl) ?_
      refine RX.done (by kernel_rfl) ?_
      refine fun ss hs => (WX.nxt ?_ ss hs)
      refine WX.ret (by kernel_rfl) ?_
      cases h
      exact fun ss hs => seqR (retR (rq hs (by kernel_rfl)))
  · refine RX.fix 79 true (dec_not' hp) (by kernel_rfl) ?_
    refine RX.psn 28 [(107, (Value.bool true)), (106, undef), (105, undef), (104, undef), (103, undef), (102, (Value.bool true)), (101, (Value.bool true)), (100, undef), (99, undef), (98, undef), (97, undef), (96, (Value.bool true)), (95, (Value.bool true)), (94, undef), (93, undef), (92, undef), (91, undef), (90, (Value.bool true)), (89, (Value.bool true)), (88, undef), (87, undef), (86, undef), (85, undef), (84, (Value.bool true)), (83, (Value.bool true)), (82, undef), (81, undef), (80, undef)] (by kernel_rfl) ?_
    refine RX.done (by kernel_rfl) ?_
    refine fun ss hs => (WX.nxt ?_ ss hs)
    refine WX.condT true rfl (by kernel_rfl) ?_
    refine WX.seq (by kernel_rfl) ?_
    refine WX.region (opsOf (cfst (cfst (csnd (cfst (csnd (csnd (csnd (csnd (csnd (csnd (csnd (csnd (csnd (csnd (csnd B12)))))))))))))))) (by kernel_rfl) ?_
    refine RX.psn 1 [(4, (Value.bool false))] (by kernel_rfl) ?_
    refine RX.done (by kernel_rfl) ?_
    refine fun ss hs => (WX.nxt ?_ ss hs)
    refine WX.ret (by kernel_rfl) ?_
    cases h
    exact fun ss hs => seqR (retR (rq hs (by kernel_rfl)))

end Go.Proofs.Ytoadagekdnkciaa
