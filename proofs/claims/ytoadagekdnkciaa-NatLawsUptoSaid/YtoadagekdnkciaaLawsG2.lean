/- Functions of the program as Lean functions over the abstract heap, and that the interpreter comes to them (printed by a program of this project's own), part 2. No condition. -/
import Derived.Test.YtoadagekdnkciaaLawsG1
namespace Go.Proofs.Ytoadagekdnkciaa
open Go Go.Abs
set_option maxRecDepth 100000

noncomputable def B81 : Code := (Try.f81.body).getD .skip

def nat_more_enc : AH → Value
  | _ => (Value.tuple #[])

def nat_more_hp (_ : AH) : AH → AH := fun r => r

noncomputable def nat_more_b0 (a0 : Sl3) (a1 : Sl3) : (AH × Int × Int) → Option (Lp (AH × Int × Int) AH) := fun (H1, v4_2, v9_3) =>
  if v9_3 < (a1.n : Int) then
    Option.bind (idxA 1 a1 v9_3) fun p4 =>
    Option.bind (rd (deI .u64) H1 p4) fun x5 =>
    Option.bind (idxA 1 a0 v9_3) fun p6 =>
    Option.bind (rd (deI .u64) H1 p6) fun x7 =>
    Option.bind (add64 x7 x5 v4_2) fun (x8, x9) =>
    Option.bind (idxA 1 a0 v9_3) fun p10 =>
    Option.bind (H1.setCell 4294967296 p10 (Value.int .u64 x8)) fun H11 =>
    some (.next (H11, x9, (IntKind.i64.wrap (v9_3 + 1))))
  else
    some (.brk (H1, v4_2, v9_3))

def nat_more_b0_kn (a0 : Sl3) (a1 : Sl3) : (AH × Int × Int) → Kn := fun (H1, v4_2, v9_3) => [(4, (Value.int .u64 v4_2)), (9, (Value.int .i64 v9_3)), (0, (Sl3.v a0)), (1, (Sl3.v a1)), (7, (Sl3.v a1)), (8, (Value.int .i64 (a1.n : Int)))]

noncomputable def nat_more (H : AH) (a0 : Sl3) (a1 : Sl3) : Option AH :=
  Option.bind (loopO (nat_more_b0 a0 a1) (H, 0, 0)) fun o => match o with
  | .inl (H12, v4_13, v9_14) =>
    Option.bind (idxA 1 a0 (a1.n : Int)) fun p15 =>
    Option.bind (rd (deI .u64) H12 p15) fun x16 =>
    Option.bind (idxA 1 a0 (a1.n : Int)) fun p17 =>
    Option.bind (H12.setCell 4294967296 p17 (Value.int .u64 (IntKind.u64.wrap (x16 + v4_13)))) fun H18 =>
    some H18
  | .inr r => some r

theorem nat_more_b0_ok {a0 : Sl3} {a1 : Sl3} : ∀ s o, nat_more_b0 a0 a1 s = some o →
    WX Try.prog 1000 4294967296 Try.f81.ntmps (cfst (cfst (csnd (cfst (csnd B81))))) (nat_more_b0_kn a0 a1 s) ((fun s => s.1) s) (lpQ (nat_more_b0_kn a0 a1) (fun s => s.1) 0 (fun r => RQ Try.f81 (nat_more_enc r) (nat_more_hp ⟨0, .nil⟩ r)) o) := by
  rintro ⟨H1, v4_2, v9_3⟩ o h
  unfold nat_more_b0 at h
  try dsimp only at h
  refine WX.seq (by kernel_rfl) ?_
  refine WX.region (opsOf (cfst (cfst (cfst (csnd (cfst (csnd B81))))))) (by kernel_rfl) ?_
  refine RX.psn 1 [(10, (Value.bool (decide (v9_3 < (a1.n : Int)))))] (by kernel_rfl) ?_
  refine RX.done (by kernel_rfl) ?_
  refine fun ss hs => (WX.nxt ?_ ss hs)
  refine WX.seq (by kernel_rfl) ?_
  rcases ite_some h with ⟨hp, h⟩ | ⟨hp, h⟩
  · refine WX.condT _ (decide_eq_true hp) (by kernel_rfl) ?_
    refine WX.skip (by kernel_rfl) ?_
    refine fun ss hs => (WX.nxt ?_ ss hs)
    refine WX.seq (by kernel_rfl) ?_
    refine WX.block 1 (by kernel_rfl) ?_
    refine WX.seq (by kernel_rfl) ?_
    refine WX.region (opsOf (cfst (cfst (cfst (csnd (csnd (cfst (cfst (csnd (cfst (csnd B81))))))))))) (by kernel_rfl) ?_
    refine RX.psn 1 [(11, (Value.int .i64 v9_3))] (by kernel_rfl) ?_
    obtain ⟨p4, hx, h⟩ := bind_some h
    refine RX.at (some 12) (Value.pointer (some p4)) (by kernel_rfl) (by kernel_rfl) (fun ih => Abs.run_idx (s := a1) (k := .i64) (t := 24) (e := 38) (x := .tmp 7) (y := .tmp 9) (by kernel_rfl) (by kernel_rfl) (by kernel_rfl) (by kernel_rfl) (by kernel_rfl) hx) ?_
    obtain ⟨x5, hx, h⟩ := bind_some h
    refine RX.at (some 13) (Value.int .u64 x5) (by kernel_rfl) (by kernel_rfl) (fun ih => Abs.run_load (t := 38) (x := .tmp 12) (a := p4) (by kernel_rfl) (by kernel_rfl) (by kernel_rfl) (rd_cell hx deI_inv)) ?_
    refine RX.psn 2 [(6, (Value.int .u64 x5)), (5, (Value.int .i64 v9_3))] (by kernel_rfl) ?_
    refine RX.done (by kernel_rfl) ?_
    refine fun ss hs => (WX.nxt ?_ ss hs)
    refine WX.region (opsOf (csnd (cfst (cfst (csnd (csnd (cfst (cfst (csnd (cfst (csnd B81))))))))))) (by kernel_rfl) ?_
    refine RX.psn 4 [(18, (Value.int .i64 v9_3)), (17, (Sl3.v a0)), (16, (Value.int .i64 v9_3)), (15, (Sl3.v a0))] (by kernel_rfl) ?_
    obtain ⟨p6, hx, h⟩ := bind_some h
    refine RX.at (some 19) (Value.pointer (some p6)) (by kernel_rfl) (by kernel_rfl) (fun ih => Abs.run_idx (s := a0) (k := .i64) (t := 24) (e := 38) (x := .tmp 17) (y := .tmp 18) (by kernel_rfl) (by kernel_rfl) (by kernel_rfl) (by kernel_rfl) (by kernel_rfl) hx) ?_
    obtain ⟨x7, hx, h⟩ := bind_some h
    refine RX.at (some 20) (Value.int .u64 x7) (by kernel_rfl) (by kernel_rfl) (fun ih => Abs.run_load (t := 38) (x := .tmp 19) (a := p6) (by kernel_rfl) (by kernel_rfl) (by kernel_rfl) (rd_cell hx deI_inv)) ?_
    refine RX.psn 2 [(22, (Value.int .u64 v4_2)), (21, (Value.int .u64 x5))] (by kernel_rfl) ?_
    obtain ⟨⟨x8, x9⟩, hx, h⟩ := bind_some h
    dsimp only at h
    refine RX.callAt (some 23) (v := (Value.tuple #[(Value.int .u64 x8), (Value.int .u64 x9)])) 72 #[(Value.int .u64 x7), (Value.int .u64 x5), (Value.int .u64 v4_2)] (by kernel_rfl) (by kernel_rfl) (by kernel_rfl) (ext72_ok hx) ?_
    refine RX.psn 3 [(25, (Value.int .u64 x9)), (24, (Value.int .u64 x8)), (14, (Value.tuple #[(Value.int .u64 x8), (Value.int .u64 x9)]))] (by kernel_rfl) ?_
    obtain ⟨p10, hx, h⟩ := bind_some h
    refine RX.at (some 26) (Value.pointer (some p10)) (by kernel_rfl) (by kernel_rfl) (fun ih => Abs.run_idx (s := a0) (k := .i64) (t := 24) (e := 38) (x := .tmp 15) (y := .tmp 16) (by kernel_rfl) (by kernel_rfl) (by kernel_rfl) (by kernel_rfl) (by kernel_rfl) hx) ?_
    obtain ⟨H11, hx, h⟩ := bind_some h
    refine RX.at none undef (by kernel_rfl) (by kernel_rfl) (fun ih => Abs.run_store1 (t := 38) (x := .tmp 26) (y := .tmp 24) (a := p10) (v := (Value.int .u64 x8)) (by kernel_rfl) (by kernel_rfl) (by kernel_rfl) (by kernel_rfl) (by kernel_rfl) hx) ?_
    refine RX.psn 1 [(4, (Value.int .u64 x9))] (by kernel_rfl) ?_
    refine RX.done (by kernel_rfl) ?_
    refine fun ss hs => blkN ((WX.nxt ?_ ss hs))
    refine WX.region (opsOf (csnd (csnd (csnd (cfst (cfst (csnd (cfst (csnd B81))))))))) (by kernel_rfl) ?_
    refine RX.psn 2 [(9, (Value.int .i64 (IntKind.i64.wrap (v9_3 + 1)))), (27, (Value.int .i64 (IntKind.i64.wrap (v9_3 + 1))))] (by kernel_rfl) ?_
    refine RX.done (by kernel_rfl) ?_
    cases h
    exact fun ss hs => lpN rfl (hs.sub ((SubK.cons (by kernel_rfl) (SubK.cons (by kernel_rfl) (SubK.cons (by kernel_rfl) (SubK.cons (by kernel_rfl) (SubK.cons (by kernel_rfl) (SubK.cons (by kernel_rfl) SubK.nil))))))))
  · refine WX.condF _ (decide_eq_false hp) (by kernel_rfl) ?_
    refine WX.exit 0 (by kernel_rfl) ?_
    cases h
    exact fun ss hs => seqE (lpB rfl (hs.sub ((SubK.cons (by kernel_rfl) (SubK.cons (by kernel_rfl) (SubK.cons (by kernel_rfl) (SubK.cons (by kernel_rfl) (SubK.cons (by kernel_rfl) (SubK.cons (by kernel_rfl) SubK.nil)))))))))

theorem nat_more_ok {H : AH} {a0 : Sl3} {a1 : Sl3} {r : AH} (h : nat_more H a0 a1 = some r) :
    CallE Try.prog 1000 4294967296 81 #[(Sl3.v a0), (Sl3.v a1)] H (nat_more_enc r) (nat_more_hp H r) := by
  refine CallE.mk (args := [(Sl3.v a0), (Sl3.v a1)]) Try.func81 (B := B81) (by kernel_rfl) ?_
  unfold nat_more at h
  refine WX.seq (by kernel_rfl) ?_
  refine WX.region (opsOf (cfst B81)) (by kernel_rfl) ?_
  refine RX.psn 1 [(4, (Value.int .u64 0))] (by kernel_rfl) ?_
  refine RX.done (by kernel_rfl) ?_
  refine fun ss hs => (WX.nxt ?_ ss hs)
  refine WX.seq (by kernel_rfl) ?_
  refine WX.seq (by kernel_rfl) ?_
  refine WX.region (opsOf (cfst (cfst (csnd B81)))) (by kernel_rfl) ?_
  refine RX.psn 3 [(9, (Value.int .i64 0)), (8, (Value.int .i64 (a1.n : Int))), (7, (Sl3.v a1))] (by kernel_rfl) ?_
  refine RX.done (by kernel_rfl) ?_
  refine fun ss hs => (WX.nxt ?_ ss hs)
  refine WX.block 0 (by kernel_rfl) ?_
  obtain ⟨o, hl, h⟩ := bind_some h
  rcases o with ⟨H12, v4_13, v9_14⟩ | r
  · dsimp only at h
    refine WX.loopI (by kernel_rfl) (nat_more_b0 a0 a1) (nat_more_b0_kn a0 a1) (fun s => s.1) 0 (fun r => RQ Try.f81 (nat_more_enc r) (nat_more_hp ⟨0, .nil⟩ r)) nat_more_b0_ok hl ((SubK.cons (by kernel_rfl) (SubK.cons (by kernel_rfl) (SubK.cons (by kernel_rfl) (SubK.cons (by kernel_rfl) (SubK.cons (by kernel_rfl) (SubK.cons (by kernel_rfl) SubK.nil))))))) rfl ?_
    clear hl
    refine fun ss hs => blkE ((WX.nxt ?_ ss hs))
    refine WX.region (opsOf (csnd (csnd B81))) (by kernel_rfl) ?_
    refine RX.psn 3 [(30, (Value.int .i64 (a1.n : Int))), (29, (Sl3.v a1)), (28, (Sl3.v a0))] (by kernel_rfl) ?_
    obtain ⟨p15, hx, h⟩ := bind_some h
    refine RX.at (some 31) (Value.pointer (some p15)) (by kernel_rfl) (by kernel_rfl) (fun ih => Abs.run_idx (s := a0) (k := .i64) (t := 24) (e := 38) (x := .tmp 28) (y := .tmp 30) (by kernel_rfl) (by kernel_rfl) (by kernel_rfl) (by kernel_rfl) (by kernel_rfl) hx) ?_
    obtain ⟨x16, hx, h⟩ := bind_some h
    refine RX.at (some 32) (Value.int .u64 x16) (by kernel_rfl) (by kernel_rfl) (fun ih => Abs.run_load (t := 38) (x := .tmp 31) (a := p15) (by kernel_rfl) (by kernel_rfl) (by kernel_rfl) (rd_cell hx deI_inv)) ?_
    refine RX.psn 2 [(34, (Value.int .u64 (IntKind.u64.wrap (x16 + v4_13)))), (33, (Value.int .u64 v4_13))] (by kernel_rfl) ?_
    obtain ⟨p17, hx, h⟩ := bind_some h
    refine RX.at (some 35) (Value.pointer (some p17)) (by kernel_rfl) (by kernel_rfl) (fun ih => Abs.run_idx (s := a0) (k := .i64) (t := 24) (e := 38) (x := .tmp 28) (y := .tmp 30) (by kernel_rfl) (by kernel_rfl) (by kernel_rfl) (by kernel_rfl) (by kernel_rfl) hx) ?_
    obtain ⟨H18, hx, h⟩ := bind_some h
    refine RX.at none undef (by kernel_rfl) (by kernel_rfl) (fun ih => Abs.run_store1 (t := 38) (x := .tmp 35) (y := .tmp 34) (a := p17) (v := (Value.int .u64 (IntKind.u64.wrap (x16 + v4_13)))) (by kernel_rfl) (by kernel_rfl) (by kernel_rfl) (by kernel_rfl) (by kernel_rfl) hx) ?_
    refine RX.done (by kernel_rfl) ?_
    cases h
    exact fun ss hs => retN (rq hs (by kernel_rfl))
  · dsimp only at h
    refine WX.loopR (by kernel_rfl) (nat_more_b0 a0 a1) (nat_more_b0_kn a0 a1) (fun s => s.1) 0 (fun r => RQ Try.f81 (nat_more_enc r) (nat_more_hp ⟨0, .nil⟩ r)) nat_more_b0_ok hl ((SubK.cons (by kernel_rfl) (SubK.cons (by kernel_rfl) (SubK.cons (by kernel_rfl) (SubK.cons (by kernel_rfl) (SubK.cons (by kernel_rfl) (SubK.cons (by kernel_rfl) SubK.nil))))))) rfl ?_
    cases h
    exact fun ss H hq => blkR (seqR (retR hq))

noncomputable def B68 : Code := (Try.f68.body).getD .skip

def nat_quo_enc : (Sl3 × Sl3 × AH) → Value
  | (r0, r1, _) => (Value.tuple #[(Sl3.v r0), (Sl3.v r1)])

def nat_quo_hp (_ : AH) : (Sl3 × Sl3 × AH) → AH := fun r => r.2.2

noncomputable def nat_quo_b0 (x12 : Int) (x15 : Sl3) (x16 : Sl3) (s18 : Sl3) : (AH × Int) → Option (Lp (AH × Int) (Sl3 × Sl3 × AH)) := fun (H20, v12_21) =>
  if v12_21 ≥ 0 then
    if belowSN H20.next x16 = true then
      Option.bind (idxA 1 x16 (IntKind.i64.wrap (v12_21 + (x15.n : Int)))) fun p22 =>
      if belowN H20.next p22 = true then
        Option.bind (rd (deI .u64) H20 p22) fun x23 =>
        if belowSN H20.next x16 = true then
          Option.bind (idxA 1 x16 (IntKind.i64.wrap ((IntKind.i64.wrap (v12_21 + (x15.n : Int))) - 1))) fun p24 =>
          if belowN H20.next p24 = true then
            Option.bind (rd (deI .u64) H20 p24) fun x25 =>
            if belowSN H20.next x16 = true then
              Option.bind (idxA 1 x16 (IntKind.i64.wrap ((IntKind.i64.wrap (v12_21 + (x15.n : Int))) - 2))) fun p26 =>
              if belowN H20.next p26 = true then
                Option.bind (rd (deI .u64) H20 p26) fun x27 =>
                if belowSN H20.next x15 = true then
                  if belowSN H20.next x15 = true then
                    Option.bind (idxA 1 x15 (IntKind.i64.wrap ((x15.n : Int) - 1))) fun p28 =>
                    if belowN H20.next p28 = true then
                      Option.bind (rd (deI .u64) H20 p28) fun x29 =>
                      if belowSN H20.next x15 = true then
                        if belowSN H20.next x15 = true then
                          Option.bind (idxA 1 x15 (IntKind.i64.wrap ((x15.n : Int) - 2))) fun p30 =>
                          if belowN H20.next p30 = true then
                            Option.bind (rd (deI .u64) H20 p30) fun x31 =>
                            Option.bind (nat_digit H20 x23 x25 x27 x29 x31) fun x32 =>
                            Option.bind (α := (AH × Int)) (
                              Option.bind (slc 1 H20 x16 (some v12_21) (some (IntKind.i64.wrap ((IntKind.i64.wrap (v12_21 + (x15.n : Int))) + 1))) none) fun s35 =>
                              Option.bind (nat_less H20 s35 x15 x32) fun (x36, H37) =>
                              if x36 = true then
                                Option.bind (slc 1 H37 x16 (some v12_21) (some (IntKind.i64.wrap ((IntKind.i64.wrap (v12_21 + (x15.n : Int))) + 1))) none) fun s38 =>
                                Option.bind (nat_more H37 s38 x15) fun H39 =>
                                some (H39, (IntKind.u64.wrap (x32 - 1)))
                              else
                                some (H37, x32)) fun (H33, v14_34) =>
                            Option.bind (idxA 1 s18 v12_21) fun p40 =>
                            Option.bind (H33.setCell 4294967296 p40 (Value.int .u64 v14_34)) fun H41 =>
                            some (.next (H41, (IntKind.i64.wrap (v12_21 - 1))))
                          else none
                        else none
                      else none
                    else none
                  else none
                else none
              else none
            else none
          else none
        else none
      else none
    else none
  else
    some (.brk (H20, v12_21))

def nat_quo_b0_kn (x12 : Int) (x15 : Sl3) (x16 : Sl3) (s18 : Sl3) : (AH × Int) → Kn := fun (H20, v12_21) => [(12, (Value.int .i64 v12_21)), (8, (Value.int .u64 (IntKind.u64.wrap x12))), (9, (Sl3.v x15)), (10, (Sl3.v x16)), (11, (Sl3.v s18))]

noncomputable def nat_quo (H : AH) (a0 : Sl3) (a1 : Sl3) : Option (Sl3 × Sl3 × AH) :=
  Option.bind (nat_Cmp H a0 a1) fun x1 =>
  if x1 < 0 then
    some (Sl3.nil, a0, H)
  else
    if (a1.n : Int) = 1 then
      Option.bind (idxA 1 a1 0) fun p2 =>
      Option.bind (rd (deI .u64) H p2) fun x3 =>
      Option.bind (nat_single H a0 x3) fun (x4, x5, H6) =>
      Option.bind (newR 38 1 #[(Value.int .u64 x5)] H6) fun (s7, H8) =>
      Option.bind (nat_trim H8 s7) fun x9 =>
      some (x4, x9, H8)
    else
      Option.bind (idxA 1 a1 (IntKind.i64.wrap ((a1.n : Int) - 1))) fun p10 =>
      Option.bind (rd (deI .u64) H p10) fun x11 =>
      Option.bind (bits_LeadingZeros64 x11) fun x12 =>
      Option.bind (nat_shl H a1 (IntKind.u64.wrap x12)) fun (x13, H14) =>
      Option.bind (nat_trim H14 x13) fun x15 =>
      Option.bind (nat_shl H14 a0 (IntKind.u64.wrap x12)) fun (x16, H17) =>
      Option.bind (mkS 38 1 8 #[(Value.int .u64 0)] H17 (IntKind.i64.wrap ((x16.n : Int) - (x15.n : Int))) (IntKind.i64.wrap ((x16.n : Int) - (x15.n : Int)))) fun (s18, H19) =>
      Option.bind (loopO (nat_quo_b0 x12 x15 x16 s18) (H19, (IntKind.i64.wrap ((s18.n : Int) - 1)))) fun o => match o with
      | .inl (H42, v12_43) =>
        Option.bind (nat_trim H42 s18) fun x44 =>
        Option.bind (nat_trim H42 x16) fun x45 =>
        Option.bind (nat_shr H42 x45 (IntKind.u64.wrap x12)) fun (x46, H47) =>
        some (x44, x46, H47)
      | .inr r => some r

theorem nat_quo_b0_ok {x12 : Int} {x15 : Sl3} {x16 : Sl3} {s18 : Sl3} : ∀ s o, nat_quo_b0 x12 x15 x16 s18 s = some o →
    WX Try.prog 1000 4294967296 Try.f68.ntmps (cfst (cfst (csnd (cfst (csnd (csnd (csnd (csnd (csnd (csnd (csnd B68))))))))))) (nat_quo_b0_kn x12 x15 x16 s18 s) ((fun s => s.1) s) (lpQ (nat_quo_b0_kn x12 x15 x16 s18) (fun s => s.1) 0 (fun r => RQ Try.f68 (nat_quo_enc r) (nat_quo_hp ⟨0, .nil⟩ r)) o) := by
  rintro ⟨H20, v12_21⟩ o h
  unfold nat_quo_b0 at h
  try dsimp only at h
  refine WX.seq (by kernel_rfl) ?_
  refine WX.seq (by kernel_rfl) ?_
  refine WX.region (opsOf (cfst (cfst (cfst (cfst (csnd (cfst (csnd (csnd (csnd (csnd (csnd (csnd (csnd B68)))))))))))))) (by kernel_rfl) ?_
  refine RX.psn 2 [(60, (Value.bool (decide (v12_21 ≥ 0)))), (59, (Value.int .i64 v12_21))] (by kernel_rfl) ?_
  refine RX.done (by kernel_rfl) ?_
  refine fun ss hs => (WX.nxt ?_ ss hs)
  rcases ite_some h with ⟨hp, h⟩ | ⟨hp, h⟩
  · refine WX.condT _ (decide_eq_true hp) (by kernel_rfl) ?_
    refine WX.skip (by kernel_rfl) ?_
    refine fun ss hs => (WX.nxt ?_ ss hs)
    refine WX.seq (by kernel_rfl) ?_
    refine WX.block 1 (by kernel_rfl) ?_
    refine WX.seq (by kernel_rfl) ?_
    refine WX.region (opsOf (cfst (cfst (cfst (csnd (cfst (cfst (csnd (cfst (csnd (csnd (csnd (csnd (csnd (csnd (csnd B68)))))))))))))))) (by kernel_rfl) ?_
    refine RX.psn 5 [(13, (Value.int .i64 (IntKind.i64.wrap (v12_21 + (x15.n : Int))))), (66, (Value.int .i64 (IntKind.i64.wrap (v12_21 + (x15.n : Int))))), (65, (Value.int .i64 (x15.n : Int))), (64, (Sl3.v x15)), (63, (Value.int .i64 v12_21))] (by kernel_rfl) ?_
    refine RX.done (by kernel_rfl) ?_
    refine fun ss hs => (WX.nxt ?_ ss hs)
    refine WX.seq (by kernel_rfl) ?_
    refine WX.drawn (opsOf (cfst (csnd (cfst (cfst (csnd (cfst (cfst (csnd (cfst (csnd (csnd (csnd (csnd (csnd (csnd (csnd B68))))))))))))))))) true (by kernel_rfl) (by kernel_rfl) ?_
    rcases ite_some h with ⟨hb, h⟩ | ⟨_, h⟩
    · refine DX.q (some 67) (Sl3.v x16) (by kernel_rfl) (by kernel_rfl) (by kernel_rfl) (fun ih H => by kernel_rfl) (calm_sl (belowSN_lt hb)) ?_
      refine DX.q (some 68) (Value.int .i64 (IntKind.i64.wrap (v12_21 + (x15.n : Int)))) (by kernel_rfl) (by kernel_rfl) (by kernel_rfl) (fun ih H => by kernel_rfl) calm_int ?_
      obtain ⟨p22, hx, h⟩ := bind_some h
      rcases ite_some h with ⟨hb, h⟩ | ⟨_, h⟩
      · refine DX.q (some 69) (Value.pointer (some p22)) (by kernel_rfl) (by kernel_rfl) (by kernel_rfl) (fun ih H => Abs.run_idx (s := x16) (k := .i64) (t := 24) (e := 38) (x := .tmp 67) (y := .tmp 68) (by kernel_rfl) (by kernel_rfl) (by kernel_rfl) (by kernel_rfl) (by kernel_rfl) hx) (calm_ptr (belowN_lt hb)) ?_
        obtain ⟨x23, hx, h⟩ := bind_some h
        refine DX.l (some 70) (Value.int .u64 x23) (by kernel_rfl) (by kernel_rfl) (by kernel_rfl) (by kernel_rfl) (fun ih H hm => Abs.run_load (t := 38) (x := .tmp 69) (a := p22) (by kernel_rfl) (by kernel_rfl) (by kernel_rfl) ((cell_mem hm _).trans (rd_cell hx deI_inv))) calm_int ?_
        rcases ite_some h with ⟨hb, h⟩ | ⟨_, h⟩
        · refine DX.q (some 71) (Sl3.v x16) (by kernel_rfl) (by kernel_rfl) (by kernel_rfl) (fun ih H => by kernel_rfl) (calm_sl (belowSN_lt hb)) ?_
          refine DX.q (some 72) (Value.int .i64 (IntKind.i64.wrap (v12_21 + (x15.n : Int)))) (by kernel_rfl) (by kernel_rfl) (by kernel_rfl) (fun ih H => by kernel_rfl) calm_int ?_
          refine DX.q (some 73) (Value.int .i64 (IntKind.i64.wrap ((IntKind.i64.wrap (v12_21 + (x15.n : Int))) - 1))) (by kernel_rfl) (by kernel_rfl) (by kernel_rfl) (fun ih H => by kernel_rfl) calm_int ?_
          obtain ⟨p24, hx, h⟩ := bind_some h
          rcases ite_some h with ⟨hb, h⟩ | ⟨_, h⟩
          · refine DX.q (some 74) (Value.pointer (some p24)) (by kernel_rfl) (by kernel_rfl) (by kernel_rfl) (fun ih H => Abs.run_idx (s := x16) (k := .i64) (t := 24) (e := 38) (x := .tmp 71) (y := .tmp 73) (by kernel_rfl) (by kernel_rfl) (by kernel_rfl) (by kernel_rfl) (by kernel_rfl) hx) (calm_ptr (belowN_lt hb)) ?_
            obtain ⟨x25, hx, h⟩ := bind_some h
            refine DX.l (some 75) (Value.int .u64 x25) (by kernel_rfl) (by kernel_rfl) (by kernel_rfl) (by kernel_rfl) (fun ih H hm => Abs.run_load (t := 38) (x := .tmp 74) (a := p24) (by kernel_rfl) (by kernel_rfl) (by kernel_rfl) ((cell_mem hm _).trans (rd_cell hx deI_inv))) calm_int ?_
            rcases ite_some h with ⟨hb, h⟩ | ⟨_, h⟩
            · refine DX.q (some 76) (Sl3.v x16) (by kernel_rfl) (by kernel_rfl) (by kernel_rfl) (fun ih H => by kernel_rfl) (calm_sl (belowSN_lt hb)) ?_
              refine DX.q (some 77) (Value.int .i64 (IntKind.i64.wrap (v12_21 + (x15.n : Int)))) (by kernel_rfl) (by kernel_rfl) (by kernel_rfl) (fun ih H => by kernel_rfl) calm_int ?_
              refine DX.q (some 78) (Value.int .i64 (IntKind.i64.wrap ((IntKind.i64.wrap (v12_21 + (x15.n : Int))) - 2))) (by kernel_rfl) (by kernel_rfl) (by kernel_rfl) (fun ih H => by kernel_rfl) calm_int ?_
              obtain ⟨p26, hx, h⟩ := bind_some h
              rcases ite_some h with ⟨hb, h⟩ | ⟨_, h⟩
              · refine DX.q (some 79) (Value.pointer (some p26)) (by kernel_rfl) (by kernel_rfl) (by kernel_rfl) (fun ih H => Abs.run_idx (s := x16) (k := .i64) (t := 24) (e := 38) (x := .tmp 76) (y := .tmp 78) (by kernel_rfl) (by kernel_rfl) (by kernel_rfl) (by kernel_rfl) (by kernel_rfl) hx) (calm_ptr (belowN_lt hb)) ?_
                obtain ⟨x27, hx, h⟩ := bind_some h
                refine DX.l (some 80) (Value.int .u64 x27) (by kernel_rfl) (by kernel_rfl) (by kernel_rfl) (by kernel_rfl) (fun ih H hm => Abs.run_load (t := 38) (x := .tmp 79) (a := p26) (by kernel_rfl) (by kernel_rfl) (by kernel_rfl) ((cell_mem hm _).trans (rd_cell hx deI_inv))) calm_int ?_
                rcases ite_some h with ⟨hb, h⟩ | ⟨_, h⟩
                · refine DX.q (some 81) (Sl3.v x15) (by kernel_rfl) (by kernel_rfl) (by kernel_rfl) (fun ih H => by kernel_rfl) (calm_sl (belowSN_lt hb)) ?_
                  rcases ite_some h with ⟨hb, h⟩ | ⟨_, h⟩
                  · refine DX.q (some 82) (Sl3.v x15) (by kernel_rfl) (by kernel_rfl) (by kernel_rfl) (fun ih H => by kernel_rfl) (calm_sl (belowSN_lt hb)) ?_
                    refine DX.q (some 83) (Value.int .i64 (x15.n : Int)) (by kernel_rfl) (by kernel_rfl) (by kernel_rfl) (fun ih H => by kernel_rfl) calm_int ?_
                    refine DX.q (some 84) (Value.int .i64 (IntKind.i64.wrap ((x15.n : Int) - 1))) (by kernel_rfl) (by kernel_rfl) (by kernel_rfl) (fun ih H => by kernel_rfl) calm_int ?_
                    obtain ⟨p28, hx, h⟩ := bind_some h
                    rcases ite_some h with ⟨hb, h⟩ | ⟨_, h⟩
                    · refine DX.q (some 85) (Value.pointer (some p28)) (by kernel_rfl) (by kernel_rfl) (by kernel_rfl) (fun ih H => Abs.run_idx (s := x15) (k := .i64) (t := 24) (e := 38) (x := .tmp 81) (y := .tmp 84) (by kernel_rfl) (by kernel_rfl) (by kernel_rfl) (by kernel_rfl) (by kernel_rfl) hx) (calm_ptr (belowN_lt hb)) ?_
                      obtain ⟨x29, hx, h⟩ := bind_some h
                      refine DX.l (some 86) (Value.int .u64 x29) (by kernel_rfl) (by kernel_rfl) (by kernel_rfl) (by kernel_rfl) (fun ih H hm => Abs.run_load (t := 38) (x := .tmp 85) (a := p28) (by kernel_rfl) (by kernel_rfl) (by kernel_rfl) ((cell_mem hm _).trans (rd_cell hx deI_inv))) calm_int ?_
                      rcases ite_some h with ⟨hb, h⟩ | ⟨_, h⟩
                      · refine DX.q (some 87) (Sl3.v x15) (by kernel_rfl) (by kernel_rfl) (by kernel_rfl) (fun ih H => by kernel_rfl) (calm_sl (belowSN_lt hb)) ?_
                        rcases ite_some h with ⟨hb, h⟩ | ⟨_, h⟩
                        · refine DX.q (some 88) (Sl3.v x15) (by kernel_rfl) (by kernel_rfl) (by kernel_rfl) (fun ih H => by kernel_rfl) (calm_sl (belowSN_lt hb)) ?_
                          refine DX.q (some 89) (Value.int .i64 (x15.n : Int)) (by kernel_rfl) (by kernel_rfl) (by kernel_rfl) (fun ih H => by kernel_rfl) calm_int ?_
                          refine DX.q (some 90) (Value.int .i64 (IntKind.i64.wrap ((x15.n : Int) - 2))) (by kernel_rfl) (by kernel_rfl) (by kernel_rfl) (fun ih H => by kernel_rfl) calm_int ?_
                          obtain ⟨p30, hx, h⟩ := bind_some h
                          rcases ite_some h with ⟨hb, h⟩ | ⟨_, h⟩
                          · refine DX.q (some 91) (Value.pointer (some p30)) (by kernel_rfl) (by kernel_rfl) (by kernel_rfl) (fun ih H => Abs.run_idx (s := x15) (k := .i64) (t := 24) (e := 38) (x := .tmp 87) (y := .tmp 90) (by kernel_rfl) (by kernel_rfl) (by kernel_rfl) (by kernel_rfl) (by kernel_rfl) hx) (calm_ptr (belowN_lt hb)) ?_
                            obtain ⟨x31, hx, h⟩ := bind_some h
                            refine DX.l (some 92) (Value.int .u64 x31) (by kernel_rfl) (by kernel_rfl) (by kernel_rfl) (by kernel_rfl) (fun ih H hm => Abs.run_load (t := 38) (x := .tmp 91) (a := p30) (by kernel_rfl) (by kernel_rfl) (by kernel_rfl) ((cell_mem hm _).trans (rd_cell hx deI_inv))) calm_int ?_
                            obtain ⟨x32, hx, h⟩ := bind_some h
                            refine DX.c (some 93) (v := (Value.int .u64 x32)) H20 79 #[(Value.int .u64 x23), (Value.int .u64 x25), (Value.int .u64 x27), (Value.int .u64 x29), (Value.int .u64 x31)] (by kernel_rfl) (by kernel_rfl) (by kernel_rfl) (by kernel_rfl) [] [] (by kernel_rfl) (by kernel_rfl) rfl (by kernel_rfl) (nat_digit_ok hx) (Nat.le_refl _) (fun _ => rfl) ?_
                            refine DX.q (some 14) (Value.int .u64 x32) (by kernel_rfl) (by kernel_rfl) (by kernel_rfl) (fun ih H => by kernel_rfl) calm_int ?_
                            refine DX.end_ (H' := H20) (by kernel_rfl) rfl ?_
                            refine fun ss hs => (WX.nxt ?_ ss hs)
                            obtain ⟨⟨H33, v14_34⟩, hx, h⟩ := bind_some h
                            dsimp only at h
                            refine WX.seq (by kernel_rfl) ?_
                            refine WX.join ([(14, (Value.int .u64 v14_34)), (8, (Value.int .u64 (IntKind.u64.wrap x12))), (9, (Sl3.v x15)), (10, (Sl3.v x16)), (11, (Sl3.v s18)), (12, (Value.int .i64 v12_21))]) H33 ?_ (fun ss hs => WX.nxt ?_ ss hs)
                            · clear h; rename _ => h
                              refine WX.seq (by kernel_rfl) ?_
                              refine WX.region (opsOf (cfst (cfst (csnd (csnd (cfst (cfst (csnd (cfst (cfst (csnd (cfst (csnd (csnd (csnd (csnd (csnd (csnd (csnd B68))))))))))))))))))) (by kernel_rfl) ?_
                              refine RX.psn 4 [(97, (Value.int .i64 (IntKind.i64.wrap ((IntKind.i64.wrap (v12_21 + (x15.n : Int))) + 1)))), (96, (Value.int .i64 (IntKind.i64.wrap (v12_21 + (x15.n : Int))))), (95, (Value.int .i64 v12_21)), (94, (Sl3.v x16))] (by kernel_rfl) ?_
                              obtain ⟨s35, hx, h⟩ := bind_some h
                              refine RX.at (some 98) (Sl3.v s35) (by kernel_rfl) (by kernel_rfl) (fun ih => Abs.run_slice (t := 24) (e := 38) (x := .tmp 94) (lo := (some (.tmp 95))) (hi := (some (.tmp 97))) (mx := none) (s := x16) (k1 := .i64) (k2 := .i64) (k3 := .i64) (by kernel_rfl) (by kernel_rfl) (by kernel_rfl) (by kernel_rfl) (by kernel_rfl) (by kernel_rfl) (by kernel_rfl) hx) ?_
                              refine RX.psn 2 [(100, (Value.int .u64 x32)), (99, (Sl3.v x15))] (by kernel_rfl) ?_
                              obtain ⟨⟨x36, H37⟩, hx, h⟩ := bind_some h
                              dsimp only at h
                              refine RX.callAt (some 101) (v := (Value.bool x36)) 80 #[(Sl3.v s35), (Sl3.v x15), (Value.int .u64 x32)] (by kernel_rfl) (by kernel_rfl) (by kernel_rfl) (nat_less_ok hx) ?_
                              refine RX.done (by kernel_rfl) ?_
                              refine fun ss hs => (WX.nxt ?_ ss hs)
                              rcases ite_some h with ⟨hp, h⟩ | ⟨hp, h⟩
                              · refine WX.condT _ hp (by kernel_rfl) ?_
                                refine WX.seq (by kernel_rfl) ?_
                                refine WX.region (opsOf (cfst (cfst (csnd (cfst (csnd (csnd (cfst (cfst (csnd (cfst (cfst (csnd (cfst (csnd (csnd (csnd (csnd (csnd (csnd (csnd B68))))))))))))))))))))) (by kernel_rfl) ?_
                                refine RX.psn 3 [(14, (Value.int .u64 (IntKind.u64.wrap (x32 - 1)))), (103, (Value.int .u64 (IntKind.u64.wrap (x32 - 1)))), (102, (Value.int .u64 x32))] (by kernel_rfl) ?_
                                refine RX.done (by kernel_rfl) ?_
                                refine fun ss hs => (WX.nxt ?_ ss hs)
                                refine WX.region (opsOf (csnd (cfst (csnd (cfst (csnd (csnd (cfst (cfst (csnd (cfst (cfst (csnd (cfst (csnd (csnd (csnd (csnd (csnd (csnd (csnd B68))))))))))))))))))))) (by kernel_rfl) ?_
                                refine RX.psn 4 [(107, (Value.int .i64 (IntKind.i64.wrap ((IntKind.i64.wrap (v12_21 + (x15.n : Int))) + 1)))), (106, (Value.int .i64 (IntKind.i64.wrap (v12_21 + (x15.n : Int))))), (105, (Value.int .i64 v12_21)), (104, (Sl3.v x16))] (by kernel_rfl) ?_
                                obtain ⟨s38, hx, h⟩ := bind_some h
                                refine RX.at (some 108) (Sl3.v s38) (by kernel_rfl) (by kernel_rfl) (fun ih => Abs.run_slice (t := 24) (e := 38) (x := .tmp 104) (lo := (some (.tmp 105))) (hi := (some (.tmp 107))) (mx := none) (s := x16) (k1 := .i64) (k2 := .i64) (k3 := .i64) (by kernel_rfl) (by kernel_rfl) (by kernel_rfl) (by kernel_rfl) (by kernel_rfl) (by kernel_rfl) (by kernel_rfl) hx) ?_
                                refine RX.psn 1 [(109, (Sl3.v x15))] (by kernel_rfl) ?_
                                obtain ⟨H39, hx, h⟩ := bind_some h
                                refine RX.callAt (some 110) (v := (Value.tuple #[])) 81 #[(Sl3.v s38), (Sl3.v x15)] (by kernel_rfl) (by kernel_rfl) (by kernel_rfl) (nat_more_ok hx) ?_
                                refine RX.done (by kernel_rfl) ?_
                                cases h
                                exact fun ss hs => ⟨rfl, hs.sub ((SubK.cons (by kernel_rfl) (SubK.cons (by kernel_rfl) (SubK.cons (by kernel_rfl) (SubK.cons (by kernel_rfl) (SubK.cons (by kernel_rfl) (SubK.cons (by kernel_rfl) SubK.nil))))))), rfl⟩
                              · refine WX.condF _ (b_not hp) (by kernel_rfl) ?_
                                refine WX.skip (by kernel_rfl) ?_
                                cases h
                                exact fun ss hs => ⟨rfl, hs.sub ((SubK.cons (by kernel_rfl) (SubK.cons (by kernel_rfl) (SubK.cons (by kernel_rfl) (SubK.cons (by kernel_rfl) (SubK.cons (by kernel_rfl) (SubK.cons (by kernel_rfl) SubK.nil))))))), rfl⟩
                            · clear hx
                              refine WX.region (opsOf (csnd (csnd (csnd (cfst (cfst (csnd (cfst (cfst (csnd (cfst (csnd (csnd (csnd (csnd (csnd (csnd (csnd B68)))))))))))))))))) (by kernel_rfl) ?_
                              refine RX.psn 3 [(113, (Value.int .u64 v14_34)), (112, (Value.int .i64 v12_21)), (111, (Sl3.v s18))] (by kernel_rfl) ?_
                              obtain ⟨p40, hx, h⟩ := bind_some h
                              refine RX.at (some 114) (Value.pointer (some p40)) (by kernel_rfl) (by kernel_rfl) (fun ih => Abs.run_idx (s := s18) (k := .i64) (t := 24) (e := 38) (x := .tmp 111) (y := .tmp 112) (by kernel_rfl) (by kernel_rfl) (by kernel_rfl) (by kernel_rfl) (by kernel_rfl) hx) ?_
                              obtain ⟨H41, hx, h⟩ := bind_some h
                              refine RX.at none undef (by kernel_rfl) (by kernel_rfl) (fun ih => Abs.run_store1 (t := 38) (x := .tmp 114) (y := .tmp 113) (a := p40) (v := (Value.int .u64 v14_34)) (by kernel_rfl) (by kernel_rfl) (by kernel_rfl) (by kernel_rfl) (by kernel_rfl) hx) ?_
                              refine RX.done (by kernel_rfl) ?_
                              refine fun ss hs => blkN ((WX.nxt ?_ ss hs))
                              refine WX.region (opsOf (csnd (csnd (cfst (cfst (csnd (cfst (csnd (csnd (csnd (csnd (csnd (csnd (csnd B68)))))))))))))) (by kernel_rfl) ?_
                              refine RX.psn 3 [(12, (Value.int .i64 (IntKind.i64.wrap (v12_21 - 1)))), (62, (Value.int .i64 (IntKind.i64.wrap (v12_21 - 1)))), (61, (Value.int .i64 v12_21))] (by kernel_rfl) ?_
                              refine RX.done (by kernel_rfl) ?_
                              cases h
                              exact fun ss hs => lpN rfl (hs.sub ((SubK.cons (by kernel_rfl) (SubK.cons (by kernel_rfl) (SubK.cons (by kernel_rfl) (SubK.cons (by kernel_rfl) (SubK.cons (by kernel_rfl) SubK.nil)))))))
                          · cases h
                        · cases h
                      · cases h
                    · cases h
                  · cases h
                · cases h
              · cases h
            · cases h
          · cases h
        · cases h
      · cases h
    · cases h
  · refine WX.condF _ (decide_eq_false hp) (by kernel_rfl) ?_
    refine WX.exit 0 (by kernel_rfl) ?_
    cases h
    exact fun ss hs => seqE (lpB rfl (hs.sub ((SubK.cons (by kernel_rfl) (SubK.cons (by kernel_rfl) (SubK.cons (by kernel_rfl) (SubK.cons (by kernel_rfl) (SubK.cons (by kernel_rfl) SubK.nil))))))))

theorem nat_quo_ok {H : AH} {a0 : Sl3} {a1 : Sl3} {r : (Sl3 × Sl3 × AH)} (h : nat_quo H a0 a1 = some r) :
    CallE Try.prog 1000 4294967296 68 #[(Sl3.v a0), (Sl3.v a1)] H (nat_quo_enc r) (nat_quo_hp H r) := by
  refine CallE.mk (args := [(Sl3.v a0), (Sl3.v a1)]) Try.func68 (B := B68) (by kernel_rfl) ?_
  unfold nat_quo at h
  refine WX.seq (by kernel_rfl) ?_
  refine WX.region (opsOf (cfst B68)) (by kernel_rfl) ?_
  refine RX.psn 2 [(5, (Sl3.v Sl3.nil)), (4, (Sl3.v Sl3.nil))] (by kernel_rfl) ?_
  refine RX.done (by kernel_rfl) ?_
  refine fun ss hs => (WX.nxt ?_ ss hs)
  refine WX.seq (by kernel_rfl) ?_
  refine WX.seq (by kernel_rfl) ?_
  refine WX.region (opsOf (cfst (cfst (csnd B68)))) (by kernel_rfl) ?_
  refine RX.psn 2 [(16, (Sl3.v a1)), (15, (Sl3.v a0))] (by kernel_rfl) ?_
  obtain ⟨x1, hx, h⟩ := bind_some h
  refine RX.callAt (some 17) (v := (Value.int .i64 x1)) 26 #[(Sl3.v a0), (Sl3.v a1)] (by kernel_rfl) (by kernel_rfl) (by kernel_rfl) (nat_Cmp_ok hx) ?_
  refine RX.psn 1 [(18, (Value.bool (decide (x1 < 0))))] (by kernel_rfl) ?_
  refine RX.done (by kernel_rfl) ?_
  refine fun ss hs => (WX.nxt ?_ ss hs)
  rcases ite_some h with ⟨hp, h⟩ | ⟨hp, h⟩
  · refine WX.condT _ (decide_eq_true hp) (by kernel_rfl) ?_
    refine WX.seq (by kernel_rfl) ?_
    refine WX.region (opsOf (cfst (cfst (csnd (cfst (csnd B68)))))) (by kernel_rfl) ?_
    refine RX.psn 3 [(5, (Sl3.v a0)), (4, (Sl3.v Sl3.nil)), (19, (Sl3.v a0))] (by kernel_rfl) ?_
    refine RX.done (by kernel_rfl) ?_
    refine fun ss hs => (WX.nxt ?_ ss hs)
    refine WX.ret (by kernel_rfl) ?_
    cases h
    exact fun ss hs => seqR (retR (rq hs (by kernel_rfl)))
  · refine WX.condF _ (decide_eq_false hp) (by kernel_rfl) ?_
    refine WX.skip (by kernel_rfl) ?_
    refine fun ss hs => (WX.nxt ?_ ss hs)
    refine WX.seq (by kernel_rfl) ?_
    refine WX.seq (by kernel_rfl) ?_
    refine WX.region (opsOf (cfst (cfst (csnd (csnd B68))))) (by kernel_rfl) ?_
    refine RX.psn 3 [(22, (Value.bool (decide ((a1.n : Int) = 1)))), (21, (Value.int .i64 (a1.n : Int))), (20, (Sl3.v a1))] (by kernel_rfl) ?_
    refine RX.done (by kernel_rfl) ?_
    refine fun ss hs => (WX.nxt ?_ ss hs)
    rcases ite_some h with ⟨hp, h⟩ | ⟨hp, h⟩
    · refine WX.condT _ (decide_eq_true hp) (by kernel_rfl) ?_
      refine WX.seq (by kernel_rfl) ?_
      refine WX.region (opsOf (cfst (cfst (csnd (cfst (csnd (csnd B68))))))) (by kernel_rfl) ?_
      refine RX.psn 2 [(25, (Sl3.v a1)), (24, (Sl3.v a0))] (by kernel_rfl) ?_
      obtain ⟨p2, hx, h⟩ := bind_some h
      refine RX.at (some 26) (Value.pointer (some p2)) (by kernel_rfl) (by kernel_rfl) (fun ih => Abs.run_idx (s := a1) (k := .i64) (t := 24) (e := 38) (x := .tmp 25) (y := .const (Value.int .i64 0)) (by kernel_rfl) (by kernel_rfl) (by kernel_rfl) (by kernel_rfl) (by kernel_rfl) hx) ?_
      obtain ⟨x3, hx, h⟩ := bind_some h
      refine RX.at (some 27) (Value.int .u64 x3) (by kernel_rfl) (by kernel_rfl) (fun ih => Abs.run_load (t := 38) (x := .tmp 26) (a := p2) (by kernel_rfl) (by kernel_rfl) (by kernel_rfl) (rd_cell hx deI_inv)) ?_
      obtain ⟨⟨x4, x5, H6⟩, hx, h⟩ := bind_some h
      dsimp only at h
      refine RX.callAt (some 28) (v := (Value.tuple #[(Sl3.v x4), (Value.int .u64 x5)])) 53 #[(Sl3.v a0), (Value.int .u64 x3)] (by kernel_rfl) (by kernel_rfl) (by kernel_rfl) (nat_single_ok hx) ?_
      refine RX.psn 5 [(7, (Value.int .u64 x5)), (6, (Sl3.v x4)), (30, (Value.int .u64 x5)), (29, (Sl3.v x4)), (23, (Value.tuple #[(Sl3.v x4), (Value.int .u64 x5)]))] (by kernel_rfl) ?_
      refine RX.done (by kernel_rfl) ?_
      refine fun ss hs => (WX.nxt ?_ ss hs)
      refine WX.seq (by kernel_rfl) ?_
      refine WX.region (opsOf (cfst (csnd (cfst (csnd (cfst (csnd (csnd B68)))))))) (by kernel_rfl) ?_
      refine RX.psn 2 [(32, (Value.int .u64 x5)), (31, (Sl3.v x4))] (by kernel_rfl) ?_
      obtain ⟨⟨s7, H8⟩, hx, h⟩ := bind_some h
      dsimp only at h
      refine RX.at (some 33) (Sl3.v s7) (by kernel_rfl) (by kernel_rfl) (fun ih => Abs.run_newR (by kernel_rfl) (by kernel_rfl) hx) ?_
      obtain ⟨x9, hx, h⟩ := bind_some h
      refine RX.callAt (some 34) (v := (Sl3.v x9)) 44 #[(Sl3.v s7)] (by kernel_rfl) (by kernel_rfl) (by kernel_rfl) (nat_trim_ok hx) ?_
      refine RX.psn 2 [(5, (Sl3.v x9)), (4, (Sl3.v x4))] (by kernel_rfl) ?_
      refine RX.done (by kernel_rfl) ?_
      refine fun ss hs => (WX.nxt ?_ ss hs)
      refine WX.ret (by kernel_rfl) ?_
      cases h
      exact fun ss hs => seqR (retR (rq hs (by kernel_rfl)))
    · refine WX.condF _ (decide_eq_false hp) (by kernel_rfl) ?_
      refine WX.skip (by kernel_rfl) ?_
      refine fun ss hs => (WX.nxt ?_ ss hs)
      refine WX.seq (by kernel_rfl) ?_
      refine WX.region (opsOf (cfst (csnd (csnd (csnd B68))))) (by kernel_rfl) ?_
      refine RX.psn 4 [(38, (Value.int .i64 (IntKind.i64.wrap ((a1.n : Int) - 1)))), (37, (Value.int .i64 (a1.n : Int))), (36, (Sl3.v a1)), (35, (Sl3.v a1))] (by kernel_rfl) ?_
      obtain ⟨p10, hx, h⟩ := bind_some h
      refine RX.at (some 39) (Value.pointer (some p10)) (by kernel_rfl) (by kernel_rfl) (fun ih => Abs.run_idx (s := a1) (k := .i64) (t := 24) (e := 38) (x := .tmp 35) (y := .tmp 38) (by kernel_rfl) (by kernel_rfl) (by kernel_rfl) (by kernel_rfl) (by kernel_rfl) hx) ?_
      obtain ⟨x11, hx, h⟩ := bind_some h
      refine RX.at (some 40) (Value.int .u64 x11) (by kernel_rfl) (by kernel_rfl) (fun ih => Abs.run_load (t := 38) (x := .tmp 39) (a := p10) (by kernel_rfl) (by kernel_rfl) (by kernel_rfl) (rd_cell hx deI_inv)) ?_
      obtain ⟨x12, hx, h⟩ := bind_some h
      refine RX.callAt (some 41) (v := (Value.int .i64 x12)) 78 #[(Value.int .u64 x11)] (by kernel_rfl) (by kernel_rfl) (by kernel_rfl) (bits_LeadingZeros64_ok hx) ?_
      refine RX.psn 2 [(8, (Value.int .u64 (IntKind.u64.wrap x12))), (42, (Value.int .u64 (IntKind.u64.wrap x12)))] (by kernel_rfl) ?_
      refine RX.done (by kernel_rfl) ?_
      refine fun ss hs => (WX.nxt ?_ ss hs)
      refine WX.seq (by kernel_rfl) ?_
      refine WX.region (opsOf (cfst (csnd (csnd (csnd (csnd B68)))))) (by kernel_rfl) ?_
      refine RX.psn 2 [(44, (Value.int .u64 (IntKind.u64.wrap x12))), (43, (Sl3.v a1))] (by kernel_rfl) ?_
      obtain ⟨⟨x13, H14⟩, hx, h⟩ := bind_some h
      dsimp only at h
      refine RX.callAt (some 45) (v := (Sl3.v x13)) 63 #[(Sl3.v a1), (Value.int .u64 (IntKind.u64.wrap x12))] (by kernel_rfl) (by kernel_rfl) (by kernel_rfl) (nat_shl_ok hx) ?_
      obtain ⟨x15, hx, h⟩ := bind_some h
      refine RX.callAt (some 46) (v := (Sl3.v x15)) 44 #[(Sl3.v x13)] (by kernel_rfl) (by kernel_rfl) (by kernel_rfl) (nat_trim_ok hx) ?_
      refine RX.psn 1 [(9, (Sl3.v x15))] (by kernel_rfl) ?_
      refine RX.done (by kernel_rfl) ?_
      refine fun ss hs => (WX.nxt ?_ ss hs)
      refine WX.seq (by kernel_rfl) ?_
      refine WX.region (opsOf (cfst (csnd (csnd (csnd (csnd (csnd B68))))))) (by kernel_rfl) ?_
      refine RX.psn 2 [(48, (Value.int .u64 (IntKind.u64.wrap x12))), (47, (Sl3.v a0))] (by kernel_rfl) ?_
      obtain ⟨⟨x16, H17⟩, hx, h⟩ := bind_some h
      dsimp only at h
      refine RX.callAt (some 49) (v := (Sl3.v x16)) 63 #[(Sl3.v a0), (Value.int .u64 (IntKind.u64.wrap x12))] (by kernel_rfl) (by kernel_rfl) (by kernel_rfl) (nat_shl_ok hx) ?_
      refine RX.psn 1 [(10, (Sl3.v x16))] (by kernel_rfl) ?_
      refine RX.done (by kernel_rfl) ?_
      refine fun ss hs => (WX.nxt ?_ ss hs)
      refine WX.seq (by kernel_rfl) ?_
      refine WX.region (opsOf (cfst (csnd (csnd (csnd (csnd (csnd (csnd B68)))))))) (by kernel_rfl) ?_
      refine RX.psn 5 [(54, (Value.int .i64 (IntKind.i64.wrap ((x16.n : Int) - (x15.n : Int))))), (53, (Value.int .i64 (x15.n : Int))), (52, (Sl3.v x15)), (51, (Value.int .i64 (x16.n : Int))), (50, (Sl3.v x16))] (by kernel_rfl) ?_
      obtain ⟨⟨s18, H19⟩, hx, h⟩ := bind_some h
      dsimp only at h
      refine RX.at (some 55) (Sl3.v s18) (by kernel_rfl) (by kernel_rfl) (fun ih => Abs.run_mk (t := 24) (x := .tmp 54) (y := .tmp 54) (k1 := .i64) (k2 := .i64) (by kernel_rfl) (by kernel_rfl) (by kernel_rfl) (by kernel_rfl) hx) ?_
      refine RX.psn 1 [(11, (Sl3.v s18))] (by kernel_rfl) ?_
      refine RX.done (by kernel_rfl) ?_
      refine fun ss hs => (WX.nxt ?_ ss hs)
      refine WX.seq (by kernel_rfl) ?_
      refine WX.seq (by kernel_rfl) ?_
      refine WX.region (opsOf (cfst (cfst (csnd (csnd (csnd (csnd (csnd (csnd (csnd B68)))))))))) (by kernel_rfl) ?_
      refine RX.psn 4 [(12, (Value.int .i64 (IntKind.i64.wrap ((s18.n : Int) - 1)))), (58, (Value.int .i64 (IntKind.i64.wrap ((s18.n : Int) - 1)))), (57, (Value.int .i64 (s18.n : Int))), (56, (Sl3.v s18))] (by kernel_rfl) ?_
      refine RX.done (by kernel_rfl) ?_
      refine fun ss hs => (WX.nxt ?_ ss hs)
      refine WX.block 0 (by kernel_rfl) ?_
      obtain ⟨o, hl, h⟩ := bind_some h
      rcases o with ⟨H42, v12_43⟩ | r
      · dsimp only at h
        refine WX.loopI (by kernel_rfl) (nat_quo_b0 x12 x15 x16 s18) (nat_quo_b0_kn x12 x15 x16 s18) (fun s => s.1) 0 (fun r => RQ Try.f68 (nat_quo_enc r) (nat_quo_hp ⟨0, .nil⟩ r)) nat_quo_b0_ok hl ((SubK.cons (by kernel_rfl) (SubK.cons (by kernel_rfl) (SubK.cons (by kernel_rfl) (SubK.cons (by kernel_rfl) (SubK.cons (by kernel_rfl) SubK.nil)))))) rfl ?_
        clear hl
        refine fun ss hs => blkE ((WX.nxt ?_ ss hs))
        refine WX.seq (by kernel_rfl) ?_
        refine WX.region (opsOf (cfst (csnd (csnd (csnd (csnd (csnd (csnd (csnd (csnd B68)))))))))) (by kernel_rfl) ?_
        refine RX.psn 1 [(115, (Sl3.v s18))] (by kernel_rfl) ?_
        obtain ⟨x44, hx, h⟩ := bind_some h
        refine RX.callAt (some 116) (v := (Sl3.v x44)) 44 #[(Sl3.v s18)] (by kernel_rfl) (by kernel_rfl) (by kernel_rfl) (nat_trim_ok hx) ?_
        refine RX.psn 1 [(117, (Sl3.v x16))] (by kernel_rfl) ?_
        obtain ⟨x45, hx, h⟩ := bind_some h
        refine RX.callAt (some 118) (v := (Sl3.v x45)) 44 #[(Sl3.v x16)] (by kernel_rfl) (by kernel_rfl) (by kernel_rfl) (nat_trim_ok hx) ?_
        refine RX.psn 1 [(119, (Value.int .u64 (IntKind.u64.wrap x12)))] (by kernel_rfl) ?_
        obtain ⟨⟨x46, H47⟩, hx, h⟩ := bind_some h
        dsimp only at h
        refine RX.callAt (some 120) (v := (Sl3.v x46)) 64 #[(Sl3.v x45), (Value.int .u64 (IntKind.u64.wrap x12))] (by kernel_rfl) (by kernel_rfl) (by kernel_rfl) (nat_shr_ok hx) ?_
        refine RX.psn 2 [(5, (Sl3.v x46)), (4, (Sl3.v x44))] (by kernel_rfl) ?_
        refine RX.done (by kernel_rfl) ?_
        refine fun ss hs => (WX.nxt ?_ ss hs)
        refine WX.ret (by kernel_rfl) ?_
        cases h
        exact fun ss hs => retR (rq hs (by kernel_rfl))
      · dsimp only at h
        refine WX.loopR (by kernel_rfl) (nat_quo_b0 x12 x15 x16 s18) (nat_quo_b0_kn x12 x15 x16 s18) (fun s => s.1) 0 (fun r => RQ Try.f68 (nat_quo_enc r) (nat_quo_hp ⟨0, .nil⟩ r)) nat_quo_b0_ok hl ((SubK.cons (by kernel_rfl) (SubK.cons (by kernel_rfl) (SubK.cons (by kernel_rfl) (SubK.cons (by kernel_rfl) (SubK.cons (by kernel_rfl) SubK.nil)))))) rfl ?_
        cases h
        exact fun ss H hq => blkR (seqR (retR hq))

noncomputable def B38 : Code := (Try.f38.body).getD .skip

def nat_Quo_enc : (Sl3 × Sl3 × Int × AH) → Value
  | (r0, r1, r2, _) => (Value.tuple #[(Sl3.v r0), (Sl3.v r1), (Value.int .i64 r2)])

def nat_Quo_hp (_ : AH) : (Sl3 × Sl3 × Int × AH) → AH := fun r => r.2.2.2

noncomputable def nat_Quo (H : AH) (a0 : Sl3) (a1 : Sl3) : Option (Sl3 × Sl3 × Int × AH) :=
  Option.bind (newR 24 2 #[(Sl3.v a0), (Sl3.v a1)] H) fun (s1, H2) =>
  Option.bind (nat_long H2 s1) fun x3 =>
  if x3 = true then
    some (Sl3.nil, Sl3.nil, 5, H2)
  else
    Option.bind (nat_trim H2 a1) fun x4 =>
    if (x4.n : Int) = 0 then
      some (Sl3.nil, Sl3.nil, 11, H2)
    else
      Option.bind (nat_trim H2 a0) fun x5 =>
      Option.bind (nat_trim H2 a1) fun x6 =>
      Option.bind (nat_quo H2 x5 x6) fun (x7, x8, H9) =>
      Option.bind (nat_own H9 x7) fun (x10, H11) =>
      Option.bind (nat_own H11 x8) fun (x12, H13) =>
      some (x10, x12, 0, H13)

theorem nat_Quo_ok {H : AH} {a0 : Sl3} {a1 : Sl3} {r : (Sl3 × Sl3 × Int × AH)} (h : nat_Quo H a0 a1 = some r) :
    CallE Try.prog 1000 4294967296 38 #[(Sl3.v a0), (Sl3.v a1)] H (nat_Quo_enc r) (nat_Quo_hp H r) := by
  refine CallE.mk (args := [(Sl3.v a0), (Sl3.v a1)]) Try.func38 (B := B38) (by kernel_rfl) ?_
  unfold nat_Quo at h
  refine WX.seq (by kernel_rfl) ?_
  refine WX.region (opsOf (cfst B38)) (by kernel_rfl) ?_
  refine RX.psn 3 [(6, (Value.int .i64 0)), (5, (Sl3.v Sl3.nil)), (4, (Sl3.v Sl3.nil))] (by kernel_rfl) ?_
  refine RX.done (by kernel_rfl) ?_
  refine fun ss hs => (WX.nxt ?_ ss hs)
  refine WX.seq (by kernel_rfl) ?_
  refine WX.seq (by kernel_rfl) ?_
  refine WX.region (opsOf (cfst (cfst (csnd B38)))) (by kernel_rfl) ?_
  refine RX.psn 2 [(10, (Sl3.v a1)), (9, (Sl3.v a0))] (by kernel_rfl) ?_
  obtain ⟨⟨s1, H2⟩, hx, h⟩ := bind_some h
  dsimp only at h
  refine RX.at (some 11) (Sl3.v s1) (by kernel_rfl) (by kernel_rfl) (fun ih => Abs.run_newR (by kernel_rfl) (by kernel_rfl) hx) ?_
  obtain ⟨x3, hx, h⟩ := bind_some h
  refine RX.callAt (some 12) (v := (Value.bool x3)) 41 #[(Sl3.v s1)] (by kernel_rfl) (by kernel_rfl) (by kernel_rfl) (nat_long_ok hx) ?_
  refine RX.done (by kernel_rfl) ?_
  refine fun ss hs => (WX.nxt ?_ ss hs)
  rcases ite_some h with ⟨hp, h⟩ | ⟨hp, h⟩
  · refine WX.condT _ hp (by kernel_rfl) ?_
    refine WX.seq (by kernel_rfl) ?_
    refine WX.region (opsOf (cfst (cfst (csnd (cfst (csnd B38)))))) (by kernel_rfl) ?_
    refine RX.psn 3 [(6, (Value.int .i64 5)), (5, (Sl3.v Sl3.nil)), (4, (Sl3.v Sl3.nil))] (by kernel_rfl) ?_
    refine RX.done (by kernel_rfl) ?_
    refine fun ss hs => (WX.nxt ?_ ss hs)
    refine WX.ret (by kernel_rfl) ?_
    cases h
    exact fun ss hs => seqR (retR (rq hs (by kernel_rfl)))
  · refine WX.condF _ (b_not hp) (by kernel_rfl) ?_
    refine WX.skip (by kernel_rfl) ?_
    refine fun ss hs => (WX.nxt ?_ ss hs)
    refine WX.seq (by kernel_rfl) ?_
    refine WX.seq (by kernel_rfl) ?_
    refine WX.region (opsOf (cfst (cfst (csnd (csnd B38))))) (by kernel_rfl) ?_
    refine RX.psn 1 [(13, (Sl3.v a1))] (by kernel_rfl) ?_
    obtain ⟨x4, hx, h⟩ := bind_some h
    refine RX.callAt (some 14) (v := (Sl3.v x4)) 44 #[(Sl3.v a1)] (by kernel_rfl) (by kernel_rfl) (by kernel_rfl) (nat_trim_ok hx) ?_
    refine RX.psn 2 [(16, (Value.bool (decide ((x4.n : Int) = 0)))), (15, (Value.int .i64 (x4.n : Int)))] (by kernel_rfl) ?_
    refine RX.done (by kernel_rfl) ?_
    refine fun ss hs => (WX.nxt ?_ ss hs)
    rcases ite_some h with ⟨hp, h⟩ | ⟨hp, h⟩
    · refine WX.condT _ (decide_eq_true hp) (by kernel_rfl) ?_
      refine WX.seq (by kernel_rfl) ?_
      refine WX.region (opsOf (cfst (cfst (csnd (cfst (csnd (csnd B38))))))) (by kernel_rfl) ?_
      refine RX.psn 3 [(6, (Value.int .i64 11)), (5, (Sl3.v Sl3.nil)), (4, (Sl3.v Sl3.nil))] (by kernel_rfl) ?_
      refine RX.done (by kernel_rfl) ?_
      refine fun ss hs => (WX.nxt ?_ ss hs)
      refine WX.ret (by kernel_rfl) ?_
      cases h
      exact fun ss hs => seqR (retR (rq hs (by kernel_rfl)))
    · refine WX.condF _ (decide_eq_false hp) (by kernel_rfl) ?_
      refine WX.skip (by kernel_rfl) ?_
      refine fun ss hs => (WX.nxt ?_ ss hs)
      refine WX.seq (by kernel_rfl) ?_
      refine WX.region (opsOf (cfst (csnd (csnd (csnd B38))))) (by kernel_rfl) ?_
      refine RX.psn 1 [(18, (Sl3.v a0))] (by kernel_rfl) ?_
      obtain ⟨x5, hx, h⟩ := bind_some h
      refine RX.callAt (some 19) (v := (Sl3.v x5)) 44 #[(Sl3.v a0)] (by kernel_rfl) (by kernel_rfl) (by kernel_rfl) (nat_trim_ok hx) ?_
      refine RX.psn 1 [(20, (Sl3.v a1))] (by kernel_rfl) ?_
      obtain ⟨x6, hx, h⟩ := bind_some h
      refine RX.callAt (some 21) (v := (Sl3.v x6)) 44 #[(Sl3.v a1)] (by kernel_rfl) (by kernel_rfl) (by kernel_rfl) (nat_trim_ok hx) ?_
      obtain ⟨⟨x7, x8, H9⟩, hx, h⟩ := bind_some h
      dsimp only at h
      refine RX.callAt (some 22) (v := (Value.tuple #[(Sl3.v x7), (Sl3.v x8)])) 68 #[(Sl3.v x5), (Sl3.v x6)] (by kernel_rfl) (by kernel_rfl) (by kernel_rfl) (nat_quo_ok hx) ?_
      refine RX.psn 5 [(8, (Sl3.v x8)), (7, (Sl3.v x7)), (24, (Sl3.v x8)), (23, (Sl3.v x7)), (17, (Value.tuple #[(Sl3.v x7), (Sl3.v x8)]))] (by kernel_rfl) ?_
      refine RX.done (by kernel_rfl) ?_
      refine fun ss hs => (WX.nxt ?_ ss hs)
      refine WX.seq (by kernel_rfl) ?_
      refine WX.region (opsOf (cfst (csnd (csnd (csnd (csnd B38)))))) (by kernel_rfl) ?_
      refine RX.psn 1 [(25, (Sl3.v x7))] (by kernel_rfl) ?_
      obtain ⟨⟨x10, H11⟩, hx, h⟩ := bind_some h
      dsimp only at h
      refine RX.callAt (some 26) (v := (Sl3.v x10)) 52 #[(Sl3.v x7)] (by kernel_rfl) (by kernel_rfl) (by kernel_rfl) (nat_own_ok hx) ?_
      refine RX.psn 1 [(27, (Sl3.v x8))] (by kernel_rfl) ?_
      obtain ⟨⟨x12, H13⟩, hx, h⟩ := bind_some h
      dsimp only at h
      refine RX.callAt (some 28) (v := (Sl3.v x12)) 52 #[(Sl3.v x8)] (by kernel_rfl) (by kernel_rfl) (by kernel_rfl) (nat_own_ok hx) ?_
      refine RX.psn 3 [(6, (Value.int .i64 0)), (5, (Sl3.v x12)), (4, (Sl3.v x10))] (by kernel_rfl) ?_
      refine RX.done (by kernel_rfl) ?_
      refine fun ss hs => (WX.nxt ?_ ss hs)
      refine WX.ret (by kernel_rfl) ?_
      cases h
      exact fun ss hs => retR (rq hs (by kernel_rfl))

end Go.Proofs.Ytoadagekdnkciaa

namespace Go.Proofs.Ytoadagekdnkciaa
open Go Go.Abs
set_option maxRecDepth 100000

noncomputable def B66 : Code := (Try.f66.body).getD .skip

def nat_sub_enc : (Sl3 × AH) → Value
  | (r0, _) => (Sl3.v r0)

def nat_sub_hp (_ : AH) : (Sl3 × AH) → AH := fun r => r.2

noncomputable def nat_sub_b0 (a0 : Sl3) (a1 : Sl3) : (AH × Sl3 × Int × Int) → Option (Lp (AH × Sl3 × Int × Int) (Sl3 × AH)) := fun (H3, v5_4, v6_5, v16_6) =>
  if v16_6 < (a0.n : Int) then
    Option.bind (idxA 1 a0 v16_6) fun p7 =>
    Option.bind (rd (deI .u64) H3 p7) fun x8 =>
    Option.bind (α := Int) (
      if v16_6 < (a1.n : Int) then
        Option.bind (idxA 1 a1 v16_6) fun p10 =>
        Option.bind (rd (deI .u64) H3 p10) fun x11 =>
        some x11
      else
        some 0) fun v9_9 =>
    Option.bind (sub64 x8 v9_9 v6_5) fun (x12, x13) =>
    Option.bind (newR 38 1 #[(Value.int .u64 x12)] H3) fun (s14, H15) =>
    Option.bind (appS 4294967296 38 1 8 H15 v5_4 s14) fun (s16, H17) =>
    some (.next (H17, s16, x13, (IntKind.i64.wrap (v16_6 + 1))))
  else
    some (.brk (H3, v5_4, v6_5, v16_6))

def nat_sub_b0_kn (a0 : Sl3) (a1 : Sl3) : (AH × Sl3 × Int × Int) → Kn := fun (H3, v5_4, v6_5, v16_6) => [(5, (Sl3.v v5_4)), (6, (Value.int .u64 v6_5)), (16, (Value.int .i64 v16_6)), (1, (Sl3.v a1)), (14, (Sl3.v a0)), (15, (Value.int .i64 (a0.n : Int)))]

noncomputable def nat_sub (H : AH) (a0 : Sl3) (a1 : Sl3) : Option (Sl3 × AH) :=
  Option.bind (mkS 38 1 8 #[(Value.int .u64 0)] H 0 (a0.n : Int)) fun (s1, H2) =>
  Option.bind (loopO (nat_sub_b0 a0 a1) (H2, s1, 0, 0)) fun o => match o with
  | .inl (H18, v5_19, v6_20, v16_21) =>
    Option.bind (nat_trim H18 v5_19) fun x22 =>
    some (x22, H18)
  | .inr r => some r

theorem nat_sub_b0_ok {a0 : Sl3} {a1 : Sl3} : ∀ s o, nat_sub_b0 a0 a1 s = some o →
    WX Try.prog 1000 4294967296 Try.f66.ntmps (cfst (cfst (csnd (cfst (csnd (csnd (csnd B66))))))) (nat_sub_b0_kn a0 a1 s) ((fun s => s.1) s) (lpQ (nat_sub_b0_kn a0 a1) (fun s => s.1) 0 (fun r => RQ Try.f66 (nat_sub_enc r) (nat_sub_hp ⟨0, .nil⟩ r)) o) := by
  rintro ⟨H3, v5_4, v6_5, v16_6⟩ o h
  unfold nat_sub_b0 at h
  try dsimp only at h
  refine WX.seq (by kernel_rfl) ?_
  refine WX.region (opsOf (cfst (cfst (cfst (csnd (cfst (csnd (csnd (csnd B66))))))))) (by kernel_rfl) ?_
  refine RX.psn 1 [(17, (Value.bool (decide (v16_6 < (a0.n : Int)))))] (by kernel_rfl) ?_
  refine RX.done (by kernel_rfl) ?_
  refine fun ss hs => (WX.nxt ?_ ss hs)
  refine WX.seq (by kernel_rfl) ?_
  rcases ite_some h with ⟨hp, h⟩ | ⟨hp, h⟩
  · refine WX.condT _ (decide_eq_true hp) (by kernel_rfl) ?_
    refine WX.skip (by kernel_rfl) ?_
    refine fun ss hs => (WX.nxt ?_ ss hs)
    refine WX.seq (by kernel_rfl) ?_
    refine WX.block 1 (by kernel_rfl) ?_
    refine WX.seq (by kernel_rfl) ?_
    refine WX.region (opsOf (cfst (cfst (cfst (csnd (csnd (cfst (cfst (csnd (cfst (csnd (csnd (csnd B66))))))))))))) (by kernel_rfl) ?_
    refine RX.psn 1 [(18, (Value.int .i64 v16_6))] (by kernel_rfl) ?_
    obtain ⟨p7, hx, h⟩ := bind_some h
    refine RX.at (some 19) (Value.pointer (some p7)) (by kernel_rfl) (by kernel_rfl) (fun ih => Abs.run_idx (s := a0) (k := .i64) (t := 24) (e := 38) (x := .tmp 14) (y := .tmp 16) (by kernel_rfl) (by kernel_rfl) (by kernel_rfl) (by kernel_rfl) (by kernel_rfl) hx) ?_
    obtain ⟨x8, hx, h⟩ := bind_some h
    refine RX.at (some 20) (Value.int .u64 x8) (by kernel_rfl) (by kernel_rfl) (fun ih => Abs.run_load (t := 38) (x := .tmp 19) (a := p7) (by kernel_rfl) (by kernel_rfl) (by kernel_rfl) (rd_cell hx deI_inv)) ?_
    refine RX.psn 2 [(8, (Value.int .u64 x8)), (7, (Value.int .i64 v16_6))] (by kernel_rfl) ?_
    refine RX.done (by kernel_rfl) ?_
    refine fun ss hs => (WX.nxt ?_ ss hs)
    refine WX.seq (by kernel_rfl) ?_
    refine WX.region (opsOf (cfst (csnd (cfst (cfst (csnd (csnd (cfst (cfst (csnd (cfst (csnd (csnd (csnd B66)))))))))))))) (by kernel_rfl) ?_
    refine RX.psn 1 [(9, (Value.int .u64 0))] (by kernel_rfl) ?_
    refine RX.done (by kernel_rfl) ?_
    refine fun ss hs => (WX.nxt ?_ ss hs)
    obtain ⟨v9_9, hx, h⟩ := bind_some h
    refine WX.seq (by kernel_rfl) ?_
    refine WX.join ([(9, (Value.int .u64 v9_9)), (1, (Sl3.v a1)), (5, (Sl3.v v5_4)), (6, (Value.int .u64 v6_5)), (8, (Value.int .u64 x8)), (14, (Sl3.v a0)), (15, (Value.int .i64 (a0.n : Int))), (16, (Value.int .i64 v16_6))]) H3 ?_ (fun ss hs => WX.nxt ?_ ss hs)
    · clear h; rename _ => h
      refine WX.seq (by kernel_rfl) ?_
      refine WX.region (opsOf (cfst (cfst (csnd (csnd (cfst (cfst (csnd (csnd (cfst (cfst (csnd (cfst (csnd (csnd (csnd B66)))))))))))))))) (by kernel_rfl) ?_
      refine RX.psn 4 [(24, (Value.bool (decide (v16_6 < (a1.n : Int))))), (23, (Value.int .i64 (a1.n : Int))), (22, (Sl3.v a1)), (21, (Value.int .i64 v16_6))] (by kernel_rfl) ?_
      refine RX.done (by kernel_rfl) ?_
      refine fun ss hs => (WX.nxt ?_ ss hs)
      rcases ite_some h with ⟨hp, h⟩ | ⟨hp, h⟩
      · refine WX.condT _ (decide_eq_true hp) (by kernel_rfl) ?_
        refine WX.region (opsOf (cfst (csnd (cfst (csnd (csnd (cfst (cfst (csnd (csnd (cfst (cfst (csnd (cfst (csnd (csnd (csnd B66))))))))))))))))) (by kernel_rfl) ?_
        refine RX.psn 2 [(26, (Value.int .i64 v16_6)), (25, (Sl3.v a1))] (by kernel_rfl) ?_
        obtain ⟨p10, hx, h⟩ := bind_some h
        refine RX.at (some 27) (Value.pointer (some p10)) (by kernel_rfl) (by kernel_rfl) (fun ih => Abs.run_idx (s := a1) (k := .i64) (t := 24) (e := 38) (x := .tmp 25) (y := .tmp 26) (by kernel_rfl) (by kernel_rfl) (by kernel_rfl) (by kernel_rfl) (by kernel_rfl) hx) ?_
        obtain ⟨x11, hx, h⟩ := bind_some h
        refine RX.at (some 28) (Value.int .u64 x11) (by kernel_rfl) (by kernel_rfl) (fun ih => Abs.run_load (t := 38) (x := .tmp 27) (a := p10) (by kernel_rfl) (by kernel_rfl) (by kernel_rfl) (rd_cell hx deI_inv)) ?_
        refine RX.psn 1 [(9, (Value.int .u64 x11))] (by kernel_rfl) ?_
        refine RX.done (by kernel_rfl) ?_
        cases h
        exact fun ss hs => ⟨rfl, hs.sub ((SubK.cons (by kernel_rfl) (SubK.cons (by kernel_rfl) (SubK.cons (by kernel_rfl) (SubK.cons (by kernel_rfl) (SubK.cons (by kernel_rfl) (SubK.cons (by kernel_rfl) (SubK.cons (by kernel_rfl) (SubK.cons (by kernel_rfl) SubK.nil))))))))), rfl⟩
      · refine WX.condF _ (decide_eq_false hp) (by kernel_rfl) ?_
        refine WX.skip (by kernel_rfl) ?_
        cases h
        exact fun ss hs => ⟨rfl, hs.sub ((SubK.cons (by kernel_rfl) (SubK.cons (by kernel_rfl) (SubK.cons (by kernel_rfl) (SubK.cons (by kernel_rfl) (SubK.cons (by kernel_rfl) (SubK.cons (by kernel_rfl) (SubK.cons (by kernel_rfl) (SubK.cons (by kernel_rfl) SubK.nil))))))))), rfl⟩
    · clear hx
      refine WX.seq (by kernel_rfl) ?_
      refine WX.region (opsOf (cfst (csnd (csnd (csnd (cfst (cfst (csnd (csnd (cfst (cfst (csnd (cfst (csnd (csnd (csnd B66)))))))))))))))) (by kernel_rfl) ?_
      refine RX.psn 1 [(10, (Value.int .u64 0))] (by kernel_rfl) ?_
      refine RX.done (by kernel_rfl) ?_
      refine fun ss hs => (WX.nxt ?_ ss hs)
      refine WX.seq (by kernel_rfl) ?_
      refine WX.region (opsOf (cfst (csnd (csnd (csnd (csnd (cfst (cfst (csnd (csnd (cfst (cfst (csnd (cfst (csnd (csnd (csnd B66))))))))))))))))) (by kernel_rfl) ?_
      refine RX.psn 3 [(32, (Value.int .u64 v6_5)), (31, (Value.int .u64 v9_9)), (30, (Value.int .u64 x8))] (by kernel_rfl) ?_
      obtain ⟨⟨x12, x13⟩, hx, h⟩ := bind_some h
      dsimp only at h
      refine RX.callAt (some 33) (v := (Value.tuple #[(Value.int .u64 x12), (Value.int .u64 x13)])) 77 #[(Value.int .u64 x8), (Value.int .u64 v9_9), (Value.int .u64 v6_5)] (by kernel_rfl) (by kernel_rfl) (by kernel_rfl) (ext77_ok hx) ?_
      refine RX.psn 5 [(6, (Value.int .u64 x13)), (10, (Value.int .u64 x12)), (35, (Value.int .u64 x13)), (34, (Value.int .u64 x12)), (29, (Value.tuple #[(Value.int .u64 x12), (Value.int .u64 x13)]))] (by kernel_rfl) ?_
      refine RX.done (by kernel_rfl) ?_
      refine fun ss hs => (WX.nxt ?_ ss hs)
      refine WX.region (opsOf (csnd (csnd (csnd (csnd (csnd (cfst (cfst (csnd (csnd (cfst (cfst (csnd (cfst (csnd (csnd (csnd B66))))))))))))))))) (by kernel_rfl) ?_
      refine RX.psn 2 [(37, (Value.int .u64 x12)), (36, (Sl3.v v5_4))] (by kernel_rfl) ?_
      obtain ⟨⟨s14, H15⟩, hx, h⟩ := bind_some h
      dsimp only at h
      refine RX.at (some 38) (Sl3.v s14) (by kernel_rfl) (by kernel_rfl) (fun ih => Abs.run_newR (by kernel_rfl) (by kernel_rfl) hx) ?_
      obtain ⟨⟨s16, H17⟩, hx, h⟩ := bind_some h
      dsimp only at h
      refine RX.at (some 39) (Sl3.v s16) (by kernel_rfl) (by kernel_rfl) (fun ih => Abs.run_app (x := .tmp 36) (y := .tmp 38) (ts := #[24, 24]) (s := v5_4) (z := s14) (by kernel_rfl) (by kernel_rfl) (by kernel_rfl) (by kernel_rfl) hx) ?_
      refine RX.psn 1 [(5, (Sl3.v s16))] (by kernel_rfl) ?_
      refine RX.done (by kernel_rfl) ?_
      refine fun ss hs => blkN ((WX.nxt ?_ ss hs))
      refine WX.region (opsOf (csnd (csnd (csnd (cfst (cfst (csnd (cfst (csnd (csnd (csnd B66))))))))))) (by kernel_rfl) ?_
      refine RX.psn 2 [(16, (Value.int .i64 (IntKind.i64.wrap (v16_6 + 1)))), (40, (Value.int .i64 (IntKind.i64.wrap (v16_6 + 1))))] (by kernel_rfl) ?_
      refine RX.done (by kernel_rfl) ?_
      cases h
      exact fun ss hs => lpN rfl (hs.sub ((SubK.cons (by kernel_rfl) (SubK.cons (by kernel_rfl) (SubK.cons (by kernel_rfl) (SubK.cons (by kernel_rfl) (SubK.cons (by kernel_rfl) (SubK.cons (by kernel_rfl) SubK.nil))))))))
  · refine WX.condF _ (decide_eq_false hp) (by kernel_rfl) ?_
    refine WX.exit 0 (by kernel_rfl) ?_
    cases h
    exact fun ss hs => seqE (lpB rfl (hs.sub ((SubK.cons (by kernel_rfl) (SubK.cons (by kernel_rfl) (SubK.cons (by kernel_rfl) (SubK.cons (by kernel_rfl) (SubK.cons (by kernel_rfl) (SubK.cons (by kernel_rfl) SubK.nil)))))))))

theorem nat_sub_ok {H : AH} {a0 : Sl3} {a1 : Sl3} {r : (Sl3 × AH)} (h : nat_sub H a0 a1 = some r) :
    CallE Try.prog 1000 4294967296 66 #[(Sl3.v a0), (Sl3.v a1)] H (nat_sub_enc r) (nat_sub_hp H r) := by
  refine CallE.mk (args := [(Sl3.v a0), (Sl3.v a1)]) Try.func66 (B := B66) (by kernel_rfl) ?_
  unfold nat_sub at h
  refine WX.seq (by kernel_rfl) ?_
  refine WX.region (opsOf (cfst B66)) (by kernel_rfl) ?_
  refine RX.psn 1 [(4, (Sl3.v Sl3.nil))] (by kernel_rfl) ?_
  refine RX.done (by kernel_rfl) ?_
  refine fun ss hs => (WX.nxt ?_ ss hs)
  refine WX.seq (by kernel_rfl) ?_
  refine WX.region (opsOf (cfst (csnd B66))) (by kernel_rfl) ?_
  refine RX.psn 2 [(12, (Value.int .i64 (a0.n : Int))), (11, (Sl3.v a0))] (by kernel_rfl) ?_
  obtain ⟨⟨s1, H2⟩, hx, h⟩ := bind_some h
  dsimp only at h
  refine RX.at (some 13) (Sl3.v s1) (by kernel_rfl) (by kernel_rfl) (fun ih => Abs.run_mk (t := 24) (x := .const (Value.int .i64 0)) (y := .tmp 12) (k1 := .i64) (k2 := .i64) (by kernel_rfl) (by kernel_rfl) (by kernel_rfl) (by kernel_rfl) hx) ?_
  refine RX.psn 1 [(5, (Sl3.v s1))] (by kernel_rfl) ?_
  refine RX.done (by kernel_rfl) ?_
  refine fun ss hs => (WX.nxt ?_ ss hs)
  refine WX.seq (by kernel_rfl) ?_
  refine WX.region (opsOf (cfst (csnd (csnd B66)))) (by kernel_rfl) ?_
  refine RX.psn 1 [(6, (Value.int .u64 0))] (by kernel_rfl) ?_
  refine RX.done (by kernel_rfl) ?_
  refine fun ss hs => (WX.nxt ?_ ss hs)
  refine WX.seq (by kernel_rfl) ?_
  refine WX.seq (by kernel_rfl) ?_
  refine WX.region (opsOf (cfst (cfst (csnd (csnd (csnd B66)))))) (by kernel_rfl) ?_
  refine RX.psn 3 [(16, (Value.int .i64 0)), (15, (Value.int .i64 (a0.n : Int))), (14, (Sl3.v a0))] (by kernel_rfl) ?_
  refine RX.done (by kernel_rfl) ?_
  refine fun ss hs => (WX.nxt ?_ ss hs)
  refine WX.block 0 (by kernel_rfl) ?_
  obtain ⟨o, hl, h⟩ := bind_some h
  rcases o with ⟨H18, v5_19, v6_20, v16_21⟩ | r
  · dsimp only at h
    refine WX.loopI (by kernel_rfl) (nat_sub_b0 a0 a1) (nat_sub_b0_kn a0 a1) (fun s => s.1) 0 (fun r => RQ Try.f66 (nat_sub_enc r) (nat_sub_hp ⟨0, .nil⟩ r)) nat_sub_b0_ok hl ((SubK.cons (by kernel_rfl) (SubK.cons (by kernel_rfl) (SubK.cons (by kernel_rfl) (SubK.cons (by kernel_rfl) (SubK.cons (by kernel_rfl) (SubK.cons (by kernel_rfl) SubK.nil))))))) rfl ?_
    clear hl
    refine fun ss hs => blkE ((WX.nxt ?_ ss hs))
    refine WX.seq (by kernel_rfl) ?_
    refine WX.region (opsOf (cfst (csnd (csnd (csnd (csnd B66)))))) (by kernel_rfl) ?_
    refine RX.psn 1 [(41, (Sl3.v v5_19))] (by kernel_rfl) ?_
    obtain ⟨x22, hx, h⟩ := bind_some h
    refine RX.callAt (some 42) (v := (Sl3.v x22)) 44 #[(Sl3.v v5_19)] (by kernel_rfl) (by kernel_rfl) (by kernel_rfl) (nat_trim_ok hx) ?_
    refine RX.psn 1 [(4, (Sl3.v x22))] (by kernel_rfl) ?_
    refine RX.done (by kernel_rfl) ?_
    refine fun ss hs => (WX.nxt ?_ ss hs)
    refine WX.ret (by kernel_rfl) ?_
    cases h
    exact fun ss hs => retR (rq hs (by kernel_rfl))
  · dsimp only at h
    refine WX.loopR (by kernel_rfl) (nat_sub_b0 a0 a1) (nat_sub_b0_kn a0 a1) (fun s => s.1) 0 (fun r => RQ Try.f66 (nat_sub_enc r) (nat_sub_hp ⟨0, .nil⟩ r)) nat_sub_b0_ok hl ((SubK.cons (by kernel_rfl) (SubK.cons (by kernel_rfl) (SubK.cons (by kernel_rfl) (SubK.cons (by kernel_rfl) (SubK.cons (by kernel_rfl) (SubK.cons (by kernel_rfl) SubK.nil))))))) rfl ?_
    cases h
    exact fun ss H hq => blkR (seqR (retR hq))

noncomputable def B36 : Code := (Try.f36.body).getD .skip

def nat_Sub_enc : (Sl3 × Int × AH) → Value
  | (r0, r1, _) => (Value.tuple #[(Sl3.v r0), (Value.int .i64 r1)])

def nat_Sub_hp (_ : AH) : (Sl3 × Int × AH) → AH := fun r => r.2.2

noncomputable def nat_Sub (H : AH) (a0 : Sl3) (a1 : Sl3) : Option (Sl3 × Int × AH) :=
  Option.bind (newR 24 2 #[(Sl3.v a0), (Sl3.v a1)] H) fun (s1, H2) =>
  Option.bind (nat_long H2 s1) fun x3 =>
  if x3 = true then
    some (Sl3.nil, 5, H2)
  else
    Option.bind (nat_Cmp H2 a0 a1) fun x4 =>
    if x4 < 0 then
      some (Sl3.nil, 10, H2)
    else
      Option.bind (nat_trim H2 a0) fun x5 =>
      Option.bind (nat_trim H2 a1) fun x6 =>
      Option.bind (nat_sub H2 x5 x6) fun (x7, H8) =>
      Option.bind (nat_own H8 x7) fun (x9, H10) =>
      some (x9, 0, H10)

theorem nat_Sub_ok {H : AH} {a0 : Sl3} {a1 : Sl3} {r : (Sl3 × Int × AH)} (h : nat_Sub H a0 a1 = some r) :
    CallE Try.prog 1000 4294967296 36 #[(Sl3.v a0), (Sl3.v a1)] H (nat_Sub_enc r) (nat_Sub_hp H r) := by
  refine CallE.mk (args := [(Sl3.v a0), (Sl3.v a1)]) Try.func36 (B := B36) (by kernel_rfl) ?_
  unfold nat_Sub at h
  refine WX.seq (by kernel_rfl) ?_
  refine WX.region (opsOf (cfst B36)) (by kernel_rfl) ?_
  refine RX.psn 2 [(5, (Value.int .i64 0)), (4, (Sl3.v Sl3.nil))] (by kernel_rfl) ?_
  refine RX.done (by kernel_rfl) ?_
  refine fun ss hs => (WX.nxt ?_ ss hs)
  refine WX.seq (by kernel_rfl) ?_
  refine WX.seq (by kernel_rfl) ?_
  refine WX.region (opsOf (cfst (cfst (csnd B36)))) (by kernel_rfl) ?_
  refine RX.psn 2 [(7, (Sl3.v a1)), (6, (Sl3.v a0))] (by kernel_rfl) ?_
  obtain ⟨⟨s1, H2⟩, hx, h⟩ := bind_some h
  dsimp only at h
  refine RX.at (some 8) (Sl3.v s1) (by kernel_rfl) (by kernel_rfl) (fun ih => Abs.run_newR (by kernel_rfl) (by kernel_rfl) hx) ?_
  obtain ⟨x3, hx, h⟩ := bind_some h
  refine RX.callAt (some 9) (v := (Value.bool x3)) 41 #[(Sl3.v s1)] (by kernel_rfl) (by kernel_rfl) (by kernel_rfl) (nat_long_ok hx) ?_
  refine RX.done (by kernel_rfl) ?_
  refine fun ss hs => (WX.nxt ?_ ss hs)
  rcases ite_some h with ⟨hp, h⟩ | ⟨hp, h⟩
  · refine WX.condT _ hp (by kernel_rfl) ?_
    refine WX.seq (by kernel_rfl) ?_
    refine WX.region (opsOf (cfst (cfst (csnd (cfst (csnd B36)))))) (by kernel_rfl) ?_
    refine RX.psn 2 [(5, (Value.int .i64 5)), (4, (Sl3.v Sl3.nil))] (by kernel_rfl) ?_
    refine RX.done (by kernel_rfl) ?_
    refine fun ss hs => (WX.nxt ?_ ss hs)
    refine WX.ret (by kernel_rfl) ?_
    cases h
    exact fun ss hs => seqR (retR (rq hs (by kernel_rfl)))
  · refine WX.condF _ (b_not hp) (by kernel_rfl) ?_
    refine WX.skip (by kernel_rfl) ?_
    refine fun ss hs => (WX.nxt ?_ ss hs)
    refine WX.seq (by kernel_rfl) ?_
    refine WX.seq (by kernel_rfl) ?_
    refine WX.region (opsOf (cfst (cfst (csnd (csnd B36))))) (by kernel_rfl) ?_
    refine RX.psn 2 [(11, (Sl3.v a1)), (10, (Sl3.v a0))] (by kernel_rfl) ?_
    obtain ⟨x4, hx, h⟩ := bind_some h
    refine RX.callAt (some 12) (v := (Value.int .i64 x4)) 26 #[(Sl3.v a0), (Sl3.v a1)] (by kernel_rfl) (by kernel_rfl) (by kernel_rfl) (nat_Cmp_ok hx) ?_
    refine RX.psn 1 [(13, (Value.bool (decide (x4 < 0))))] (by kernel_rfl) ?_
    refine RX.done (by kernel_rfl) ?_
    refine fun ss hs => (WX.nxt ?_ ss hs)
    rcases ite_some h with ⟨hp, h⟩ | ⟨hp, h⟩
    · refine WX.condT _ (decide_eq_true hp) (by kernel_rfl) ?_
      refine WX.seq (by kernel_rfl) ?_
      refine WX.region (opsOf (cfst (cfst (csnd (cfst (csnd (csnd B36))))))) (by kernel_rfl) ?_
      refine RX.psn 2 [(5, (Value.int .i64 10)), (4, (Sl3.v Sl3.nil))] (by kernel_rfl) ?_
      refine RX.done (by kernel_rfl) ?_
      refine fun ss hs => (WX.nxt ?_ ss hs)
      refine WX.ret (by kernel_rfl) ?_
      cases h
      exact fun ss hs => seqR (retR (rq hs (by kernel_rfl)))
    · refine WX.condF _ (decide_eq_false hp) (by kernel_rfl) ?_
      refine WX.skip (by kernel_rfl) ?_
      refine fun ss hs => (WX.nxt ?_ ss hs)
      refine WX.seq (by kernel_rfl) ?_
      refine WX.region (opsOf (cfst (csnd (csnd (csnd B36))))) (by kernel_rfl) ?_
      refine RX.psn 1 [(14, (Sl3.v a0))] (by kernel_rfl) ?_
      obtain ⟨x5, hx, h⟩ := bind_some h
      refine RX.callAt (some 15) (v := (Sl3.v x5)) 44 #[(Sl3.v a0)] (by kernel_rfl) (by kernel_rfl) (by kernel_rfl) (nat_trim_ok hx) ?_
      refine RX.psn 1 [(16, (Sl3.v a1))] (by kernel_rfl) ?_
      obtain ⟨x6, hx, h⟩ := bind_some h
      refine RX.callAt (some 17) (v := (Sl3.v x6)) 44 #[(Sl3.v a1)] (by kernel_rfl) (by kernel_rfl) (by kernel_rfl) (nat_trim_ok hx) ?_
      obtain ⟨⟨x7, H8⟩, hx, h⟩ := bind_some h
      dsimp only at h
      refine RX.callAt (some 18) (v := (Sl3.v x7)) 66 #[(Sl3.v x5), (Sl3.v x6)] (by kernel_rfl) (by kernel_rfl) (by kernel_rfl) (nat_sub_ok hx) ?_
      obtain ⟨⟨x9, H10⟩, hx, h⟩ := bind_some h
      dsimp only at h
      refine RX.callAt (some 19) (v := (Sl3.v x9)) 52 #[(Sl3.v x7)] (by kernel_rfl) (by kernel_rfl) (by kernel_rfl) (nat_own_ok hx) ?_
      refine RX.psn 2 [(5, (Value.int .i64 0)), (4, (Sl3.v x9))] (by kernel_rfl) ?_
      refine RX.done (by kernel_rfl) ?_
      refine fun ss hs => (WX.nxt ?_ ss hs)
      refine WX.ret (by kernel_rfl) ?_
      cases h
      exact fun ss hs => retR (rq hs (by kernel_rfl))

end Go.Proofs.Ytoadagekdnkciaa

namespace Go.Proofs.Ytoadagekdnkciaa
open Go Go.Abs
set_option maxRecDepth 100000

noncomputable def B18 : Code := (Try.f18.body).getD .skip

def nat_Text_enc : (ByteArray × Int × AH) → Value
  | (r0, r1, _) => (Value.tuple #[(Value.string r0), (Value.int .i64 r1)])

def nat_Text_hp (_ : AH) : (ByteArray × Int × AH) → AH := fun r => r.2.2

noncomputable def nat_Text_b1 (a1 : Int) (x9 : Sl3) : (AH × Sl3 × Int × Int) → Option (Lp (AH × Sl3 × Int × Int) (ByteArray × Int × AH)) := fun (H12, v6_13, v7_14, v8_15) =>
  Option.bind (α := Unit ⊕ (Lp (AH × Sl3 × Int × Int) (ByteArray × Int × AH))) (
    if v8_15 < 19 then
      if v7_14 > 0 then
        some (.inl ())
      else
        if (x9.n : Int) > 0 then
          some (.inl ())
        else
          ((some (.brk (H12, v6_13, v7_14, v8_15))).map .inr)
    else
      ((some (.brk (H12, v6_13, v7_14, v8_15))).map .inr)) fun o => match o with
  | .inl _ =>
    Option.bind (bytA (⟨#[48, 49, 50, 51, 52, 53, 54, 55, 56, 57, 97, 98, 99, 100, 101, 102]⟩ : ByteArray) (Int.tmod v7_14 10)) fun x16 =>
    Option.bind (newR 5 1 #[(Value.int .u8 x16)] H12) fun (s17, H18) =>
    Option.bind (appS 4294967296 5 1 1 H18 v6_13 s17) fun (s19, H20) =>
    some (.next (H20, s19, (IntKind.u64.wrap (Int.tdiv v7_14 10)), (IntKind.i64.wrap (v8_15 + 1))))
  | .inr r => some r

def nat_Text_b1_kn (a1 : Int) (x9 : Sl3) : (AH × Sl3 × Int × Int) → Kn := fun (H12, v6_13, v7_14, v8_15) => [(6, (Sl3.v v6_13)), (7, (Value.int .u64 v7_14)), (8, (Value.int .i64 v8_15)), (0, (Sl3.v x9)), (1, (Value.int .i64 a1))]

noncomputable def nat_Text_b2 (a1 : Int) (x25 : Sl3) : (AH × Sl3 × Int × Int) → Option (Lp (AH × Sl3 × Int × Int) (ByteArray × Int × AH)) := fun (H28, v6_29, v9_30, v10_31) =>
  Option.bind (α := Unit ⊕ (Lp (AH × Sl3 × Int × Int) (ByteArray × Int × AH))) (
    if v10_31 < 32 then
      if v9_30 > 0 then
        some (.inl ())
      else
        if (x25.n : Int) > 0 then
          some (.inl ())
        else
          ((some (.brk (H28, v6_29, v9_30, v10_31))).map .inr)
    else
      ((some (.brk (H28, v6_29, v9_30, v10_31))).map .inr)) fun o => match o with
  | .inl _ =>
    if (IntKind.u64.wrap a1) = 0 then none else
    Option.bind (bytA (⟨#[48, 49, 50, 51, 52, 53, 54, 55, 56, 57, 97, 98, 99, 100, 101, 102]⟩ : ByteArray) (Int.tmod v9_30 (IntKind.u64.wrap a1))) fun x32 =>
    Option.bind (newR 5 1 #[(Value.int .u8 x32)] H28) fun (s33, H34) =>
    Option.bind (appS 4294967296 5 1 1 H34 v6_29 s33) fun (s35, H36) =>
    if (IntKind.u64.wrap a1) = 0 then none else
    Option.bind (bits_Len (IntKind.u64.wrap (IntKind.i64.wrap (a1 - 1)))) fun x37 =>
    some (.next (H36, s35, (IntKind.u64.wrap (Int.tdiv v9_30 (IntKind.u64.wrap a1))), (IntKind.i64.wrap (v10_31 + x37))))
  | .inr r => some r

def nat_Text_b2_kn (a1 : Int) (x25 : Sl3) : (AH × Sl3 × Int × Int) → Kn := fun (H28, v6_29, v9_30, v10_31) => [(6, (Sl3.v v6_29)), (9, (Value.int .u64 v9_30)), (10, (Value.int .i64 v10_31)), (0, (Sl3.v x25)), (1, (Value.int .i64 a1))]

noncomputable def nat_Text_b0 (a1 : Int) : (AH × Sl3 × Sl3) → Option (Lp (AH × Sl3 × Sl3) (ByteArray × Int × AH)) := fun (H6, v0_7, v6_8) =>
  if (v0_7.n : Int) > 0 then
    if a1 = 10 then
      Option.bind (nat_single H6 v0_7 10000000000000000000) fun (x9, x10, H11) =>
      Option.bind (loopO (nat_Text_b1 a1 x9) (H11, v6_8, x10, 0)) fun o => match o with
      | .inl (H21, v6_22, v7_23, v8_24) =>
        some (.next (H21, x9, v6_22))
      | .inr r => some (.ret r)
    else
      Option.bind (nat_single H6 v0_7 4294967296) fun (x25, x26, H27) =>
      Option.bind (loopO (nat_Text_b2 a1 x25) (H27, v6_8, x26, 0)) fun o => match o with
      | .inl (H38, v6_39, v9_40, v10_41) =>
        some (.next (H38, x25, v6_39))
      | .inr r => some (.ret r)
  else
    some (.brk (H6, v0_7, v6_8))

def nat_Text_b0_kn (a1 : Int) : (AH × Sl3 × Sl3) → Kn := fun (H6, v0_7, v6_8) => [(0, (Sl3.v v0_7)), (6, (Sl3.v v6_8)), (1, (Value.int .i64 a1))]

noncomputable def nat_Text (H : AH) (a0 : Sl3) (a1 : Int) : Option (ByteArray × Int × AH) :=
  Option.bind (α := Unit ⊕ (ByteArray × Int × AH)) (
    if a1 = 2 then
      some (.inl ())
    else
      if a1 = 10 then
        some (.inl ())
      else
        if a1 = 16 then
          some (.inl ())
        else
          ((some ((⟨#[]⟩ : ByteArray), 12, H)).map .inr)) fun o => match o with
  | .inl _ =>
    Option.bind (newR 24 1 #[(Sl3.v a0)] H) fun (s1, H2) =>
    Option.bind (nat_long H2 s1) fun x3 =>
    if x3 = true then
      some ((⟨#[]⟩ : ByteArray), 5, H2)
    else
      Option.bind (nat_own H2 a0) fun (x4, H5) =>
      Option.bind (loopO (nat_Text_b0 a1) (H5, x4, Sl3.nil)) fun o => match o with
      | .inl (H42, v0_43, v6_44) =>
        if (v6_44.n : Int) = 0 then
          some ((⟨#[48]⟩ : ByteArray), 0, H42)
        else
          Option.bind (slices_Reverse H42 v6_44) fun H45 =>
          Option.bind (bts H45 v6_44) fun s46 =>
          some (s46, 0, H45)
      | .inr r => some r
  | .inr r => some r

theorem nat_Text_b1_ok {a1 : Int} {x9 : Sl3} : ∀ s o, nat_Text_b1 a1 x9 s = some o →
    WX Try.prog 1000 4294967296 Try.f18.ntmps (cfst (cfst (csnd (cfst (csnd (csnd (cfst (csnd (cfst (cfst (csnd (cfst (cfst (cfst (csnd (csnd (csnd (csnd (csnd B18))))))))))))))))))) (nat_Text_b1_kn a1 x9 s) ((fun s => s.1) s) (lpQ (nat_Text_b1_kn a1 x9) (fun s => s.1) 2 (fun r => RQ Try.f18 (nat_Text_enc r) (nat_Text_hp ⟨0, .nil⟩ r)) o) := by
  rintro ⟨H12, v6_13, v7_14, v8_15⟩ o h
  unfold nat_Text_b1 at h
  try dsimp only at h
  obtain ⟨o, hx, h⟩ := bind_some h
  rcases o with _ | ro
  · dsimp only at h
    refine WX.seq (by kernel_rfl) ?_
    refine WX.join ([(0, (Sl3.v x9)), (1, (Value.int .i64 a1)), (6, (Sl3.v v6_13)), (7, (Value.int .u64 v7_14)), (8, (Value.int .i64 v8_15))]) H12 ?_ (fun ss hs => WX.nxt ?_ ss hs)
    · clear h; rename _ => h
      refine WX.seq (by kernel_rfl) ?_
      refine WX.region (opsOf (cfst (cfst (cfst (cfst (csnd (cfst (csnd (csnd (cfst (csnd (cfst (cfst (csnd (cfst (cfst (cfst (csnd (csnd (csnd (csnd (csnd B18)))))))))))))))))))))) (by kernel_rfl) ?_
      refine RX.psn 3 [(38, (Value.bool (decide (v8_15 < 19)))), (37, (Value.bool (decide (v8_15 < 19)))), (36, (Value.int .i64 v8_15))] (by kernel_rfl) ?_
      rcases ite_some h with ⟨hp, h⟩ | ⟨hp, h⟩
      · refine RX.fix 38 true (decide_eq_true hp) (by kernel_rfl) ?_
        refine RX.psn 3 [(41, (Value.bool (decide (v7_14 > 0)))), (40, (Value.bool (decide (v7_14 > 0)))), (39, (Value.int .u64 v7_14))] (by kernel_rfl) ?_
        rcases ite_some h with ⟨hp, h⟩ | ⟨hp, h⟩
        · refine RX.fix 41 true (decide_eq_true hp) (by kernel_rfl) ?_
          refine RX.psn 5 [(46, (Value.bool true)), (45, (Value.bool true)), (44, undef), (43, undef), (42, undef)] (by kernel_rfl) ?_
          refine RX.done (by kernel_rfl) ?_
          refine fun ss hs => (WX.nxt ?_ ss hs)
          refine WX.condT true rfl (by kernel_rfl) ?_
          refine WX.skip (by kernel_rfl) ?_
          cases h
          exact fun ss hs => ⟨rfl, hs.sub ((SubK.cons (by kernel_rfl) (SubK.cons (by kernel_rfl) (SubK.cons (by kernel_rfl) (SubK.cons (by kernel_rfl) (SubK.cons (by kernel_rfl) SubK.nil)))))), rfl⟩
        · refine RX.fix 41 false (decide_eq_false hp) (by kernel_rfl) ?_
          refine RX.psn 5 [(46, (Value.bool (decide ((x9.n : Int) > 0)))), (45, (Value.bool (decide ((x9.n : Int) > 0)))), (44, (Value.bool (decide ((x9.n : Int) > 0)))), (43, (Value.int .i64 (x9.n : Int))), (42, (Sl3.v x9))] (by kernel_rfl) ?_
          refine RX.done (by kernel_rfl) ?_
          refine fun ss hs => (WX.nxt ?_ ss hs)
          rcases ite_some h with ⟨hp, h⟩ | ⟨hp, h⟩
          · refine WX.condT _ (decide_eq_true hp) (by kernel_rfl) ?_
            refine WX.skip (by kernel_rfl) ?_
            cases h
            exact fun ss hs => ⟨rfl, hs.sub ((SubK.cons (by kernel_rfl) (SubK.cons (by kernel_rfl) (SubK.cons (by kernel_rfl) (SubK.cons (by kernel_rfl) (SubK.cons (by kernel_rfl) SubK.nil)))))), rfl⟩
          · refine WX.condF _ (decide_eq_false hp) (by kernel_rfl) ?_
            refine WX.exit 2 (by kernel_rfl) ?_
            exact (map_inl h).elim
      · refine RX.fix 38 false (decide_eq_false hp) (by kernel_rfl) ?_
        refine RX.psn 8 [(46, (Value.bool false)), (45, undef), (44, undef), (43, undef), (42, undef), (41, undef), (40, undef), (39, undef)] (by kernel_rfl) ?_
        refine RX.done (by kernel_rfl) ?_
        refine fun ss hs => (WX.nxt ?_ ss hs)
        refine WX.condF false rfl (by kernel_rfl) ?_
        refine WX.exit 2 (by kernel_rfl) ?_
        exact (map_inl h).elim
    · clear hx
      refine WX.seq (by kernel_rfl) ?_
      refine WX.block 3 (by kernel_rfl) ?_
      refine WX.seq (by kernel_rfl) ?_
      refine WX.region (opsOf (cfst (cfst (cfst (csnd (cfst (cfst (csnd (cfst (csnd (csnd (cfst (csnd (cfst (cfst (csnd (cfst (cfst (cfst (csnd (csnd (csnd (csnd (csnd B18)))))))))))))))))))))))) (by kernel_rfl) ?_
      refine RX.psn 3 [(51, (Value.int .u64 (Int.tmod v7_14 10))), (50, (Value.int .u64 v7_14)), (49, (Sl3.v v6_13))] (by kernel_rfl) ?_
      obtain ⟨x16, hx, h⟩ := bind_some h
      refine RX.at (some 52) (Value.int .u8 x16) (by kernel_rfl) (by kernel_rfl) (fun ih => Abs.run_byt (t := 9) (x := .const (Value.string (⟨#[48, 49, 50, 51, 52, 53, 54, 55, 56, 57, 97, 98, 99, 100, 101, 102]⟩ : ByteArray))) (y := .tmp 51) (s := (⟨#[48, 49, 50, 51, 52, 53, 54, 55, 56, 57, 97, 98, 99, 100, 101, 102]⟩ : ByteArray)) (k := .u64) (i := (Int.tmod v7_14 10)) (by kernel_rfl) (by kernel_rfl) (by kernel_rfl) (by kernel_rfl) hx) ?_
      obtain ⟨⟨s17, H18⟩, hx, h⟩ := bind_some h
      dsimp only at h
      refine RX.at (some 53) (Sl3.v s17) (by kernel_rfl) (by kernel_rfl) (fun ih => Abs.run_newR (by kernel_rfl) (by kernel_rfl) hx) ?_
      obtain ⟨⟨s19, H20⟩, hx, h⟩ := bind_some h
      dsimp only at h
      refine RX.at (some 54) (Sl3.v s19) (by kernel_rfl) (by kernel_rfl) (fun ih => Abs.run_app (x := .tmp 49) (y := .tmp 53) (ts := #[69, 69]) (s := v6_13) (z := s17) (by kernel_rfl) (by kernel_rfl) (by kernel_rfl) (by kernel_rfl) hx) ?_
      refine RX.psn 1 [(6, (Sl3.v s19))] (by kernel_rfl) ?_
      refine RX.done (by kernel_rfl) ?_
      refine fun ss hs => (WX.nxt ?_ ss hs)
      refine WX.region (opsOf (csnd (cfst (cfst (csnd (cfst (cfst (csnd (cfst (csnd (csnd (cfst (csnd (cfst (cfst (csnd (cfst (cfst (cfst (csnd (csnd (csnd (csnd (csnd B18)))))))))))))))))))))))) (by kernel_rfl) ?_
      refine RX.psn 3 [(7, (Value.int .u64 (IntKind.u64.wrap (Int.tdiv v7_14 10)))), (56, (Value.int .u64 (IntKind.u64.wrap (Int.tdiv v7_14 10)))), (55, (Value.int .u64 v7_14))] (by kernel_rfl) ?_
      refine RX.done (by kernel_rfl) ?_
      refine fun ss hs => blkN ((WX.nxt ?_ ss hs))
      refine WX.region (opsOf (csnd (csnd (cfst (cfst (csnd (cfst (csnd (csnd (cfst (csnd (cfst (cfst (csnd (cfst (cfst (cfst (csnd (csnd (csnd (csnd (csnd B18)))))))))))))))))))))) (by kernel_rfl) ?_
      refine RX.psn 3 [(8, (Value.int .i64 (IntKind.i64.wrap (v8_15 + 1)))), (48, (Value.int .i64 (IntKind.i64.wrap (v8_15 + 1)))), (47, (Value.int .i64 v8_15))] (by kernel_rfl) ?_
      refine RX.done (by kernel_rfl) ?_
      cases h
      exact fun ss hs => lpN rfl (hs.sub ((SubK.cons (by kernel_rfl) (SubK.cons (by kernel_rfl) (SubK.cons (by kernel_rfl) (SubK.cons (by kernel_rfl) (SubK.cons (by kernel_rfl) SubK.nil)))))))
  · cases h; rename _ => h
    refine WX.seq (by kernel_rfl) ?_
    refine WX.seq (by kernel_rfl) ?_
    refine WX.region (opsOf (cfst (cfst (cfst (cfst (csnd (cfst (csnd (csnd (cfst (csnd (cfst (cfst (csnd (cfst (cfst (cfst (csnd (csnd (csnd (csnd (csnd B18)))))))))))))))))))))) (by kernel_rfl) ?_
    refine RX.psn 3 [(38, (Value.bool (decide (v8_15 < 19)))), (37, (Value.bool (decide (v8_15 < 19)))), (36, (Value.int .i64 v8_15))] (by kernel_rfl) ?_
    rcases ite_some h with ⟨hp, h⟩ | ⟨hp, h⟩
    · refine RX.fix 38 true (decide_eq_true hp) (by kernel_rfl) ?_
      refine RX.psn 3 [(41, (Value.bool (decide (v7_14 > 0)))), (40, (Value.bool (decide (v7_14 > 0)))), (39, (Value.int .u64 v7_14))] (by kernel_rfl) ?_
      rcases ite_some h with ⟨hp, h⟩ | ⟨hp, h⟩
      · refine RX.fix 41 true (decide_eq_true hp) (by kernel_rfl) ?_
        refine RX.psn 5 [(46, (Value.bool true)), (45, (Value.bool true)), (44, undef), (43, undef), (42, undef)] (by kernel_rfl) ?_
        refine RX.done (by kernel_rfl) ?_
        refine fun ss hs => (WX.nxt ?_ ss hs)
        refine WX.condT true rfl (by kernel_rfl) ?_
        refine WX.skip (by kernel_rfl) ?_
        cases h
      · refine RX.fix 41 false (decide_eq_false hp) (by kernel_rfl) ?_
        refine RX.psn 5 [(46, (Value.bool (decide ((x9.n : Int) > 0)))), (45, (Value.bool (decide ((x9.n : Int) > 0)))), (44, (Value.bool (decide ((x9.n : Int) > 0)))), (43, (Value.int .i64 (x9.n : Int))), (42, (Sl3.v x9))] (by kernel_rfl) ?_
        refine RX.done (by kernel_rfl) ?_
        refine fun ss hs => (WX.nxt ?_ ss hs)
        rcases ite_some h with ⟨hp, h⟩ | ⟨hp, h⟩
        · refine WX.condT _ (decide_eq_true hp) (by kernel_rfl) ?_
          refine WX.skip (by kernel_rfl) ?_
          cases h
        · refine WX.condF _ (decide_eq_false hp) (by kernel_rfl) ?_
          refine WX.exit 2 (by kernel_rfl) ?_
          replace h := map_inr h
          cases h
          exact fun ss hs => seqE (lpB rfl (hs.sub ((SubK.cons (by kernel_rfl) (SubK.cons (by kernel_rfl) (SubK.cons (by kernel_rfl) (SubK.cons (by kernel_rfl) (SubK.cons (by kernel_rfl) SubK.nil))))))))
    · refine RX.fix 38 false (decide_eq_false hp) (by kernel_rfl) ?_
      refine RX.psn 8 [(46, (Value.bool false)), (45, undef), (44, undef), (43, undef), (42, undef), (41, undef), (40, undef), (39, undef)] (by kernel_rfl) ?_
      refine RX.done (by kernel_rfl) ?_
      refine fun ss hs => (WX.nxt ?_ ss hs)
      refine WX.condF false rfl (by kernel_rfl) ?_
      refine WX.exit 2 (by kernel_rfl) ?_
      replace h := map_inr h
      cases h
      exact fun ss hs => seqE (lpB rfl (hs.sub ((SubK.cons (by kernel_rfl) (SubK.cons (by kernel_rfl) (SubK.cons (by kernel_rfl) (SubK.cons (by kernel_rfl) (SubK.cons (by kernel_rfl) SubK.nil))))))))

theorem nat_Text_b2_ok {a1 : Int} {x25 : Sl3} : ∀ s o, nat_Text_b2 a1 x25 s = some o →
    WX Try.prog 1000 4294967296 Try.f18.ntmps (cfst (cfst (csnd (csnd (csnd (csnd (cfst (csnd (cfst (cfst (cfst (csnd (csnd (csnd (csnd (csnd B18)))))))))))))))) (nat_Text_b2_kn a1 x25 s) ((fun s => s.1) s) (lpQ (nat_Text_b2_kn a1 x25) (fun s => s.1) 4 (fun r => RQ Try.f18 (nat_Text_enc r) (nat_Text_hp ⟨0, .nil⟩ r)) o) := by
  rintro ⟨H28, v6_29, v9_30, v10_31⟩ o h
  unfold nat_Text_b2 at h
  try dsimp only at h
  obtain ⟨o, hx, h⟩ := bind_some h
  rcases o with _ | ro
  · dsimp only at h
    refine WX.seq (by kernel_rfl) ?_
    refine WX.join ([(0, (Sl3.v x25)), (1, (Value.int .i64 a1)), (6, (Sl3.v v6_29)), (9, (Value.int .u64 v9_30)), (10, (Value.int .i64 v10_31))]) H28 ?_ (fun ss hs => WX.nxt ?_ ss hs)
    · clear h; rename _ => h
      refine WX.seq (by kernel_rfl) ?_
      refine WX.region (opsOf (cfst (cfst (cfst (cfst (csnd (csnd (csnd (csnd (cfst (csnd (cfst (cfst (cfst (csnd (csnd (csnd (csnd (csnd B18))))))))))))))))))) (by kernel_rfl) ?_
      refine RX.psn 3 [(64, (Value.bool (decide (v10_31 < 32)))), (63, (Value.bool (decide (v10_31 < 32)))), (62, (Value.int .i64 v10_31))] (by kernel_rfl) ?_
      rcases ite_some h with ⟨hp, h⟩ | ⟨hp, h⟩
      · refine RX.fix 64 true (decide_eq_true hp) (by kernel_rfl) ?_
        refine RX.psn 3 [(67, (Value.bool (decide (v9_30 > 0)))), (66, (Value.bool (decide (v9_30 > 0)))), (65, (Value.int .u64 v9_30))] (by kernel_rfl) ?_
        rcases ite_some h with ⟨hp, h⟩ | ⟨hp, h⟩
        · refine RX.fix 67 true (decide_eq_true hp) (by kernel_rfl) ?_
          refine RX.psn 5 [(72, (Value.bool true)), (71, (Value.bool true)), (70, undef), (69, undef), (68, undef)] (by kernel_rfl) ?_
          refine RX.done (by kernel_rfl) ?_
          refine fun ss hs => (WX.nxt ?_ ss hs)
          refine WX.condT true rfl (by kernel_rfl) ?_
          refine WX.skip (by kernel_rfl) ?_
          cases h
          exact fun ss hs => ⟨rfl, hs.sub ((SubK.cons (by kernel_rfl) (SubK.cons (by kernel_rfl) (SubK.cons (by kernel_rfl) (SubK.cons (by kernel_rfl) (SubK.cons (by kernel_rfl) SubK.nil)))))), rfl⟩
        · refine RX.fix 67 false (decide_eq_false hp) (by kernel_rfl) ?_
          refine RX.psn 5 [(72, (Value.bool (decide ((x25.n : Int) > 0)))), (71, (Value.bool (decide ((x25.n : Int) > 0)))), (70, (Value.bool (decide ((x25.n : Int) > 0)))), (69, (Value.int .i64 (x25.n : Int))), (68, (Sl3.v x25))] (by kernel_rfl) ?_
          refine RX.done (by kernel_rfl) ?_
          refine fun ss hs => (WX.nxt ?_ ss hs)
          rcases ite_some h with ⟨hp, h⟩ | ⟨hp, h⟩
          · refine WX.condT _ (decide_eq_true hp) (by kernel_rfl) ?_
            refine WX.skip (by kernel_rfl) ?_
            cases h
            exact fun ss hs => ⟨rfl, hs.sub ((SubK.cons (by kernel_rfl) (SubK.cons (by kernel_rfl) (SubK.cons (by kernel_rfl) (SubK.cons (by kernel_rfl) (SubK.cons (by kernel_rfl) SubK.nil)))))), rfl⟩
          · refine WX.condF _ (decide_eq_false hp) (by kernel_rfl) ?_
            refine WX.exit 4 (by kernel_rfl) ?_
            exact (map_inl h).elim
      · refine RX.fix 64 false (decide_eq_false hp) (by kernel_rfl) ?_
        refine RX.psn 8 [(72, (Value.bool false)), (71, undef), (70, undef), (69, undef), (68, undef), (67, undef), (66, undef), (65, undef)] (by kernel_rfl) ?_
        refine RX.done (by kernel_rfl) ?_
        refine fun ss hs => (WX.nxt ?_ ss hs)
        refine WX.condF false rfl (by kernel_rfl) ?_
        refine WX.exit 4 (by kernel_rfl) ?_
        exact (map_inl h).elim
    · clear hx
      refine WX.seq (by kernel_rfl) ?_
      refine WX.block 5 (by kernel_rfl) ?_
      refine WX.seq (by kernel_rfl) ?_
      refine WX.region (opsOf (cfst (cfst (cfst (csnd (cfst (cfst (csnd (csnd (csnd (csnd (cfst (csnd (cfst (cfst (cfst (csnd (csnd (csnd (csnd (csnd B18))))))))))))))))))))) (by kernel_rfl) ?_
      refine RX.psn 4 [(82, (Value.int .u64 (IntKind.u64.wrap a1))), (81, (Value.int .i64 a1)), (80, (Value.int .u64 v9_30)), (79, (Sl3.v v6_29))] (by kernel_rfl) ?_
      rcases ite_some h with ⟨_, h⟩ | ⟨hx, h⟩
      · cases h
      · refine RX.at (some 83) (Value.int .u64 (Int.tmod v9_30 (IntKind.u64.wrap a1))) (by kernel_rfl) (by kernel_rfl) (fun ih => Abs.run_rem (t := 38) (u := 38) (x := .tmp 80) (y := .tmp 82) (by kernel_rfl) (by kernel_rfl) (by kernel_rfl) hx) ?_
        obtain ⟨x32, hx, h⟩ := bind_some h
        refine RX.at (some 84) (Value.int .u8 x32) (by kernel_rfl) (by kernel_rfl) (fun ih => Abs.run_byt (t := 9) (x := .const (Value.string (⟨#[48, 49, 50, 51, 52, 53, 54, 55, 56, 57, 97, 98, 99, 100, 101, 102]⟩ : ByteArray))) (y := .tmp 83) (s := (⟨#[48, 49, 50, 51, 52, 53, 54, 55, 56, 57, 97, 98, 99, 100, 101, 102]⟩ : ByteArray)) (k := .u64) (i := (Int.tmod v9_30 (IntKind.u64.wrap a1))) (by kernel_rfl) (by kernel_rfl) (by kernel_rfl) (by kernel_rfl) hx) ?_
        obtain ⟨⟨s33, H34⟩, hx, h⟩ := bind_some h
        dsimp only at h
        refine RX.at (some 85) (Sl3.v s33) (by kernel_rfl) (by kernel_rfl) (fun ih => Abs.run_newR (by kernel_rfl) (by kernel_rfl) hx) ?_
        obtain ⟨⟨s35, H36⟩, hx, h⟩ := bind_some h
        dsimp only at h
        refine RX.at (some 86) (Sl3.v s35) (by kernel_rfl) (by kernel_rfl) (fun ih => Abs.run_app (x := .tmp 79) (y := .tmp 85) (ts := #[69, 69]) (s := v6_29) (z := s33) (by kernel_rfl) (by kernel_rfl) (by kernel_rfl) (by kernel_rfl) hx) ?_
        refine RX.psn 1 [(6, (Sl3.v s35))] (by kernel_rfl) ?_
        refine RX.done (by kernel_rfl) ?_
        refine fun ss hs => (WX.nxt ?_ ss hs)
        refine WX.region (opsOf (csnd (cfst (cfst (csnd (cfst (cfst (csnd (csnd (csnd (csnd (cfst (csnd (cfst (cfst (cfst (csnd (csnd (csnd (csnd (csnd B18))))))))))))))))))))) (by kernel_rfl) ?_
        refine RX.psn 3 [(89, (Value.int .u64 (IntKind.u64.wrap a1))), (88, (Value.int .i64 a1)), (87, (Value.int .u64 v9_30))] (by kernel_rfl) ?_
        rcases ite_some h with ⟨_, h⟩ | ⟨hx, h⟩
        · cases h
        · refine RX.at (some 90) (Value.int .u64 (IntKind.u64.wrap (Int.tdiv v9_30 (IntKind.u64.wrap a1)))) (by kernel_rfl) (by kernel_rfl) (fun ih => Abs.run_quo (t := 38) (u := 38) (x := .tmp 87) (y := .tmp 89) (by kernel_rfl) (by kernel_rfl) (by kernel_rfl) hx) ?_
          refine RX.psn 1 [(9, (Value.int .u64 (IntKind.u64.wrap (Int.tdiv v9_30 (IntKind.u64.wrap a1)))))] (by kernel_rfl) ?_
          refine RX.done (by kernel_rfl) ?_
          refine fun ss hs => blkN ((WX.nxt ?_ ss hs))
          refine WX.region (opsOf (csnd (csnd (cfst (cfst (csnd (csnd (csnd (csnd (cfst (csnd (cfst (cfst (cfst (csnd (csnd (csnd (csnd (csnd B18))))))))))))))))))) (by kernel_rfl) ?_
          refine RX.psn 4 [(76, (Value.int .u64 (IntKind.u64.wrap (IntKind.i64.wrap (a1 - 1))))), (75, (Value.int .i64 (IntKind.i64.wrap (a1 - 1)))), (74, (Value.int .i64 a1)), (73, (Value.int .i64 v10_31))] (by kernel_rfl) ?_
          obtain ⟨x37, hx, h⟩ := bind_some h
          refine RX.callAt (some 77) (v := (Value.int .i64 x37)) 54 #[(Value.int .u64 (IntKind.u64.wrap (IntKind.i64.wrap (a1 - 1))))] (by kernel_rfl) (by kernel_rfl) (by kernel_rfl) (bits_Len_ok hx) ?_
          refine RX.psn 2 [(10, (Value.int .i64 (IntKind.i64.wrap (v10_31 + x37)))), (78, (Value.int .i64 (IntKind.i64.wrap (v10_31 + x37))))] (by kernel_rfl) ?_
          refine RX.done (by kernel_rfl) ?_
          cases h
          exact fun ss hs => lpN rfl (hs.sub ((SubK.cons (by kernel_rfl) (SubK.cons (by kernel_rfl) (SubK.cons (by kernel_rfl) (SubK.cons (by kernel_rfl) (SubK.cons (by kernel_rfl) SubK.nil)))))))
  · cases h; rename _ => h
    refine WX.seq (by kernel_rfl) ?_
    refine WX.seq (by kernel_rfl) ?_
    refine WX.region (opsOf (cfst (cfst (cfst (cfst (csnd (csnd (csnd (csnd (cfst (csnd (cfst (cfst (cfst (csnd (csnd (csnd (csnd (csnd B18))))))))))))))))))) (by kernel_rfl) ?_
    refine RX.psn 3 [(64, (Value.bool (decide (v10_31 < 32)))), (63, (Value.bool (decide (v10_31 < 32)))), (62, (Value.int .i64 v10_31))] (by kernel_rfl) ?_
    rcases ite_some h with ⟨hp, h⟩ | ⟨hp, h⟩
    · refine RX.fix 64 true (decide_eq_true hp) (by kernel_rfl) ?_
      refine RX.psn 3 [(67, (Value.bool (decide (v9_30 > 0)))), (66, (Value.bool (decide (v9_30 > 0)))), (65, (Value.int .u64 v9_30))] (by kernel_rfl) ?_
      rcases ite_some h with ⟨hp, h⟩ | ⟨hp, h⟩
      · refine RX.fix 67 true (decide_eq_true hp) (by kernel_rfl) ?_
        refine RX.psn 5 [(72, (Value.bool true)), (71, (Value.bool true)), (70, undef), (69, undef), (68, undef)] (by kernel_rfl) ?_
        refine RX.done (by kernel_rfl) ?_
        refine fun ss hs => (WX.nxt ?_ ss hs)
        refine WX.condT true rfl (by kernel_rfl) ?_
        refine WX.skip (by kernel_rfl) ?_
        cases h
      · refine RX.fix 67 false (decide_eq_false hp) (by kernel_rfl) ?_
        refine RX.psn 5 [(72, (Value.bool (decide ((x25.n : Int) > 0)))), (71, (Value.bool (decide ((x25.n : Int) > 0)))), (70, (Value.bool (decide ((x25.n : Int) > 0)))), (69, (Value.int .i64 (x25.n : Int))), (68, (Sl3.v x25))] (by kernel_rfl) ?_
        refine RX.done (by kernel_rfl) ?_
        refine fun ss hs => (WX.nxt ?_ ss hs)
        rcases ite_some h with ⟨hp, h⟩ | ⟨hp, h⟩
        · refine WX.condT _ (decide_eq_true hp) (by kernel_rfl) ?_
          refine WX.skip (by kernel_rfl) ?_
          cases h
        · refine WX.condF _ (decide_eq_false hp) (by kernel_rfl) ?_
          refine WX.exit 4 (by kernel_rfl) ?_
          replace h := map_inr h
          cases h
          exact fun ss hs => seqE (lpB rfl (hs.sub ((SubK.cons (by kernel_rfl) (SubK.cons (by kernel_rfl) (SubK.cons (by kernel_rfl) (SubK.cons (by kernel_rfl) (SubK.cons (by kernel_rfl) SubK.nil))))))))
    · refine RX.fix 64 false (decide_eq_false hp) (by kernel_rfl) ?_
      refine RX.psn 8 [(72, (Value.bool false)), (71, undef), (70, undef), (69, undef), (68, undef), (67, undef), (66, undef), (65, undef)] (by kernel_rfl) ?_
      refine RX.done (by kernel_rfl) ?_
      refine fun ss hs => (WX.nxt ?_ ss hs)
      refine WX.condF false rfl (by kernel_rfl) ?_
      refine WX.exit 4 (by kernel_rfl) ?_
      replace h := map_inr h
      cases h
      exact fun ss hs => seqE (lpB rfl (hs.sub ((SubK.cons (by kernel_rfl) (SubK.cons (by kernel_rfl) (SubK.cons (by kernel_rfl) (SubK.cons (by kernel_rfl) (SubK.cons (by kernel_rfl) SubK.nil))))))))

theorem nat_Text_b0_ok {a1 : Int} : ∀ s o, nat_Text_b0 a1 s = some o →
    WX Try.prog 1000 4294967296 Try.f18.ntmps (cfst (cfst (cfst (csnd (csnd (csnd (csnd (csnd B18)))))))) (nat_Text_b0_kn a1 s) ((fun s => s.1) s) (lpQ (nat_Text_b0_kn a1) (fun s => s.1) 0 (fun r => RQ Try.f18 (nat_Text_enc r) (nat_Text_hp ⟨0, .nil⟩ r)) o) := by
  rintro ⟨H6, v0_7, v6_8⟩ o h
  unfold nat_Text_b0 at h
  try dsimp only at h
  refine WX.seq (by kernel_rfl) ?_
  refine WX.seq (by kernel_rfl) ?_
  refine WX.region (opsOf (cfst (cfst (cfst (cfst (cfst (csnd (csnd (csnd (csnd (csnd B18))))))))))) (by kernel_rfl) ?_
  refine RX.psn 3 [(28, (Value.bool (decide ((v0_7.n : Int) > 0)))), (27, (Value.int .i64 (v0_7.n : Int))), (26, (Sl3.v v0_7))] (by kernel_rfl) ?_
  refine RX.done (by kernel_rfl) ?_
  refine fun ss hs => (WX.nxt ?_ ss hs)
  rcases ite_some h with ⟨hp, h⟩ | ⟨hp, h⟩
  · refine WX.condT _ (decide_eq_true hp) (by kernel_rfl) ?_
    refine WX.skip (by kernel_rfl) ?_
    refine fun ss hs => (WX.nxt ?_ ss hs)
    refine WX.block 1 (by kernel_rfl) ?_
    refine WX.seq (by kernel_rfl) ?_
    refine WX.seq (by kernel_rfl) ?_
    refine WX.region (opsOf (cfst (cfst (cfst (csnd (cfst (cfst (cfst (csnd (csnd (csnd (csnd (csnd B18))))))))))))) (by kernel_rfl) ?_
    refine RX.psn 2 [(30, (Value.bool (decide (a1 = 10)))), (29, (Value.int .i64 a1))] (by kernel_rfl) ?_
    refine RX.done (by kernel_rfl) ?_
    refine fun ss hs => (WX.nxt ?_ ss hs)
    rcases ite_some h with ⟨hp, h⟩ | ⟨hp, h⟩
    · refine WX.condT _ (decide_eq_true hp) (by kernel_rfl) ?_
      refine WX.seq (by kernel_rfl) ?_
      refine WX.region (opsOf (cfst (cfst (csnd (cfst (cfst (csnd (cfst (cfst (cfst (csnd (csnd (csnd (csnd (csnd B18))))))))))))))) (by kernel_rfl) ?_
      refine RX.psn 1 [(7, (Value.int .u64 0))] (by kernel_rfl) ?_
      refine RX.done (by kernel_rfl) ?_
      refine fun ss hs => (WX.nxt ?_ ss hs)
      refine WX.seq (by kernel_rfl) ?_
      refine WX.region (opsOf (cfst (csnd (cfst (csnd (cfst (cfst (csnd (cfst (cfst (cfst (csnd (csnd (csnd (csnd (csnd B18)))))))))))))))) (by kernel_rfl) ?_
      refine RX.psn 1 [(32, (Sl3.v v0_7))] (by kernel_rfl) ?_
      obtain ⟨⟨x9, x10, H11⟩, hx, h⟩ := bind_some h
      dsimp only at h
      refine RX.callAt (some 33) (v := (Value.tuple #[(Sl3.v x9), (Value.int .u64 x10)])) 53 #[(Sl3.v v0_7), (Value.int .u64 10000000000000000000)] (by kernel_rfl) (by kernel_rfl) (by kernel_rfl) (nat_single_ok hx) ?_
      refine RX.psn 5 [(7, (Value.int .u64 x10)), (0, (Sl3.v x9)), (35, (Value.int .u64 x10)), (34, (Sl3.v x9)), (31, (Value.tuple #[(Sl3.v x9), (Value.int .u64 x10)]))] (by kernel_rfl) ?_
      refine RX.done (by kernel_rfl) ?_
      refine fun ss hs => (WX.nxt ?_ ss hs)
      refine WX.seq (by kernel_rfl) ?_
      refine WX.seq (by kernel_rfl) ?_
      refine WX.region (opsOf (cfst (cfst (csnd (csnd (cfst (csnd (cfst (cfst (csnd (cfst (cfst (cfst (csnd (csnd (csnd (csnd (csnd B18)))))))))))))))))) (by kernel_rfl) ?_
      refine RX.psn 1 [(8, (Value.int .i64 0))] (by kernel_rfl) ?_
      refine RX.done (by kernel_rfl) ?_
      refine fun ss hs => (WX.nxt ?_ ss hs)
      refine WX.block 2 (by kernel_rfl) ?_
      obtain ⟨o, hl, h⟩ := bind_some h
      rcases o with ⟨H21, v6_22, v7_23, v8_24⟩ | r
      · dsimp only at h
        refine WX.loopI (by kernel_rfl) (nat_Text_b1 a1 x9) (nat_Text_b1_kn a1 x9) (fun s => s.1) 2 (fun r => RQ Try.f18 (nat_Text_enc r) (nat_Text_hp ⟨0, .nil⟩ r)) nat_Text_b1_ok hl ((SubK.cons (by kernel_rfl) (SubK.cons (by kernel_rfl) (SubK.cons (by kernel_rfl) (SubK.cons (by kernel_rfl) (SubK.cons (by kernel_rfl) SubK.nil)))))) rfl ?_
        clear hl
        refine fun ss hs => blkE ((WX.nxt ?_ ss hs))
        refine WX.exit 1 (by kernel_rfl) ?_
        cases h
        exact fun ss hs => seqE (blkE (lpN rfl (hs.sub ((SubK.cons (by kernel_rfl) (SubK.cons (by kernel_rfl) (SubK.cons (by kernel_rfl) SubK.nil)))))))
      · dsimp only at h
        refine WX.loopR (by kernel_rfl) (nat_Text_b1 a1 x9) (nat_Text_b1_kn a1 x9) (fun s => s.1) 2 (fun r => RQ Try.f18 (nat_Text_enc r) (nat_Text_hp ⟨0, .nil⟩ r)) nat_Text_b1_ok hl ((SubK.cons (by kernel_rfl) (SubK.cons (by kernel_rfl) (SubK.cons (by kernel_rfl) (SubK.cons (by kernel_rfl) (SubK.cons (by kernel_rfl) SubK.nil)))))) rfl ?_
        cases h
        exact fun ss H hq => blkR (seqR (seqR (blkR (lpR hq))))
    · refine WX.condF _ (decide_eq_false hp) (by kernel_rfl) ?_
      refine WX.skip (by kernel_rfl) ?_
      refine fun ss hs => (WX.nxt ?_ ss hs)
      refine WX.seq (by kernel_rfl) ?_
      refine WX.region (opsOf (cfst (csnd (cfst (csnd (cfst (cfst (cfst (csnd (csnd (csnd (csnd (csnd B18))))))))))))) (by kernel_rfl) ?_
      refine RX.psn 1 [(9, (Value.int .u64 0))] (by kernel_rfl) ?_
      refine RX.done (by kernel_rfl) ?_
      refine fun ss hs => (WX.nxt ?_ ss hs)
      refine WX.seq (by kernel_rfl) ?_
      refine WX.region (opsOf (cfst (csnd (csnd (cfst (csnd (cfst (cfst (cfst (csnd (csnd (csnd (csnd (csnd B18)))))))))))))) (by kernel_rfl) ?_
      refine RX.psn 1 [(58, (Sl3.v v0_7))] (by kernel_rfl) ?_
      obtain ⟨⟨x25, x26, H27⟩, hx, h⟩ := bind_some h
      dsimp only at h
      refine RX.callAt (some 59) (v := (Value.tuple #[(Sl3.v x25), (Value.int .u64 x26)])) 53 #[(Sl3.v v0_7), (Value.int .u64 4294967296)] (by kernel_rfl) (by kernel_rfl) (by kernel_rfl) (nat_single_ok hx) ?_
      refine RX.psn 5 [(9, (Value.int .u64 x26)), (0, (Sl3.v x25)), (61, (Value.int .u64 x26)), (60, (Sl3.v x25)), (57, (Value.tuple #[(Sl3.v x25), (Value.int .u64 x26)]))] (by kernel_rfl) ?_
      refine RX.done (by kernel_rfl) ?_
      refine fun ss hs => (WX.nxt ?_ ss hs)
      refine WX.seq (by kernel_rfl) ?_
      refine WX.region (opsOf (cfst (csnd (csnd (csnd (cfst (csnd (cfst (cfst (cfst (csnd (csnd (csnd (csnd (csnd B18))))))))))))))) (by kernel_rfl) ?_
      refine RX.psn 1 [(10, (Value.int .i64 0))] (by kernel_rfl) ?_
      refine RX.done (by kernel_rfl) ?_
      refine fun ss hs => (WX.nxt ?_ ss hs)
      refine WX.block 4 (by kernel_rfl) ?_
      obtain ⟨o, hl, h⟩ := bind_some h
      rcases o with ⟨H38, v6_39, v9_40, v10_41⟩ | r
      · dsimp only at h
        refine WX.loopI (by kernel_rfl) (nat_Text_b2 a1 x25) (nat_Text_b2_kn a1 x25) (fun s => s.1) 4 (fun r => RQ Try.f18 (nat_Text_enc r) (nat_Text_hp ⟨0, .nil⟩ r)) nat_Text_b2_ok hl ((SubK.cons (by kernel_rfl) (SubK.cons (by kernel_rfl) (SubK.cons (by kernel_rfl) (SubK.cons (by kernel_rfl) (SubK.cons (by kernel_rfl) SubK.nil)))))) rfl ?_
        clear hl
        cases h
        exact fun ss hs => blkE (blkN (lpN rfl (hs.sub ((SubK.cons (by kernel_rfl) (SubK.cons (by kernel_rfl) (SubK.cons (by kernel_rfl) SubK.nil)))))))
      · dsimp only at h
        refine WX.loopR (by kernel_rfl) (nat_Text_b2 a1 x25) (nat_Text_b2_kn a1 x25) (fun s => s.1) 4 (fun r => RQ Try.f18 (nat_Text_enc r) (nat_Text_hp ⟨0, .nil⟩ r)) nat_Text_b2_ok hl ((SubK.cons (by kernel_rfl) (SubK.cons (by kernel_rfl) (SubK.cons (by kernel_rfl) (SubK.cons (by kernel_rfl) (SubK.cons (by kernel_rfl) SubK.nil)))))) rfl ?_
        cases h
        exact fun ss H hq => blkR (blkR (lpR hq))
  · refine WX.condF _ (decide_eq_false hp) (by kernel_rfl) ?_
    refine WX.exit 0 (by kernel_rfl) ?_
    cases h
    exact fun ss hs => seqE (lpB rfl (hs.sub ((SubK.cons (by kernel_rfl) (SubK.cons (by kernel_rfl) (SubK.cons (by kernel_rfl) SubK.nil))))))

theorem nat_Text_ok {H : AH} {a0 : Sl3} {a1 : Int} {r : (ByteArray × Int × AH)} (h : nat_Text H a0 a1 = some r) :
    CallE Try.prog 1000 4294967296 18 #[(Sl3.v a0), (Value.int .i64 a1)] H (nat_Text_enc r) (nat_Text_hp H r) := by
  refine CallE.mk (args := [(Sl3.v a0), (Value.int .i64 a1)]) Try.func18 (B := B18) (by kernel_rfl) ?_
  unfold nat_Text at h
  refine WX.seq (by kernel_rfl) ?_
  refine WX.region (opsOf (cfst B18)) (by kernel_rfl) ?_
  refine RX.psn 2 [(5, (Value.int .i64 0)), (4, (Value.string (⟨#[]⟩ : ByteArray)))] (by kernel_rfl) ?_
  refine RX.done (by kernel_rfl) ?_
  refine fun ss hs => (WX.nxt ?_ ss hs)
  obtain ⟨o, hx, h⟩ := bind_some h
  rcases o with _ | ro
  · dsimp only at h
    refine WX.seq (by kernel_rfl) ?_
    refine WX.join ([(0, (Sl3.v a0)), (1, (Value.int .i64 a1))]) H ?_ (fun ss hs => WX.nxt ?_ ss hs)
    · clear h; rename _ => h
      refine WX.seq (by kernel_rfl) ?_
      refine WX.region (opsOf (cfst (cfst (csnd B18)))) (by kernel_rfl) ?_
      refine RX.psn 3 [(13, (Value.bool (!decide (a1 = 2)))), (12, (Value.bool (!decide (a1 = 2)))), (11, (Value.int .i64 a1))] (by kernel_rfl) ?_
      rcases ite_some h with ⟨hp, h⟩ | ⟨hp, h⟩
      · refine RX.fix 13 false (dec_not hp) (by kernel_rfl) ?_
        refine RX.psn 7 [(20, (Value.bool false)), (19, undef), (18, undef), (17, (Value.bool false)), (16, (Value.bool false)), (15, undef), (14, undef)] (by kernel_rfl) ?_
        refine RX.done (by kernel_rfl) ?_
        refine fun ss hs => (WX.nxt ?_ ss hs)
        refine WX.condF false rfl (by kernel_rfl) ?_
        refine WX.skip (by kernel_rfl) ?_
        cases h
        exact fun ss hs => ⟨rfl, hs.sub ((SubK.cons (by kernel_rfl) (SubK.cons (by kernel_rfl) SubK.nil))), rfl⟩
      · refine RX.fix 13 true (dec_not' hp) (by kernel_rfl) ?_
        refine RX.psn 4 [(17, (Value.bool (!decide (a1 = 10)))), (16, (Value.bool (!decide (a1 = 10)))), (15, (Value.bool (!decide (a1 = 10)))), (14, (Value.int .i64 a1))] (by kernel_rfl) ?_
        rcases ite_some h with ⟨hp, h⟩ | ⟨hp, h⟩
        · refine RX.fix 17 false (dec_not hp) (by kernel_rfl) ?_
          refine RX.psn 3 [(20, (Value.bool false)), (19, undef), (18, undef)] (by kernel_rfl) ?_
          refine RX.done (by kernel_rfl) ?_
          refine fun ss hs => (WX.nxt ?_ ss hs)
          refine WX.condF false rfl (by kernel_rfl) ?_
          refine WX.skip (by kernel_rfl) ?_
          cases h
          exact fun ss hs => ⟨rfl, hs.sub ((SubK.cons (by kernel_rfl) (SubK.cons (by kernel_rfl) SubK.nil))), rfl⟩
        · refine RX.fix 17 true (dec_not' hp) (by kernel_rfl) ?_
          refine RX.psn 3 [(20, (Value.bool (!decide (a1 = 16)))), (19, (Value.bool (!decide (a1 = 16)))), (18, (Value.int .i64 a1))] (by kernel_rfl) ?_
          refine RX.done (by kernel_rfl) ?_
          refine fun ss hs => (WX.nxt ?_ ss hs)
          rcases ite_some h with ⟨hp, h⟩ | ⟨hp, h⟩
          · refine WX.condF _ (dec_not hp) (by kernel_rfl) ?_
            refine WX.skip (by kernel_rfl) ?_
            cases h
            exact fun ss hs => ⟨rfl, hs.sub ((SubK.cons (by kernel_rfl) (SubK.cons (by kernel_rfl) SubK.nil))), rfl⟩
          · refine WX.condT _ (dec_not' hp) (by kernel_rfl) ?_
            refine WX.seq (by kernel_rfl) ?_
            refine WX.region (opsOf (cfst (cfst (csnd (cfst (csnd B18)))))) (by kernel_rfl) ?_
            refine RX.psn 2 [(5, (Value.int .i64 12)), (4, (Value.string (⟨#[]⟩ : ByteArray)))] (by kernel_rfl) ?_
            refine RX.done (by kernel_rfl) ?_
            refine fun ss hs => (WX.nxt ?_ ss hs)
            refine WX.ret (by kernel_rfl) ?_
            exact (map_inl h).elim
    · clear hx
      refine WX.seq (by kernel_rfl) ?_
      refine WX.seq (by kernel_rfl) ?_
      refine WX.region (opsOf (cfst (cfst (csnd (csnd B18))))) (by kernel_rfl) ?_
      refine RX.psn 1 [(21, (Sl3.v a0))] (by kernel_rfl) ?_
      obtain ⟨⟨s1, H2⟩, hx, h⟩ := bind_some h
      dsimp only at h
      refine RX.at (some 22) (Sl3.v s1) (by kernel_rfl) (by kernel_rfl) (fun ih => Abs.run_newR (by kernel_rfl) (by kernel_rfl) hx) ?_
      obtain ⟨x3, hx, h⟩ := bind_some h
      refine RX.callAt (some 23) (v := (Value.bool x3)) 41 #[(Sl3.v s1)] (by kernel_rfl) (by kernel_rfl) (by kernel_rfl) (nat_long_ok hx) ?_
      refine RX.done (by kernel_rfl) ?_
      refine fun ss hs => (WX.nxt ?_ ss hs)
      rcases ite_some h with ⟨hp, h⟩ | ⟨hp, h⟩
      · refine WX.condT _ hp (by kernel_rfl) ?_
        refine WX.seq (by kernel_rfl) ?_
        refine WX.region (opsOf (cfst (cfst (csnd (cfst (csnd (csnd B18))))))) (by kernel_rfl) ?_
        refine RX.psn 2 [(5, (Value.int .i64 5)), (4, (Value.string (⟨#[]⟩ : ByteArray)))] (by kernel_rfl) ?_
        refine RX.done (by kernel_rfl) ?_
        refine fun ss hs => (WX.nxt ?_ ss hs)
        refine WX.ret (by kernel_rfl) ?_
        cases h
        exact fun ss hs => seqR (retR (rq hs (by kernel_rfl)))
      · refine WX.condF _ (b_not hp) (by kernel_rfl) ?_
        refine WX.skip (by kernel_rfl) ?_
        refine fun ss hs => (WX.nxt ?_ ss hs)
        refine WX.seq (by kernel_rfl) ?_
        refine WX.region (opsOf (cfst (csnd (csnd (csnd B18))))) (by kernel_rfl) ?_
        refine RX.psn 1 [(6, (Sl3.v Sl3.nil))] (by kernel_rfl) ?_
        refine RX.done (by kernel_rfl) ?_
        refine fun ss hs => (WX.nxt ?_ ss hs)
        refine WX.seq (by kernel_rfl) ?_
        refine WX.region (opsOf (cfst (csnd (csnd (csnd (csnd B18)))))) (by kernel_rfl) ?_
        refine RX.psn 1 [(24, (Sl3.v a0))] (by kernel_rfl) ?_
        obtain ⟨⟨x4, H5⟩, hx, h⟩ := bind_some h
        dsimp only at h
        refine RX.callAt (some 25) (v := (Sl3.v x4)) 52 #[(Sl3.v a0)] (by kernel_rfl) (by kernel_rfl) (by kernel_rfl) (nat_own_ok hx) ?_
        refine RX.psn 1 [(0, (Sl3.v x4))] (by kernel_rfl) ?_
        refine RX.done (by kernel_rfl) ?_
        refine fun ss hs => (WX.nxt ?_ ss hs)
        refine WX.seq (by kernel_rfl) ?_
        refine WX.block 0 (by kernel_rfl) ?_
        obtain ⟨o, hl, h⟩ := bind_some h
        rcases o with ⟨H42, v0_43, v6_44⟩ | r
        · dsimp only at h
          refine WX.loopI (by kernel_rfl) (nat_Text_b0 a1) (nat_Text_b0_kn a1) (fun s => s.1) 0 (fun r => RQ Try.f18 (nat_Text_enc r) (nat_Text_hp ⟨0, .nil⟩ r)) nat_Text_b0_ok hl ((SubK.cons (by kernel_rfl) (SubK.cons (by kernel_rfl) (SubK.cons (by kernel_rfl) SubK.nil)))) rfl ?_
          clear hl
          refine fun ss hs => blkE ((WX.nxt ?_ ss hs))
          refine WX.seq (by kernel_rfl) ?_
          refine WX.seq (by kernel_rfl) ?_
          refine WX.region (opsOf (cfst (cfst (csnd (csnd (csnd (csnd (csnd (csnd B18))))))))) (by kernel_rfl) ?_
          refine RX.psn 3 [(93, (Value.bool (decide ((v6_44.n : Int) = 0)))), (92, (Value.int .i64 (v6_44.n : Int))), (91, (Sl3.v v6_44))] (by kernel_rfl) ?_
          refine RX.done (by kernel_rfl) ?_
          refine fun ss hs => (WX.nxt ?_ ss hs)
          rcases ite_some h with ⟨hp, h⟩ | ⟨hp, h⟩
          · refine WX.condT _ (decide_eq_true hp) (by kernel_rfl) ?_
            refine WX.seq (by kernel_rfl) ?_
            refine WX.region (opsOf (cfst (cfst (csnd (cfst (csnd (csnd (csnd (csnd (csnd (csnd B18))))))))))) (by kernel_rfl) ?_
            refine RX.psn 2 [(5, (Value.int .i64 0)), (4, (Value.string (⟨#[48]⟩ : ByteArray)))] (by kernel_rfl) ?_
            refine RX.done (by kernel_rfl) ?_
            refine fun ss hs => (WX.nxt ?_ ss hs)
            refine WX.ret (by kernel_rfl) ?_
            cases h
            exact fun ss hs => seqR (retR (rq hs (by kernel_rfl)))
          · refine WX.condF _ (decide_eq_false hp) (by kernel_rfl) ?_
            refine WX.skip (by kernel_rfl) ?_
            refine fun ss hs => (WX.nxt ?_ ss hs)
            refine WX.seq (by kernel_rfl) ?_
            refine WX.region (opsOf (cfst (csnd (csnd (csnd (csnd (csnd (csnd (csnd B18))))))))) (by kernel_rfl) ?_
            refine RX.psn 1 [(94, (Sl3.v v6_44))] (by kernel_rfl) ?_
            obtain ⟨H45, hx, h⟩ := bind_some h
            refine RX.callAt (some 95) (v := (Value.tuple #[])) 55 #[(Sl3.v v6_44)] (by kernel_rfl) (by kernel_rfl) (by kernel_rfl) (slices_Reverse_ok hx) ?_
            refine RX.done (by kernel_rfl) ?_
            refine fun ss hs => (WX.nxt ?_ ss hs)
            refine WX.seq (by kernel_rfl) ?_
            refine WX.region (opsOf (cfst (csnd (csnd (csnd (csnd (csnd (csnd (csnd (csnd B18)))))))))) (by kernel_rfl) ?_
            refine RX.psn 1 [(96, (Sl3.v v6_44))] (by kernel_rfl) ?_
            obtain ⟨s46, hx, h⟩ := bind_some h
            refine RX.at (some 97) (Value.string s46) (by kernel_rfl) (by kernel_rfl) (fun ih => Abs.run_bts (t := 69) (u := 9) (e := 5) (x := .tmp 96) (s := v6_44) (by kernel_rfl) (by kernel_rfl) (by kernel_rfl) (by kernel_rfl) (by kernel_rfl) hx) ?_
            refine RX.psn 2 [(5, (Value.int .i64 0)), (4, (Value.string s46))] (by kernel_rfl) ?_
            refine RX.done (by kernel_rfl) ?_
            refine fun ss hs => (WX.nxt ?_ ss hs)
            refine WX.ret (by kernel_rfl) ?_
            cases h
            exact fun ss hs => retR (rq hs (by kernel_rfl))
        · dsimp only at h
          refine WX.loopR (by kernel_rfl) (nat_Text_b0 a1) (nat_Text_b0_kn a1) (fun s => s.1) 0 (fun r => RQ Try.f18 (nat_Text_enc r) (nat_Text_hp ⟨0, .nil⟩ r)) nat_Text_b0_ok hl ((SubK.cons (by kernel_rfl) (SubK.cons (by kernel_rfl) (SubK.cons (by kernel_rfl) SubK.nil)))) rfl ?_
          cases h
          exact fun ss H hq => blkR (seqR (retR hq))
  · cases h; rename _ => h
    refine WX.seq (by kernel_rfl) ?_
    refine WX.seq (by kernel_rfl) ?_
    refine WX.region (opsOf (cfst (cfst (csnd B18)))) (by kernel_rfl) ?_
    refine RX.psn 3 [(13, (Value.bool (!decide (a1 = 2)))), (12, (Value.bool (!decide (a1 = 2)))), (11, (Value.int .i64 a1))] (by kernel_rfl) ?_
    rcases ite_some h with ⟨hp, h⟩ | ⟨hp, h⟩
    · refine RX.fix 13 false (dec_not hp) (by kernel_rfl) ?_
      refine RX.psn 7 [(20, (Value.bool false)), (19, undef), (18, undef), (17, (Value.bool false)), (16, (Value.bool false)), (15, undef), (14, undef)] (by kernel_rfl) ?_
      refine RX.done (by kernel_rfl) ?_
      refine fun ss hs => (WX.nxt ?_ ss hs)
      refine WX.condF false rfl (by kernel_rfl) ?_
      refine WX.skip (by kernel_rfl) ?_
      cases h
    · refine RX.fix 13 true (dec_not' hp) (by kernel_rfl) ?_
      refine RX.psn 4 [(17, (Value.bool (!decide (a1 = 10)))), (16, (Value.bool (!decide (a1 = 10)))), (15, (Value.bool (!decide (a1 = 10)))), (14, (Value.int .i64 a1))] (by kernel_rfl) ?_
      rcases ite_some h with ⟨hp, h⟩ | ⟨hp, h⟩
      · refine RX.fix 17 false (dec_not hp) (by kernel_rfl) ?_
        refine RX.psn 3 [(20, (Value.bool false)), (19, undef), (18, undef)] (by kernel_rfl) ?_
        refine RX.done (by kernel_rfl) ?_
        refine fun ss hs => (WX.nxt ?_ ss hs)
        refine WX.condF false rfl (by kernel_rfl) ?_
        refine WX.skip (by kernel_rfl) ?_
        cases h
      · refine RX.fix 17 true (dec_not' hp) (by kernel_rfl) ?_
        refine RX.psn 3 [(20, (Value.bool (!decide (a1 = 16)))), (19, (Value.bool (!decide (a1 = 16)))), (18, (Value.int .i64 a1))] (by kernel_rfl) ?_
        refine RX.done (by kernel_rfl) ?_
        refine fun ss hs => (WX.nxt ?_ ss hs)
        rcases ite_some h with ⟨hp, h⟩ | ⟨hp, h⟩
        · refine WX.condF _ (dec_not hp) (by kernel_rfl) ?_
          refine WX.skip (by kernel_rfl) ?_
          cases h
        · refine WX.condT _ (dec_not' hp) (by kernel_rfl) ?_
          refine WX.seq (by kernel_rfl) ?_
          refine WX.region (opsOf (cfst (cfst (csnd (cfst (csnd B18)))))) (by kernel_rfl) ?_
          refine RX.psn 2 [(5, (Value.int .i64 12)), (4, (Value.string (⟨#[]⟩ : ByteArray)))] (by kernel_rfl) ?_
          refine RX.done (by kernel_rfl) ?_
          refine fun ss hs => (WX.nxt ?_ ss hs)
          refine WX.ret (by kernel_rfl) ?_
          replace h := map_inr h
          cases h
          exact fun ss hs => seqR (retR (rq hs (by kernel_rfl)))

noncomputable def B17 : Code := (Try.f17.body).getD .skip

def law01_alive_enc : (Bool × AH) → Value
  | (r0, _) => (Value.bool r0)

def law01_alive_hp (_ : AH) : (Bool × AH) → AH := fun r => r.2

noncomputable def law01_alive (H : AH) : Option (Bool × AH) :=
  Option.bind (nat_Of H 18446744073709551615) fun (x1, H2) =>
  Option.bind (nat_Of H2 2) fun (x3, H4) =>
  Option.bind (newR 24 2 #[(Sl3.v x1), (Sl3.v x3)] H4) fun (s5, H6) =>
  Option.bind (nat_Mul H6 s5) fun (x7, x8, H9) =>
  Option.bind (nat_Text H9 x7 16) fun (x10, x11, H12) =>
  if x8 = 0 then
    if x11 = 0 then
      some ((x10.toList == (⟨#[49, 102, 102, 102, 102, 102, 102, 102, 102, 102, 102, 102, 102, 102, 102, 102, 101]⟩ : ByteArray).toList), H12)
    else
      some (false, H12)
  else
    some (false, H12)

theorem law01_alive_ok {H : AH} {r : (Bool × AH)} (h : law01_alive H = some r) :
    CallE Try.prog 1000 4294967296 17 #[] H (law01_alive_enc r) (law01_alive_hp H r) := by
  refine CallE.mk (args := []) Try.func17 (B := B17) (by kernel_rfl) ?_
  unfold law01_alive at h
  refine WX.seq (by kernel_rfl) ?_
  refine WX.region (opsOf (cfst B17)) (by kernel_rfl) ?_
  refine RX.psn 1 [(0, (Value.bool false))] (by kernel_rfl) ?_
  refine RX.done (by kernel_rfl) ?_
  refine fun ss hs => (WX.nxt ?_ ss hs)
  refine WX.seq (by kernel_rfl) ?_
  refine WX.region (opsOf (cfst (csnd B17))) (by kernel_rfl) ?_
  obtain ⟨⟨x1, H2⟩, hx, h⟩ := bind_some h
  dsimp only at h
  refine RX.callAt (some 6) (v := (Sl3.v x1)) 24 #[(Value.int .u64 18446744073709551615)] (by kernel_rfl) (by kernel_rfl) (by kernel_rfl) (nat_Of_ok hx) ?_
  obtain ⟨⟨x3, H4⟩, hx, h⟩ := bind_some h
  dsimp only at h
  refine RX.callAt (some 7) (v := (Sl3.v x3)) 24 #[(Value.int .u64 2)] (by kernel_rfl) (by kernel_rfl) (by kernel_rfl) (nat_Of_ok hx) ?_
  obtain ⟨⟨s5, H6⟩, hx, h⟩ := bind_some h
  dsimp only at h
  refine RX.at (some 8) (Sl3.v s5) (by kernel_rfl) (by kernel_rfl) (fun ih => Abs.run_newR (by kernel_rfl) (by kernel_rfl) hx) ?_
  obtain ⟨⟨x7, x8, H9⟩, hx, h⟩ := bind_some h
  dsimp only at h
  refine RX.callAt (some 9) (v := (Value.tuple #[(Sl3.v x7), (Value.int .i64 x8)])) 14 #[(Sl3.v s5)] (by kernel_rfl) (by kernel_rfl) (by kernel_rfl) (nat_Mul_ok hx) ?_
  refine RX.psn 5 [(2, (Value.int .i64 x8)), (1, (Sl3.v x7)), (11, (Value.int .i64 x8)), (10, (Sl3.v x7)), (5, (Value.tuple #[(Sl3.v x7), (Value.int .i64 x8)]))] (by kernel_rfl) ?_
  refine RX.done (by kernel_rfl) ?_
  refine fun ss hs => (WX.nxt ?_ ss hs)
  refine WX.seq (by kernel_rfl) ?_
  refine WX.region (opsOf (cfst (csnd (csnd B17)))) (by kernel_rfl) ?_
  refine RX.psn 1 [(13, (Sl3.v x7))] (by kernel_rfl) ?_
  obtain ⟨⟨x10, x11, H12⟩, hx, h⟩ := bind_some h
  dsimp only at h
  refine RX.callAt (some 14) (v := (Value.tuple #[(Value.string x10), (Value.int .i64 x11)])) 18 #[(Sl3.v x7), (Value.int .i64 16)] (by kernel_rfl) (by kernel_rfl) (by kernel_rfl) (nat_Text_ok hx) ?_
  refine RX.psn 5 [(4, (Value.int .i64 x11)), (3, (Value.string x10)), (16, (Value.int .i64 x11)), (15, (Value.string x10)), (12, (Value.tuple #[(Value.string x10), (Value.int .i64 x11)]))] (by kernel_rfl) ?_
  refine RX.done (by kernel_rfl) ?_
  refine fun ss hs => (WX.nxt ?_ ss hs)
  refine WX.seq (by kernel_rfl) ?_
  refine WX.region (opsOf (cfst (csnd (csnd (csnd B17))))) (by kernel_rfl) ?_
  refine RX.psn 3 [(19, (Value.bool (decide (x8 = 0)))), (18, (Value.bool (decide (x8 = 0)))), (17, (Value.int .i64 x8))] (by kernel_rfl) ?_
  rcases ite_some h with ⟨hp, h⟩ | ⟨hp, h⟩
  · refine RX.fix 19 true (decide_eq_true hp) (by kernel_rfl) ?_
    refine RX.psn 4 [(23, (Value.bool (decide (x11 = 0)))), (22, (Value.bool (decide (x11 = 0)))), (21, (Value.bool (decide (x11 = 0)))), (20, (Value.int .i64 x11))] (by kernel_rfl) ?_
    rcases ite_some h with ⟨hp, h⟩ | ⟨hp, h⟩
    · refine RX.fix 23 true (decide_eq_true hp) (by kernel_rfl) ?_
      refine RX.psn 4 [(0, (Value.bool (x10.toList == (⟨#[49, 102, 102, 102, 102, 102, 102, 102, 102, 102, 102, 102, 102, 102, 102, 102, 101]⟩ : ByteArray).toList))), (26, (Value.bool (x10.toList == (⟨#[49, 102, 102, 102, 102, 102, 102, 102, 102, 102, 102, 102, 102, 102, 102, 102, 101]⟩ : ByteArray).toList))), (25, (Value.bool (x10.toList == (⟨#[49, 102, 102, 102, 102, 102, 102, 102, 102, 102, 102, 102, 102, 102, 102, 102, 101]⟩ : ByteArray).toList))), (24, (Value.string x10))] (by kernel_rfl) ?_
      refine RX.done (by kernel_rfl) ?_
      refine fun ss hs => (WX.nxt ?_ ss hs)
      refine WX.ret (by kernel_rfl) ?_
      cases h
      exact fun ss hs => retR (rq hs (by kernel_rfl))
    · refine RX.fix 23 false (decide_eq_false hp) (by kernel_rfl) ?_
      refine RX.psn 4 [(0, (Value.bool false)), (26, (Value.bool false)), (25, undef), (24, undef)] (by kernel_rfl) ?_
      refine RX.done (by kernel_rfl) ?_
      refine fun ss hs => (WX.nxt ?_ ss hs)
      refine WX.ret (by kernel_rfl) ?_
      cases h
      exact fun ss hs => retR (rq hs (by kernel_rfl))
  · refine RX.fix 19 false (decide_eq_false hp) (by kernel_rfl) ?_
    refine RX.psn 8 [(0, (Value.bool false)), (26, (Value.bool false)), (25, undef), (24, undef), (23, (Value.bool false)), (22, (Value.bool false)), (21, undef), (20, undef)] (by kernel_rfl) ?_
    refine RX.done (by kernel_rfl) ?_
    refine fun ss hs => (WX.nxt ?_ ss hs)
    refine WX.ret (by kernel_rfl) ?_
    cases h
    exact fun ss hs => retR (rq hs (by kernel_rfl))

end Go.Proofs.Ytoadagekdnkciaa

namespace Go.Proofs.Ytoadagekdnkciaa
open Go Go.Abs
set_option maxRecDepth 100000

noncomputable def B13 : Code := (Try.f13.body).getD .skip

def law01_NatLaws_enc : (Bool × AH) → Value
  | (r0, _) => (Value.bool r0)

def law01_NatLaws_hp (_ : AH) : (Bool × AH) → AH := fun r => r.2

noncomputable def law01_NatLaws (H : AH) (a0 : Sl3) (a1 : Sl3) (a2 : Sl3) : Option (Bool × AH) :=
  Option.bind (newR 24 2 #[(Sl3.v a1), (Sl3.v a2)] H) fun (s1, H2) =>
  Option.bind (nat_Add H2 s1) fun (x3, x4, H5) =>
  Option.bind (newR 24 2 #[(Sl3.v a0), (Sl3.v x3)] H5) fun (s6, H7) =>
  Option.bind (nat_Mul H7 s6) fun (x8, x9, H10) =>
  Option.bind (newR 24 2 #[(Sl3.v a0), (Sl3.v a1)] H10) fun (s11, H12) =>
  Option.bind (nat_Mul H12 s11) fun (x13, x14, H15) =>
  Option.bind (newR 24 2 #[(Sl3.v a2), (Sl3.v a0)] H15) fun (s16, H17) =>
  Option.bind (nat_Mul H17 s16) fun (x18, x19, H20) =>
  Option.bind (law01_alive H20) fun (x21, H22) =>
  if x21 = true then
    if x4 = 0 then
      if x9 = 0 then
        if x14 = 0 then
          if x19 = 0 then
            Option.bind (newR 24 2 #[(Sl3.v x18), (Sl3.v x13)] H22) fun (s23, H24) =>
            Option.bind (nat_Add H24 s23) fun (x25, x26, H27) =>
            Option.bind (nat_Sub H27 x3 a1) fun (x28, x29, H30) =>
            if x26 = 0 then
              if x29 = 0 then
                Option.bind (nat_Cmp H30 x25 x8) fun x31 =>
                if x31 = 0 then
                  Option.bind (nat_Cmp H30 x28 a2) fun x32 =>
                  if x32 = 0 then
                    Option.bind (nat_Quo H30 x13 a0) fun (x33, x34, x35, H36) =>
                    Option.bind (nat_Len H36 a0) fun x37 =>
                    if x37 = 0 then
                      some ((decide (x35 = 11)), H36)
                    else
                      if x35 = 0 then
                        Option.bind (nat_Cmp H36 x33 a1) fun x38 =>
                        if x38 = 0 then
                          Option.bind (nat_Len H36 x34) fun x39 =>
                          some ((decide (x39 = 0)), H36)
                        else
                          some (false, H36)
                      else
                        some (false, H36)
                  else
                    some (false, H30)
                else
                  some (false, H30)
              else
                some (false, H30)
            else
              some (false, H30)
          else
            if x4 = 5 then
              some (true, H22)
            else
              if x9 = 5 then
                some (true, H22)
              else
                if x14 = 5 then
                  some (true, H22)
                else
                  some ((decide (x19 = 5)), H22)
        else
          if x4 = 5 then
            some (true, H22)
          else
            if x9 = 5 then
              some (true, H22)
            else
              if x14 = 5 then
                some (true, H22)
              else
                some ((decide (x19 = 5)), H22)
      else
        if x4 = 5 then
          some (true, H22)
        else
          if x9 = 5 then
            some (true, H22)
          else
            if x14 = 5 then
              some (true, H22)
            else
              some ((decide (x19 = 5)), H22)
    else
      if x4 = 5 then
        some (true, H22)
      else
        if x9 = 5 then
          some (true, H22)
        else
          if x14 = 5 then
            some (true, H22)
          else
            some ((decide (x19 = 5)), H22)
  else
    some (false, H22)

theorem law01_NatLaws_ok {H : AH} {a0 : Sl3} {a1 : Sl3} {a2 : Sl3} {r : (Bool × AH)} (h : law01_NatLaws H a0 a1 a2 = some r) :
    CallE Try.prog 1000 4294967296 13 #[(Sl3.v a0), (Sl3.v a1), (Sl3.v a2)] H (law01_NatLaws_enc r) (law01_NatLaws_hp H r) := by
  refine CallE.mk (args := [(Sl3.v a0), (Sl3.v a1), (Sl3.v a2)]) Try.func13 (B := B13) (by kernel_rfl) ?_
  unfold law01_NatLaws at h
  refine WX.seq (by kernel_rfl) ?_
  refine WX.region (opsOf (cfst B13)) (by kernel_rfl) ?_
  refine RX.psn 1 [(6, (Value.bool false))] (by kernel_rfl) ?_
  refine RX.done (by kernel_rfl) ?_
  refine fun ss hs => (WX.nxt ?_ ss hs)
  refine WX.seq (by kernel_rfl) ?_
  refine WX.region (opsOf (cfst (csnd B13))) (by kernel_rfl) ?_
  refine RX.psn 2 [(24, (Sl3.v a2)), (23, (Sl3.v a1))] (by kernel_rfl) ?_
  obtain ⟨⟨s1, H2⟩, hx, h⟩ := bind_some h
  dsimp only at h
  refine RX.at (some 25) (Sl3.v s1) (by kernel_rfl) (by kernel_rfl) (fun ih => Abs.run_newR (by kernel_rfl) (by kernel_rfl) hx) ?_
  obtain ⟨⟨x3, x4, H5⟩, hx, h⟩ := bind_some h
  dsimp only at h
  refine RX.callAt (some 26) (v := (Value.tuple #[(Sl3.v x3), (Value.int .i64 x4)])) 20 #[(Sl3.v s1)] (by kernel_rfl) (by kernel_rfl) (by kernel_rfl) (nat_Add_ok hx) ?_
  refine RX.psn 5 [(8, (Value.int .i64 x4)), (7, (Sl3.v x3)), (28, (Value.int .i64 x4)), (27, (Sl3.v x3)), (22, (Value.tuple #[(Sl3.v x3), (Value.int .i64 x4)]))] (by kernel_rfl) ?_
  refine RX.done (by kernel_rfl) ?_
  refine fun ss hs => (WX.nxt ?_ ss hs)
  refine WX.seq (by kernel_rfl) ?_
  refine WX.region (opsOf (cfst (csnd (csnd B13)))) (by kernel_rfl) ?_
  refine RX.psn 2 [(31, (Sl3.v x3)), (30, (Sl3.v a0))] (by kernel_rfl) ?_
  obtain ⟨⟨s6, H7⟩, hx, h⟩ := bind_some h
  dsimp only at h
  refine RX.at (some 32) (Sl3.v s6) (by kernel_rfl) (by kernel_rfl) (fun ih => Abs.run_newR (by kernel_rfl) (by kernel_rfl) hx) ?_
  obtain ⟨⟨x8, x9, H10⟩, hx, h⟩ := bind_some h
  dsimp only at h
  refine RX.callAt (some 33) (v := (Value.tuple #[(Sl3.v x8), (Value.int .i64 x9)])) 14 #[(Sl3.v s6)] (by kernel_rfl) (by kernel_rfl) (by kernel_rfl) (nat_Mul_ok hx) ?_
  refine RX.psn 5 [(10, (Value.int .i64 x9)), (9, (Sl3.v x8)), (35, (Value.int .i64 x9)), (34, (Sl3.v x8)), (29, (Value.tuple #[(Sl3.v x8), (Value.int .i64 x9)]))] (by kernel_rfl) ?_
  refine RX.done (by kernel_rfl) ?_
  refine fun ss hs => (WX.nxt ?_ ss hs)
  refine WX.seq (by kernel_rfl) ?_
  refine WX.region (opsOf (cfst (csnd (csnd (csnd B13))))) (by kernel_rfl) ?_
  refine RX.psn 2 [(38, (Sl3.v a1)), (37, (Sl3.v a0))] (by kernel_rfl) ?_
  obtain ⟨⟨s11, H12⟩, hx, h⟩ := bind_some h
  dsimp only at h
  refine RX.at (some 39) (Sl3.v s11) (by kernel_rfl) (by kernel_rfl) (fun ih => Abs.run_newR (by kernel_rfl) (by kernel_rfl) hx) ?_
  obtain ⟨⟨x13, x14, H15⟩, hx, h⟩ := bind_some h
  dsimp only at h
  refine RX.callAt (some 40) (v := (Value.tuple #[(Sl3.v x13), (Value.int .i64 x14)])) 14 #[(Sl3.v s11)] (by kernel_rfl) (by kernel_rfl) (by kernel_rfl) (nat_Mul_ok hx) ?_
  refine RX.psn 5 [(12, (Value.int .i64 x14)), (11, (Sl3.v x13)), (42, (Value.int .i64 x14)), (41, (Sl3.v x13)), (36, (Value.tuple #[(Sl3.v x13), (Value.int .i64 x14)]))] (by kernel_rfl) ?_
  refine RX.done (by kernel_rfl) ?_
  refine fun ss hs => (WX.nxt ?_ ss hs)
  refine WX.seq (by kernel_rfl) ?_
  refine WX.region (opsOf (cfst (csnd (csnd (csnd (csnd B13)))))) (by kernel_rfl) ?_
  refine RX.psn 2 [(45, (Sl3.v a0)), (44, (Sl3.v a2))] (by kernel_rfl) ?_
  obtain ⟨⟨s16, H17⟩, hx, h⟩ := bind_some h
  dsimp only at h
  refine RX.at (some 46) (Sl3.v s16) (by kernel_rfl) (by kernel_rfl) (fun ih => Abs.run_newR (by kernel_rfl) (by kernel_rfl) hx) ?_
  obtain ⟨⟨x18, x19, H20⟩, hx, h⟩ := bind_some h
  dsimp only at h
  refine RX.callAt (some 47) (v := (Value.tuple #[(Sl3.v x18), (Value.int .i64 x19)])) 14 #[(Sl3.v s16)] (by kernel_rfl) (by kernel_rfl) (by kernel_rfl) (nat_Mul_ok hx) ?_
  refine RX.psn 5 [(14, (Value.int .i64 x19)), (13, (Sl3.v x18)), (49, (Value.int .i64 x19)), (48, (Sl3.v x18)), (43, (Value.tuple #[(Sl3.v x18), (Value.int .i64 x19)]))] (by kernel_rfl) ?_
  refine RX.done (by kernel_rfl) ?_
  refine fun ss hs => (WX.nxt ?_ ss hs)
  refine WX.seq (by kernel_rfl) ?_
  refine WX.seq (by kernel_rfl) ?_
  refine WX.region (opsOf (cfst (cfst (csnd (csnd (csnd (csnd (csnd B13)))))))) (by kernel_rfl) ?_
  obtain ⟨⟨x21, H22⟩, hx, h⟩ := bind_some h
  dsimp only at h
  refine RX.callAt (some 50) (v := (Value.bool x21)) 17 #[] (by kernel_rfl) (by kernel_rfl) (by kernel_rfl) (law01_alive_ok hx) ?_
  refine RX.psn 1 [(51, (Value.bool (!x21)))] (by kernel_rfl) ?_
  refine RX.done (by kernel_rfl) ?_
  refine fun ss hs => (WX.nxt ?_ ss hs)
  rcases ite_some h with ⟨hp, h⟩ | ⟨hp, h⟩
  · refine WX.condF _ (nb_not hp) (by kernel_rfl) ?_
    refine WX.skip (by kernel_rfl) ?_
    refine fun ss hs => (WX.nxt ?_ ss hs)
    refine WX.seq (by kernel_rfl) ?_
    refine WX.seq (by kernel_rfl) ?_
    refine WX.region (opsOf (cfst (cfst (csnd (csnd (csnd (csnd (csnd (csnd B13))))))))) (by kernel_rfl) ?_
    refine RX.psn 3 [(54, (Value.bool (!decide (x4 = 0)))), (53, (Value.bool (!decide (x4 = 0)))), (52, (Value.int .i64 x4))] (by kernel_rfl) ?_
    rcases ite_some h with ⟨hp, h⟩ | ⟨hp, h⟩
    · refine RX.fix 54 false (dec_not hp) (by kernel_rfl) ?_
      refine RX.psn 4 [(58, (Value.bool (!decide (x9 = 0)))), (57, (Value.bool (!decide (x9 = 0)))), (56, (Value.bool (!decide (x9 = 0)))), (55, (Value.int .i64 x9))] (by kernel_rfl) ?_
      rcases ite_some h with ⟨hp, h⟩ | ⟨hp, h⟩
      · refine RX.fix 58 false (dec_not hp) (by kernel_rfl) ?_
        refine RX.psn 4 [(62, (Value.bool (!decide (x14 = 0)))), (61, (Value.bool (!decide (x14 = 0)))), (60, (Value.bool (!decide (x14 = 0)))), (59, (Value.int .i64 x14))] (by kernel_rfl) ?_
        rcases ite_some h with ⟨hp, h⟩ | ⟨hp, h⟩
        · refine RX.fix 62 false (dec_not hp) (by kernel_rfl) ?_
          refine RX.psn 3 [(65, (Value.bool (!decide (x19 = 0)))), (64, (Value.bool (!decide (x19 = 0)))), (63, (Value.int .i64 x19))] (by kernel_rfl) ?_
          refine RX.done (by kernel_rfl) ?_
          refine fun ss hs => (WX.nxt ?_ ss hs)
          rcases ite_some h with ⟨hp, h⟩ | ⟨hp, h⟩
          · refine WX.condF _ (dec_not hp) (by kernel_rfl) ?_
            refine WX.skip (by kernel_rfl) ?_
            refine fun ss hs => (WX.nxt ?_ ss hs)
            refine WX.seq (by kernel_rfl) ?_
            refine WX.region (opsOf (cfst (csnd (csnd (csnd (csnd (csnd (csnd (csnd B13))))))))) (by kernel_rfl) ?_
            refine RX.psn 2 [(82, (Sl3.v x13)), (81, (Sl3.v x18))] (by kernel_rfl) ?_
            obtain ⟨⟨s23, H24⟩, hx, h⟩ := bind_some h
            dsimp only at h
            refine RX.at (some 83) (Sl3.v s23) (by kernel_rfl) (by kernel_rfl) (fun ih => Abs.run_newR (by kernel_rfl) (by kernel_rfl) hx) ?_
            obtain ⟨⟨x25, x26, H27⟩, hx, h⟩ := bind_some h
            dsimp only at h
            refine RX.callAt (some 84) (v := (Value.tuple #[(Sl3.v x25), (Value.int .i64 x26)])) 20 #[(Sl3.v s23)] (by kernel_rfl) (by kernel_rfl) (by kernel_rfl) (nat_Add_ok hx) ?_
            refine RX.psn 5 [(16, (Value.int .i64 x26)), (15, (Sl3.v x25)), (86, (Value.int .i64 x26)), (85, (Sl3.v x25)), (80, (Value.tuple #[(Sl3.v x25), (Value.int .i64 x26)]))] (by kernel_rfl) ?_
            refine RX.done (by kernel_rfl) ?_
            refine fun ss hs => (WX.nxt ?_ ss hs)
            refine WX.seq (by kernel_rfl) ?_
            refine WX.region (opsOf (cfst (csnd (csnd (csnd (csnd (csnd (csnd (csnd (csnd B13)))))))))) (by kernel_rfl) ?_
            refine RX.psn 2 [(89, (Sl3.v a1)), (88, (Sl3.v x3))] (by kernel_rfl) ?_
            obtain ⟨⟨x28, x29, H30⟩, hx, h⟩ := bind_some h
            dsimp only at h
            refine RX.callAt (some 90) (v := (Value.tuple #[(Sl3.v x28), (Value.int .i64 x29)])) 36 #[(Sl3.v x3), (Sl3.v a1)] (by kernel_rfl) (by kernel_rfl) (by kernel_rfl) (nat_Sub_ok hx) ?_
            refine RX.psn 5 [(18, (Value.int .i64 x29)), (17, (Sl3.v x28)), (92, (Value.int .i64 x29)), (91, (Sl3.v x28)), (87, (Value.tuple #[(Sl3.v x28), (Value.int .i64 x29)]))] (by kernel_rfl) ?_
            refine RX.done (by kernel_rfl) ?_
            refine fun ss hs => (WX.nxt ?_ ss hs)
            refine WX.seq (by kernel_rfl) ?_
            refine WX.seq (by kernel_rfl) ?_
            refine WX.region (opsOf (cfst (cfst (csnd (csnd (csnd (csnd (csnd (csnd (csnd (csnd (csnd B13)))))))))))) (by kernel_rfl) ?_
            refine RX.psn 3 [(95, (Value.bool (!decide (x26 = 0)))), (94, (Value.bool (!decide (x26 = 0)))), (93, (Value.int .i64 x26))] (by kernel_rfl) ?_
            rcases ite_some h with ⟨hp, h⟩ | ⟨hp, h⟩
            · refine RX.fix 95 false (dec_not hp) (by kernel_rfl) ?_
              refine RX.psn 4 [(99, (Value.bool (!decide (x29 = 0)))), (98, (Value.bool (!decide (x29 = 0)))), (97, (Value.bool (!decide (x29 = 0)))), (96, (Value.int .i64 x29))] (by kernel_rfl) ?_
              rcases ite_some h with ⟨hp, h⟩ | ⟨hp, h⟩
              · refine RX.fix 99 false (dec_not hp) (by kernel_rfl) ?_
                refine RX.psn 2 [(101, (Sl3.v x8)), (100, (Sl3.v x25))] (by kernel_rfl) ?_
                obtain ⟨x31, hx, h⟩ := bind_some h
                refine RX.callAt (some 102) (v := (Value.int .i64 x31)) 26 #[(Sl3.v x25), (Sl3.v x8)] (by kernel_rfl) (by kernel_rfl) (by kernel_rfl) (nat_Cmp_ok hx) ?_
                refine RX.psn 3 [(105, (Value.bool (!decide (x31 = 0)))), (104, (Value.bool (!decide (x31 = 0)))), (103, (Value.bool (!decide (x31 = 0))))] (by kernel_rfl) ?_
                rcases ite_some h with ⟨hp, h⟩ | ⟨hp, h⟩
                · refine RX.fix 105 false (dec_not hp) (by kernel_rfl) ?_
                  refine RX.psn 2 [(107, (Sl3.v a2)), (106, (Sl3.v x28))] (by kernel_rfl) ?_
                  obtain ⟨x32, hx, h⟩ := bind_some h
                  refine RX.callAt (some 108) (v := (Value.int .i64 x32)) 26 #[(Sl3.v x28), (Sl3.v a2)] (by kernel_rfl) (by kernel_rfl) (by kernel_rfl) (nat_Cmp_ok hx) ?_
                  refine RX.psn 2 [(110, (Value.bool (!decide (x32 = 0)))), (109, (Value.bool (!decide (x32 = 0))))] (by kernel_rfl) ?_
                  refine RX.done (by kernel_rfl) ?_
                  refine fun ss hs => (WX.nxt ?_ ss hs)
                  rcases ite_some h with ⟨hp, h⟩ | ⟨hp, h⟩
                  · refine WX.condF _ (dec_not hp) (by kernel_rfl) ?_
                    refine WX.skip (by kernel_rfl) ?_
                    refine fun ss hs => (WX.nxt ?_ ss hs)
                    refine WX.seq (by kernel_rfl) ?_
                    refine WX.region (opsOf (cfst (csnd (csnd (csnd (csnd (csnd (csnd (csnd (csnd (csnd (csnd B13)))))))))))) (by kernel_rfl) ?_
                    refine RX.psn 2 [(113, (Sl3.v a0)), (112, (Sl3.v x13))] (by kernel_rfl) ?_
                    obtain ⟨⟨x33, x34, x35, H36⟩, hx, h⟩ := bind_some h
                    dsimp only at h
                    refine RX.callAt (some 114) (v := (Value.tuple #[(Sl3.v x33), (Sl3.v x34), (Value.int .i64 x35)])) 38 #[(Sl3.v x13), (Sl3.v a0)] (by kernel_rfl) (by kernel_rfl) (by kernel_rfl) (nat_Quo_ok hx) ?_
                    refine RX.psn 7 [(21, (Value.int .i64 x35)), (20, (Sl3.v x34)), (19, (Sl3.v x33)), (117, (Value.int .i64 x35)), (116, (Sl3.v x34)), (115, (Sl3.v x33)), (111, (Value.tuple #[(Sl3.v x33), (Sl3.v x34), (Value.int .i64 x35)]))] (by kernel_rfl) ?_
                    refine RX.done (by kernel_rfl) ?_
                    refine fun ss hs => (WX.nxt ?_ ss hs)
                    refine WX.seq (by kernel_rfl) ?_
                    refine WX.seq (by kernel_rfl) ?_
                    refine WX.region (opsOf (cfst (cfst (csnd (csnd (csnd (csnd (csnd (csnd (csnd (csnd (csnd (csnd (csnd B13)))))))))))))) (by kernel_rfl) ?_
                    refine RX.psn 1 [(118, (Sl3.v a0))] (by kernel_rfl) ?_
                    obtain ⟨x37, hx, h⟩ := bind_some h
                    refine RX.callAt (some 119) (v := (Value.int .i64 x37)) 28 #[(Sl3.v a0)] (by kernel_rfl) (by kernel_rfl) (by kernel_rfl) (nat_Len_ok hx) ?_
                    refine RX.psn 1 [(120, (Value.bool (decide (x37 = 0))))] (by kernel_rfl) ?_
                    refine RX.done (by kernel_rfl) ?_
                    refine fun ss hs => (WX.nxt ?_ ss hs)
                    rcases ite_some h with ⟨hp, h⟩ | ⟨hp, h⟩
                    · refine WX.condT _ (decide_eq_true hp) (by kernel_rfl) ?_
                      refine WX.seq (by kernel_rfl) ?_
                      refine WX.region (opsOf (cfst (cfst (csnd (cfst (csnd (csnd (csnd (csnd (csnd (csnd (csnd (csnd (csnd (csnd (csnd B13)))))))))))))))) (by kernel_rfl) ?_
                      refine RX.psn 3 [(6, (Value.bool (decide (x35 = 11)))), (122, (Value.bool (decide (x35 = 11)))), (121, (Value.int .i64 x35))] (by kernel_rfl) ?_
                      refine RX.done (by kernel_rfl) ?_
                      refine fun ss hs => (WX.nxt ?_ ss hs)
                      refine WX.ret (by kernel_rfl) ?_
                      cases h
                      exact fun ss hs => seqR (retR (rq hs (by kernel_rfl)))
                    · refine WX.condF _ (decide_eq_false hp) (by kernel_rfl) ?_
                      refine WX.skip (by kernel_rfl) ?_
                      refine fun ss hs => (WX.nxt ?_ ss hs)
                      refine WX.seq (by kernel_rfl) ?_
                      refine WX.region (opsOf (cfst (csnd (csnd (csnd (csnd (csnd (csnd (csnd (csnd (csnd (csnd (csnd (csnd B13)))))))))))))) (by kernel_rfl) ?_
                      refine RX.psn 3 [(125, (Value.bool (decide (x35 = 0)))), (124, (Value.bool (decide (x35 = 0)))), (123, (Value.int .i64 x35))] (by kernel_rfl) ?_
                      rcases ite_some h with ⟨hp, h⟩ | ⟨hp, h⟩
                      · refine RX.fix 125 true (decide_eq_true hp) (by kernel_rfl) ?_
                        refine RX.psn 2 [(127, (Sl3.v a1)), (126, (Sl3.v x33))] (by kernel_rfl) ?_
                        obtain ⟨x38, hx, h⟩ := bind_some h
                        refine RX.callAt (some 128) (v := (Value.int .i64 x38)) 26 #[(Sl3.v x33), (Sl3.v a1)] (by kernel_rfl) (by kernel_rfl) (by kernel_rfl) (nat_Cmp_ok hx) ?_
                        refine RX.psn 3 [(131, (Value.bool (decide (x38 = 0)))), (130, (Value.bool (decide (x38 = 0)))), (129, (Value.bool (decide (x38 = 0))))] (by kernel_rfl) ?_
                        rcases ite_some h with ⟨hp, h⟩ | ⟨hp, h⟩
                        · refine RX.fix 131 true (decide_eq_true hp) (by kernel_rfl) ?_
                          refine RX.psn 1 [(132, (Sl3.v x34))] (by kernel_rfl) ?_
                          obtain ⟨x39, hx, h⟩ := bind_some h
                          refine RX.callAt (some 133) (v := (Value.int .i64 x39)) 28 #[(Sl3.v x34)] (by kernel_rfl) (by kernel_rfl) (by kernel_rfl) (nat_Len_ok hx) ?_
                          refine RX.psn 3 [(6, (Value.bool (decide (x39 = 0)))), (135, (Value.bool (decide (x39 = 0)))), (134, (Value.bool (decide (x39 = 0))))] (by kernel_rfl) ?_
                          refine RX.done (by kernel_rfl) ?_
                          refine fun ss hs => (WX.nxt ?_ ss hs)
                          refine WX.ret (by kernel_rfl) ?_
                          cases h
                          exact fun ss hs => retR (rq hs (by kernel_rfl))
                        · refine RX.fix 131 false (decide_eq_false hp) (by kernel_rfl) ?_
                          refine RX.psn 5 [(6, (Value.bool false)), (135, (Value.bool false)), (134, undef), (133, undef), (132, undef)] (by kernel_rfl) ?_
                          refine RX.done (by kernel_rfl) ?_
                          refine fun ss hs => (WX.nxt ?_ ss hs)
                          refine WX.ret (by kernel_rfl) ?_
                          cases h
                          exact fun ss hs => retR (rq hs (by kernel_rfl))
                      · refine RX.fix 125 false (decide_eq_false hp) (by kernel_rfl) ?_
                        refine RX.psn 11 [(6, (Value.bool false)), (135, (Value.bool false)), (134, undef), (133, undef), (132, undef), (131, (Value.bool false)), (130, (Value.bool false)), (129, undef), (128, undef), (127, undef), (126, undef)] (by kernel_rfl) ?_
                        refine RX.done (by kernel_rfl) ?_
                        refine fun ss hs => (WX.nxt ?_ ss hs)
                        refine WX.ret (by kernel_rfl) ?_
                        cases h
                        exact fun ss hs => retR (rq hs (by kernel_rfl))
                  · refine WX.condT _ (dec_not' hp) (by kernel_rfl) ?_
                    refine WX.seq (by kernel_rfl) ?_
                    refine WX.region (opsOf (cfst (cfst (csnd (cfst (csnd (csnd (csnd (csnd (csnd (csnd (csnd (csnd (csnd B13)))))))))))))) (by kernel_rfl) ?_
                    refine RX.psn 1 [(6, (Value.bool false))] (by kernel_rfl) ?_
                    refine RX.done (by kernel_rfl) ?_
                    refine fun ss hs => (WX.nxt ?_ ss hs)
                    refine WX.ret (by kernel_rfl) ?_
                    cases h
                    exact fun ss hs => seqR (retR (rq hs (by kernel_rfl)))
                · refine RX.fix 105 true (dec_not' hp) (by kernel_rfl) ?_
                  refine RX.psn 5 [(110, (Value.bool true)), (109, undef), (108, undef), (107, undef), (106, undef)] (by kernel_rfl) ?_
                  refine RX.done (by kernel_rfl) ?_
                  refine fun ss hs => (WX.nxt ?_ ss hs)
                  refine WX.condT true rfl (by kernel_rfl) ?_
                  refine WX.seq (by kernel_rfl) ?_
                  refine WX.region (opsOf (cfst (cfst (csnd (cfst (csnd (csnd (csnd (csnd (csnd (csnd (csnd (csnd (csnd B13)))))))))))))) (by kernel_rfl) ?_
                  refine RX.psn 1 [(6, (Value.bool false))] (by kernel_rfl) ?_
                  refine RX.done (by kernel_rfl) ?_
                  refine fun ss hs => (WX.nxt ?_ ss hs)
                  refine WX.ret (by kernel_rfl) ?_
                  cases h
                  exact fun ss hs => seqR (retR (rq hs (by kernel_rfl)))
              · refine RX.fix 99 true (dec_not' hp) (by kernel_rfl) ?_
                refine RX.psn 11 [(110, (Value.bool true)), (109, undef), (108, undef), (107, undef), (106, undef), (105, (Value.bool true)), (104, (Value.bool true)), (103, undef), (102, undef), (101, undef), (100, undef)] (by kernel_rfl) ?_
                refine RX.done (by kernel_rfl) ?_
                refine fun ss hs => (WX.nxt ?_ ss hs)
                refine WX.condT true rfl (by kernel_rfl) ?_
                refine WX.seq (by kernel_rfl) ?_
                refine WX.region (opsOf (cfst (cfst (csnd (cfst (csnd (csnd (csnd (csnd (csnd (csnd (csnd (csnd (csnd B13)))))))))))))) (by kernel_rfl) ?_
                refine RX.psn 1 [(6, (Value.bool false))] (by kernel_rfl) ?_
                refine RX.done (by kernel_rfl) ?_
                refine fun ss hs => (WX.nxt ?_ ss hs)
                refine WX.ret (by kernel_rfl) ?_
                cases h
                exact fun ss hs => seqR (retR (rq hs (by kernel_rfl)))
            · refine RX.fix 95 true (dec_not' hp) (by kernel_rfl) ?_
              refine RX.psn 15 [(110, (Value.bool true)), (109, undef), (108, undef), (107, undef), (106, undef), (105, (Value.bool true)), (104, (Value.bool true)), (103, undef), (102, undef), (101, undef), (100, undef), (99, (Value.bool true)), (98, (Value.bool true)), (97, undef), (96, undef)] (by kernel_rfl) ?_
              refine RX.done (by kernel_rfl) ?_
              refine fun ss hs => (WX.nxt ?_ ss hs)
              refine WX.condT true rfl (by kernel_rfl) ?_
              refine WX.seq (by kernel_rfl) ?_
              refine WX.region (opsOf (cfst (cfst (csnd (cfst (csnd (csnd (csnd (csnd (csnd (csnd (csnd (csnd (csnd B13)))))))))))))) (by kernel_rfl) ?_
              refine RX.psn 1 [(6, (Value.bool false))] (by kernel_rfl) ?_
              refine RX.done (by kernel_rfl) ?_
              refine fun ss hs => (WX.nxt ?_ ss hs)
              refine WX.ret (by kernel_rfl) ?_
              cases h
              exact fun ss hs => seqR (retR (rq hs (by kernel_rfl)))
          · refine WX.condT _ (dec_not' hp) (by kernel_rfl) ?_
            refine WX.seq (by kernel_rfl) ?_
            refine WX.region (opsOf (cfst (cfst (csnd (cfst (csnd (csnd (csnd (csnd (csnd (csnd B13))))))))))) (by kernel_rfl) ?_
            refine RX.psn 3 [(68, (Value.bool (decide (x4 = 5)))), (67, (Value.bool (decide (x4 = 5)))), (66, (Value.int .i64 x4))] (by kernel_rfl) ?_
            rcases ite_some h with ⟨hp, h⟩ | ⟨hp, h⟩
            · refine RX.fix 68 true (decide_eq_true hp) (by kernel_rfl) ?_
              refine RX.psn 12 [(6, (Value.bool true)), (79, (Value.bool true)), (78, undef), (77, undef), (76, (Value.bool true)), (75, (Value.bool true)), (74, undef), (73, undef), (72, (Value.bool true)), (71, (Value.bool true)), (70, undef), (69, undef)] (by kernel_rfl) ?_
              refine RX.done (by kernel_rfl) ?_
              refine fun ss hs => (WX.nxt ?_ ss hs)
              refine WX.ret (by kernel_rfl) ?_
              cases h
              exact fun ss hs => seqR (retR (rq hs (by kernel_rfl)))
            · refine RX.fix 68 false (decide_eq_false hp) (by kernel_rfl) ?_
              refine RX.psn 4 [(72, (Value.bool (decide (x9 = 5)))), (71, (Value.bool (decide (x9 = 5)))), (70, (Value.bool (decide (x9 = 5)))), (69, (Value.int .i64 x9))] (by kernel_rfl) ?_
              rcases ite_some h with ⟨hp, h⟩ | ⟨hp, h⟩
              · refine RX.fix 72 true (decide_eq_true hp) (by kernel_rfl) ?_
                refine RX.psn 8 [(6, (Value.bool true)), (79, (Value.bool true)), (78, undef), (77, undef), (76, (Value.bool true)), (75, (Value.bool true)), (74, undef), (73, undef)] (by kernel_rfl) ?_
                refine RX.done (by kernel_rfl) ?_
                refine fun ss hs => (WX.nxt ?_ ss hs)
                refine WX.ret (by kernel_rfl) ?_
                cases h
                exact fun ss hs => seqR (retR (rq hs (by kernel_rfl)))
              · refine RX.fix 72 false (decide_eq_false hp) (by kernel_rfl) ?_
                refine RX.psn 4 [(76, (Value.bool (decide (x14 = 5)))), (75, (Value.bool (decide (x14 = 5)))), (74, (Value.bool (decide (x14 = 5)))), (73, (Value.int .i64 x14))] (by kernel_rfl) ?_
                rcases ite_some h with ⟨hp, h⟩ | ⟨hp, h⟩
                · refine RX.fix 76 true (decide_eq_true hp) (by kernel_rfl) ?_
                  refine RX.psn 4 [(6, (Value.bool true)), (79, (Value.bool true)), (78, undef), (77, undef)] (by kernel_rfl) ?_
                  refine RX.done (by kernel_rfl) ?_
                  refine fun ss hs => (WX.nxt ?_ ss hs)
                  refine WX.ret (by kernel_rfl) ?_
                  cases h
                  exact fun ss hs => seqR (retR (rq hs (by kernel_rfl)))
                · refine RX.fix 76 false (decide_eq_false hp) (by kernel_rfl) ?_
                  refine RX.psn 4 [(6, (Value.bool (decide (x19 = 5)))), (79, (Value.bool (decide (x19 = 5)))), (78, (Value.bool (decide (x19 = 5)))), (77, (Value.int .i64 x19))] (by kernel_rfl) ?_
                  refine RX.done (by kernel_rfl) ?_
                  refine fun ss hs => (WX.nxt ?_ ss hs)
                  refine WX.ret (by kernel_rfl) ?_
                  cases h
                  exact fun ss hs => seqR (retR (rq hs (by kernel_rfl)))
        · refine RX.fix 62 true (dec_not' hp) (by kernel_rfl) ?_
          refine RX.psn 3 [(65, (Value.bool true)), (64, undef), (63, undef)] (by kernel_rfl) ?_
          refine RX.done (by kernel_rfl) ?_
          refine fun ss hs => (WX.nxt ?_ ss hs)
          refine WX.condT true rfl (by kernel_rfl) ?_
          refine WX.seq (by kernel_rfl) ?_
          refine WX.region (opsOf (cfst (cfst (csnd (cfst (csnd (csnd (csnd (csnd (csnd (csnd B13))))))))))) (by kernel_rfl) ?_
          refine RX.psn 3 [(68, (Value.bool (decide (x4 = 5)))), (67, (Value.bool (decide (x4 = 5)))), (66, (Value.int .i64 x4))] (by kernel_rfl) ?_
          rcases ite_some h with ⟨hp, h⟩ | ⟨hp, h⟩
          · refine RX.fix 68 true (decide_eq_true hp) (by kernel_rfl) ?_
            refine RX.psn 12 [(6, (Value.bool true)), (79, (Value.bool true)), (78, undef), (77, undef), (76, (Value.bool true)), (75, (Value.bool true)), (74, undef), (73, undef), (72, (Value.bool true)), (71, (Value.bool true)), (70, undef), (69, undef)] (by kernel_rfl) ?_
            refine RX.done (by kernel_rfl) ?_
            refine fun ss hs => (WX.nxt ?_ ss hs)
            refine WX.ret (by kernel_rfl) ?_
            cases h
            exact fun ss hs => seqR (retR (rq hs (by kernel_rfl)))
          · refine RX.fix 68 false (decide_eq_false hp) (by kernel_rfl) ?_
            refine RX.psn 4 [(72, (Value.bool (decide (x9 = 5)))), (71, (Value.bool (decide (x9 = 5)))), (70, (Value.bool (decide (x9 = 5)))), (69, (Value.int .i64 x9))] (by kernel_rfl) ?_
            rcases ite_some h with ⟨hp, h⟩ | ⟨hp, h⟩
            · refine RX.fix 72 true (decide_eq_true hp) (by kernel_rfl) ?_
              refine RX.psn 8 [(6, (Value.bool true)), (79, (Value.bool true)), (78, undef), (77, undef), (76, (Value.bool true)), (75, (Value.bool true)), (74, undef), (73, undef)] (by kernel_rfl) ?_
              refine RX.done (by kernel_rfl) ?_
              refine fun ss hs => (WX.nxt ?_ ss hs)
              refine WX.ret (by kernel_rfl) ?_
              cases h
              exact fun ss hs => seqR (retR (rq hs (by kernel_rfl)))
            · refine RX.fix 72 false (decide_eq_false hp) (by kernel_rfl) ?_
              refine RX.psn 4 [(76, (Value.bool (decide (x14 = 5)))), (75, (Value.bool (decide (x14 = 5)))), (74, (Value.bool (decide (x14 = 5)))), (73, (Value.int .i64 x14))] (by kernel_rfl) ?_
              rcases ite_some h with ⟨hp, h⟩ | ⟨hp, h⟩
              · refine RX.fix 76 true (decide_eq_true hp) (by kernel_rfl) ?_
                refine RX.psn 4 [(6, (Value.bool true)), (79, (Value.bool true)), (78, undef), (77, undef)] (by kernel_rfl) ?_
                refine RX.done (by kernel_rfl) ?_
                refine fun ss hs => (WX.nxt ?_ ss hs)
                refine WX.ret (by kernel_rfl) ?_
                cases h
                exact fun ss hs => seqR (retR (rq hs (by kernel_rfl)))
              · refine RX.fix 76 false (decide_eq_false hp) (by kernel_rfl) ?_
                refine RX.psn 4 [(6, (Value.bool (decide (x19 = 5)))), (79, (Value.bool (decide (x19 = 5)))), (78, (Value.bool (decide (x19 = 5)))), (77, (Value.int .i64 x19))] (by kernel_rfl) ?_
                refine RX.done (by kernel_rfl) ?_
                refine fun ss hs => (WX.nxt ?_ ss hs)
                refine WX.ret (by kernel_rfl) ?_
                cases h
                exact fun ss hs => seqR (retR (rq hs (by kernel_rfl)))
      · refine RX.fix 58 true (dec_not' hp) (by kernel_rfl) ?_
        refine RX.psn 7 [(65, (Value.bool true)), (64, undef), (63, undef), (62, (Value.bool true)), (61, (Value.bool true)), (60, undef), (59, undef)] (by kernel_rfl) ?_
        refine RX.done (by kernel_rfl) ?_
        refine fun ss hs => (WX.nxt ?_ ss hs)
        refine WX.condT true rfl (by kernel_rfl) ?_
        refine WX.seq (by kernel_rfl) ?_
        refine WX.region (opsOf (cfst (cfst (csnd (cfst (csnd (csnd (csnd (csnd (csnd (csnd B13))))))))))) (by kernel_rfl) ?_
        refine RX.psn 3 [(68, (Value.bool (decide (x4 = 5)))), (67, (Value.bool (decide (x4 = 5)))), (66, (Value.int .i64 x4))] (by kernel_rfl) ?_
        rcases ite_some h with ⟨hp, h⟩ | ⟨hp, h⟩
        · refine RX.fix 68 true (decide_eq_true hp) (by kernel_rfl) ?_
          refine RX.psn 12 [(6, (Value.bool true)), (79, (Value.bool true)), (78, undef), (77, undef), (76, (Value.bool true)), (75, (Value.bool true)), (74, undef), (73, undef), (72, (Value.bool true)), (71, (Value.bool true)), (70, undef), (69, undef)] (by kernel_rfl) ?_
          refine RX.done (by kernel_rfl) ?_
          refine fun ss hs => (WX.nxt ?_ ss hs)
          refine WX.ret (by kernel_rfl) ?_
          cases h
          exact fun ss hs => seqR (retR (rq hs (by kernel_rfl)))
        · refine RX.fix 68 false (decide_eq_false hp) (by kernel_rfl) ?_
          refine RX.psn 4 [(72, (Value.bool (decide (x9 = 5)))), (71, (Value.bool (decide (x9 = 5)))), (70, (Value.bool (decide (x9 = 5)))), (69, (Value.int .i64 x9))] (by kernel_rfl) ?_
          rcases ite_some h with ⟨hp, h⟩ | ⟨hp, h⟩
          · refine RX.fix 72 true (decide_eq_true hp) (by kernel_rfl) ?_
            refine RX.psn 8 [(6, (Value.bool true)), (79, (Value.bool true)), (78, undef), (77, undef), (76, (Value.bool true)), (75, (Value.bool true)), (74, undef), (73, undef)] (by kernel_rfl) ?_
            refine RX.done (by kernel_rfl) ?_
            refine fun ss hs => (WX.nxt ?_ ss hs)
            refine WX.ret (by kernel_rfl) ?_
            cases h
            exact fun ss hs => seqR (retR (rq hs (by kernel_rfl)))
          · refine RX.fix 72 false (decide_eq_false hp) (by kernel_rfl) ?_
            refine RX.psn 4 [(76, (Value.bool (decide (x14 = 5)))), (75, (Value.bool (decide (x14 = 5)))), (74, (Value.bool (decide (x14 = 5)))), (73, (Value.int .i64 x14))] (by kernel_rfl) ?_
            rcases ite_some h with ⟨hp, h⟩ | ⟨hp, h⟩
            · refine RX.fix 76 true (decide_eq_true hp) (by kernel_rfl) ?_
              refine RX.psn 4 [(6, (Value.bool true)), (79, (Value.bool true)), (78, undef), (77, undef)] (by kernel_rfl) ?_
              refine RX.done (by kernel_rfl) ?_
              refine fun ss hs => (WX.nxt ?_ ss hs)
              refine WX.ret (by kernel_rfl) ?_
              cases h
              exact fun ss hs => seqR (retR (rq hs (by kernel_rfl)))
            · refine RX.fix 76 false (decide_eq_false hp) (by kernel_rfl) ?_
              refine RX.psn 4 [(6, (Value.bool (decide (x19 = 5)))), (79, (Value.bool (decide (x19 = 5)))), (78, (Value.bool (decide (x19 = 5)))), (77, (Value.int .i64 x19))] (by kernel_rfl) ?_
              refine RX.done (by kernel_rfl) ?_
              refine fun ss hs => (WX.nxt ?_ ss hs)
              refine WX.ret (by kernel_rfl) ?_
              cases h
              exact fun ss hs => seqR (retR (rq hs (by kernel_rfl)))
    · refine RX.fix 54 true (dec_not' hp) (by kernel_rfl) ?_
      refine RX.psn 11 [(65, (Value.bool true)), (64, undef), (63, undef), (62, (Value.bool true)), (61, (Value.bool true)), (60, undef), (59, undef), (58, (Value.bool true)), (57, (Value.bool true)), (56, undef), (55, undef)] (by kernel_rfl) ?_
      refine RX.done (by kernel_rfl) ?_
      refine fun ss hs => (WX.nxt ?_ ss hs)
      refine WX.condT true rfl (by kernel_rfl) ?_
      refine WX.seq (by kernel_rfl) ?_
      refine WX.region (opsOf (cfst (cfst (csnd (cfst (csnd (csnd (csnd (csnd (csnd (csnd B13))))))))))) (by kernel_rfl) ?_
      refine RX.psn 3 [(68, (Value.bool (decide (x4 = 5)))), (67, (Value.bool (decide (x4 = 5)))), (66, (Value.int .i64 x4))] (by kernel_rfl) ?_
      rcases ite_some h with ⟨hp, h⟩ | ⟨hp, h⟩
      · refine RX.fix 68 true (decide_eq_true hp) (by kernel_rfl) ?_
        refine RX.psn 12 [(6, (Value.bool true)), (79, (Value.bool true)), (78, undef), (77, undef), (76, (Value.bool true)), (75, (Value.bool true)), (74, undef), (73, undef), (72, (Value.bool true)), (71, (Value.bool true)), (70, undef), (69, undef)] (by kernel_rfl) ?_
        refine RX.done (by kernel_rfl) ?_
        refine fun ss hs => (WX.nxt ?_ ss hs)
        refine WX.ret (by kernel_rfl) ?_
        cases h
        exact fun ss hs => seqR (retR (rq hs (by kernel_rfl)))
      · refine RX.fix 68 false (decide_eq_false hp) (by kernel_rfl) ?_
        refine RX.psn 4 [(72, (Value.bool (decide (x9 = 5)))), (71, (Value.bool (decide (x9 = 5)))), (70, (Value.bool (decide (x9 = 5)))), (69, (Value.int .i64 x9))] (by kernel_rfl) ?_
        rcases ite_some h with ⟨hp, h⟩ | ⟨hp, h⟩
        · refine RX.fix 72 true (decide_eq_true hp) (by kernel_rfl) ?_
          refine RX.psn 8 [(6, (Value.bool true)), (79, (Value.bool true)), (78, undef), (77, undef), (76, (Value.bool true)), (75, (Value.bool true)), (74, undef), (73, undef)] (by kernel_rfl) ?_
          refine RX.done (by kernel_rfl) ?_
          refine fun ss hs => (WX.nxt ?_ ss hs)
          refine WX.ret (by kernel_rfl) ?_
          cases h
          exact fun ss hs => seqR (retR (rq hs (by kernel_rfl)))
        · refine RX.fix 72 false (decide_eq_false hp) (by kernel_rfl) ?_
          refine RX.psn 4 [(76, (Value.bool (decide (x14 = 5)))), (75, (Value.bool (decide (x14 = 5)))), (74, (Value.bool (decide (x14 = 5)))), (73, (Value.int .i64 x14))] (by kernel_rfl) ?_
          rcases ite_some h with ⟨hp, h⟩ | ⟨hp, h⟩
          · refine RX.fix 76 true (decide_eq_true hp) (by kernel_rfl) ?_
            refine RX.psn 4 [(6, (Value.bool true)), (79, (Value.bool true)), (78, undef), (77, undef)] (by kernel_rfl) ?_
            refine RX.done (by kernel_rfl) ?_
            refine fun ss hs => (WX.nxt ?_ ss hs)
            refine WX.ret (by kernel_rfl) ?_
            cases h
            exact fun ss hs => seqR (retR (rq hs (by kernel_rfl)))
          · refine RX.fix 76 false (decide_eq_false hp) (by kernel_rfl) ?_
            refine RX.psn 4 [(6, (Value.bool (decide (x19 = 5)))), (79, (Value.bool (decide (x19 = 5)))), (78, (Value.bool (decide (x19 = 5)))), (77, (Value.int .i64 x19))] (by kernel_rfl) ?_
            refine RX.done (by kernel_rfl) ?_
            refine fun ss hs => (WX.nxt ?_ ss hs)
            refine WX.ret (by kernel_rfl) ?_
            cases h
            exact fun ss hs => seqR (retR (rq hs (by kernel_rfl)))
  · refine WX.condT _ (nb_not' hp) (by kernel_rfl) ?_
    refine WX.seq (by kernel_rfl) ?_
    refine WX.region (opsOf (cfst (cfst (csnd (cfst (csnd (csnd (csnd (csnd (csnd B13)))))))))) (by kernel_rfl) ?_
    refine RX.psn 1 [(6, (Value.bool false))] (by kernel_rfl) ?_
    refine RX.done (by kernel_rfl) ?_
    refine fun ss hs => (WX.nxt ?_ ss hs)
    refine WX.ret (by kernel_rfl) ?_
    cases h
    exact fun ss hs => seqR (retR (rq hs (by kernel_rfl)))

end Go.Proofs.Ytoadagekdnkciaa
