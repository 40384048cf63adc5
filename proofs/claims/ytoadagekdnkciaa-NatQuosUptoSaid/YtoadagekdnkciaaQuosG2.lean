/- Functions of the program as Lean functions over the abstract heap, and that the interpreter comes to them (printed by a program of this project's own), part 2. No condition. -/
import Derived.Test.YtoadagekdnkciaaQuosG1
namespace Go.Proofs.Ytoadagekdnkciaa
open Go Go.Abs
set_option maxRecDepth 100000

noncomputable def B80 : Code := (Try.f80.body).getD .skip

def nat_less_enc : (Bool × AH) → Value
  | (r0, _) => (Value.bool r0)

def nat_less_hp (_ : AH) : (Bool × AH) → AH := fun r => r.2

noncomputable def nat_less_b0 (a0 : Sl3) (a1 : Sl3) (a2 : Int) : (AH × Int × Int × Int) → Option (Lp (AH × Int × Int × Int) (Bool × AH)) := fun (H1, v7_2, v8_3, v16_4) =>
  if v16_4 < (a1.n : Int) then
    Option.bind (idxA 1 a1 v16_4) fun p5 =>
    Option.bind (rd (deI .u64) H1 p5) fun x6 =>
    Option.bind (bits_Mul64 a2 x6) fun (x7, x8) =>
    Option.bind (add64 x8 v8_3 0) fun (x9, x10) =>
    Option.bind (idxA 1 a0 v16_4) fun p11 =>
    Option.bind (rd (deI .u64) H1 p11) fun x12 =>
    Option.bind (sub64 x12 x9 v7_2) fun (x13, x14) =>
    Option.bind (idxA 1 a0 v16_4) fun p15 =>
    Option.bind (H1.setCell 4294967296 p15 (Value.int .u64 x13)) fun H16 =>
    some (.next (H16, x14, (IntKind.u64.wrap (x7 + x10)), (IntKind.i64.wrap (v16_4 + 1))))
  else
    some (.brk (H1, v7_2, v8_3, v16_4))

def nat_less_b0_kn (a0 : Sl3) (a1 : Sl3) (a2 : Int) : (AH × Int × Int × Int) → Kn := fun (H1, v7_2, v8_3, v16_4) => [(7, (Value.int .u64 v7_2)), (8, (Value.int .u64 v8_3)), (16, (Value.int .i64 v16_4)), (0, (Sl3.v a0)), (1, (Sl3.v a1)), (2, (Value.int .u64 a2)), (14, (Sl3.v a1)), (15, (Value.int .i64 (a1.n : Int)))]

noncomputable def nat_less (H : AH) (a0 : Sl3) (a1 : Sl3) (a2 : Int) : Option (Bool × AH) :=
  Option.bind (loopO (nat_less_b0 a0 a1 a2) (H, 0, 0, 0)) fun o => match o with
  | .inl (H17, v7_18, v8_19, v16_20) =>
    Option.bind (idxA 1 a0 (a1.n : Int)) fun p21 =>
    Option.bind (rd (deI .u64) H17 p21) fun x22 =>
    Option.bind (sub64 x22 v8_19 v7_18) fun (x23, x24) =>
    Option.bind (idxA 1 a0 (a1.n : Int)) fun p25 =>
    Option.bind (H17.setCell 4294967296 p25 (Value.int .u64 x23)) fun H26 =>
    some ((!decide (x24 = 0)), H26)
  | .inr r => some r

theorem nat_less_b0_ok {a0 : Sl3} {a1 : Sl3} {a2 : Int} : ∀ s o, nat_less_b0 a0 a1 a2 s = some o →
    WX Try.prog 1000 4294967296 Try.f80.ntmps (cfst (cfst (csnd (cfst (csnd (csnd B80)))))) (nat_less_b0_kn a0 a1 a2 s) ((fun s => s.1) s) (lpQ (nat_less_b0_kn a0 a1 a2) (fun s => s.1) 0 (fun r => RQ Try.f80 (nat_less_enc r) (nat_less_hp ⟨0, .nil⟩ r)) o) := by
  rintro ⟨H1, v7_2, v8_3, v16_4⟩ o h
  unfold nat_less_b0 at h
  try dsimp only at h
  refine WX.seq (by kernel_rfl) ?_
  refine WX.region (opsOf (cfst (cfst (cfst (csnd (cfst (csnd (csnd B80)))))))) (by kernel_rfl) ?_
  refine RX.psn 1 [(17, (Value.bool (decide (v16_4 < (a1.n : Int)))))] (by kernel_rfl) ?_
  refine RX.done (by kernel_rfl) ?_
  refine fun ss hs => (WX.nxt ?_ ss hs)
  refine WX.seq (by kernel_rfl) ?_
  rcases ite_some h with ⟨hp, h⟩ | ⟨hp, h⟩
  · refine WX.condT _ (decide_eq_true hp) (by kernel_rfl) ?_
    refine WX.skip (by kernel_rfl) ?_
    refine fun ss hs => (WX.nxt ?_ ss hs)
    refine WX.seq (by kernel_rfl) ?_
    refine WX.block 1 (by kernel_rfl) ?_
    refine WX.seq (by kernel_rfl) ?_
    refine WX.region (opsOf (cfst (cfst (cfst (csnd (csnd (cfst (cfst (csnd (cfst (csnd (csnd B80)))))))))))) (by kernel_rfl) ?_
    refine RX.psn 1 [(18, (Value.int .i64 v16_4))] (by kernel_rfl) ?_
    obtain ⟨p5, hx, h⟩ := bind_some h
    refine RX.at (some 19) (Value.pointer (some p5)) (by kernel_rfl) (by kernel_rfl) (fun ih => Abs.run_idx (s := a1) (k := .i64) (t := 24) (e := 38) (x := .tmp 14) (y := .tmp 16) (by kernel_rfl) (by kernel_rfl) (by kernel_rfl) (by kernel_rfl) (by kernel_rfl) hx) ?_
    obtain ⟨x6, hx, h⟩ := bind_some h
    refine RX.at (some 20) (Value.int .u64 x6) (by kernel_rfl) (by kernel_rfl) (fun ih => Abs.run_load (t := 38) (x := .tmp 19) (a := p5) (by kernel_rfl) (by kernel_rfl) (by kernel_rfl) (rd_cell hx deI_inv)) ?_
    refine RX.psn 2 [(10, (Value.int .u64 x6)), (9, (Value.int .i64 v16_4))] (by kernel_rfl) ?_
    refine RX.done (by kernel_rfl) ?_
    refine fun ss hs => (WX.nxt ?_ ss hs)
    refine WX.seq (by kernel_rfl) ?_
    refine WX.region (opsOf (cfst (csnd (cfst (cfst (csnd (csnd (cfst (cfst (csnd (cfst (csnd (csnd B80))))))))))))) (by kernel_rfl) ?_
    refine RX.psn 2 [(23, (Value.int .u64 x6)), (22, (Value.int .u64 a2))] (by kernel_rfl) ?_
    obtain ⟨⟨x7, x8⟩, hx, h⟩ := bind_some h
    dsimp only at h
    refine RX.callAt (some 24) (v := (Value.tuple #[(Value.int .u64 x7), (Value.int .u64 x8)])) 71 #[(Value.int .u64 a2), (Value.int .u64 x6)] (by kernel_rfl) (by kernel_rfl) (by kernel_rfl) (bits_Mul64_ok hx) ?_
    refine RX.psn 5 [(12, (Value.int .u64 x8)), (11, (Value.int .u64 x7)), (26, (Value.int .u64 x8)), (25, (Value.int .u64 x7)), (21, (Value.tuple #[(Value.int .u64 x7), (Value.int .u64 x8)]))] (by kernel_rfl) ?_
    refine RX.done (by kernel_rfl) ?_
    refine fun ss hs => (WX.nxt ?_ ss hs)
    refine WX.seq (by kernel_rfl) ?_
    refine WX.region (opsOf (cfst (csnd (csnd (cfst (cfst (csnd (csnd (cfst (cfst (csnd (cfst (csnd (csnd B80)))))))))))))) (by kernel_rfl) ?_
    refine RX.psn 1 [(13, (Value.int .u64 0))] (by kernel_rfl) ?_
    refine RX.done (by kernel_rfl) ?_
    refine fun ss hs => (WX.nxt ?_ ss hs)
    refine WX.seq (by kernel_rfl) ?_
    refine WX.region (opsOf (cfst (csnd (csnd (csnd (cfst (cfst (csnd (csnd (cfst (cfst (csnd (cfst (csnd (csnd B80))))))))))))))) (by kernel_rfl) ?_
    refine RX.psn 2 [(29, (Value.int .u64 v8_3)), (28, (Value.int .u64 x8))] (by kernel_rfl) ?_
    obtain ⟨⟨x9, x10⟩, hx, h⟩ := bind_some h
    dsimp only at h
    refine RX.callAt (some 30) (v := (Value.tuple #[(Value.int .u64 x9), (Value.int .u64 x10)])) 72 #[(Value.int .u64 x8), (Value.int .u64 v8_3), (Value.int .u64 0)] (by kernel_rfl) (by kernel_rfl) (by kernel_rfl) (ext72_ok hx) ?_
    refine RX.psn 5 [(13, (Value.int .u64 x10)), (12, (Value.int .u64 x9)), (32, (Value.int .u64 x10)), (31, (Value.int .u64 x9)), (27, (Value.tuple #[(Value.int .u64 x9), (Value.int .u64 x10)]))] (by kernel_rfl) ?_
    refine RX.done (by kernel_rfl) ?_
    refine fun ss hs => (WX.nxt ?_ ss hs)
    refine WX.seq (by kernel_rfl) ?_
    refine WX.region (opsOf (cfst (csnd (csnd (csnd (csnd (cfst (cfst (csnd (csnd (cfst (cfst (csnd (cfst (csnd (csnd B80)))))))))))))))) (by kernel_rfl) ?_
    refine RX.psn 4 [(8, (Value.int .u64 (IntKind.u64.wrap (x7 + x10)))), (35, (Value.int .u64 (IntKind.u64.wrap (x7 + x10)))), (34, (Value.int .u64 x10)), (33, (Value.int .u64 x7))] (by kernel_rfl) ?_
    refine RX.done (by kernel_rfl) ?_
    refine fun ss hs => (WX.nxt ?_ ss hs)
    refine WX.region (opsOf (csnd (csnd (csnd (csnd (csnd (cfst (cfst (csnd (csnd (cfst (cfst (csnd (cfst (csnd (csnd B80)))))))))))))))) (by kernel_rfl) ?_
    refine RX.psn 4 [(40, (Value.int .i64 v16_4)), (39, (Sl3.v a0)), (38, (Value.int .i64 v16_4)), (37, (Sl3.v a0))] (by kernel_rfl) ?_
    obtain ⟨p11, hx, h⟩ := bind_some h
    refine RX.at (some 41) (Value.pointer (some p11)) (by kernel_rfl) (by kernel_rfl) (fun ih => Abs.run_idx (s := a0) (k := .i64) (t := 24) (e := 38) (x := .tmp 39) (y := .tmp 40) (by kernel_rfl) (by kernel_rfl) (by kernel_rfl) (by kernel_rfl) (by kernel_rfl) hx) ?_
    obtain ⟨x12, hx, h⟩ := bind_some h
    refine RX.at (some 42) (Value.int .u64 x12) (by kernel_rfl) (by kernel_rfl) (fun ih => Abs.run_load (t := 38) (x := .tmp 41) (a := p11) (by kernel_rfl) (by kernel_rfl) (by kernel_rfl) (rd_cell hx deI_inv)) ?_
    refine RX.psn 2 [(44, (Value.int .u64 v7_2)), (43, (Value.int .u64 x9))] (by kernel_rfl) ?_
    obtain ⟨⟨x13, x14⟩, hx, h⟩ := bind_some h
    dsimp only at h
    refine RX.callAt (some 45) (v := (Value.tuple #[(Value.int .u64 x13), (Value.int .u64 x14)])) 77 #[(Value.int .u64 x12), (Value.int .u64 x9), (Value.int .u64 v7_2)] (by kernel_rfl) (by kernel_rfl) (by kernel_rfl) (ext77_ok hx) ?_
    refine RX.psn 3 [(47, (Value.int .u64 x14)), (46, (Value.int .u64 x13)), (36, (Value.tuple #[(Value.int .u64 x13), (Value.int .u64 x14)]))] (by kernel_rfl) ?_
    obtain ⟨p15, hx, h⟩ := bind_some h
    refine RX.at (some 48) (Value.pointer (some p15)) (by kernel_rfl) (by kernel_rfl) (fun ih => Abs.run_idx (s := a0) (k := .i64) (t := 24) (e := 38) (x := .tmp 37) (y := .tmp 38) (by kernel_rfl) (by kernel_rfl) (by kernel_rfl) (by kernel_rfl) (by kernel_rfl) hx) ?_
    obtain ⟨H16, hx, h⟩ := bind_some h
    refine RX.at none undef (by kernel_rfl) (by kernel_rfl) (fun ih => Abs.run_store1 (t := 38) (x := .tmp 48) (y := .tmp 46) (a := p15) (v := (Value.int .u64 x13)) (by kernel_rfl) (by kernel_rfl) (by kernel_rfl) (by kernel_rfl) (by kernel_rfl) hx) ?_
    refine RX.psn 1 [(7, (Value.int .u64 x14))] (by kernel_rfl) ?_
    refine RX.done (by kernel_rfl) ?_
    refine fun ss hs => blkN ((WX.nxt ?_ ss hs))
    refine WX.region (opsOf (csnd (csnd (csnd (cfst (cfst (csnd (cfst (csnd (csnd B80)))))))))) (by kernel_rfl) ?_
    refine RX.psn 2 [(16, (Value.int .i64 (IntKind.i64.wrap (v16_4 + 1)))), (49, (Value.int .i64 (IntKind.i64.wrap (v16_4 + 1))))] (by kernel_rfl) ?_
    refine RX.done (by kernel_rfl) ?_
    cases h
    exact fun ss hs => lpN rfl (hs.sub ((SubK.cons (by kernel_rfl) (SubK.cons (by kernel_rfl) (SubK.cons (by kernel_rfl) (SubK.cons (by kernel_rfl) (SubK.cons (by kernel_rfl) (SubK.cons (by kernel_rfl) (SubK.cons (by kernel_rfl) (SubK.cons (by kernel_rfl) SubK.nil))))))))))
  · refine WX.condF _ (decide_eq_false hp) (by kernel_rfl) ?_
    refine WX.exit 0 (by kernel_rfl) ?_
    cases h
    exact fun ss hs => seqE (lpB rfl (hs.sub ((SubK.cons (by kernel_rfl) (SubK.cons (by kernel_rfl) (SubK.cons (by kernel_rfl) (SubK.cons (by kernel_rfl) (SubK.cons (by kernel_rfl) (SubK.cons (by kernel_rfl) (SubK.cons (by kernel_rfl) (SubK.cons (by kernel_rfl) SubK.nil)))))))))))

theorem nat_less_ok {H : AH} {a0 : Sl3} {a1 : Sl3} {a2 : Int} {r : (Bool × AH)} (h : nat_less H a0 a1 a2 = some r) :
    CallE Try.prog 1000 4294967296 80 #[(Sl3.v a0), (Sl3.v a1), (Value.int .u64 a2)] H (nat_less_enc r) (nat_less_hp H r) := by
  refine CallE.mk (args := [(Sl3.v a0), (Sl3.v a1), (Value.int .u64 a2)]) Try.func80 (B := B80) (by kernel_rfl) ?_
  unfold nat_less at h
  refine WX.seq (by kernel_rfl) ?_
  refine WX.region (opsOf (cfst B80)) (by kernel_rfl) ?_
  refine RX.psn 1 [(6, (Value.bool false))] (by kernel_rfl) ?_
  refine RX.done (by kernel_rfl) ?_
  refine fun ss hs => (WX.nxt ?_ ss hs)
  refine WX.seq (by kernel_rfl) ?_
  refine WX.region (opsOf (cfst (csnd B80))) (by kernel_rfl) ?_
  refine RX.psn 2 [(8, (Value.int .u64 0)), (7, (Value.int .u64 0))] (by kernel_rfl) ?_
  refine RX.done (by kernel_rfl) ?_
  refine fun ss hs => (WX.nxt ?_ ss hs)
  refine WX.seq (by kernel_rfl) ?_
  refine WX.seq (by kernel_rfl) ?_
  refine WX.region (opsOf (cfst (cfst (csnd (csnd B80))))) (by kernel_rfl) ?_
  refine RX.psn 3 [(16, (Value.int .i64 0)), (15, (Value.int .i64 (a1.n : Int))), (14, (Sl3.v a1))] (by kernel_rfl) ?_
  refine RX.done (by kernel_rfl) ?_
  refine fun ss hs => (WX.nxt ?_ ss hs)
  refine WX.block 0 (by kernel_rfl) ?_
  obtain ⟨o, hl, h⟩ := bind_some h
  rcases o with ⟨H17, v7_18, v8_19, v16_20⟩ | r
  · dsimp only at h
    refine WX.loopI (by kernel_rfl) (nat_less_b0 a0 a1 a2) (nat_less_b0_kn a0 a1 a2) (fun s => s.1) 0 (fun r => RQ Try.f80 (nat_less_enc r) (nat_less_hp ⟨0, .nil⟩ r)) nat_less_b0_ok hl ((SubK.cons (by kernel_rfl) (SubK.cons (by kernel_rfl) (SubK.cons (by kernel_rfl) (SubK.cons (by kernel_rfl) (SubK.cons (by kernel_rfl) (SubK.cons (by kernel_rfl) (SubK.cons (by kernel_rfl) (SubK.cons (by kernel_rfl) SubK.nil))))))))) rfl ?_
    clear hl
    refine fun ss hs => blkE ((WX.nxt ?_ ss hs))
    refine WX.seq (by kernel_rfl) ?_
    refine WX.region (opsOf (cfst (csnd (csnd (csnd B80))))) (by kernel_rfl) ?_
    refine RX.psn 6 [(56, (Value.int .i64 (a1.n : Int))), (55, (Sl3.v a1)), (54, (Sl3.v a0)), (53, (Value.int .i64 (a1.n : Int))), (52, (Sl3.v a1)), (51, (Sl3.v a0))] (by kernel_rfl) ?_
    obtain ⟨p21, hx, h⟩ := bind_some h
    refine RX.at (some 57) (Value.pointer (some p21)) (by kernel_rfl) (by kernel_rfl) (fun ih => Abs.run_idx (s := a0) (k := .i64) (t := 24) (e := 38) (x := .tmp 54) (y := .tmp 56) (by kernel_rfl) (by kernel_rfl) (by kernel_rfl) (by kernel_rfl) (by kernel_rfl) hx) ?_
    obtain ⟨x22, hx, h⟩ := bind_some h
    refine RX.at (some 58) (Value.int .u64 x22) (by kernel_rfl) (by kernel_rfl) (fun ih => Abs.run_load (t := 38) (x := .tmp 57) (a := p21) (by kernel_rfl) (by kernel_rfl) (by kernel_rfl) (rd_cell hx deI_inv)) ?_
    refine RX.psn 2 [(60, (Value.int .u64 v7_18)), (59, (Value.int .u64 v8_19))] (by kernel_rfl) ?_
    obtain ⟨⟨x23, x24⟩, hx, h⟩ := bind_some h
    dsimp only at h
    refine RX.callAt (some 61) (v := (Value.tuple #[(Value.int .u64 x23), (Value.int .u64 x24)])) 77 #[(Value.int .u64 x22), (Value.int .u64 v8_19), (Value.int .u64 v7_18)] (by kernel_rfl) (by kernel_rfl) (by kernel_rfl) (ext77_ok hx) ?_
    refine RX.psn 3 [(63, (Value.int .u64 x24)), (62, (Value.int .u64 x23)), (50, (Value.tuple #[(Value.int .u64 x23), (Value.int .u64 x24)]))] (by kernel_rfl) ?_
    obtain ⟨p25, hx, h⟩ := bind_some h
    refine RX.at (some 64) (Value.pointer (some p25)) (by kernel_rfl) (by kernel_rfl) (fun ih => Abs.run_idx (s := a0) (k := .i64) (t := 24) (e := 38) (x := .tmp 51) (y := .tmp 53) (by kernel_rfl) (by kernel_rfl) (by kernel_rfl) (by kernel_rfl) (by kernel_rfl) hx) ?_
    obtain ⟨H26, hx, h⟩ := bind_some h
    refine RX.at none undef (by kernel_rfl) (by kernel_rfl) (fun ih => Abs.run_store1 (t := 38) (x := .tmp 64) (y := .tmp 62) (a := p25) (v := (Value.int .u64 x23)) (by kernel_rfl) (by kernel_rfl) (by kernel_rfl) (by kernel_rfl) (by kernel_rfl) hx) ?_
    refine RX.psn 1 [(7, (Value.int .u64 x24))] (by kernel_rfl) ?_
    refine RX.done (by kernel_rfl) ?_
    refine fun ss hs => (WX.nxt ?_ ss hs)
    refine WX.seq (by kernel_rfl) ?_
    refine WX.region (opsOf (cfst (csnd (csnd (csnd (csnd B80)))))) (by kernel_rfl) ?_
    refine RX.psn 3 [(6, (Value.bool (!decide (x24 = 0)))), (66, (Value.bool (!decide (x24 = 0)))), (65, (Value.int .u64 x24))] (by kernel_rfl) ?_
    refine RX.done (by kernel_rfl) ?_
    refine fun ss hs => (WX.nxt ?_ ss hs)
    refine WX.ret (by kernel_rfl) ?_
    cases h
    exact fun ss hs => retR (rq hs (by kernel_rfl))
  · dsimp only at h
    refine WX.loopR (by kernel_rfl) (nat_less_b0 a0 a1 a2) (nat_less_b0_kn a0 a1 a2) (fun s => s.1) 0 (fun r => RQ Try.f80 (nat_less_enc r) (nat_less_hp ⟨0, .nil⟩ r)) nat_less_b0_ok hl ((SubK.cons (by kernel_rfl) (SubK.cons (by kernel_rfl) (SubK.cons (by kernel_rfl) (SubK.cons (by kernel_rfl) (SubK.cons (by kernel_rfl) (SubK.cons (by kernel_rfl) (SubK.cons (by kernel_rfl) (SubK.cons (by kernel_rfl) SubK.nil))))))))) rfl ?_
    cases h
    exact fun ss H hq => blkR (seqR (retR hq))

noncomputable def B81 : Code := (Try.f81.body).getD .skip

def nat_more_enc : AH → Value
  | _ => (Value.tuple #[])

def nat_more_hp (_ : AH) : AH → AH := fun r => r

noncomputable def nat_more_b0 (a0 : Sl3) (a1 : Sl3) : (AH × Int × Int) → Option (Lp (AH × Int × Int) AH) := fun (H1, v4_2, v9_3) =>
  if v9_3 < (a1.n : Int) then
    Option.bind (idxA 1 a1 v9_3) fun p4 =>
    Option.bind (rd (deI .u64) H1 p4) fun x5 =>
    Option.bind (idxA 1 a0 v9_3) fun p6 =>
    Option.bind (rd (deI .u64) H1 p6) fun x7 =>
    Option.bind (add64 x7 x5 v4_2) fun (x8, x9) =>
    Option.bind (idxA 1 a0 v9_3) fun p10 =>
    Option.bind (H1.setCell 4294967296 p10 (Value.int .u64 x8)) fun H11 =>
    some (.next (H11, x9, (IntKind.i64.wrap (v9_3 + 1))))
  else
    some (.brk (H1, v4_2, v9_3))

def nat_more_b0_kn (a0 : Sl3) (a1 : Sl3) : (AH × Int × Int) → Kn := fun (H1, v4_2, v9_3) => [(4, (Value.int .u64 v4_2)), (9, (Value.int .i64 v9_3)), (0, (Sl3.v a0)), (1, (Sl3.v a1)), (7, (Sl3.v a1)), (8, (Value.int .i64 (a1.n : Int)))]

noncomputable def nat_more (H : AH) (a0 : Sl3) (a1 : Sl3) : Option AH :=
  Option.bind (loopO (nat_more_b0 a0 a1) (H, 0, 0)) fun o => match o with
  | .inl (H12, v4_13, v9_14) =>
    Option.bind (idxA 1 a0 (a1.n : Int)) fun p15 =>
    Option.bind (rd (deI .u64) H12 p15) fun x16 =>
    Option.bind (idxA 1 a0 (a1.n : Int)) fun p17 =>
    Option.bind (H12.setCell 4294967296 p17 (Value.int .u64 (IntKind.u64.wrap (x16 + v4_13)))) fun H18 =>
    some H18
  | .inr r => some r

theorem nat_more_b0_ok {a0 : Sl3} {a1 : Sl3} : ∀ s o, nat_more_b0 a0 a1 s = some o →
    WX Try.prog 1000 4294967296 Try.f81.ntmps (cfst (cfst (csnd (cfst (csnd B81))))) (nat_more_b0_kn a0 a1 s) ((fun s => s.1) s) (lpQ (nat_more_b0_kn a0 a1) (fun s => s.1) 0 (fun r => RQ Try.f81 (nat_more_enc r) (nat_more_hp ⟨0, .nil⟩ r)) o) := by
  rintro ⟨H1, v4_2, v9_3⟩ o h
  unfold nat_more_b0 at h
  try dsimp only at h
  refine WX.seq (by kernel_rfl) ?_
  refine WX.region (opsOf (cfst (cfst (cfst (csnd (cfst (csnd B81))))))) (by kernel_rfl) ?_
  refine RX.psn 1 [(10, (Value.bool (decide (v9_3 < (a1.n : Int)))))] (by kernel_rfl) ?_
  refine RX.done (by kernel_rfl) ?_
  refine fun ss hs => (WX.nxt ?_ ss hs)
  refine WX.seq (by kernel_rfl) ?_
  rcases ite_some h with ⟨hp, h⟩ | ⟨hp, h⟩
  · refine WX.condT _ (decide_eq_true hp) (by kernel_rfl) ?_
    refine WX.skip (by kernel_rfl) ?_
    refine fun ss hs => (WX.nxt ?_ ss hs)
    refine WX.seq (by kernel_rfl) ?_
    refine WX.block 1 (by kernel_rfl) ?_
    refine WX.seq (by kernel_rfl) ?_
    refine WX.region (opsOf (cfst (cfst (cfst (csnd (csnd (cfst (cfst (csnd (cfst (csnd B81))))))))))) (by kernel_rfl) ?_
    refine RX.psn 1 [(11, (Value.int .i64 v9_3))] (by kernel_rfl) ?_
    obtain ⟨p4, hx, h⟩ := bind_some h
    refine RX.at (some 12) (Value.pointer (some p4)) (by kernel_rfl) (by kernel_rfl) (fun ih => Abs.run_idx (s := a1) (k := .i64) (t := 24) (e := 38) (x := .tmp 7) (y := .tmp 9) (by kernel_rfl) (by kernel_rfl) (by kernel_rfl) (by kernel_rfl) (by kernel_rfl) hx) ?_
    obtain ⟨x5, hx, h⟩ := bind_some h
    refine RX.at (some 13) (Value.int .u64 x5) (by kernel_rfl) (by kernel_rfl) (fun ih => Abs.run_load (t := 38) (x := .tmp 12) (a := p4) (by kernel_rfl) (by kernel_rfl) (by kernel_rfl) (rd_cell hx deI_inv)) ?_
    refine RX.psn 2 [(6, (Value.int .u64 x5)), (5, (Value.int .i64 v9_3))] (by kernel_rfl) ?_
    refine RX.done (by kernel_rfl) ?_
    refine fun ss hs => (WX.nxt ?_ ss hs)
    refine WX.region (opsOf (csnd (cfst (cfst (csnd (csnd (cfst (cfst (csnd (cfst (csnd B81))))))))))) (by kernel_rfl) ?_
    refine RX.psn 4 [(18, (Value.int .i64 v9_3)), (17, (Sl3.v a0)), (16, (Value.int .i64 v9_3)), (15, (Sl3.v a0))] (by kernel_rfl) ?_
    obtain ⟨p6, hx, h⟩ := bind_some h
    refine RX.at (some 19) (Value.pointer (some p6)) (by kernel_rfl) (by kernel_rfl) (fun ih => Abs.run_idx (s := a0) (k := .i64) (t := 24) (e := 38) (x := .tmp 17) (y := .tmp 18) (by kernel_rfl) (by kernel_rfl) (by kernel_rfl) (by kernel_rfl) (by kernel_rfl) hx) ?_
    obtain ⟨x7, hx, h⟩ := bind_some h
    refine RX.at (some 20) (Value.int .u64 x7) (by kernel_rfl) (by kernel_rfl) (fun ih => Abs.run_load (t := 38) (x := .tmp 19) (a := p6) (by kernel_rfl) (by kernel_rfl) (by kernel_rfl) (rd_cell hx deI_inv)) ?_
    refine RX.psn 2 [(22, (Value.int .u64 v4_2)), (21, (Value.int .u64 x5))] (by kernel_rfl) ?_
    obtain ⟨⟨x8, x9⟩, hx, h⟩ := bind_some h
    dsimp only at h
    refine RX.callAt (some 23) (v := (Value.tuple #[(Value.int .u64 x8), (Value.int .u64 x9)])) 72 #[(Value.int .u64 x7), (Value.int .u64 x5), (Value.int .u64 v4_2)] (by kernel_rfl) (by kernel_rfl) (by kernel_rfl) (ext72_ok hx) ?_
    refine RX.psn 3 [(25, (Value.int .u64 x9)), (24, (Value.int .u64 x8)), (14, (Value.tuple #[(Value.int .u64 x8), (Value.int .u64 x9)]))] (by kernel_rfl) ?_
    obtain ⟨p10, hx, h⟩ := bind_some h
    refine RX.at (some 26) (Value.pointer (some p10)) (by kernel_rfl) (by kernel_rfl) (fun ih => Abs.run_idx (s := a0) (k := .i64) (t := 24) (e := 38) (x := .tmp 15) (y := .tmp 16) (by kernel_rfl) (by kernel_rfl) (by kernel_rfl) (by kernel_rfl) (by kernel_rfl) hx) ?_
    obtain ⟨H11, hx, h⟩ := bind_some h
    refine RX.at none undef (by kernel_rfl) (by kernel_rfl) (fun ih => Abs.run_store1 (t := 38) (x := .tmp 26) (y := .tmp 24) (a := p10) (v := (Value.int .u64 x8)) (by kernel_rfl) (by kernel_rfl) (by kernel_rfl) (by kernel_rfl) (by kernel_rfl) hx) ?_
    refine RX.psn 1 [(4, (Value.int .u64 x9))] (by kernel_rfl) ?_
    refine RX.done (by kernel_rfl) ?_
    refine fun ss hs => blkN ((WX.nxt ?_ ss hs))
    refine WX.region (opsOf (csnd (csnd (csnd (cfst (cfst (csnd (cfst (csnd B81))))))))) (by kernel_rfl) ?_
    refine RX.psn 2 [(9, (Value.int .i64 (IntKind.i64.wrap (v9_3 + 1)))), (27, (Value.int .i64 (IntKind.i64.wrap (v9_3 + 1))))] (by kernel_rfl) ?_
    refine RX.done (by kernel_rfl) ?_
    cases h
    exact fun ss hs => lpN rfl (hs.sub ((SubK.cons (by kernel_rfl) (SubK.cons (by kernel_rfl) (SubK.cons (by kernel_rfl) (SubK.cons (by kernel_rfl) (SubK.cons (by kernel_rfl) (SubK.cons (by kernel_rfl) SubK.nil))))))))
  · refine WX.condF _ (decide_eq_false hp) (by kernel_rfl) ?_
    refine WX.exit 0 (by kernel_rfl) ?_
    cases h
    exact fun ss hs => seqE (lpB rfl (hs.sub ((SubK.cons (by kernel_rfl) (SubK.cons (by kernel_rfl) (SubK.cons (by kernel_rfl) (SubK.cons (by kernel_rfl) (SubK.cons (by kernel_rfl) (SubK.cons (by kernel_rfl) SubK.nil)))))))))

theorem nat_more_ok {H : AH} {a0 : Sl3} {a1 : Sl3} {r : AH} (h : nat_more H a0 a1 = some r) :
    CallE Try.prog 1000 4294967296 81 #[(Sl3.v a0), (Sl3.v a1)] H (nat_more_enc r) (nat_more_hp H r) := by
  refine CallE.mk (args := [(Sl3.v a0), (Sl3.v a1)]) Try.func81 (B := B81) (by kernel_rfl) ?_
  unfold nat_more at h
  refine WX.seq (by kernel_rfl) ?_
  refine WX.region (opsOf (cfst B81)) (by kernel_rfl) ?_
  refine RX.psn 1 [(4, (Value.int .u64 0))] (by kernel_rfl) ?_
  refine RX.done (by kernel_rfl) ?_
  refine fun ss hs => (WX.nxt ?_ ss hs)
  refine WX.seq (by kernel_rfl) ?_
  refine WX.seq (by kernel_rfl) ?_
  refine WX.region (opsOf (cfst (cfst (csnd B81)))) (by kernel_rfl) ?_
  refine RX.psn 3 [(9, (Value.int .i64 0)), (8, (Value.int .i64 (a1.n : Int))), (7, (Sl3.v a1))] (by kernel_rfl) ?_
  refine RX.done (by kernel_rfl) ?_
  refine fun ss hs => (WX.nxt ?_ ss hs)
  refine WX.block 0 (by kernel_rfl) ?_
  obtain ⟨o, hl, h⟩ := bind_some h
  rcases o with ⟨H12, v4_13, v9_14⟩ | r
  · dsimp only at h
    refine WX.loopI (by kernel_rfl) (nat_more_b0 a0 a1) (nat_more_b0_kn a0 a1) (fun s => s.1) 0 (fun r => RQ Try.f81 (nat_more_enc r) (nat_more_hp ⟨0, .nil⟩ r)) nat_more_b0_ok hl ((SubK.cons (by kernel_rfl) (SubK.cons (by kernel_rfl) (SubK.cons (by kernel_rfl) (SubK.cons (by kernel_rfl) (SubK.cons (by kernel_rfl) (SubK.cons (by kernel_rfl) SubK.nil))))))) rfl ?_
    clear hl
    refine fun ss hs => blkE ((WX.nxt ?_ ss hs))
    refine WX.region (opsOf (csnd (csnd B81))) (by kernel_rfl) ?_
    refine RX.psn 3 [(30, (Value.int .i64 (a1.n : Int))), (29, (Sl3.v a1)), (28, (Sl3.v a0))] (by kernel_rfl) ?_
    obtain ⟨p15, hx, h⟩ := bind_some h
    refine RX.at (some 31) (Value.pointer (some p15)) (by kernel_rfl) (by kernel_rfl) (fun ih => Abs.run_idx (s := a0) (k := .i64) (t := 24) (e := 38) (x := .tmp 28) (y := .tmp 30) (by kernel_rfl) (by kernel_rfl) (by kernel_rfl) (by kernel_rfl) (by kernel_rfl) hx) ?_
    obtain ⟨x16, hx, h⟩ := bind_some h
    refine RX.at (some 32) (Value.int .u64 x16) (by kernel_rfl) (by kernel_rfl) (fun ih => Abs.run_load (t := 38) (x := .tmp 31) (a := p15) (by kernel_rfl) (by kernel_rfl) (by kernel_rfl) (rd_cell hx deI_inv)) ?_
    refine RX.psn 2 [(34, (Value.int .u64 (IntKind.u64.wrap (x16 + v4_13)))), (33, (Value.int .u64 v4_13))] (by kernel_rfl) ?_
    obtain ⟨p17, hx, h⟩ := bind_some h
    refine RX.at (some 35) (Value.pointer (some p17)) (by kernel_rfl) (by kernel_rfl) (fun ih => Abs.run_idx (s := a0) (k := .i64) (t := 24) (e := 38) (x := .tmp 28) (y := .tmp 30) (by kernel_rfl) (by kernel_rfl) (by kernel_rfl) (by kernel_rfl) (by kernel_rfl) hx) ?_
    obtain ⟨H18, hx, h⟩ := bind_some h
    refine RX.at none undef (by kernel_rfl) (by kernel_rfl) (fun ih => Abs.run_store1 (t := 38) (x := .tmp 35) (y := .tmp 34) (a := p17) (v := (Value.int .u64 (IntKind.u64.wrap (x16 + v4_13)))) (by kernel_rfl) (by kernel_rfl) (by kernel_rfl) (by kernel_rfl) (by kernel_rfl) hx) ?_
    refine RX.done (by kernel_rfl) ?_
    cases h
    exact fun ss hs => retN (rq hs (by kernel_rfl))
  · dsimp only at h
    refine WX.loopR (by kernel_rfl) (nat_more_b0 a0 a1) (nat_more_b0_kn a0 a1) (fun s => s.1) 0 (fun r => RQ Try.f81 (nat_more_enc r) (nat_more_hp ⟨0, .nil⟩ r)) nat_more_b0_ok hl ((SubK.cons (by kernel_rfl) (SubK.cons (by kernel_rfl) (SubK.cons (by kernel_rfl) (SubK.cons (by kernel_rfl) (SubK.cons (by kernel_rfl) (SubK.cons (by kernel_rfl) SubK.nil))))))) rfl ?_
    cases h
    exact fun ss H hq => blkR (seqR (retR hq))

noncomputable def B68 : Code := (Try.f68.body).getD .skip

def nat_quo_enc : (Sl3 × Sl3 × AH) → Value
  | (r0, r1, _) => (Value.tuple #[(Sl3.v r0), (Sl3.v r1)])

def nat_quo_hp (_ : AH) : (Sl3 × Sl3 × AH) → AH := fun r => r.2.2

noncomputable def nat_quo_b0 (x12 : Int) (x15 : Sl3) (x16 : Sl3) (s18 : Sl3) : (AH × Int) → Option (Lp (AH × Int) (Sl3 × Sl3 × AH)) := fun (H20, v12_21) =>
  if v12_21 ≥ 0 then
    if belowSN H20.next x16 = true then
      Option.bind (idxA 1 x16 (IntKind.i64.wrap (v12_21 + (x15.n : Int)))) fun p22 =>
      if belowN H20.next p22 = true then
        Option.bind (rd (deI .u64) H20 p22) fun x23 =>
        if belowSN H20.next x16 = true then
          Option.bind (idxA 1 x16 (IntKind.i64.wrap ((IntKind.i64.wrap (v12_21 + (x15.n : Int))) - 1))) fun p24 =>
          if belowN H20.next p24 = true then
            Option.bind (rd (deI .u64) H20 p24) fun x25 =>
            if belowSN H20.next x16 = true then
              Option.bind (idxA 1 x16 (IntKind.i64.wrap ((IntKind.i64.wrap (v12_21 + (x15.n : Int))) - 2))) fun p26 =>
              if belowN H20.next p26 = true then
                Option.bind (rd (deI .u64) H20 p26) fun x27 =>
                if belowSN H20.next x15 = true then
                  if belowSN H20.next x15 = true then
                    Option.bind (idxA 1 x15 (IntKind.i64.wrap ((x15.n : Int) - 1))) fun p28 =>
                    if belowN H20.next p28 = true then
                      Option.bind (rd (deI .u64) H20 p28) fun x29 =>
                      if belowSN H20.next x15 = true then
                        if belowSN H20.next x15 = true then
                          Option.bind (idxA 1 x15 (IntKind.i64.wrap ((x15.n : Int) - 2))) fun p30 =>
                          if belowN H20.next p30 = true then
                            Option.bind (rd (deI .u64) H20 p30) fun x31 =>
                            Option.bind (nat_digit H20 x23 x25 x27 x29 x31) fun x32 =>
                            Option.bind (α := (AH × Int)) (
                              Option.bind (slc 1 H20 x16 (some v12_21) (some (IntKind.i64.wrap ((IntKind.i64.wrap (v12_21 + (x15.n : Int))) + 1))) none) fun s35 =>
                              Option.bind (nat_less H20 s35 x15 x32) fun (x36, H37) =>
                              if x36 = true then
                                Option.bind (slc 1 H37 x16 (some v12_21) (some (IntKind.i64.wrap ((IntKind.i64.wrap (v12_21 + (x15.n : Int))) + 1))) none) fun s38 =>
                                Option.bind (nat_more H37 s38 x15) fun H39 =>
                                some (H39, (IntKind.u64.wrap (x32 - 1)))
                              else
                                some (H37, x32)) fun (H33, v14_34) =>
                            Option.bind (idxA 1 s18 v12_21) fun p40 =>
                            Option.bind (H33.setCell 4294967296 p40 (Value.int .u64 v14_34)) fun H41 =>
                            some (.next (H41, (IntKind.i64.wrap (v12_21 - 1))))
                          else none
                        else none
                      else none
                    else none
                  else none
                else none
              else none
            else none
          else none
        else none
      else none
    else none
  else
    some (.brk (H20, v12_21))

def nat_quo_b0_kn (x12 : Int) (x15 : Sl3) (x16 : Sl3) (s18 : Sl3) : (AH × Int) → Kn := fun (H20, v12_21) => [(12, (Value.int .i64 v12_21)), (8, (Value.int .u64 (IntKind.u64.wrap x12))), (9, (Sl3.v x15)), (10, (Sl3.v x16)), (11, (Sl3.v s18))]

noncomputable def nat_quo (H : AH) (a0 : Sl3) (a1 : Sl3) : Option (Sl3 × Sl3 × AH) :=
  Option.bind (nat_Cmp H a0 a1) fun x1 =>
  if x1 < 0 then
    some (Sl3.nil, a0, H)
  else
    if (a1.n : Int) = 1 then
      Option.bind (idxA 1 a1 0) fun p2 =>
      Option.bind (rd (deI .u64) H p2) fun x3 =>
      Option.bind (nat_single H a0 x3) fun (x4, x5, H6) =>
      Option.bind (newR 38 1 #[(Value.int .u64 x5)] H6) fun (s7, H8) =>
      Option.bind (nat_trim H8 s7) fun x9 =>
      some (x4, x9, H8)
    else
      Option.bind (idxA 1 a1 (IntKind.i64.wrap ((a1.n : Int) - 1))) fun p10 =>
      Option.bind (rd (deI .u64) H p10) fun x11 =>
      Option.bind (bits_LeadingZeros64 x11) fun x12 =>
      Option.bind (nat_shl H a1 (IntKind.u64.wrap x12)) fun (x13, H14) =>
      Option.bind (nat_trim H14 x13) fun x15 =>
      Option.bind (nat_shl H14 a0 (IntKind.u64.wrap x12)) fun (x16, H17) =>
      Option.bind (mkS 38 1 8 #[(Value.int .u64 0)] H17 (IntKind.i64.wrap ((x16.n : Int) - (x15.n : Int))) (IntKind.i64.wrap ((x16.n : Int) - (x15.n : Int)))) fun (s18, H19) =>
      Option.bind (loopO (nat_quo_b0 x12 x15 x16 s18) (H19, (IntKind.i64.wrap ((s18.n : Int) - 1)))) fun o => match o with
      | .inl (H42, v12_43) =>
        Option.bind (nat_trim H42 s18) fun x44 =>
        Option.bind (nat_trim H42 x16) fun x45 =>
        Option.bind (nat_shr H42 x45 (IntKind.u64.wrap x12)) fun (x46, H47) =>
        some (x44, x46, H47)
      | .inr r => some r

theorem nat_quo_b0_ok {x12 : Int} {x15 : Sl3} {x16 : Sl3} {s18 : Sl3} : ∀ s o, nat_quo_b0 x12 x15 x16 s18 s = some o →
    WX Try.prog 1000 4294967296 Try.f68.ntmps (cfst (cfst (csnd (cfst (csnd (csnd (csnd (csnd (csnd (csnd (csnd B68))))))))))) (nat_quo_b0_kn x12 x15 x16 s18 s) ((fun s => s.1) s) (lpQ (nat_quo_b0_kn x12 x15 x16 s18) (fun s => s.1) 0 (fun r => RQ Try.f68 (nat_quo_enc r) (nat_quo_hp ⟨0, .nil⟩ r)) o) := by
  rintro ⟨H20, v12_21⟩ o h
  unfold nat_quo_b0 at h
  try dsimp only at h
  refine WX.seq (by kernel_rfl) ?_
  refine WX.seq (by kernel_rfl) ?_
  refine WX.region (opsOf (cfst (cfst (cfst (cfst (csnd (cfst (csnd (csnd (csnd (csnd (csnd (csnd (csnd B68)))))))))))))) (by kernel_rfl) ?_
  refine RX.psn 2 [(60, (Value.bool (decide (v12_21 ≥ 0)))), (59, (Value.int .i64 v12_21))] (by kernel_rfl) ?_
  refine RX.done (by kernel_rfl) ?_
  refine fun ss hs => (WX.nxt ?_ ss hs)
  rcases ite_some h with ⟨hp, h⟩ | ⟨hp, h⟩
  · refine WX.condT _ (decide_eq_true hp) (by kernel_rfl) ?_
    refine WX.skip (by kernel_rfl) ?_
    refine fun ss hs => (WX.nxt ?_ ss hs)
    refine WX.seq (by kernel_rfl) ?_
    refine WX.block 1 (by kernel_rfl) ?_
    refine WX.seq (by kernel_rfl) ?_
    refine WX.region (opsOf (cfst (cfst (cfst (csnd (cfst (cfst (csnd (cfst (csnd (csnd (csnd (csnd (csnd (csnd (csnd B68)))))))))))))))) (by kernel_rfl) ?_
    refine RX.psn 5 [(13, (Value.int .i64 (IntKind.i64.wrap (v12_21 + (x15.n : Int))))), (66, (Value.int .i64 (IntKind.i64.wrap (v12_21 + (x15.n : Int))))), (65, (Value.int .i64 (x15.n : Int))), (64, (Sl3.v x15)), (63, (Value.int .i64 v12_21))] (by kernel_rfl) ?_
    refine RX.done (by kernel_rfl) ?_
    refine fun ss hs => (WX.nxt ?_ ss hs)
    refine WX.seq (by kernel_rfl) ?_
    refine WX.drawn (opsOf (cfst (csnd (cfst (cfst (csnd (cfst (cfst (csnd (cfst (csnd (csnd (csnd (csnd (csnd (csnd (csnd B68))))))))))))))))) true (by kernel_rfl) (by kernel_rfl) ?_
    rcases ite_some h with ⟨hb, h⟩ | ⟨_, h⟩
    · refine DX.q (some 67) (Sl3.v x16) (by kernel_rfl) (by kernel_rfl) (by kernel_rfl) (fun ih H => by kernel_rfl) (calm_sl (belowSN_lt hb)) ?_
      refine DX.q (some 68) (Value.int .i64 (IntKind.i64.wrap (v12_21 + (x15.n : Int)))) (by kernel_rfl) (by kernel_rfl) (by kernel_rfl) (fun ih H => by kernel_rfl) calm_int ?_
      obtain ⟨p22, hx, h⟩ := bind_some h
      rcases ite_some h with ⟨hb, h⟩ | ⟨_, h⟩
      · refine DX.q (some 69) (Value.pointer (some p22)) (by kernel_rfl) (by kernel_rfl) (by kernel_rfl) (fun ih H => Abs.run_idx (s := x16) (k := .i64) (t := 24) (e := 38) (x := .tmp 67) (y := .tmp 68) (by kernel_rfl) (by kernel_rfl) (by kernel_rfl) (by kernel_rfl) (by kernel_rfl) hx) (calm_ptr (belowN_lt hb)) ?_
        obtain ⟨x23, hx, h⟩ := bind_some h
        refine DX.l (some 70) (Value.int .u64 x23) (by kernel_rfl) (by kernel_rfl) (by kernel_rfl) (by kernel_rfl) (fun ih H hm => Abs.run_load (t := 38) (x := .tmp 69) (a := p22) (by kernel_rfl) (by kernel_rfl) (by kernel_rfl) ((cell_mem hm _).trans (rd_cell hx deI_inv))) calm_int ?_
        rcases ite_some h with ⟨hb, h⟩ | ⟨_, h⟩
        · refine DX.q (some 71) (Sl3.v x16) (by kernel_rfl) (by kernel_rfl) (by kernel_rfl) (fun ih H => by kernel_rfl) (calm_sl (belowSN_lt hb)) ?_
          refine DX.q (some 72) (Value.int .i64 (IntKind.i64.wrap (v12_21 + (x15.n : Int)))) (by kernel_rfl) (by kernel_rfl) (by kernel_rfl) (fun ih H => by kernel_rfl) calm_int ?_
          refine DX.q (some 73) (Value.int .i64 (IntKind.i64.wrap ((IntKind.i64.wrap (v12_21 + (x15.n : Int))) - 1))) (by kernel_rfl) (by kernel_rfl) (by kernel_rfl) (fun ih H => by kernel_rfl) calm_int ?_
          obtain ⟨p24, hx, h⟩ := bind_some h
          rcases ite_some h with ⟨hb, h⟩ | ⟨_, h⟩
          · refine DX.q (some 74) (Value.pointer (some p24)) (by kernel_rfl) (by kernel_rfl) (by kernel_rfl) (fun ih H => Abs.run_idx (s := x16) (k := .i64) (t := 24) (e := 38) (x := .tmp 71) (y := .tmp 73) (by kernel_rfl) (by kernel_rfl) (by kernel_rfl) (by kernel_rfl) (by kernel_rfl) hx) (calm_ptr (belowN_lt hb)) ?_
            obtain ⟨x25, hx, h⟩ := bind_some h
            refine DX.l (some 75) (Value.int .u64 x25) (by kernel_rfl) (by kernel_rfl) (by kernel_rfl) (by kernel_rfl) (fun ih H hm => Abs.run_load (t := 38) (x := .tmp 74) (a := p24) (by kernel_rfl) (by kernel_rfl) (by kernel_rfl) ((cell_mem hm _).trans (rd_cell hx deI_inv))) calm_int ?_
            rcases ite_some h with ⟨hb, h⟩ | ⟨_, h⟩
            · refine DX.q (some 76) (Sl3.v x16) (by kernel_rfl) (by kernel_rfl) (by kernel_rfl) (fun ih H => by kernel_rfl) (calm_sl (belowSN_lt hb)) ?_
              refine DX.q (some 77) (Value.int .i64 (IntKind.i64.wrap (v12_21 + (x15.n : Int)))) (by kernel_rfl) (by kernel_rfl) (by kernel_rfl) (fun ih H => by kernel_rfl) calm_int ?_
              refine DX.q (some 78) (Value.int .i64 (IntKind.i64.wrap ((IntKind.i64.wrap (v12_21 + (x15.n : Int))) - 2))) (by kernel_rfl) (by kernel_rfl) (by kernel_rfl) (fun ih H => by kernel_rfl) calm_int ?_
              obtain ⟨p26, hx, h⟩ := bind_some h
              rcases ite_some h with ⟨hb, h⟩ | ⟨_, h⟩
              · refine DX.q (some 79) (Value.pointer (some p26)) (by kernel_rfl) (by kernel_rfl) (by kernel_rfl) (fun ih H => Abs.run_idx (s := x16) (k := .i64) (t := 24) (e := 38) (x := .tmp 76) (y := .tmp 78) (by kernel_rfl) (by kernel_rfl) (by kernel_rfl) (by kernel_rfl) (by kernel_rfl) hx) (calm_ptr (belowN_lt hb)) ?_
                obtain ⟨x27, hx, h⟩ := bind_some h
                refine DX.l (some 80) (Value.int .u64 x27) (by kernel_rfl) (by kernel_rfl) (by kernel_rfl) (by kernel_rfl) (fun ih H hm => Abs.run_load (t := 38) (x := .tmp 79) (a := p26) (by kernel_rfl) (by kernel_rfl) (by kernel_rfl) ((cell_mem hm _).trans (rd_cell hx deI_inv))) calm_int ?_
                rcases ite_some h with ⟨hb, h⟩ | ⟨_, h⟩
                · refine DX.q (some 81) (Sl3.v x15) (by kernel_rfl) (by kernel_rfl) (by kernel_rfl) (fun ih H => by kernel_rfl) (calm_sl (belowSN_lt hb)) ?_
                  rcases ite_some h with ⟨hb, h⟩ | ⟨_, h⟩
                  · refine DX.q (some 82) (Sl3.v x15) (by kernel_rfl) (by kernel_rfl) (by kernel_rfl) (fun ih H => by kernel_rfl) (calm_sl (belowSN_lt hb)) ?_
                    refine DX.q (some 83) (Value.int .i64 (x15.n : Int)) (by kernel_rfl) (by kernel_rfl) (by kernel_rfl) (fun ih H => by kernel_rfl) calm_int ?_
                    refine DX.q (some 84) (Value.int .i64 (IntKind.i64.wrap ((x15.n : Int) - 1))) (by kernel_rfl) (by kernel_rfl) (by kernel_rfl) (fun ih H => by kernel_rfl) calm_int ?_
                    obtain ⟨p28, hx, h⟩ := bind_some h
                    rcases ite_some h with ⟨hb, h⟩ | ⟨_, h⟩
                    · refine DX.q (some 85) (Value.pointer (some p28)) (by kernel_rfl) (by kernel_rfl) (by kernel_rfl) (fun ih H => Abs.run_idx (s := x15) (k := .i64) (t := 24) (e := 38) (x := .tmp 81) (y := .tmp 84) (by kernel_rfl) (by kernel_rfl) (by kernel_rfl) (by kernel_rfl) (by kernel_rfl) hx) (calm_ptr (belowN_lt hb)) ?_
                      obtain ⟨x29, hx, h⟩ := bind_some h
                      refine DX.l (some 86) (Value.int .u64 x29) (by kernel_rfl) (by kernel_rfl) (by kernel_rfl) (by kernel_rfl) (fun ih H hm => Abs.run_load (t := 38) (x := .tmp 85) (a := p28) (by kernel_rfl) (by kernel_rfl) (by kernel_rfl) ((cell_mem hm _).trans (rd_cell hx deI_inv))) calm_int ?_
                      rcases ite_some h with ⟨hb, h⟩ | ⟨_, h⟩
                      · refine DX.q (some 87) (Sl3.v x15) (by kernel_rfl) (by kernel_rfl) (by kernel_rfl) (fun ih H => by kernel_rfl) (calm_sl (belowSN_lt hb)) ?_
                        rcases ite_some h with ⟨hb, h⟩ | ⟨_, h⟩
                        · refine DX.q (some 88) (Sl3.v x15) (by kernel_rfl) (by kernel_rfl) (by kernel_rfl) (fun ih H => by kernel_rfl) (calm_sl (belowSN_lt hb)) ?_
                          refine DX.q (some 89) (Value.int .i64 (x15.n : Int)) (by kernel_rfl) (by kernel_rfl) (by kernel_rfl) (fun ih H => by kernel_rfl) calm_int ?_
                          refine DX.q (some 90) (Value.int .i64 (IntKind.i64.wrap ((x15.n : Int) - 2))) (by kernel_rfl) (by kernel_rfl) (by kernel_rfl) (fun ih H => by kernel_rfl) calm_int ?_
                          obtain ⟨p30, hx, h⟩ := bind_some h
                          rcases ite_some h with ⟨hb, h⟩ | ⟨_, h⟩
                          · refine DX.q (some 91) (Value.pointer (some p30)) (by kernel_rfl) (by kernel_rfl) (by kernel_rfl) (fun ih H => Abs.run_idx (s := x15) (k := .i64) (t := 24) (e := 38) (x := .tmp 87) (y := .tmp 90) (by kernel_rfl) (by kernel_rfl) (by kernel_rfl) (by kernel_rfl) (by kernel_rfl) hx) (calm_ptr (belowN_lt hb)) ?_
                            obtain ⟨x31, hx, h⟩ := bind_some h
                            refine DX.l (some 92) (Value.int .u64 x31) (by kernel_rfl) (by kernel_rfl) (by kernel_rfl) (by kernel_rfl) (fun ih H hm => Abs.run_load (t := 38) (x := .tmp 91) (a := p30) (by kernel_rfl) (by kernel_rfl) (by kernel_rfl) ((cell_mem hm _).trans (rd_cell hx deI_inv))) calm_int ?_
                            obtain ⟨x32, hx, h⟩ := bind_some h
                            refine DX.c (some 93) (v := (Value.int .u64 x32)) H20 79 #[(Value.int .u64 x23), (Value.int .u64 x25), (Value.int .u64 x27), (Value.int .u64 x29), (Value.int .u64 x31)] (by kernel_rfl) (by kernel_rfl) (by kernel_rfl) (by kernel_rfl) [] [] (by kernel_rfl) (by kernel_rfl) rfl (by kernel_rfl) (nat_digit_ok hx) (Nat.le_refl _) (fun _ => rfl) ?_
                            refine DX.q (some 14) (Value.int .u64 x32) (by kernel_rfl) (by kernel_rfl) (by kernel_rfl) (fun ih H => by kernel_rfl) calm_int ?_
                            refine DX.end_ (H' := H20) (by kernel_rfl) rfl ?_
                            refine fun ss hs => (WX.nxt ?_ ss hs)
                            obtain ⟨⟨H33, v14_34⟩, hx, h⟩ := bind_some h
                            dsimp only at h
                            refine WX.seq (by kernel_rfl) ?_
                            refine WX.join ([(14, (Value.int .u64 v14_34)), (8, (Value.int .u64 (IntKind.u64.wrap x12))), (9, (Sl3.v x15)), (10, (Sl3.v x16)), (11, (Sl3.v s18)), (12, (Value.int .i64 v12_21))]) H33 ?_ (fun ss hs => WX.nxt ?_ ss hs)
                            · clear h; rename _ => h
                              refine WX.seq (by kernel_rfl) ?_
                              refine WX.region (opsOf (cfst (cfst (csnd (csnd (cfst (cfst (csnd (cfst (cfst (csnd (cfst (csnd (csnd (csnd (csnd (csnd (csnd (csnd B68))))))))))))))))))) (by kernel_rfl) ?_
                              refine RX.psn 4 [(97, (Value.int .i64 (IntKind.i64.wrap ((IntKind.i64.wrap (v12_21 + (x15.n : Int))) + 1)))), (96, (Value.int .i64 (IntKind.i64.wrap (v12_21 + (x15.n : Int))))), (95, (Value.int .i64 v12_21)), (94, (Sl3.v x16))] (by kernel_rfl) ?_
                              obtain ⟨s35, hx, h⟩ := bind_some h
                              refine RX.at (some 98) (Sl3.v s35) (by kernel_rfl) (by kernel_rfl) (fun ih => Abs.run_slice (t := 24) (e := 38) (x := .tmp 94) (lo := (some (.tmp 95))) (hi := (some (.tmp 97))) (mx := none) (s := x16) (k1 := .i64) (k2 := .i64) (k3 := .i64) (by kernel_rfl) (by kernel_rfl) (by kernel_rfl) (by kernel_rfl) (by kernel_rfl) (by kernel_rfl) (by kernel_rfl) hx) ?_
                              refine RX.psn 2 [(100, (Value.int .u64 x32)), (99, (Sl3.v x15))] (by kernel_rfl) ?_
                              obtain ⟨⟨x36, H37⟩, hx, h⟩ := bind_some h
                              dsimp only at h
                              refine RX.callAt (some 101) (v := (Value.bool x36)) 80 #[(Sl3.v s35), (Sl3.v x15), (Value.int .u64 x32)] (by kernel_rfl) (by kernel_rfl) (by kernel_rfl) (nat_less_ok hx) ?_
                              refine RX.done (by kernel_rfl) ?_
                              refine fun ss hs => (WX.nxt ?_ ss hs)
                              rcases ite_some h with ⟨hp, h⟩ | ⟨hp, h⟩
                              · refine WX.condT _ hp (by kernel_rfl) ?_
                                refine WX.seq (by kernel_rfl) ?_
                                refine WX.region (opsOf (cfst (cfst (csnd (cfst (csnd (csnd (cfst (cfst (csnd (cfst (cfst (csnd (cfst (csnd (csnd (csnd (csnd (csnd (csnd (csnd B68))))))))))))))))))))) (by kernel_rfl) ?_
                                refine RX.psn 3 [(14, (Value.int .u64 (IntKind.u64.wrap (x32 - 1)))), (103, (Value.int .u64 (IntKind.u64.wrap (x32 - 1)))), (102, (Value.int .u64 x32))] (by kernel_rfl) ?_
                                refine RX.done (by kernel_rfl) ?_
                                refine fun ss hs => (WX.nxt ?_ ss hs)
                                refine WX.region (opsOf (csnd (cfst (csnd (cfst (csnd (csnd (cfst (cfst (csnd (cfst (cfst (csnd (cfst (csnd (csnd (csnd (csnd (csnd (csnd (csnd B68))))))))))))))))))))) (by kernel_rfl) ?_
                                refine RX.psn 4 [(107, (Value.int .i64 (IntKind.i64.wrap ((IntKind.i64.wrap (v12_21 + (x15.n : Int))) + 1)))), (106, (Value.int .i64 (IntKind.i64.wrap (v12_21 + (x15.n : Int))))), (105, (Value.int .i64 v12_21)), (104, (Sl3.v x16))] (by kernel_rfl) ?_
                                obtain ⟨s38, hx, h⟩ := bind_some h
                                refine RX.at (some 108) (Sl3.v s38) (by kernel_rfl) (by kernel_rfl) (fun ih => Abs.run_slice (t := 24) (e := 38) (x := .tmp 104) (lo := (some (.tmp 105))) (hi := (some (.tmp 107))) (mx := none) (s := x16) (k1 := .i64) (k2 := .i64) (k3 := .i64) (by kernel_rfl) (by kernel_rfl) (by kernel_rfl) (by kernel_rfl) (by kernel_rfl) (by kernel_rfl) (by kernel_rfl) hx) ?_
                                refine RX.psn 1 [(109, (Sl3.v x15))] (by kernel_rfl) ?_
                                obtain ⟨H39, hx, h⟩ := bind_some h
                                refine RX.callAt (some 110) (v := (Value.tuple #[])) 81 #[(Sl3.v s38), (Sl3.v x15)] (by kernel_rfl) (by kernel_rfl) (by kernel_rfl) (nat_more_ok hx) ?_
                                refine RX.done (by kernel_rfl) ?_
                                cases h
                                exact fun ss hs => ⟨rfl, hs.sub ((SubK.cons (by kernel_rfl) (SubK.cons (by kernel_rfl) (SubK.cons (by kernel_rfl) (SubK.cons (by kernel_rfl) (SubK.cons (by kernel_rfl) (SubK.cons (by kernel_rfl) SubK.nil))))))), rfl⟩
                              · refine WX.condF _ (b_not hp) (by kernel_rfl) ?_
                                refine WX.skip (by kernel_rfl) ?_
                                cases h
                                exact fun ss hs => ⟨rfl, hs.sub ((SubK.cons (by kernel_rfl) (SubK.cons (by kernel_rfl) (SubK.cons (by kernel_rfl) (SubK.cons (by kernel_rfl) (SubK.cons (by kernel_rfl) (SubK.cons (by kernel_rfl) SubK.nil))))))), rfl⟩
                            · clear hx
                              refine WX.region (opsOf (csnd (csnd (csnd (cfst (cfst (csnd (cfst (cfst (csnd (cfst (csnd (csnd (csnd (csnd (csnd (csnd (csnd B68)))))))))))))))))) (by kernel_rfl) ?_
                              refine RX.psn 3 [(113, (Value.int .u64 v14_34)), (112, (Value.int .i64 v12_21)), (111, (Sl3.v s18))] (by kernel_rfl) ?_
                              obtain ⟨p40, hx, h⟩ := bind_some h
                              refine RX.at (some 114) (Value.pointer (some p40)) (by kernel_rfl) (by kernel_rfl) (fun ih => Abs.run_idx (s := s18) (k := .i64) (t := 24) (e := 38) (x := .tmp 111) (y := .tmp 112) (by kernel_rfl) (by kernel_rfl) (by kernel_rfl) (by kernel_rfl) (by kernel_rfl) hx) ?_
                              obtain ⟨H41, hx, h⟩ := bind_some h
                              refine RX.at none undef (by kernel_rfl) (by kernel_rfl) (fun ih => Abs.run_store1 (t := 38) (x := .tmp 114) (y := .tmp 113) (a := p40) (v := (Value.int .u64 v14_34)) (by kernel_rfl) (by kernel_rfl) (by kernel_rfl) (by kernel_rfl) (by kernel_rfl) hx) ?_
                              refine RX.done (by kernel_rfl) ?_
                              refine fun ss hs => blkN ((WX.nxt ?_ ss hs))
                              refine WX.region (opsOf (csnd (csnd (cfst (cfst (csnd (cfst (csnd (csnd (csnd (csnd (csnd (csnd (csnd B68)))))))))))))) (by kernel_rfl) ?_
                              refine RX.psn 3 [(12, (Value.int .i64 (IntKind.i64.wrap (v12_21 - 1)))), (62, (Value.int .i64 (IntKind.i64.wrap (v12_21 - 1)))), (61, (Value.int .i64 v12_21))] (by kernel_rfl) ?_
                              refine RX.done (by kernel_rfl) ?_
                              cases h
                              exact fun ss hs => lpN rfl (hs.sub ((SubK.cons (by kernel_rfl) (SubK.cons (by kernel_rfl) (SubK.cons (by kernel_rfl) (SubK.cons (by kernel_rfl) (SubK.cons (by kernel_rfl) SubK.nil)))))))
                          · cases h
                        · cases h
                      · cases h
                    · cases h
                  · cases h
                · cases h
              · cases h
            · cases h
          · cases h
        · cases h
      · cases h
    · cases h
  · refine WX.condF _ (decide_eq_false hp) (by kernel_rfl) ?_
    refine WX.exit 0 (by kernel_rfl) ?_
    cases h
    exact fun ss hs => seqE (lpB rfl (hs.sub ((SubK.cons (by kernel_rfl) (SubK.cons (by kernel_rfl) (SubK.cons (by kernel_rfl) (SubK.cons (by kernel_rfl) (SubK.cons (by kernel_rfl) SubK.nil))))))))

theorem nat_quo_ok {H : AH} {a0 : Sl3} {a1 : Sl3} {r : (Sl3 × Sl3 × AH)} (h : nat_quo H a0 a1 = some r) :
    CallE Try.prog 1000 4294967296 68 #[(Sl3.v a0), (Sl3.v a1)] H (nat_quo_enc r) (nat_quo_hp H r) := by
  refine CallE.mk (args := [(Sl3.v a0), (Sl3.v a1)]) Try.func68 (B := B68) (by kernel_rfl) ?_
  unfold nat_quo at h
  refine WX.seq (by kernel_rfl) ?_
  refine WX.region (opsOf (cfst B68)) (by kernel_rfl) ?_
  refine RX.psn 2 [(5, (Sl3.v Sl3.nil)), (4, (Sl3.v Sl3.nil))] (by kernel_rfl) ?_
  refine RX.done (by kernel_rfl) ?_
  refine fun ss hs => (WX.nxt ?_ ss hs)
  refine WX.seq (by kernel_rfl) ?_
  refine WX.seq (by kernel_rfl) ?_
  refine WX.region (opsOf (cfst (cfst (csnd B68)))) (by kernel_rfl) ?_
  refine RX.psn 2 [(16, (Sl3.v a1)), (15, (Sl3.v a0))] (by kernel_rfl) ?_
  obtain ⟨x1, hx, h⟩ := bind_some h
  refine RX.callAt (some 17) (v := (Value.int .i64 x1)) 26 #[(Sl3.v a0), (Sl3.v a1)] (by kernel_rfl) (by kernel_rfl) (by kernel_rfl) (nat_Cmp_ok hx) ?_
  refine RX.psn 1 [(18, (Value.bool (decide (x1 < 0))))] (by kernel_rfl) ?_
  refine RX.done (by kernel_rfl) ?_
  refine fun ss hs => (WX.nxt ?_ ss hs)
  rcases ite_some h with ⟨hp, h⟩ | ⟨hp, h⟩
  · refine WX.condT _ (decide_eq_true hp) (by kernel_rfl) ?_
    refine WX.seq (by kernel_rfl) ?_
    refine WX.region (opsOf (cfst (cfst (csnd (cfst (csnd B68)))))) (by kernel_rfl) ?_
    refine RX.psn 3 [(5, (Sl3.v a0)), (4, (Sl3.v Sl3.nil)), (19, (Sl3.v a0))] (by kernel_rfl) ?_
    refine RX.done (by kernel_rfl) ?_
    refine fun ss hs => (WX.nxt ?_ ss hs)
    refine WX.ret (by kernel_rfl) ?_
    cases h
    exact fun ss hs => seqR (retR (rq hs (by kernel_rfl)))
  · refine WX.condF _ (decide_eq_false hp) (by kernel_rfl) ?_
    refine WX.skip (by kernel_rfl) ?_
    refine fun ss hs => (WX.nxt ?_ ss hs)
    refine WX.seq (by kernel_rfl) ?_
    refine WX.seq (by kernel_rfl) ?_
    refine WX.region (opsOf (cfst (cfst (csnd (csnd B68))))) (by kernel_rfl) ?_
    refine RX.psn 3 [(22, (Value.bool (decide ((a1.n : Int) = 1)))), (21, (Value.int .i64 (a1.n : Int))), (20, (Sl3.v a1))] (by kernel_rfl) ?_
    refine RX.done (by kernel_rfl) ?_
    refine fun ss hs => (WX.nxt ?_ ss hs)
    rcases ite_some h with ⟨hp, h⟩ | ⟨hp, h⟩
    · refine WX.condT _ (decide_eq_true hp) (by kernel_rfl) ?_
      refine WX.seq (by kernel_rfl) ?_
      refine WX.region (opsOf (cfst (cfst (csnd (cfst (csnd (csnd B68))))))) (by kernel_rfl) ?_
      refine RX.psn 2 [(25, (Sl3.v a1)), (24, (Sl3.v a0))] (by kernel_rfl) ?_
      obtain ⟨p2, hx, h⟩ := bind_some h
      refine RX.at (some 26) (Value.pointer (some p2)) (by kernel_rfl) (by kernel_rfl) (fun ih => Abs.run_idx (s := a1) (k := .i64) (t := 24) (e := 38) (x := .tmp 25) (y := .const (Value.int .i64 0)) (by kernel_rfl) (by kernel_rfl) (by kernel_rfl) (by kernel_rfl) (by kernel_rfl) hx) ?_
      obtain ⟨x3, hx, h⟩ := bind_some h
      refine RX.at (some 27) (Value.int .u64 x3) (by kernel_rfl) (by kernel_rfl) (fun ih => Abs.run_load (t := 38) (x := .tmp 26) (a := p2) (by kernel_rfl) (by kernel_rfl) (by kernel_rfl) (rd_cell hx deI_inv)) ?_
      obtain ⟨⟨x4, x5, H6⟩, hx, h⟩ := bind_some h
      dsimp only at h
      refine RX.callAt (some 28) (v := (Value.tuple #[(Sl3.v x4), (Value.int .u64 x5)])) 53 #[(Sl3.v a0), (Value.int .u64 x3)] (by kernel_rfl) (by kernel_rfl) (by kernel_rfl) (nat_single_ok hx) ?_
      refine RX.psn 5 [(7, (Value.int .u64 x5)), (6, (Sl3.v x4)), (30, (Value.int .u64 x5)), (29, (Sl3.v x4)), (23, (Value.tuple #[(Sl3.v x4), (Value.int .u64 x5)]))] (by kernel_rfl) ?_
      refine RX.done (by kernel_rfl) ?_
      refine fun ss hs => (WX.nxt ?_ ss hs)
      refine WX.seq (by kernel_rfl) ?_
      refine WX.region (opsOf (cfst (csnd (cfst (csnd (cfst (csnd (csnd B68)))))))) (by kernel_rfl) ?_
      refine RX.psn 2 [(32, (Value.int .u64 x5)), (31, (Sl3.v x4))] (by kernel_rfl) ?_
      obtain ⟨⟨s7, H8⟩, hx, h⟩ := bind_some h
      dsimp only at h
      refine RX.at (some 33) (Sl3.v s7) (by kernel_rfl) (by kernel_rfl) (fun ih => Abs.run_newR (by kernel_rfl) (by kernel_rfl) hx) ?_
      obtain ⟨x9, hx, h⟩ := bind_some h
      refine RX.callAt (some 34) (v := (Sl3.v x9)) 44 #[(Sl3.v s7)] (by kernel_rfl) (by kernel_rfl) (by kernel_rfl) (nat_trim_ok hx) ?_
      refine RX.psn 2 [(5, (Sl3.v x9)), (4, (Sl3.v x4))] (by kernel_rfl) ?_
      refine RX.done (by kernel_rfl) ?_
      refine fun ss hs => (WX.nxt ?_ ss hs)
      refine WX.ret (by kernel_rfl) ?_
      cases h
      exact fun ss hs => seqR (retR (rq hs (by kernel_rfl)))
    · refine WX.condF _ (decide_eq_false hp) (by kernel_rfl) ?_
      refine WX.skip (by kernel_rfl) ?_
      refine fun ss hs => (WX.nxt ?_ ss hs)
      refine WX.seq (by kernel_rfl) ?_
      refine WX.region (opsOf (cfst (csnd (csnd (csnd B68))))) (by kernel_rfl) ?_
      refine RX.psn 4 [(38, (Value.int .i64 (IntKind.i64.wrap ((a1.n : Int) - 1)))), (37, (Value.int .i64 (a1.n : Int))), (36, (Sl3.v a1)), (35, (Sl3.v a1))] (by kernel_rfl) ?_
      obtain ⟨p10, hx, h⟩ := bind_some h
      refine RX.at (some 39) (Value.pointer (some p10)) (by kernel_rfl) (by kernel_rfl) (fun ih => Abs.run_idx (s := a1) (k := .i64) (t := 24) (e := 38) (x := .tmp 35) (y := .tmp 38) (by kernel_rfl) (by kernel_rfl) (by kernel_rfl) (by kernel_rfl) (by kernel_rfl) hx) ?_
      obtain ⟨x11, hx, h⟩ := bind_some h
      refine RX.at (some 40) (Value.int .u64 x11) (by kernel_rfl) (by kernel_rfl) (fun ih => Abs.run_load (t := 38) (x := .tmp 39) (a := p10) (by kernel_rfl) (by kernel_rfl) (by kernel_rfl) (rd_cell hx deI_inv)) ?_
      obtain ⟨x12, hx, h⟩ := bind_some h
      refine RX.callAt (some 41) (v := (Value.int .i64 x12)) 78 #[(Value.int .u64 x11)] (by kernel_rfl) (by kernel_rfl) (by kernel_rfl) (bits_LeadingZeros64_ok hx) ?_
      refine RX.psn 2 [(8, (Value.int .u64 (IntKind.u64.wrap x12))), (42, (Value.int .u64 (IntKind.u64.wrap x12)))] (by kernel_rfl) ?_
      refine RX.done (by kernel_rfl) ?_
      refine fun ss hs => (WX.nxt ?_ ss hs)
      refine WX.seq (by kernel_rfl) ?_
      refine WX.region (opsOf (cfst (csnd (csnd (csnd (csnd B68)))))) (by kernel_rfl) ?_
      refine RX.psn 2 [(44, (Value.int .u64 (IntKind.u64.wrap x12))), (43, (Sl3.v a1))] (by kernel_rfl) ?_
      obtain ⟨⟨x13, H14⟩, hx, h⟩ := bind_some h
      dsimp only at h
      refine RX.callAt (some 45) (v := (Sl3.v x13)) 63 #[(Sl3.v a1), (Value.int .u64 (IntKind.u64.wrap x12))] (by kernel_rfl) (by kernel_rfl) (by kernel_rfl) (nat_shl_ok hx) ?_
      obtain ⟨x15, hx, h⟩ := bind_some h
      refine RX.callAt (some 46) (v := (Sl3.v x15)) 44 #[(Sl3.v x13)] (by kernel_rfl) (by kernel_rfl) (by kernel_rfl) (nat_trim_ok hx) ?_
      refine RX.psn 1 [(9, (Sl3.v x15))] (by kernel_rfl) ?_
      refine RX.done (by kernel_rfl) ?_
      refine fun ss hs => (WX.nxt ?_ ss hs)
      refine WX.seq (by kernel_rfl) ?_
      refine WX.region (opsOf (cfst (csnd (csnd (csnd (csnd (csnd B68))))))) (by kernel_rfl) ?_
      refine RX.psn 2 [(48, (Value.int .u64 (IntKind.u64.wrap x12))), (47, (Sl3.v a0))] (by kernel_rfl) ?_
      obtain ⟨⟨x16, H17⟩, hx, h⟩ := bind_some h
      dsimp only at h
      refine RX.callAt (some 49) (v := (Sl3.v x16)) 63 #[(Sl3.v a0), (Value.int .u64 (IntKind.u64.wrap x12))] (by kernel_rfl) (by kernel_rfl) (by kernel_rfl) (nat_shl_ok hx) ?_
      refine RX.psn 1 [(10, (Sl3.v x16))] (by kernel_rfl) ?_
      refine RX.done (by kernel_rfl) ?_
      refine fun ss hs => (WX.nxt ?_ ss hs)
      refine WX.seq (by kernel_rfl) ?_
      refine WX.region (opsOf (cfst (csnd (csnd (csnd (csnd (csnd (csnd B68)))))))) (by kernel_rfl) ?_
      refine RX.psn 5 [(54, (Value.int .i64 (IntKind.i64.wrap ((x16.n : Int) - (x15.n : Int))))), (53, (Value.int .i64 (x15.n : Int))), (52, (Sl3.v x15)), (51, (Value.int .i64 (x16.n : Int))), (50, (Sl3.v x16))] (by kernel_rfl) ?_
      obtain ⟨⟨s18, H19⟩, hx, h⟩ := bind_some h
      dsimp only at h
      refine RX.at (some 55) (Sl3.v s18) (by kernel_rfl) (by kernel_rfl) (fun ih => Abs.run_mk (t := 24) (x := .tmp 54) (y := .tmp 54) (k1 := .i64) (k2 := .i64) (by kernel_rfl) (by kernel_rfl) (by kernel_rfl) (by kernel_rfl) hx) ?_
      refine RX.psn 1 [(11, (Sl3.v s18))] (by kernel_rfl) ?_
      refine RX.done (by kernel_rfl) ?_
      refine fun ss hs => (WX.nxt ?_ ss hs)
      refine WX.seq (by kernel_rfl) ?_
      refine WX.seq (by kernel_rfl) ?_
      refine WX.region (opsOf (cfst (cfst (csnd (csnd (csnd (csnd (csnd (csnd (csnd B68)))))))))) (by kernel_rfl) ?_
      refine RX.psn 4 [(12, (Value.int .i64 (IntKind.i64.wrap ((s18.n : Int) - 1)))), (58, (Value.int .i64 (IntKind.i64.wrap ((s18.n : Int) - 1)))), (57, (Value.int .i64 (s18.n : Int))), (56, (Sl3.v s18))] (by kernel_rfl) ?_
      refine RX.done (by kernel_rfl) ?_
      refine fun ss hs => (WX.nxt ?_ ss hs)
      refine WX.block 0 (by kernel_rfl) ?_
      obtain ⟨o, hl, h⟩ := bind_some h
      rcases o with ⟨H42, v12_43⟩ | r
      · dsimp only at h
        refine WX.loopI (by kernel_rfl) (nat_quo_b0 x12 x15 x16 s18) (nat_quo_b0_kn x12 x15 x16 s18) (fun s => s.1) 0 (fun r => RQ Try.f68 (nat_quo_enc r) (nat_quo_hp ⟨0, .nil⟩ r)) nat_quo_b0_ok hl ((SubK.cons (by kernel_rfl) (SubK.cons (by kernel_rfl) (SubK.cons (by kernel_rfl) (SubK.cons (by kernel_rfl) (SubK.cons (by kernel_rfl) SubK.nil)))))) rfl ?_
        clear hl
        refine fun ss hs => blkE ((WX.nxt ?_ ss hs))
        refine WX.seq (by kernel_rfl) ?_
        refine WX.region (opsOf (cfst (csnd (csnd (csnd (csnd (csnd (csnd (csnd (csnd B68)))))))))) (by kernel_rfl) ?_
        refine RX.psn 1 [(115, (Sl3.v s18))] (by kernel_rfl) ?_
        obtain ⟨x44, hx, h⟩ := bind_some h
        refine RX.callAt (some 116) (v := (Sl3.v x44)) 44 #[(Sl3.v s18)] (by kernel_rfl) (by kernel_rfl) (by kernel_rfl) (nat_trim_ok hx) ?_
        refine RX.psn 1 [(117, (Sl3.v x16))] (by kernel_rfl) ?_
        obtain ⟨x45, hx, h⟩ := bind_some h
        refine RX.callAt (some 118) (v := (Sl3.v x45)) 44 #[(Sl3.v x16)] (by kernel_rfl) (by kernel_rfl) (by kernel_rfl) (nat_trim_ok hx) ?_
        refine RX.psn 1 [(119, (Value.int .u64 (IntKind.u64.wrap x12)))] (by kernel_rfl) ?_
        obtain ⟨⟨x46, H47⟩, hx, h⟩ := bind_some h
        dsimp only at h
        refine RX.callAt (some 120) (v := (Sl3.v x46)) 64 #[(Sl3.v x45), (Value.int .u64 (IntKind.u64.wrap x12))] (by kernel_rfl) (by kernel_rfl) (by kernel_rfl) (nat_shr_ok hx) ?_
        refine RX.psn 2 [(5, (Sl3.v x46)), (4, (Sl3.v x44))] (by kernel_rfl) ?_
        refine RX.done (by kernel_rfl) ?_
        refine fun ss hs => (WX.nxt ?_ ss hs)
        refine WX.ret (by kernel_rfl) ?_
        cases h
        exact fun ss hs => retR (rq hs (by kernel_rfl))
      · dsimp only at h
        refine WX.loopR (by kernel_rfl) (nat_quo_b0 x12 x15 x16 s18) (nat_quo_b0_kn x12 x15 x16 s18) (fun s => s.1) 0 (fun r => RQ Try.f68 (nat_quo_enc r) (nat_quo_hp ⟨0, .nil⟩ r)) nat_quo_b0_ok hl ((SubK.cons (by kernel_rfl) (SubK.cons (by kernel_rfl) (SubK.cons (by kernel_rfl) (SubK.cons (by kernel_rfl) (SubK.cons (by kernel_rfl) SubK.nil)))))) rfl ?_
        cases h
        exact fun ss H hq => blkR (seqR (retR hq))

end Go.Proofs.Ytoadagekdnkciaa

namespace Go.Proofs.Ytoadagekdnkciaa
open Go Go.Abs
set_option maxRecDepth 100000

noncomputable def B38 : Code := (Try.f38.body).getD .skip

def nat_Quo_enc : (Sl3 × Sl3 × Int × AH) → Value
  | (r0, r1, r2, _) => (Value.tuple #[(Sl3.v r0), (Sl3.v r1), (Value.int .i64 r2)])

def nat_Quo_hp (_ : AH) : (Sl3 × Sl3 × Int × AH) → AH := fun r => r.2.2.2

noncomputable def nat_Quo (H : AH) (a0 : Sl3) (a1 : Sl3) : Option (Sl3 × Sl3 × Int × AH) :=
  Option.bind (newR 24 2 #[(Sl3.v a0), (Sl3.v a1)] H) fun (s1, H2) =>
  Option.bind (nat_long H2 s1) fun x3 =>
  if x3 = true then
    some (Sl3.nil, Sl3.nil, 5, H2)
  else
    Option.bind (nat_trim H2 a1) fun x4 =>
    if (x4.n : Int) = 0 then
      some (Sl3.nil, Sl3.nil, 11, H2)
    else
      Option.bind (nat_trim H2 a0) fun x5 =>
      Option.bind (nat_trim H2 a1) fun x6 =>
      Option.bind (nat_quo H2 x5 x6) fun (x7, x8, H9) =>
      Option.bind (nat_own H9 x7) fun (x10, H11) =>
      Option.bind (nat_own H11 x8) fun (x12, H13) =>
      some (x10, x12, 0, H13)

theorem nat_Quo_ok {H : AH} {a0 : Sl3} {a1 : Sl3} {r : (Sl3 × Sl3 × Int × AH)} (h : nat_Quo H a0 a1 = some r) :
    CallE Try.prog 1000 4294967296 38 #[(Sl3.v a0), (Sl3.v a1)] H (nat_Quo_enc r) (nat_Quo_hp H r) := by
  refine CallE.mk (args := [(Sl3.v a0), (Sl3.v a1)]) Try.func38 (B := B38) (by kernel_rfl) ?_
  unfold nat_Quo at h
  refine WX.seq (by kernel_rfl) ?_
  refine WX.region (opsOf (cfst B38)) (by kernel_rfl) ?_
  refine RX.psn 3 [(6, (Value.int .i64 0)), (5, (Sl3.v Sl3.nil)), (4, (Sl3.v Sl3.nil))] (by kernel_rfl) ?_
  refine RX.done (by kernel_rfl) ?_
  refine fun ss hs => (WX.nxt ?_ ss hs)
  refine WX.seq (by kernel_rfl) ?_
  refine WX.seq (by kernel_rfl) ?_
  refine WX.region (opsOf (cfst (cfst (csnd B38)))) (by kernel_rfl) ?_
  refine RX.psn 2 [(10, (Sl3.v a1)), (9, (Sl3.v a0))] (by kernel_rfl) ?_
  obtain ⟨⟨s1, H2⟩, hx, h⟩ := bind_some h
  dsimp only at h
  refine RX.at (some 11) (Sl3.v s1) (by kernel_rfl) (by kernel_rfl) (fun ih => Abs.run_newR (by kernel_rfl) (by kernel_rfl) hx) ?_
  obtain ⟨x3, hx, h⟩ := bind_some h
  refine RX.callAt (some 12) (v := (Value.bool x3)) 41 #[(Sl3.v s1)] (by kernel_rfl) (by kernel_rfl) (by kernel_rfl) (nat_long_ok hx) ?_
  refine RX.done (by kernel_rfl) ?_
  refine fun ss hs => (WX.nxt ?_ ss hs)
  rcases ite_some h with ⟨hp, h⟩ | ⟨hp, h⟩
  · refine WX.condT _ hp (by kernel_rfl) ?_
    refine WX.seq (by kernel_rfl) ?_
    refine WX.region (opsOf (cfst (cfst (csnd (cfst (csnd B38)))))) (by kernel_rfl) ?_
    refine RX.psn 3 [(6, (Value.int .i64 5)), (5, (Sl3.v Sl3.nil)), (4, (Sl3.v Sl3.nil))] (by kernel_rfl) ?_
    refine RX.done (by kernel_rfl) ?_
    refine fun ss hs => (WX.nxt ?_ ss hs)
    refine WX.ret (by kernel_rfl) ?_
    cases h
    exact fun ss hs => seqR (retR (rq hs (by kernel_rfl)))
  · refine WX.condF _ (b_not hp) (by kernel_rfl) ?_
    refine WX.skip (by kernel_rfl) ?_
    refine fun ss hs => (WX.nxt ?_ ss hs)
    refine WX.seq (by kernel_rfl) ?_
    refine WX.seq (by kernel_rfl) ?_
    refine WX.region (opsOf (cfst (cfst (csnd (csnd B38))))) (by kernel_rfl) ?_
    refine RX.psn 1 [(13, (Sl3.v a1))] (by kernel_rfl) ?_
    obtain ⟨x4, hx, h⟩ := bind_some h
    refine RX.callAt (some 14) (v := (Sl3.v x4)) 44 #[(Sl3.v a1)] (by kernel_rfl) (by kernel_rfl) (by kernel_rfl) (nat_trim_ok hx) ?_
    refine RX.psn 2 [(16, (Value.bool (decide ((x4.n : Int) = 0)))), (15, (Value.int .i64 (x4.n : Int)))] (by kernel_rfl) ?_
    refine RX.done (by kernel_rfl) ?_
    refine fun ss hs => (WX.nxt ?_ ss hs)
    rcases ite_some h with ⟨hp, h⟩ | ⟨hp, h⟩
    · refine WX.condT _ (decide_eq_true hp) (by kernel_rfl) ?_
      refine WX.seq (by kernel_rfl) ?_
      refine WX.region (opsOf (cfst (cfst (csnd (cfst (csnd (csnd B38))))))) (by kernel_rfl) ?_
      refine RX.psn 3 [(6, (Value.int .i64 11)), (5, (Sl3.v Sl3.nil)), (4, (Sl3.v Sl3.nil))] (by kernel_rfl) ?_
      refine RX.done (by kernel_rfl) ?_
      refine fun ss hs => (WX.nxt ?_ ss hs)
      refine WX.ret (by kernel_rfl) ?_
      cases h
      exact fun ss hs => seqR (retR (rq hs (by kernel_rfl)))
    · refine WX.condF _ (decide_eq_false hp) (by kernel_rfl) ?_
      refine WX.skip (by kernel_rfl) ?_
      refine fun ss hs => (WX.nxt ?_ ss hs)
      refine WX.seq (by kernel_rfl) ?_
      refine WX.region (opsOf (cfst (csnd (csnd (csnd B38))))) (by kernel_rfl) ?_
      refine RX.psn 1 [(18, (Sl3.v a0))] (by kernel_rfl) ?_
      obtain ⟨x5, hx, h⟩ := bind_some h
      refine RX.callAt (some 19) (v := (Sl3.v x5)) 44 #[(Sl3.v a0)] (by kernel_rfl) (by kernel_rfl) (by kernel_rfl) (nat_trim_ok hx) ?_
      refine RX.psn 1 [(20, (Sl3.v a1))] (by kernel_rfl) ?_
      obtain ⟨x6, hx, h⟩ := bind_some h
      refine RX.callAt (some 21) (v := (Sl3.v x6)) 44 #[(Sl3.v a1)] (by kernel_rfl) (by kernel_rfl) (by kernel_rfl) (nat_trim_ok hx) ?_
      obtain ⟨⟨x7, x8, H9⟩, hx, h⟩ := bind_some h
      dsimp only at h
      refine RX.callAt (some 22) (v := (Value.tuple #[(Sl3.v x7), (Sl3.v x8)])) 68 #[(Sl3.v x5), (Sl3.v x6)] (by kernel_rfl) (by kernel_rfl) (by kernel_rfl) (nat_quo_ok hx) ?_
      refine RX.psn 5 [(8, (Sl3.v x8)), (7, (Sl3.v x7)), (24, (Sl3.v x8)), (23, (Sl3.v x7)), (17, (Value.tuple #[(Sl3.v x7), (Sl3.v x8)]))] (by kernel_rfl) ?_
      refine RX.done (by kernel_rfl) ?_
      refine fun ss hs => (WX.nxt ?_ ss hs)
      refine WX.seq (by kernel_rfl) ?_
      refine WX.region (opsOf (cfst (csnd (csnd (csnd (csnd B38)))))) (by kernel_rfl) ?_
      refine RX.psn 1 [(25, (Sl3.v x7))] (by kernel_rfl) ?_
      obtain ⟨⟨x10, H11⟩, hx, h⟩ := bind_some h
      dsimp only at h
      refine RX.callAt (some 26) (v := (Sl3.v x10)) 52 #[(Sl3.v x7)] (by kernel_rfl) (by kernel_rfl) (by kernel_rfl) (nat_own_ok hx) ?_
      refine RX.psn 1 [(27, (Sl3.v x8))] (by kernel_rfl) ?_
      obtain ⟨⟨x12, H13⟩, hx, h⟩ := bind_some h
      dsimp only at h
      refine RX.callAt (some 28) (v := (Sl3.v x12)) 52 #[(Sl3.v x8)] (by kernel_rfl) (by kernel_rfl) (by kernel_rfl) (nat_own_ok hx) ?_
      refine RX.psn 3 [(6, (Value.int .i64 0)), (5, (Sl3.v x12)), (4, (Sl3.v x10))] (by kernel_rfl) ?_
      refine RX.done (by kernel_rfl) ?_
      refine fun ss hs => (WX.nxt ?_ ss hs)
      refine WX.ret (by kernel_rfl) ?_
      cases h
      exact fun ss hs => retR (rq hs (by kernel_rfl))

noncomputable def B18 : Code := (Try.f18.body).getD .skip

def nat_Text_enc : (ByteArray × Int × AH) → Value
  | (r0, r1, _) => (Value.tuple #[(Value.string r0), (Value.int .i64 r1)])

def nat_Text_hp (_ : AH) : (ByteArray × Int × AH) → AH := fun r => r.2.2

noncomputable def nat_Text_b1 (a1 : Int) (x9 : Sl3) : (AH × Sl3 × Int × Int) → Option (Lp (AH × Sl3 × Int × Int) (ByteArray × Int × AH)) := fun (H12, v6_13, v7_14, v8_15) =>
  Option.bind (α := Unit ⊕ (Lp (AH × Sl3 × Int × Int) (ByteArray × Int × AH))) (
    if v8_15 < 19 then
      if v7_14 > 0 then
        some (.inl ())
      else
        if (x9.n : Int) > 0 then
          some (.inl ())
        else
          ((some (.brk (H12, v6_13, v7_14, v8_15))).map .inr)
    else
      ((some (.brk (H12, v6_13, v7_14, v8_15))).map .inr)) fun o => match o with
  | .inl _ =>
    Option.bind (bytA (⟨#[48, 49, 50, 51, 52, 53, 54, 55, 56, 57, 97, 98, 99, 100, 101, 102]⟩ : ByteArray) (Int.tmod v7_14 10)) fun x16 =>
    Option.bind (newR 5 1 #[(Value.int .u8 x16)] H12) fun (s17, H18) =>
    Option.bind (appS 4294967296 5 1 1 H18 v6_13 s17) fun (s19, H20) =>
    some (.next (H20, s19, (IntKind.u64.wrap (Int.tdiv v7_14 10)), (IntKind.i64.wrap (v8_15 + 1))))
  | .inr r => some r

def nat_Text_b1_kn (a1 : Int) (x9 : Sl3) : (AH × Sl3 × Int × Int) → Kn := fun (H12, v6_13, v7_14, v8_15) => [(6, (Sl3.v v6_13)), (7, (Value.int .u64 v7_14)), (8, (Value.int .i64 v8_15)), (0, (Sl3.v x9)), (1, (Value.int .i64 a1))]

noncomputable def nat_Text_b2 (a1 : Int) (x25 : Sl3) : (AH × Sl3 × Int × Int) → Option (Lp (AH × Sl3 × Int × Int) (ByteArray × Int × AH)) := fun (H28, v6_29, v9_30, v10_31) =>
  Option.bind (α := Unit ⊕ (Lp (AH × Sl3 × Int × Int) (ByteArray × Int × AH))) (
    if v10_31 < 32 then
      if v9_30 > 0 then
        some (.inl ())
      else
        if (x25.n : Int) > 0 then
          some (.inl ())
        else
          ((some (.brk (H28, v6_29, v9_30, v10_31))).map .inr)
    else
      ((some (.brk (H28, v6_29, v9_30, v10_31))).map .inr)) fun o => match o with
  | .inl _ =>
    if (IntKind.u64.wrap a1) = 0 then none else
    Option.bind (bytA (⟨#[48, 49, 50, 51, 52, 53, 54, 55, 56, 57, 97, 98, 99, 100, 101, 102]⟩ : ByteArray) (Int.tmod v9_30 (IntKind.u64.wrap a1))) fun x32 =>
    Option.bind (newR 5 1 #[(Value.int .u8 x32)] H28) fun (s33, H34) =>
    Option.bind (appS 4294967296 5 1 1 H34 v6_29 s33) fun (s35, H36) =>
    if (IntKind.u64.wrap a1) = 0 then none else
    Option.bind (bits_Len (IntKind.u64.wrap (IntKind.i64.wrap (a1 - 1)))) fun x37 =>
    some (.next (H36, s35, (IntKind.u64.wrap (Int.tdiv v9_30 (IntKind.u64.wrap a1))), (IntKind.i64.wrap (v10_31 + x37))))
  | .inr r => some r

def nat_Text_b2_kn (a1 : Int) (x25 : Sl3) : (AH × Sl3 × Int × Int) → Kn := fun (H28, v6_29, v9_30, v10_31) => [(6, (Sl3.v v6_29)), (9, (Value.int .u64 v9_30)), (10, (Value.int .i64 v10_31)), (0, (Sl3.v x25)), (1, (Value.int .i64 a1))]

noncomputable def nat_Text_b0 (a1 : Int) : (AH × Sl3 × Sl3) → Option (Lp (AH × Sl3 × Sl3) (ByteArray × Int × AH)) := fun (H6, v0_7, v6_8) =>
  if (v0_7.n : Int) > 0 then
    if a1 = 10 then
      Option.bind (nat_single H6 v0_7 10000000000000000000) fun (x9, x10, H11) =>
      Option.bind (loopO (nat_Text_b1 a1 x9) (H11, v6_8, x10, 0)) fun o => match o with
      | .inl (H21, v6_22, v7_23, v8_24) =>
        some (.next (H21, x9, v6_22))
      | .inr r => some (.ret r)
    else
      Option.bind (nat_single H6 v0_7 4294967296) fun (x25, x26, H27) =>
      Option.bind (loopO (nat_Text_b2 a1 x25) (H27, v6_8, x26, 0)) fun o => match o with
      | .inl (H38, v6_39, v9_40, v10_41) =>
        some (.next (H38, x25, v6_39))
      | .inr r => some (.ret r)
  else
    some (.brk (H6, v0_7, v6_8))

def nat_Text_b0_kn (a1 : Int) : (AH × Sl3 × Sl3) → Kn := fun (H6, v0_7, v6_8) => [(0, (Sl3.v v0_7)), (6, (Sl3.v v6_8)), (1, (Value.int .i64 a1))]

noncomputable def nat_Text (H : AH) (a0 : Sl3) (a1 : Int) : Option (ByteArray × Int × AH) :=
  Option.bind (α := Unit ⊕ (ByteArray × Int × AH)) (
    if a1 = 2 then
      some (.inl ())
    else
      if a1 = 10 then
        some (.inl ())
      else
        if a1 = 16 then
          some (.inl ())
        else
          ((some ((⟨#[]⟩ : ByteArray), 12, H)).map .inr)) fun o => match o with
  | .inl _ =>
    Option.bind (newR 24 1 #[(Sl3.v a0)] H) fun (s1, H2) =>
    Option.bind (nat_long H2 s1) fun x3 =>
    if x3 = true then
      some ((⟨#[]⟩ : ByteArray), 5, H2)
    else
      Option.bind (nat_own H2 a0) fun (x4, H5) =>
      Option.bind (loopO (nat_Text_b0 a1) (H5, x4, Sl3.nil)) fun o => match o with
      | .inl (H42, v0_43, v6_44) =>
        if (v6_44.n : Int) = 0 then
          some ((⟨#[48]⟩ : ByteArray), 0, H42)
        else
          Option.bind (slices_Reverse H42 v6_44) fun H45 =>
          Option.bind (bts H45 v6_44) fun s46 =>
          some (s46, 0, H45)
      | .inr r => some r
  | .inr r => some r

theorem nat_Text_b1_ok {a1 : Int} {x9 : Sl3} : ∀ s o, nat_Text_b1 a1 x9 s = some o →
    WX Try.prog 1000 4294967296 Try.f18.ntmps (cfst (cfst (csnd (cfst (csnd (csnd (cfst (csnd (cfst (cfst (csnd (cfst (cfst (cfst (csnd (csnd (csnd (csnd (csnd B18))))))))))))))))))) (nat_Text_b1_kn a1 x9 s) ((fun s => s.1) s) (lpQ (nat_Text_b1_kn a1 x9) (fun s => s.1) 2 (fun r => RQ Try.f18 (nat_Text_enc r) (nat_Text_hp ⟨0, .nil⟩ r)) o) := by
  rintro ⟨H12, v6_13, v7_14, v8_15⟩ o h
  unfold nat_Text_b1 at h
  try dsimp only at h
  obtain ⟨o, hx, h⟩ := bind_some h
  rcases o with _ | ro
  · dsimp only at h
    refine WX.seq (by kernel_rfl) ?_
    refine WX.join ([(0, (Sl3.v x9)), (1, (Value.int .i64 a1)), (6, (Sl3.v v6_13)), (7, (Value.int .u64 v7_14)), (8, (Value.int .i64 v8_15))]) H12 ?_ (fun ss hs => WX.nxt ?_ ss hs)
    · clear h; rename _ => h
      refine WX.seq (by kernel_rfl) ?_
      refine WX.region (opsOf (cfst (cfst (cfst (cfst (csnd (cfst (csnd (csnd (cfst (csnd (cfst (cfst (csnd (cfst (cfst (cfst (csnd (csnd (csnd (csnd (csnd B18)))))))))))))))))))))) (by kernel_rfl) ?_
      refine RX.psn 3 [(38, (Value.bool (decide (v8_15 < 19)))), (37, (Value.bool (decide (v8_15 < 19)))), (36, (Value.int .i64 v8_15))] (by kernel_rfl) ?_
      rcases ite_some h with ⟨hp, h⟩ | ⟨hp, h⟩
      · refine RX.fix 38 true (decide_eq_true hp) (by kernel_rfl) ?_
        refine RX.psn 3 [(41, (Value.bool (decide (v7_14 > 0)))), (40, (Value.bool (decide (v7_14 > 0)))), (39, (Value.int .u64 v7_14))] (by kernel_rfl) ?_
        rcases ite_some h with ⟨hp, h⟩ | ⟨hp, h⟩
        · refine RX.fix 41 true (decide_eq_true hp) (by kernel_rfl) ?_
          refine RX.psn 5 [(46, (Value.bool true)), (45, (Value.bool true)), (44, undef), (43, undef), (42, undef)] (by kernel_rfl) ?_
          refine RX.done (by kernel_rfl) ?_
          refine fun ss hs => (WX.nxt ?_ ss hs)
          refine WX.condT true rfl (by kernel_rfl) ?_
          refine WX.skip (by kernel_rfl) ?_
          cases h
          exact fun ss hs => ⟨rfl, hs.sub ((SubK.cons (by kernel_rfl) (SubK.cons (by kernel_rfl) (SubK.cons (by kernel_rfl) (SubK.cons (by kernel_rfl) (SubK.cons (by kernel_rfl) SubK.nil)))))), rfl⟩
        · refine RX.fix 41 false (decide_eq_false hp) (by kernel_rfl) ?_
          refine RX.psn 5 [(46, (Value.bool (decide ((x9.n : Int) > 0)))), (45, (Value.bool (decide ((x9.n : Int) > 0)))), (44, (Value.bool (decide ((x9.n : Int) > 0)))), (43, (Value.int .i64 (x9.n : Int))), (42, (Sl3.v x9))] (by kernel_rfl) ?_
          refine RX.done (by kernel_rfl) ?_
          refine fun ss hs => (WX.nxt ?_ ss hs)
          rcases ite_some h with ⟨hp, h⟩ | ⟨hp, h⟩
          · refine WX.condT _ (decide_eq_true hp) (by kernel_rfl) ?_
            refine WX.skip (by kernel_rfl) ?_
            cases h
            exact fun ss hs => ⟨rfl, hs.sub ((SubK.cons (by kernel_rfl) (SubK.cons (by kernel_rfl) (SubK.cons (by kernel_rfl) (SubK.cons (by kernel_rfl) (SubK.cons (by kernel_rfl) SubK.nil)))))), rfl⟩
          · refine WX.condF _ (decide_eq_false hp) (by kernel_rfl) ?_
            refine WX.exit 2 (by kernel_rfl) ?_
            exact (map_inl h).elim
      · refine RX.fix 38 false (decide_eq_false hp) (by kernel_rfl) ?_
        refine RX.psn 8 [(46, (Value.bool false)), (45, undef), (44, undef), (43, undef), (42, undef), (41, undef), (40, undef), (39, undef)] (by kernel_rfl) ?_
        refine RX.done (by kernel_rfl) ?_
        refine fun ss hs => (WX.nxt ?_ ss hs)
        refine WX.condF false rfl (by kernel_rfl) ?_
        refine WX.exit 2 (by kernel_rfl) ?_
        exact (map_inl h).elim
    · clear hx
      refine WX.seq (by kernel_rfl) ?_
      refine WX.block 3 (by kernel_rfl) ?_
      refine WX.seq (by kernel_rfl) ?_
      refine WX.region (opsOf (cfst (cfst (cfst (csnd (cfst (cfst (csnd (cfst (csnd (csnd (cfst (csnd (cfst (cfst (csnd (cfst (cfst (cfst (csnd (csnd (csnd (csnd (csnd B18)))))))))))))))))))))))) (by kernel_rfl) ?_
      refine RX.psn 3 [(51, (Value.int .u64 (Int.tmod v7_14 10))), (50, (Value.int .u64 v7_14)), (49, (Sl3.v v6_13))] (by kernel_rfl) ?_
      obtain ⟨x16, hx, h⟩ := bind_some h
      refine RX.at (some 52) (Value.int .u8 x16) (by kernel_rfl) (by kernel_rfl) (fun ih => Abs.run_byt (t := 9) (x := .const (Value.string (⟨#[48, 49, 50, 51, 52, 53, 54, 55, 56, 57, 97, 98, 99, 100, 101, 102]⟩ : ByteArray))) (y := .tmp 51) (s := (⟨#[48, 49, 50, 51, 52, 53, 54, 55, 56, 57, 97, 98, 99, 100, 101, 102]⟩ : ByteArray)) (k := .u64) (i := (Int.tmod v7_14 10)) (by kernel_rfl) (by kernel_rfl) (by kernel_rfl) (by kernel_rfl) hx) ?_
      obtain ⟨⟨s17, H18⟩, hx, h⟩ := bind_some h
      dsimp only at h
      refine RX.at (some 53) (Sl3.v s17) (by kernel_rfl) (by kernel_rfl) (fun ih => Abs.run_newR (by kernel_rfl) (by kernel_rfl) hx) ?_
      obtain ⟨⟨s19, H20⟩, hx, h⟩ := bind_some h
      dsimp only at h
      refine RX.at (some 54) (Sl3.v s19) (by kernel_rfl) (by kernel_rfl) (fun ih => Abs.run_app (x := .tmp 49) (y := .tmp 53) (ts := #[69, 69]) (s := v6_13) (z := s17) (by kernel_rfl) (by kernel_rfl) (by kernel_rfl) (by kernel_rfl) hx) ?_
      refine RX.psn 1 [(6, (Sl3.v s19))] (by kernel_rfl) ?_
      refine RX.done (by kernel_rfl) ?_
      refine fun ss hs => (WX.nxt ?_ ss hs)
      refine WX.region (opsOf (csnd (cfst (cfst (csnd (cfst (cfst (csnd (cfst (csnd (csnd (cfst (csnd (cfst (cfst (csnd (cfst (cfst (cfst (csnd (csnd (csnd (csnd (csnd B18)))))))))))))))))))))))) (by kernel_rfl) ?_
      refine RX.psn 3 [(7, (Value.int .u64 (IntKind.u64.wrap (Int.tdiv v7_14 10)))), (56, (Value.int .u64 (IntKind.u64.wrap (Int.tdiv v7_14 10)))), (55, (Value.int .u64 v7_14))] (by kernel_rfl) ?_
      refine RX.done (by kernel_rfl) ?_
      refine fun ss hs => blkN ((WX.nxt ?_ ss hs))
      refine WX.region (opsOf (csnd (csnd (cfst (cfst (csnd (cfst (csnd (csnd (cfst (csnd (cfst (cfst (csnd (cfst (cfst (cfst (csnd (csnd (csnd (csnd (csnd B18)))))))))))))))))))))) (by kernel_rfl) ?_
      refine RX.psn 3 [(8, (Value.int .i64 (IntKind.i64.wrap (v8_15 + 1)))), (48, (Value.int .i64 (IntKind.i64.wrap (v8_15 + 1)))), (47, (Value.int .i64 v8_15))] (by kernel_rfl) ?_
      refine RX.done (by kernel_rfl) ?_
      cases h
      exact fun ss hs => lpN rfl (hs.sub ((SubK.cons (by kernel_rfl) (SubK.cons (by kernel_rfl) (SubK.cons (by kernel_rfl) (SubK.cons (by kernel_rfl) (SubK.cons (by kernel_rfl) SubK.nil)))))))
  · cases h; rename _ => h
    refine WX.seq (by kernel_rfl) ?_
    refine WX.seq (by kernel_rfl) ?_
    refine WX.region (opsOf (cfst (cfst (cfst (cfst (csnd (cfst (csnd (csnd (cfst (csnd (cfst (cfst (csnd (cfst (cfst (cfst (csnd (csnd (csnd (csnd (csnd B18)))))))))))))))))))))) (by kernel_rfl) ?_
    refine RX.psn 3 [(38, (Value.bool (decide (v8_15 < 19)))), (37, (Value.bool (decide (v8_15 < 19)))), (36, (Value.int .i64 v8_15))] (by kernel_rfl) ?_
    rcases ite_some h with ⟨hp, h⟩ | ⟨hp, h⟩
    · refine RX.fix 38 true (decide_eq_true hp) (by kernel_rfl) ?_
      refine RX.psn 3 [(41, (Value.bool (decide (v7_14 > 0)))), (40, (Value.bool (decide (v7_14 > 0)))), (39, (Value.int .u64 v7_14))] (by kernel_rfl) ?_
      rcases ite_some h with ⟨hp, h⟩ | ⟨hp, h⟩
      · refine RX.fix 41 true (decide_eq_true hp) (by kernel_rfl) ?_
        refine RX.psn 5 [(46, (Value.bool true)), (45, (Value.bool true)), (44, undef), (43, undef), (42, undef)] (by kernel_rfl) ?_
        refine RX.done (by kernel_rfl) ?_
        refine fun ss hs => (WX.nxt ?_ ss hs)
        refine WX.condT true rfl (by kernel_rfl) ?_
        refine WX.skip (by kernel_rfl) ?_
        cases h
      · refine RX.fix 41 false (decide_eq_false hp) (by kernel_rfl) ?_
        refine RX.psn 5 [(46, (Value.bool (decide ((x9.n : Int) > 0)))), (45, (Value.bool (decide ((x9.n : Int) > 0)))), (44, (Value.bool (decide ((x9.n : Int) > 0)))), (43, (Value.int .i64 (x9.n : Int))), (42, (Sl3.v x9))] (by kernel_rfl) ?_
        refine RX.done (by kernel_rfl) ?_
        refine fun ss hs => (WX.nxt ?_ ss hs)
        rcases ite_some h with ⟨hp, h⟩ | ⟨hp, h⟩
        · refine WX.condT _ (decide_eq_true hp) (by kernel_rfl) ?_
          refine WX.skip (by kernel_rfl) ?_
          cases h
        · refine WX.condF _ (decide_eq_false hp) (by kernel_rfl) ?_
          refine WX.exit 2 (by kernel_rfl) ?_
          replace h := map_inr h
          cases h
          exact fun ss hs => seqE (lpB rfl (hs.sub ((SubK.cons (by kernel_rfl) (SubK.cons (by kernel_rfl) (SubK.cons (by kernel_rfl) (SubK.cons (by kernel_rfl) (SubK.cons (by kernel_rfl) SubK.nil))))))))
    · refine RX.fix 38 false (decide_eq_false hp) (by kernel_rfl) ?_
      refine RX.psn 8 [(46, (Value.bool false)), (45, undef), (44, undef), (43, undef), (42, undef), (41, undef), (40, undef), (39, undef)] (by kernel_rfl) ?_
      refine RX.done (by kernel_rfl) ?_
      refine fun ss hs => (WX.nxt ?_ ss hs)
      refine WX.condF false rfl (by kernel_rfl) ?_
      refine WX.exit 2 (by kernel_rfl) ?_
      replace h := map_inr h
      cases h
      exact fun ss hs => seqE (lpB rfl (hs.sub ((SubK.cons (by kernel_rfl) (SubK.cons (by kernel_rfl) (SubK.cons (by kernel_rfl) (SubK.cons (by kernel_rfl) (SubK.cons (by kernel_rfl) SubK.nil))))))))

theorem nat_Text_b2_ok {a1 : Int} {x25 : Sl3} : ∀ s o, nat_Text_b2 a1 x25 s = some o →
    WX Try.prog 1000 4294967296 Try.f18.ntmps (cfst (cfst (csnd (csnd (csnd (csnd (cfst (csnd (cfst (cfst (cfst (csnd (csnd (csnd (csnd (csnd B18)))))))))))))))) (nat_Text_b2_kn a1 x25 s) ((fun s => s.1) s) (lpQ (nat_Text_b2_kn a1 x25) (fun s => s.1) 4 (fun r => RQ Try.f18 (nat_Text_enc r) (nat_Text_hp ⟨0, .nil⟩ r)) o) := by
  rintro ⟨H28, v6_29, v9_30, v10_31⟩ o h
  unfold nat_Text_b2 at h
  try dsimp only at h
  obtain ⟨o, hx, h⟩ := bind_some h
  rcases o with _ | ro
  · dsimp only at h
    refine WX.seq (by kernel_rfl) ?_
    refine WX.join ([(0, (Sl3.v x25)), (1, (Value.int .i64 a1)), (6, (Sl3.v v6_29)), (9, (Value.int .u64 v9_30)), (10, (Value.int .i64 v10_31))]) H28 ?_ (fun ss hs => WX.nxt ?_ ss hs)
    · clear h; rename _ => h
      refine WX.seq (by kernel_rfl) ?_
      refine WX.region (opsOf (cfst (cfst (cfst (cfst (csnd (csnd (csnd (csnd (cfst (csnd (cfst (cfst (cfst (csnd (csnd (csnd (csnd (csnd B18))))))))))))))))))) (by kernel_rfl) ?_
      refine RX.psn 3 [(64, (Value.bool (decide (v10_31 < 32)))), (63, (Value.bool (decide (v10_31 < 32)))), (62, (Value.int .i64 v10_31))] (by kernel_rfl) ?_
      rcases ite_some h with ⟨hp, h⟩ | ⟨hp, h⟩
      · refine RX.fix 64 true (decide_eq_true hp) (by kernel_rfl) ?_
        refine RX.psn 3 [(67, (Value.bool (decide (v9_30 > 0)))), (66, (Value.bool (decide (v9_30 > 0)))), (65, (Value.int .u64 v9_30))] (by kernel_rfl) ?_
        rcases ite_some h with ⟨hp, h⟩ | ⟨hp, h⟩
        · refine RX.fix 67 true (decide_eq_true hp) (by kernel_rfl) ?_
          refine RX.psn 5 [(72, (Value.bool true)), (71, (Value.bool true)), (70, undef), (69, undef), (68, undef)] (by kernel_rfl) ?_
          refine RX.done (by kernel_rfl) ?_
          refine fun ss hs => (WX.nxt ?_ ss hs)
          refine WX.condT true rfl (by kernel_rfl) ?_
          refine WX.skip (by kernel_rfl) ?_
          cases h
          exact fun ss hs => ⟨rfl, hs.sub ((SubK.cons (by kernel_rfl) (SubK.cons (by kernel_rfl) (SubK.cons (by kernel_rfl) (SubK.cons (by kernel_rfl) (SubK.cons (by kernel_rfl) SubK.nil)))))), rfl⟩
        · refine RX.fix 67 false (decide_eq_false hp) (by kernel_rfl) ?_
          refine RX.psn 5 [(72, (Value.bool (decide ((x25.n : Int) > 0)))), (71, (Value.bool (decide ((x25.n : Int) > 0)))), (70, (Value.bool (decide ((x25.n : Int) > 0)))), (69, (Value.int .i64 (x25.n : Int))), (68, (Sl3.v x25))] (by kernel_rfl) ?_
          refine RX.done (by kernel_rfl) ?_
          refine fun ss hs => (WX.nxt ?_ ss hs)
          rcases ite_some h with ⟨hp, h⟩ | ⟨hp, h⟩
          · refine WX.condT _ (decide_eq_true hp) (by kernel_rfl) ?_
            refine WX.skip (by kernel_rfl) ?_
            cases h
            exact fun ss hs => ⟨rfl, hs.sub ((SubK.cons (by kernel_rfl) (SubK.cons (by kernel_rfl) (SubK.cons (by kernel_rfl) (SubK.cons (by kernel_rfl) (SubK.cons (by kernel_rfl) SubK.nil)))))), rfl⟩
          · refine WX.condF _ (decide_eq_false hp) (by kernel_rfl) ?_
            refine WX.exit 4 (by kernel_rfl) ?_
            exact (map_inl h).elim
      · refine RX.fix 64 false (decide_eq_false hp) (by kernel_rfl) ?_
        refine RX.psn 8 [(72, (Value.bool false)), (71, undef), (70, undef), (69, undef), (68, undef), (67, undef), (66, undef), (65, undef)] (by kernel_rfl) ?_
        refine RX.done (by kernel_rfl) ?_
        refine fun ss hs => (WX.nxt ?_ ss hs)
        refine WX.condF false rfl (by kernel_rfl) ?_
        refine WX.exit 4 (by kernel_rfl) ?_
        exact (map_inl h).elim
    · clear hx
      refine WX.seq (by kernel_rfl) ?_
      refine WX.block 5 (by kernel_rfl) ?_
      refine WX.seq (by kernel_rfl) ?_
      refine WX.region (opsOf (cfst (cfst (cfst (csnd (cfst (cfst (csnd (csnd (csnd (csnd (cfst (csnd (cfst (cfst (cfst (csnd (csnd (csnd (csnd (csnd B18))))))))))))))))))))) (by kernel_rfl) ?_
      refine RX.psn 4 [(82, (Value.int .u64 (IntKind.u64.wrap a1))), (81, (Value.int .i64 a1)), (80, (Value.int .u64 v9_30)), (79, (Sl3.v v6_29))] (by kernel_rfl) ?_
      rcases ite_some h with ⟨_, h⟩ | ⟨hx, h⟩
      · cases h
      · refine RX.at (some 83) (Value.int .u64 (Int.tmod v9_30 (IntKind.u64.wrap a1))) (by kernel_rfl) (by kernel_rfl) (fun ih => Abs.run_rem (t := 38) (u := 38) (x := .tmp 80) (y := .tmp 82) (by kernel_rfl) (by kernel_rfl) (by kernel_rfl) hx) ?_
        obtain ⟨x32, hx, h⟩ := bind_some h
        refine RX.at (some 84) (Value.int .u8 x32) (by kernel_rfl) (by kernel_rfl) (fun ih => Abs.run_byt (t := 9) (x := .const (Value.string (⟨#[48, 49, 50, 51, 52, 53, 54, 55, 56, 57, 97, 98, 99, 100, 101, 102]⟩ : ByteArray))) (y := .tmp 83) (s := (⟨#[48, 49, 50, 51, 52, 53, 54, 55, 56, 57, 97, 98, 99, 100, 101, 102]⟩ : ByteArray)) (k := .u64) (i := (Int.tmod v9_30 (IntKind.u64.wrap a1))) (by kernel_rfl) (by kernel_rfl) (by kernel_rfl) (by kernel_rfl) hx) ?_
        obtain ⟨⟨s33, H34⟩, hx, h⟩ := bind_some h
        dsimp only at h
        refine RX.at (some 85) (Sl3.v s33) (by kernel_rfl) (by kernel_rfl) (fun ih => Abs.run_newR (by kernel_rfl) (by kernel_rfl) hx) ?_
        obtain ⟨⟨s35, H36⟩, hx, h⟩ := bind_some h
        dsimp only at h
        refine RX.at (some 86) (Sl3.v s35) (by kernel_rfl) (by kernel_rfl) (fun ih => Abs.run_app (x := .tmp 79) (y := .tmp 85) (ts := #[69, 69]) (s := v6_29) (z := s33) (by kernel_rfl) (by kernel_rfl) (by kernel_rfl) (by kernel_rfl) hx) ?_
        refine RX.psn 1 [(6, (Sl3.v s35))] (by kernel_rfl) ?_
        refine RX.done (by kernel_rfl) ?_
        refine fun ss hs => (WX.nxt ?_ ss hs)
        refine WX.region (opsOf (csnd (cfst (cfst (csnd (cfst (cfst (csnd (csnd (csnd (csnd (cfst (csnd (cfst (cfst (cfst (csnd (csnd (csnd (csnd (csnd B18))))))))))))))))))))) (by kernel_rfl) ?_
        refine RX.psn 3 [(89, (Value.int .u64 (IntKind.u64.wrap a1))), (88, (Value.int .i64 a1)), (87, (Value.int .u64 v9_30))] (by kernel_rfl) ?_
        rcases ite_some h with ⟨_, h⟩ | ⟨hx, h⟩
        · cases h
        · refine RX.at (some 90) (Value.int .u64 (IntKind.u64.wrap (Int.tdiv v9_30 (IntKind.u64.wrap a1)))) (by kernel_rfl) (by kernel_rfl) (fun ih => Abs.run_quo (t := 38) (u := 38) (x := .tmp 87) (y := .tmp 89) (by kernel_rfl) (by kernel_rfl) (by kernel_rfl) hx) ?_
          refine RX.psn 1 [(9, (Value.int .u64 (IntKind.u64.wrap (Int.tdiv v9_30 (IntKind.u64.wrap a1)))))] (by kernel_rfl) ?_
          refine RX.done (by kernel_rfl) ?_
          refine fun ss hs => blkN ((WX.nxt ?_ ss hs))
          refine WX.region (opsOf (csnd (csnd (cfst (cfst (csnd (csnd (csnd (csnd (cfst (csnd (cfst (cfst (cfst (csnd (csnd (csnd (csnd (csnd B18))))))))))))))))))) (by kernel_rfl) ?_
          refine RX.psn 4 [(76, (Value.int .u64 (IntKind.u64.wrap (IntKind.i64.wrap (a1 - 1))))), (75, (Value.int .i64 (IntKind.i64.wrap (a1 - 1)))), (74, (Value.int .i64 a1)), (73, (Value.int .i64 v10_31))] (by kernel_rfl) ?_
          obtain ⟨x37, hx, h⟩ := bind_some h
          refine RX.callAt (some 77) (v := (Value.int .i64 x37)) 54 #[(Value.int .u64 (IntKind.u64.wrap (IntKind.i64.wrap (a1 - 1))))] (by kernel_rfl) (by kernel_rfl) (by kernel_rfl) (bits_Len_ok hx) ?_
          refine RX.psn 2 [(10, (Value.int .i64 (IntKind.i64.wrap (v10_31 + x37)))), (78, (Value.int .i64 (IntKind.i64.wrap (v10_31 + x37))))] (by kernel_rfl) ?_
          refine RX.done (by kernel_rfl) ?_
          cases h
          exact fun ss hs => lpN rfl (hs.sub ((SubK.cons (by kernel_rfl) (SubK.cons (by kernel_rfl) (SubK.cons (by kernel_rfl) (SubK.cons (by kernel_rfl) (SubK.cons (by kernel_rfl) SubK.nil)))))))
  · cases h; rename _ => h
    refine WX.seq (by kernel_rfl) ?_
    refine WX.seq (by kernel_rfl) ?_
    refine WX.region (opsOf (cfst (cfst (cfst (cfst (csnd (csnd (csnd (csnd (cfst (csnd (cfst (cfst (cfst (csnd (csnd (csnd (csnd (csnd B18))))))))))))))))))) (by kernel_rfl) ?_
    refine RX.psn 3 [(64, (Value.bool (decide (v10_31 < 32)))), (63, (Value.bool (decide (v10_31 < 32)))), (62, (Value.int .i64 v10_31))] (by kernel_rfl) ?_
    rcases ite_some h with ⟨hp, h⟩ | ⟨hp, h⟩
    · refine RX.fix 64 true (decide_eq_true hp) (by kernel_rfl) ?_
      refine RX.psn 3 [(67, (Value.bool (decide (v9_30 > 0)))), (66, (Value.bool (decide (v9_30 > 0)))), (65, (Value.int .u64 v9_30))] (by kernel_rfl) ?_
      rcases ite_some h with ⟨hp, h⟩ | ⟨hp, h⟩
      · refine RX.fix 67 true (decide_eq_true hp) (by kernel_rfl) ?_
        refine RX.psn 5 [(72, (Value.bool true)), (71, (Value.bool true)), (70, undef), (69, undef), (68, undef)] (by kernel_rfl) ?_
        refine RX.done (by kernel_rfl) ?_
        refine fun ss hs => (WX.nxt ?_ ss hs)
        refine WX.condT true rfl (by kernel_rfl) ?_
        refine WX.skip (by kernel_rfl) ?_
        cases h
      · refine RX.fix 67 false (decide_eq_false hp) (by kernel_rfl) ?_
        refine RX.psn 5 [(72, (Value.bool (decide ((x25.n : Int) > 0)))), (71, (Value.bool (decide ((x25.n : Int) > 0)))), (70, (Value.bool (decide ((x25.n : Int) > 0)))), (69, (Value.int .i64 (x25.n : Int))), (68, (Sl3.v x25))] (by kernel_rfl) ?_
        refine RX.done (by kernel_rfl) ?_
        refine fun ss hs => (WX.nxt ?_ ss hs)
        rcases ite_some h with ⟨hp, h⟩ | ⟨hp, h⟩
        · refine WX.condT _ (decide_eq_true hp) (by kernel_rfl) ?_
          refine WX.skip (by kernel_rfl) ?_
          cases h
        · refine WX.condF _ (decide_eq_false hp) (by kernel_rfl) ?_
          refine WX.exit 4 (by kernel_rfl) ?_
          replace h := map_inr h
          cases h
          exact fun ss hs => seqE (lpB rfl (hs.sub ((SubK.cons (by kernel_rfl) (SubK.cons (by kernel_rfl) (SubK.cons (by kernel_rfl) (SubK.cons (by kernel_rfl) (SubK.cons (by kernel_rfl) SubK.nil))))))))
    · refine RX.fix 64 false (decide_eq_false hp) (by kernel_rfl) ?_
      refine RX.psn 8 [(72, (Value.bool false)), (71, undef), (70, undef), (69, undef), (68, undef), (67, undef), (66, undef), (65, undef)] (by kernel_rfl) ?_
      refine RX.done (by kernel_rfl) ?_
      refine fun ss hs => (WX.nxt ?_ ss hs)
      refine WX.condF false rfl (by kernel_rfl) ?_
      refine WX.exit 4 (by kernel_rfl) ?_
      replace h := map_inr h
      cases h
      exact fun ss hs => seqE (lpB rfl (hs.sub ((SubK.cons (by kernel_rfl) (SubK.cons (by kernel_rfl) (SubK.cons (by kernel_rfl) (SubK.cons (by kernel_rfl) (SubK.cons (by kernel_rfl) SubK.nil))))))))

theorem nat_Text_b0_ok {a1 : Int} : ∀ s o, nat_Text_b0 a1 s = some o →
    WX Try.prog 1000 4294967296 Try.f18.ntmps (cfst (cfst (cfst (csnd (csnd (csnd (csnd (csnd B18)))))))) (nat_Text_b0_kn a1 s) ((fun s => s.1) s) (lpQ (nat_Text_b0_kn a1) (fun s => s.1) 0 (fun r => RQ Try.f18 (nat_Text_enc r) (nat_Text_hp ⟨0, .nil⟩ r)) o) := by
  rintro ⟨H6, v0_7, v6_8⟩ o h
  unfold nat_Text_b0 at h
  try dsimp only at h
  refine WX.seq (by kernel_rfl) ?_
  refine WX.seq (by kernel_rfl) ?_
  refine WX.region (opsOf (cfst (cfst (cfst (cfst (cfst (csnd (csnd (csnd (csnd (csnd B18))))))))))) (by kernel_rfl) ?_
  refine RX.psn 3 [(28, (Value.bool (decide ((v0_7.n : Int) > 0)))), (27, (Value.int .i64 (v0_7.n : Int))), (26, (Sl3.v v0_7))] (by kernel_rfl) ?_
  refine RX.done (by kernel_rfl) ?_
  refine fun ss hs => (WX.nxt ?_ ss hs)
  rcases ite_some h with ⟨hp, h⟩ | ⟨hp, h⟩
  · refine WX.condT _ (decide_eq_true hp) (by kernel_rfl) ?_
    refine WX.skip (by kernel_rfl) ?_
    refine fun ss hs => (WX.nxt ?_ ss hs)
    refine WX.block 1 (by kernel_rfl) ?_
    refine WX.seq (by kernel_rfl) ?_
    refine WX.seq (by kernel_rfl) ?_
    refine WX.region (opsOf (cfst (cfst (cfst (csnd (cfst (cfst (cfst (csnd (csnd (csnd (csnd (csnd B18))))))))))))) (by kernel_rfl) ?_
    refine RX.psn 2 [(30, (Value.bool (decide (a1 = 10)))), (29, (Value.int .i64 a1))] (by kernel_rfl) ?_
    refine RX.done (by kernel_rfl) ?_
    refine fun ss hs => (WX.nxt ?_ ss hs)
    rcases ite_some h with ⟨hp, h⟩ | ⟨hp, h⟩
    · refine WX.condT _ (decide_eq_true hp) (by kernel_rfl) ?_
      refine WX.seq (by kernel_rfl) ?_
      refine WX.region (opsOf (cfst (cfst (csnd (cfst (cfst (csnd (cfst (cfst (cfst (csnd (csnd (csnd (csnd (csnd B18))))))))))))))) (by kernel_rfl) ?_
      refine RX.psn 1 [(7, (Value.int .u64 0))] (by kernel_rfl) ?_
      refine RX.done (by kernel_rfl) ?_
      refine fun ss hs => (WX.nxt ?_ ss hs)
      refine WX.seq (by kernel_rfl) ?_
      refine WX.region (opsOf (cfst (csnd (cfst (csnd (cfst (cfst (csnd (cfst (cfst (cfst (csnd (csnd (csnd (csnd (csnd B18)))))))))))))))) (by kernel_rfl) ?_
      refine RX.psn 1 [(32, (Sl3.v v0_7))] (by kernel_rfl) ?_
      obtain ⟨⟨x9, x10, H11⟩, hx, h⟩ := bind_some h
      dsimp only at h
      refine RX.callAt (some 33) (v := (Value.tuple #[(Sl3.v x9), (Value.int .u64 x10)])) 53 #[(Sl3.v v0_7), (Value.int .u64 10000000000000000000)] (by kernel_rfl) (by kernel_rfl) (by kernel_rfl) (nat_single_ok hx) ?_
      refine RX.psn 5 [(7, (Value.int .u64 x10)), (0, (Sl3.v x9)), (35, (Value.int .u64 x10)), (34, (Sl3.v x9)), (31, (Value.tuple #[(Sl3.v x9), (Value.int .u64 x10)]))] (by kernel_rfl) ?_
      refine RX.done (by kernel_rfl) ?_
      refine fun ss hs => (WX.nxt ?_ ss hs)
      refine WX.seq (by kernel_rfl) ?_
      refine WX.seq (by kernel_rfl) ?_
      refine WX.region (opsOf (cfst (cfst (csnd (csnd (cfst (csnd (cfst (cfst (csnd (cfst (cfst (cfst (csnd (csnd (csnd (csnd (csnd B18)))))))))))))))))) (by kernel_rfl) ?_
      refine RX.psn 1 [(8, (Value.int .i64 0))] (by kernel_rfl) ?_
      refine RX.done (by kernel_rfl) ?_
      refine fun ss hs => (WX.nxt ?_ ss hs)
      refine WX.block 2 (by kernel_rfl) ?_
      obtain ⟨o, hl, h⟩ := bind_some h
      rcases o with ⟨H21, v6_22, v7_23, v8_24⟩ | r
      · dsimp only at h
        refine WX.loopI (by kernel_rfl) (nat_Text_b1 a1 x9) (nat_Text_b1_kn a1 x9) (fun s => s.1) 2 (fun r => RQ Try.f18 (nat_Text_enc r) (nat_Text_hp ⟨0, .nil⟩ r)) nat_Text_b1_ok hl ((SubK.cons (by kernel_rfl) (SubK.cons (by kernel_rfl) (SubK.cons (by kernel_rfl) (SubK.cons (by kernel_rfl) (SubK.cons (by kernel_rfl) SubK.nil)))))) rfl ?_
        clear hl
        refine fun ss hs => blkE ((WX.nxt ?_ ss hs))
        refine WX.exit 1 (by kernel_rfl) ?_
        cases h
        exact fun ss hs => seqE (blkE (lpN rfl (hs.sub ((SubK.cons (by kernel_rfl) (SubK.cons (by kernel_rfl) (SubK.cons (by kernel_rfl) SubK.nil)))))))
      · dsimp only at h
        refine WX.loopR (by kernel_rfl) (nat_Text_b1 a1 x9) (nat_Text_b1_kn a1 x9) (fun s => s.1) 2 (fun r => RQ Try.f18 (nat_Text_enc r) (nat_Text_hp ⟨0, .nil⟩ r)) nat_Text_b1_ok hl ((SubK.cons (by kernel_rfl) (SubK.cons (by kernel_rfl) (SubK.cons (by kernel_rfl) (SubK.cons (by kernel_rfl) (SubK.cons (by kernel_rfl) SubK.nil)))))) rfl ?_
        cases h
        exact fun ss H hq => blkR (seqR (seqR (blkR (lpR hq))))
    · refine WX.condF _ (decide_eq_false hp) (by kernel_rfl) ?_
      refine WX.skip (by kernel_rfl) ?_
      refine fun ss hs => (WX.nxt ?_ ss hs)
      refine WX.seq (by kernel_rfl) ?_
      refine WX.region (opsOf (cfst (csnd (cfst (csnd (cfst (cfst (cfst (csnd (csnd (csnd (csnd (csnd B18))))))))))))) (by kernel_rfl) ?_
      refine RX.psn 1 [(9, (Value.int .u64 0))] (by kernel_rfl) ?_
      refine RX.done (by kernel_rfl) ?_
      refine fun ss hs => (WX.nxt ?_ ss hs)
      refine WX.seq (by kernel_rfl) ?_
      refine WX.region (opsOf (cfst (csnd (csnd (cfst (csnd (cfst (cfst (cfst (csnd (csnd (csnd (csnd (csnd B18)))))))))))))) (by kernel_rfl) ?_
      refine RX.psn 1 [(58, (Sl3.v v0_7))] (by kernel_rfl) ?_
      obtain ⟨⟨x25, x26, H27⟩, hx, h⟩ := bind_some h
      dsimp only at h
      refine RX.callAt (some 59) (v := (Value.tuple #[(Sl3.v x25), (Value.int .u64 x26)])) 53 #[(Sl3.v v0_7), (Value.int .u64 4294967296)] (by kernel_rfl) (by kernel_rfl) (by kernel_rfl) (nat_single_ok hx) ?_
      refine RX.psn 5 [(9, (Value.int .u64 x26)), (0, (Sl3.v x25)), (61, (Value.int .u64 x26)), (60, (Sl3.v x25)), (57, (Value.tuple #[(Sl3.v x25), (Value.int .u64 x26)]))] (by kernel_rfl) ?_
      refine RX.done (by kernel_rfl) ?_
      refine fun ss hs => (WX.nxt ?_ ss hs)
      refine WX.seq (by kernel_rfl) ?_
      refine WX.region (opsOf (cfst (csnd (csnd (csnd (cfst (csnd (cfst (cfst (cfst (csnd (csnd (csnd (csnd (csnd B18))))))))))))))) (by kernel_rfl) ?_
      refine RX.psn 1 [(10, (Value.int .i64 0))] (by kernel_rfl) ?_
      refine RX.done (by kernel_rfl) ?_
      refine fun ss hs => (WX.nxt ?_ ss hs)
      refine WX.block 4 (by kernel_rfl) ?_
      obtain ⟨o, hl, h⟩ := bind_some h
      rcases o with ⟨H38, v6_39, v9_40, v10_41⟩ | r
      · dsimp only at h
        refine WX.loopI (by kernel_rfl) (nat_Text_b2 a1 x25) (nat_Text_b2_kn a1 x25) (fun s => s.1) 4 (fun r => RQ Try.f18 (nat_Text_enc r) (nat_Text_hp ⟨0, .nil⟩ r)) nat_Text_b2_ok hl ((SubK.cons (by kernel_rfl) (SubK.cons (by kernel_rfl) (SubK.cons (by kernel_rfl) (SubK.cons (by kernel_rfl) (SubK.cons (by kernel_rfl) SubK.nil)))))) rfl ?_
        clear hl
        cases h
        exact fun ss hs => blkE (blkN (lpN rfl (hs.sub ((SubK.cons (by kernel_rfl) (SubK.cons (by kernel_rfl) (SubK.cons (by kernel_rfl) SubK.nil)))))))
      · dsimp only at h
        refine WX.loopR (by kernel_rfl) (nat_Text_b2 a1 x25) (nat_Text_b2_kn a1 x25) (fun s => s.1) 4 (fun r => RQ Try.f18 (nat_Text_enc r) (nat_Text_hp ⟨0, .nil⟩ r)) nat_Text_b2_ok hl ((SubK.cons (by kernel_rfl) (SubK.cons (by kernel_rfl) (SubK.cons (by kernel_rfl) (SubK.cons (by kernel_rfl) (SubK.cons (by kernel_rfl) SubK.nil)))))) rfl ?_
        cases h
        exact fun ss H hq => blkR (blkR (lpR hq))
  · refine WX.condF _ (decide_eq_false hp) (by kernel_rfl) ?_
    refine WX.exit 0 (by kernel_rfl) ?_
    cases h
    exact fun ss hs => seqE (lpB rfl (hs.sub ((SubK.cons (by kernel_rfl) (SubK.cons (by kernel_rfl) (SubK.cons (by kernel_rfl) SubK.nil))))))

theorem nat_Text_ok {H : AH} {a0 : Sl3} {a1 : Int} {r : (ByteArray × Int × AH)} (h : nat_Text H a0 a1 = some r) :
    CallE Try.prog 1000 4294967296 18 #[(Sl3.v a0), (Value.int .i64 a1)] H (nat_Text_enc r) (nat_Text_hp H r) := by
  refine CallE.mk (args := [(Sl3.v a0), (Value.int .i64 a1)]) Try.func18 (B := B18) (by kernel_rfl) ?_
  unfold nat_Text at h
  refine WX.seq (by kernel_rfl) ?_
  refine WX.region (opsOf (cfst B18)) (by kernel_rfl) ?_
  refine RX.psn 2 [(5, (Value.int .i64 0)), (4, (Value.string (⟨#[]⟩ : ByteArray)))] (by kernel_rfl) ?_
  refine RX.done (by kernel_rfl) ?_
  refine fun ss hs => (WX.nxt ?_ ss hs)
  obtain ⟨o, hx, h⟩ := bind_some h
  rcases o with _ | ro
  · dsimp only at h
    refine WX.seq (by kernel_rfl) ?_
    refine WX.join ([(0, (Sl3.v a0)), (1, (Value.int .i64 a1))]) H ?_ (fun ss hs => WX.nxt ?_ ss hs)
    · clear h; rename _ => h
      refine WX.seq (by kernel_rfl) ?_
      refine WX.region (opsOf (cfst (cfst (csnd B18)))) (by kernel_rfl) ?_
      refine RX.psn 3 [(13, (Value.bool (!decide (a1 = 2)))), (12, (Value.bool (!decide (a1 = 2)))), (11, (Value.int .i64 a1))] (by kernel_rfl) ?_
      rcases ite_some h with ⟨hp, h⟩ | ⟨hp, h⟩
      · refine RX.fix 13 false (dec_not hp) (by kernel_rfl) ?_
        refine RX.psn 7 [(20, (Value.bool false)), (19, undef), (18, undef), (17, (Value.bool false)), (16, (Value.bool false)), (15, undef), (14, undef)] (by kernel_rfl) ?_
        refine RX.done (by kernel_rfl) ?_
        refine fun ss hs => (WX.nxt ?_ ss hs)
        refine WX.condF false rfl (by kernel_rfl) ?_
        refine WX.skip (by kernel_rfl) ?_
        cases h
        exact fun ss hs => ⟨rfl, hs.sub ((SubK.cons (by kernel_rfl) (SubK.cons (by kernel_rfl) SubK.nil))), rfl⟩
      · refine RX.fix 13 true (dec_not' hp) (by kernel_rfl) ?_
        refine RX.psn 4 [(17, (Value.bool (!decide (a1 = 10)))), (16, (Value.bool (!decide (a1 = 10)))), (15, (Value.bool (!decide (a1 = 10)))), (14, (Value.int .i64 a1))] (by kernel_rfl) ?_
        rcases ite_some h with ⟨hp, h⟩ | ⟨hp, h⟩
        · refine RX.fix 17 false (dec_not hp) (by kernel_rfl) ?_
          refine RX.psn 3 [(20, (Value.bool false)), (19, undef), (18, undef)] (by kernel_rfl) ?_
          refine RX.done (by kernel_rfl) ?_
          refine fun ss hs => (WX.nxt ?_ ss hs)
          refine WX.condF false rfl (by kernel_rfl) ?_
          refine WX.skip (by kernel_rfl) ?_
          cases h
          exact fun ss hs => ⟨rfl, hs.sub ((SubK.cons (by kernel_rfl) (SubK.cons (by kernel_rfl) SubK.nil))), rfl⟩
        · refine RX.fix 17 true (dec_not' hp) (by kernel_rfl) ?_
          refine RX.psn 3 [(20, (Value.bool (!decide (a1 = 16)))), (19, (Value.bool (!decide (a1 = 16)))), (18, (Value.int .i64 a1))] (by kernel_rfl) ?_
          refine RX.done (by kernel_rfl) ?_
          refine fun ss hs => (WX.nxt ?_ ss hs)
          rcases ite_some h with ⟨hp, h⟩ | ⟨hp, h⟩
          · refine WX.condF _ (dec_not hp) (by kernel_rfl) ?_
            refine WX.skip (by kernel_rfl) ?_
            cases h
            exact fun ss hs => ⟨rfl, hs.sub ((SubK.cons (by kernel_rfl) (SubK.cons (by kernel_rfl) SubK.nil))), rfl⟩
          · refine WX.condT _ (dec_not' hp) (by kernel_rfl) ?_
            refine WX.seq (by kernel_rfl) ?_
            refine WX.region (opsOf (cfst (cfst (csnd (cfst (csnd B18)))))) (by kernel_rfl) ?_
            refine RX.psn 2 [(5, (Value.int .i64 12)), (4, (Value.string (⟨#[]⟩ : ByteArray)))] (by kernel_rfl) ?_
            refine RX.done (by kernel_rfl) ?_
            refine fun ss hs => (WX.nxt ?_ ss hs)
            refine WX.ret (by kernel_rfl) ?_
            exact (map_inl h).elim
    · clear hx
      refine WX.seq (by kernel_rfl) ?_
      refine WX.seq (by kernel_rfl) ?_
      refine WX.region (opsOf (cfst (cfst (csnd (csnd B18))))) (by kernel_rfl) ?_
      refine RX.psn 1 [(21, (Sl3.v a0))] (by kernel_rfl) ?_
      obtain ⟨⟨s1, H2⟩, hx, h⟩ := bind_some h
      dsimp only at h
      refine RX.at (some 22) (Sl3.v s1) (by kernel_rfl) (by kernel_rfl) (fun ih => Abs.run_newR (by kernel_rfl) (by kernel_rfl) hx) ?_
      obtain ⟨x3, hx, h⟩ := bind_some h
      refine RX.callAt (some 23) (v := (Value.bool x3)) 41 #[(Sl3.v s1)] (by kernel_rfl) (by kernel_rfl) (by kernel_rfl) (nat_long_ok hx) ?_
      refine RX.done (by kernel_rfl) ?_
      refine fun ss hs => (WX.nxt ?_ ss hs)
      rcases ite_some h with ⟨hp, h⟩ | ⟨hp, h⟩
      · refine WX.condT _ hp (by kernel_rfl) ?_
        refine WX.seq (by kernel_rfl) ?_
        refine WX.region (opsOf (cfst (cfst (csnd (cfst (csnd (csnd B18))))))) (by kernel_rfl) ?_
        refine RX.psn 2 [(5, (Value.int .i64 5)), (4, (Value.string (⟨#[]⟩ : ByteArray)))] (by kernel_rfl) ?_
        refine RX.done (by kernel_rfl) ?_
        refine fun ss hs => (WX.nxt ?_ ss hs)
        refine WX.ret (by kernel_rfl) ?_
        cases h
        exact fun ss hs => seqR (retR (rq hs (by kernel_rfl)))
      · refine WX.condF _ (b_not hp) (by kernel_rfl) ?_
        refine WX.skip (by kernel_rfl) ?_
        refine fun ss hs => (WX.nxt ?_ ss hs)
        refine WX.seq (by kernel_rfl) ?_
        refine WX.region (opsOf (cfst (csnd (csnd (csnd B18))))) (by kernel_rfl) ?_
        refine RX.psn 1 [(6, (Sl3.v Sl3.nil))] (by kernel_rfl) ?_
        refine RX.done (by kernel_rfl) ?_
        refine fun ss hs => (WX.nxt ?_ ss hs)
        refine WX.seq (by kernel_rfl) ?_
        refine WX.region (opsOf (cfst (csnd (csnd (csnd (csnd B18)))))) (by kernel_rfl) ?_
        refine RX.psn 1 [(24, (Sl3.v a0))] (by kernel_rfl) ?_
        obtain ⟨⟨x4, H5⟩, hx, h⟩ := bind_some h
        dsimp only at h
        refine RX.callAt (some 25) (v := (Sl3.v x4)) 52 #[(Sl3.v a0)] (by kernel_rfl) (by kernel_rfl) (by kernel_rfl) (nat_own_ok hx) ?_
        refine RX.psn 1 [(0, (Sl3.v x4))] (by kernel_rfl) ?_
        refine RX.done (by kernel_rfl) ?_
        refine fun ss hs => (WX.nxt ?_ ss hs)
        refine WX.seq (by kernel_rfl) ?_
        refine WX.block 0 (by kernel_rfl) ?_
        obtain ⟨o, hl, h⟩ := bind_some h
        rcases o with ⟨H42, v0_43, v6_44⟩ | r
        · dsimp only at h
          refine WX.loopI (by kernel_rfl) (nat_Text_b0 a1) (nat_Text_b0_kn a1) (fun s => s.1) 0 (fun r => RQ Try.f18 (nat_Text_enc r) (nat_Text_hp ⟨0, .nil⟩ r)) nat_Text_b0_ok hl ((SubK.cons (by kernel_rfl) (SubK.cons (by kernel_rfl) (SubK.cons (by kernel_rfl) SubK.nil)))) rfl ?_
          clear hl
          refine fun ss hs => blkE ((WX.nxt ?_ ss hs))
          refine WX.seq (by kernel_rfl) ?_
          refine WX.seq (by kernel_rfl) ?_
          refine WX.region (opsOf (cfst (cfst (csnd (csnd (csnd (csnd (csnd (csnd B18))))))))) (by kernel_rfl) ?_
          refine RX.psn 3 [(93, (Value.bool (decide ((v6_44.n : Int) = 0)))), (92, (Value.int .i64 (v6_44.n : Int))), (91, (Sl3.v v6_44))] (by kernel_rfl) ?_
          refine RX.done (by kernel_rfl) ?_
          refine fun ss hs => (WX.nxt ?_ ss hs)
          rcases ite_some h with ⟨hp, h⟩ | ⟨hp, h⟩
          · refine WX.condT _ (decide_eq_true hp) (by kernel_rfl) ?_
            refine WX.seq (by kernel_rfl) ?_
            refine WX.region (opsOf (cfst (cfst (csnd (cfst (csnd (csnd (csnd (csnd (csnd (csnd B18))))))))))) (by kernel_rfl) ?_
            refine RX.psn 2 [(5, (Value.int .i64 0)), (4, (Value.string (⟨#[48]⟩ : ByteArray)))] (by kernel_rfl) ?_
            refine RX.done (by kernel_rfl) ?_
            refine fun ss hs => (WX.nxt ?_ ss hs)
            refine WX.ret (by kernel_rfl) ?_
            cases h
            exact fun ss hs => seqR (retR (rq hs (by kernel_rfl)))
          · refine WX.condF _ (decide_eq_false hp) (by kernel_rfl) ?_
            refine WX.skip (by kernel_rfl) ?_
            refine fun ss hs => (WX.nxt ?_ ss hs)
            refine WX.seq (by kernel_rfl) ?_
            refine WX.region (opsOf (cfst (csnd (csnd (csnd (csnd (csnd (csnd (csnd B18))))))))) (by kernel_rfl) ?_
            refine RX.psn 1 [(94, (Sl3.v v6_44))] (by kernel_rfl) ?_
            obtain ⟨H45, hx, h⟩ := bind_some h
            refine RX.callAt (some 95) (v := (Value.tuple #[])) 55 #[(Sl3.v v6_44)] (by kernel_rfl) (by kernel_rfl) (by kernel_rfl) (slices_Reverse_ok hx) ?_
            refine RX.done (by kernel_rfl) ?_
            refine fun ss hs => (WX.nxt ?_ ss hs)
            refine WX.seq (by kernel_rfl) ?_
            refine WX.region (opsOf (cfst (csnd (csnd (csnd (csnd (csnd (csnd (csnd (csnd B18)))))))))) (by kernel_rfl) ?_
            refine RX.psn 1 [(96, (Sl3.v v6_44))] (by kernel_rfl) ?_
            obtain ⟨s46, hx, h⟩ := bind_some h
            refine RX.at (some 97) (Value.string s46) (by kernel_rfl) (by kernel_rfl) (fun ih => Abs.run_bts (t := 69) (u := 9) (e := 5) (x := .tmp 96) (s := v6_44) (by kernel_rfl) (by kernel_rfl) (by kernel_rfl) (by kernel_rfl) (by kernel_rfl) hx) ?_
            refine RX.psn 2 [(5, (Value.int .i64 0)), (4, (Value.string s46))] (by kernel_rfl) ?_
            refine RX.done (by kernel_rfl) ?_
            refine fun ss hs => (WX.nxt ?_ ss hs)
            refine WX.ret (by kernel_rfl) ?_
            cases h
            exact fun ss hs => retR (rq hs (by kernel_rfl))
        · dsimp only at h
          refine WX.loopR (by kernel_rfl) (nat_Text_b0 a1) (nat_Text_b0_kn a1) (fun s => s.1) 0 (fun r => RQ Try.f18 (nat_Text_enc r) (nat_Text_hp ⟨0, .nil⟩ r)) nat_Text_b0_ok hl ((SubK.cons (by kernel_rfl) (SubK.cons (by kernel_rfl) (SubK.cons (by kernel_rfl) SubK.nil)))) rfl ?_
          cases h
          exact fun ss H hq => blkR (seqR (retR hq))
  · cases h; rename _ => h
    refine WX.seq (by kernel_rfl) ?_
    refine WX.seq (by kernel_rfl) ?_
    refine WX.region (opsOf (cfst (cfst (csnd B18)))) (by kernel_rfl) ?_
    refine RX.psn 3 [(13, (Value.bool (!decide (a1 = 2)))), (12, (Value.bool (!decide (a1 = 2)))), (11, (Value.int .i64 a1))] (by kernel_rfl) ?_
    rcases ite_some h with ⟨hp, h⟩ | ⟨hp, h⟩
    · refine RX.fix 13 false (dec_not hp) (by kernel_rfl) ?_
      refine RX.psn 7 [(20, (Value.bool false)), (19, undef), (18, undef), (17, (Value.bool false)), (16, (Value.bool false)), (15, undef), (14, undef)] (by kernel_rfl) ?_
      refine RX.done (by kernel_rfl) ?_
      refine fun ss hs => (WX.nxt ?_ ss hs)
      refine WX.condF false rfl (by kernel_rfl) ?_
      refine WX.skip (by kernel_rfl) ?_
      cases h
    · refine RX.fix 13 true (dec_not' hp) (by kernel_rfl) ?_
      refine RX.psn 4 [(17, (Value.bool (!decide (a1 = 10)))), (16, (Value.bool (!decide (a1 = 10)))), (15, (Value.bool (!decide (a1 = 10)))), (14, (Value.int .i64 a1))] (by kernel_rfl) ?_
      rcases ite_some h with ⟨hp, h⟩ | ⟨hp, h⟩
      · refine RX.fix 17 false (dec_not hp) (by kernel_rfl) ?_
        refine RX.psn 3 [(20, (Value.bool false)), (19, undef), (18, undef)] (by kernel_rfl) ?_
        refine RX.done (by kernel_rfl) ?_
        refine fun ss hs => (WX.nxt ?_ ss hs)
        refine WX.condF false rfl (by kernel_rfl) ?_
        refine WX.skip (by kernel_rfl) ?_
        cases h
      · refine RX.fix 17 true (dec_not' hp) (by kernel_rfl) ?_
        refine RX.psn 3 [(20, (Value.bool (!decide (a1 = 16)))), (19, (Value.bool (!decide (a1 = 16)))), (18, (Value.int .i64 a1))] (by kernel_rfl) ?_
        refine RX.done (by kernel_rfl) ?_
        refine fun ss hs => (WX.nxt ?_ ss hs)
        rcases ite_some h with ⟨hp, h⟩ | ⟨hp, h⟩
        · refine WX.condF _ (dec_not hp) (by kernel_rfl) ?_
          refine WX.skip (by kernel_rfl) ?_
          cases h
        · refine WX.condT _ (dec_not' hp) (by kernel_rfl) ?_
          refine WX.seq (by kernel_rfl) ?_
          refine WX.region (opsOf (cfst (cfst (csnd (cfst (csnd B18)))))) (by kernel_rfl) ?_
          refine RX.psn 2 [(5, (Value.int .i64 12)), (4, (Value.string (⟨#[]⟩ : ByteArray)))] (by kernel_rfl) ?_
          refine RX.done (by kernel_rfl) ?_
          refine fun ss hs => (WX.nxt ?_ ss hs)
          refine WX.ret (by kernel_rfl) ?_
          replace h := map_inr h
          cases h
          exact fun ss hs => seqR (retR (rq hs (by kernel_rfl)))

noncomputable def B16 : Code := (Try.f16.body).getD .skip

def ref01_Same_enc : Bool → Value
  | r0 => (Value.bool r0)

def ref01_Same_hp (H : AH) : Bool → AH := fun _ => H

noncomputable def ref01_Same_b0 (H : AH) (a0 : Sl3) (a1 : Sl3) : Int → Option (Lp Int Bool) := fun v5_1 =>
  if v5_1 < (a0.n : Int) then
    if belowS H a0 = true then
      Option.bind (idxA 1 a0 v5_1) fun p2 =>
      if below H p2 = true then
        Option.bind (rd (deI .u64) H p2) fun x3 =>
        if belowS H a1 = true then
          Option.bind (idxA 1 a1 v5_1) fun p4 =>
          if below H p4 = true then
            Option.bind (rd (deI .u64) H p4) fun x5 =>
            if x3 = x5 then
              some (.next (IntKind.i64.wrap (v5_1 + 1)))
            else
              some (.ret false)
          else none
        else none
      else none
    else none
  else
    some (.brk v5_1)

def ref01_Same_b0_kn (H : AH) (a0 : Sl3) (a1 : Sl3) : Int → Kn := fun v5_1 => [(5, (Value.int .i64 v5_1)), (0, (Sl3.v a0)), (1, (Sl3.v a1))]

noncomputable def ref01_Same (H : AH) (a0 : Sl3) (a1 : Sl3) : Option Bool :=
  if (a0.n : Int) = (a1.n : Int) then
    Option.bind (loopO (ref01_Same_b0 H a0 a1) 0) fun o => match o with
    | .inl v5_6 =>
      some true
    | .inr r => some r
  else
    some false

theorem ref01_Same_b0_ok {H : AH} {a0 : Sl3} {a1 : Sl3} : ∀ s o, ref01_Same_b0 H a0 a1 s = some o →
    WX Try.prog 1000 4294967296 Try.f16.ntmps (cfst (cfst (csnd (cfst (csnd (csnd B16)))))) (ref01_Same_b0_kn H a0 a1 s) ((fun _ => H) s) (lpQ (ref01_Same_b0_kn H a0 a1) (fun _ => H) 0 (fun r => RQ Try.f16 (ref01_Same_enc r) (ref01_Same_hp H r)) o) := by
  rintro v5_1 o h
  unfold ref01_Same_b0 at h
  try dsimp only at h
  refine WX.seq (by kernel_rfl) ?_
  refine WX.seq (by kernel_rfl) ?_
  refine WX.region (opsOf (cfst (cfst (cfst (cfst (csnd (cfst (csnd (csnd B16))))))))) (by kernel_rfl) ?_
  refine RX.psn 4 [(14, (Value.bool (decide (v5_1 < (a0.n : Int))))), (13, (Value.int .i64 (a0.n : Int))), (12, (Sl3.v a0)), (11, (Value.int .i64 v5_1))] (by kernel_rfl) ?_
  refine RX.done (by kernel_rfl) ?_
  refine fun ss hs => (WX.nxt ?_ ss hs)
  rcases ite_some h with ⟨hp, h⟩ | ⟨hp, h⟩
  · refine WX.condT _ (decide_eq_true hp) (by kernel_rfl) ?_
    refine WX.skip (by kernel_rfl) ?_
    refine fun ss hs => (WX.nxt ?_ ss hs)
    refine WX.seq (by kernel_rfl) ?_
    refine WX.block 1 (by kernel_rfl) ?_
    refine WX.seq (by kernel_rfl) ?_
    refine WX.quiet (opsOf (cfst (cfst (cfst (csnd (cfst (cfst (csnd (cfst (csnd (csnd B16))))))))))) (by kernel_rfl) (by kernel_rfl) ?_
    rcases ite_some h with ⟨hb, h⟩ | ⟨_, h⟩
    · refine QX.at (some 17) (Sl3.v a0) (by kernel_rfl) (by kernel_rfl) (by kernel_rfl) (fun ih => by kernel_rfl) (calm_sl (belowS_lt hb)) ?_
      refine QX.at (some 18) (Value.int .i64 v5_1) (by kernel_rfl) (by kernel_rfl) (by kernel_rfl) (fun ih => by kernel_rfl) calm_int ?_
      obtain ⟨p2, hx, h⟩ := bind_some h
      rcases ite_some h with ⟨hb, h⟩ | ⟨_, h⟩
      · refine QX.at (some 19) (Value.pointer (some p2)) (by kernel_rfl) (by kernel_rfl) (by kernel_rfl) (fun ih => Abs.run_idx (s := a0) (k := .i64) (t := 24) (e := 38) (x := .tmp 17) (y := .tmp 18) (by kernel_rfl) (by kernel_rfl) (by kernel_rfl) (by kernel_rfl) (by kernel_rfl) hx) (calm_ptr (below_lt hb)) ?_
        obtain ⟨x3, hx, h⟩ := bind_some h
        refine QX.at (some 20) (Value.int .u64 x3) (by kernel_rfl) (by kernel_rfl) (by kernel_rfl) (fun ih => Abs.run_load (t := 38) (x := .tmp 19) (a := p2) (by kernel_rfl) (by kernel_rfl) (by kernel_rfl) (rd_cell hx deI_inv)) calm_int ?_
        rcases ite_some h with ⟨hb, h⟩ | ⟨_, h⟩
        · refine QX.at (some 21) (Sl3.v a1) (by kernel_rfl) (by kernel_rfl) (by kernel_rfl) (fun ih => by kernel_rfl) (calm_sl (belowS_lt hb)) ?_
          refine QX.at (some 22) (Value.int .i64 v5_1) (by kernel_rfl) (by kernel_rfl) (by kernel_rfl) (fun ih => by kernel_rfl) calm_int ?_
          obtain ⟨p4, hx, h⟩ := bind_some h
          rcases ite_some h with ⟨hb, h⟩ | ⟨_, h⟩
          · refine QX.at (some 23) (Value.pointer (some p4)) (by kernel_rfl) (by kernel_rfl) (by kernel_rfl) (fun ih => Abs.run_idx (s := a1) (k := .i64) (t := 24) (e := 38) (x := .tmp 21) (y := .tmp 22) (by kernel_rfl) (by kernel_rfl) (by kernel_rfl) (by kernel_rfl) (by kernel_rfl) hx) (calm_ptr (below_lt hb)) ?_
            obtain ⟨x5, hx, h⟩ := bind_some h
            refine QX.at (some 24) (Value.int .u64 x5) (by kernel_rfl) (by kernel_rfl) (by kernel_rfl) (fun ih => Abs.run_load (t := 38) (x := .tmp 23) (a := p4) (by kernel_rfl) (by kernel_rfl) (by kernel_rfl) (rd_cell hx deI_inv)) calm_int ?_
            refine QX.at (some 25) (Value.bool (!decide (x3 = x5))) (by kernel_rfl) (by kernel_rfl) (by kernel_rfl) (fun ih => by kernel_rfl) calm_bool ?_
            refine QX.done (by kernel_rfl) ?_
            refine fun ss hs => (WX.nxt ?_ ss hs)
            rcases ite_some h with ⟨hp, h⟩ | ⟨hp, h⟩
            · refine WX.condF _ (dec_not hp) (by kernel_rfl) ?_
              refine WX.skip (by kernel_rfl) ?_
              refine fun ss hs => blkN ((WX.nxt ?_ ss hs))
              refine WX.region (opsOf (csnd (csnd (cfst (cfst (csnd (cfst (csnd (csnd B16))))))))) (by kernel_rfl) ?_
              refine RX.psn 3 [(5, (Value.int .i64 (IntKind.i64.wrap (v5_1 + 1)))), (16, (Value.int .i64 (IntKind.i64.wrap (v5_1 + 1)))), (15, (Value.int .i64 v5_1))] (by kernel_rfl) ?_
              refine RX.done (by kernel_rfl) ?_
              cases h
              exact fun ss hs => lpN rfl (hs.sub ((SubK.cons (by kernel_rfl) (SubK.cons (by kernel_rfl) (SubK.cons (by kernel_rfl) SubK.nil)))))
            · refine WX.condT _ (dec_not' hp) (by kernel_rfl) ?_
              refine WX.seq (by kernel_rfl) ?_
              refine WX.region (opsOf (cfst (cfst (csnd (cfst (cfst (csnd (cfst (cfst (csnd (cfst (csnd (csnd B16))))))))))))) (by kernel_rfl) ?_
              refine RX.psn 1 [(4, (Value.bool false))] (by kernel_rfl) ?_
              refine RX.done (by kernel_rfl) ?_
              refine fun ss hs => (WX.nxt ?_ ss hs)
              refine WX.ret (by kernel_rfl) ?_
              cases h
              exact fun ss hs => blkR (seqR (lpR (rq hs (by kernel_rfl))))
          · cases h
        · cases h
      · cases h
    · cases h
  · refine WX.condF _ (decide_eq_false hp) (by kernel_rfl) ?_
    refine WX.exit 0 (by kernel_rfl) ?_
    cases h
    exact fun ss hs => seqE (lpB rfl (hs.sub ((SubK.cons (by kernel_rfl) (SubK.cons (by kernel_rfl) (SubK.cons (by kernel_rfl) SubK.nil))))))

theorem ref01_Same_ok {H : AH} {a0 : Sl3} {a1 : Sl3} {r : Bool} (h : ref01_Same H a0 a1 = some r) :
    CallE Try.prog 1000 4294967296 16 #[(Sl3.v a0), (Sl3.v a1)] H (ref01_Same_enc r) (ref01_Same_hp H r) := by
  refine CallE.mk (args := [(Sl3.v a0), (Sl3.v a1)]) Try.func16 (B := B16) (by kernel_rfl) ?_
  unfold ref01_Same at h
  refine WX.seq (by kernel_rfl) ?_
  refine WX.region (opsOf (cfst B16)) (by kernel_rfl) ?_
  refine RX.psn 1 [(4, (Value.bool false))] (by kernel_rfl) ?_
  refine RX.done (by kernel_rfl) ?_
  refine fun ss hs => (WX.nxt ?_ ss hs)
  refine WX.seq (by kernel_rfl) ?_
  refine WX.seq (by kernel_rfl) ?_
  refine WX.region (opsOf (cfst (cfst (csnd B16)))) (by kernel_rfl) ?_
  refine RX.psn 5 [(10, (Value.bool (!decide ((a0.n : Int) = (a1.n : Int))))), (9, (Value.int .i64 (a1.n : Int))), (8, (Sl3.v a1)), (7, (Value.int .i64 (a0.n : Int))), (6, (Sl3.v a0))] (by kernel_rfl) ?_
  refine RX.done (by kernel_rfl) ?_
  refine fun ss hs => (WX.nxt ?_ ss hs)
  rcases ite_some h with ⟨hp, h⟩ | ⟨hp, h⟩
  · refine WX.condF _ (dec_not hp) (by kernel_rfl) ?_
    refine WX.skip (by kernel_rfl) ?_
    refine fun ss hs => (WX.nxt ?_ ss hs)
    refine WX.seq (by kernel_rfl) ?_
    refine WX.seq (by kernel_rfl) ?_
    refine WX.region (opsOf (cfst (cfst (csnd (csnd B16))))) (by kernel_rfl) ?_
    refine RX.psn 1 [(5, (Value.int .i64 0))] (by kernel_rfl) ?_
    refine RX.done (by kernel_rfl) ?_
    refine fun ss hs => (WX.nxt ?_ ss hs)
    refine WX.block 0 (by kernel_rfl) ?_
    obtain ⟨o, hl, h⟩ := bind_some h
    rcases o with v5_6 | r
    · dsimp only at h
      refine WX.loopI (by kernel_rfl) (ref01_Same_b0 H a0 a1) (ref01_Same_b0_kn H a0 a1) (fun _ => H) 0 (fun r => RQ Try.f16 (ref01_Same_enc r) (ref01_Same_hp H r)) ref01_Same_b0_ok hl ((SubK.cons (by kernel_rfl) (SubK.cons (by kernel_rfl) (SubK.cons (by kernel_rfl) SubK.nil)))) rfl ?_
      clear hl
      refine fun ss hs => blkE ((WX.nxt ?_ ss hs))
      refine WX.seq (by kernel_rfl) ?_
      refine WX.region (opsOf (cfst (csnd (csnd (csnd B16))))) (by kernel_rfl) ?_
      refine RX.psn 1 [(4, (Value.bool true))] (by kernel_rfl) ?_
      refine RX.done (by kernel_rfl) ?_
      refine fun ss hs => (WX.nxt ?_ ss hs)
      refine WX.ret (by kernel_rfl) ?_
      cases h
      exact fun ss hs => retR (rq hs (by kernel_rfl))
    · dsimp only at h
      refine WX.loopR (by kernel_rfl) (ref01_Same_b0 H a0 a1) (ref01_Same_b0_kn H a0 a1) (fun _ => H) 0 (fun r => RQ Try.f16 (ref01_Same_enc r) (ref01_Same_hp H r)) ref01_Same_b0_ok hl ((SubK.cons (by kernel_rfl) (SubK.cons (by kernel_rfl) (SubK.cons (by kernel_rfl) SubK.nil)))) rfl ?_
      cases h
      exact fun ss H hq => blkR (seqR (retR hq))
  · refine WX.condT _ (dec_not' hp) (by kernel_rfl) ?_
    refine WX.seq (by kernel_rfl) ?_
    refine WX.region (opsOf (cfst (cfst (csnd (cfst (csnd B16)))))) (by kernel_rfl) ?_
    refine RX.psn 1 [(4, (Value.bool false))] (by kernel_rfl) ?_
    refine RX.done (by kernel_rfl) ?_
    refine fun ss hs => (WX.nxt ?_ ss hs)
    refine WX.ret (by kernel_rfl) ?_
    cases h
    exact fun ss hs => seqR (retR (rq hs (by kernel_rfl)))

end Go.Proofs.Ytoadagekdnkciaa

namespace Go.Proofs.Ytoadagekdnkciaa
open Go Go.Abs
set_option maxRecDepth 100000

noncomputable def B17 : Code := (Try.f17.body).getD .skip

def law01_alive_enc : (Bool × AH) → Value
  | (r0, _) => (Value.bool r0)

def law01_alive_hp (_ : AH) : (Bool × AH) → AH := fun r => r.2

noncomputable def law01_alive (H : AH) : Option (Bool × AH) :=
  Option.bind (nat_Of H 18446744073709551615) fun (x1, H2) =>
  Option.bind (nat_Of H2 2) fun (x3, H4) =>
  Option.bind (newR 24 2 #[(Sl3.v x1), (Sl3.v x3)] H4) fun (s5, H6) =>
  Option.bind (nat_Mul H6 s5) fun (x7, x8, H9) =>
  Option.bind (nat_Text H9 x7 16) fun (x10, x11, H12) =>
  if x8 = 0 then
    if x11 = 0 then
      some ((x10.toList == (⟨#[49, 102, 102, 102, 102, 102, 102, 102, 102, 102, 102, 102, 102, 102, 102, 102, 101]⟩ : ByteArray).toList), H12)
    else
      some (false, H12)
  else
    some (false, H12)

theorem law01_alive_ok {H : AH} {r : (Bool × AH)} (h : law01_alive H = some r) :
    CallE Try.prog 1000 4294967296 17 #[] H (law01_alive_enc r) (law01_alive_hp H r) := by
  refine CallE.mk (args := []) Try.func17 (B := B17) (by kernel_rfl) ?_
  unfold law01_alive at h
  refine WX.seq (by kernel_rfl) ?_
  refine WX.region (opsOf (cfst B17)) (by kernel_rfl) ?_
  refine RX.psn 1 [(0, (Value.bool false))] (by kernel_rfl) ?_
  refine RX.done (by kernel_rfl) ?_
  refine fun ss hs => (WX.nxt ?_ ss hs)
  refine WX.seq (by kernel_rfl) ?_
  refine WX.region (opsOf (cfst (csnd B17))) (by kernel_rfl) ?_
  obtain ⟨⟨x1, H2⟩, hx, h⟩ := bind_some h
  dsimp only at h
  refine RX.callAt (some 6) (v := (Sl3.v x1)) 24 #[(Value.int .u64 18446744073709551615)] (by kernel_rfl) (by kernel_rfl) (by kernel_rfl) (nat_Of_ok hx) ?_
  obtain ⟨⟨x3, H4⟩, hx, h⟩ := bind_some h
  dsimp only at h
  refine RX.callAt (some 7) (v := (Sl3.v x3)) 24 #[(Value.int .u64 2)] (by kernel_rfl) (by kernel_rfl) (by kernel_rfl) (nat_Of_ok hx) ?_
  obtain ⟨⟨s5, H6⟩, hx, h⟩ := bind_some h
  dsimp only at h
  refine RX.at (some 8) (Sl3.v s5) (by kernel_rfl) (by kernel_rfl) (fun ih => Abs.run_newR (by kernel_rfl) (by kernel_rfl) hx) ?_
  obtain ⟨⟨x7, x8, H9⟩, hx, h⟩ := bind_some h
  dsimp only at h
  refine RX.callAt (some 9) (v := (Value.tuple #[(Sl3.v x7), (Value.int .i64 x8)])) 14 #[(Sl3.v s5)] (by kernel_rfl) (by kernel_rfl) (by kernel_rfl) (nat_Mul_ok hx) ?_
  refine RX.psn 5 [(2, (Value.int .i64 x8)), (1, (Sl3.v x7)), (11, (Value.int .i64 x8)), (10, (Sl3.v x7)), (5, (Value.tuple #[(Sl3.v x7), (Value.int .i64 x8)]))] (by kernel_rfl) ?_
  refine RX.done (by kernel_rfl) ?_
  refine fun ss hs => (WX.nxt ?_ ss hs)
  refine WX.seq (by kernel_rfl) ?_
  refine WX.region (opsOf (cfst (csnd (csnd B17)))) (by kernel_rfl) ?_
  refine RX.psn 1 [(13, (Sl3.v x7))] (by kernel_rfl) ?_
  obtain ⟨⟨x10, x11, H12⟩, hx, h⟩ := bind_some h
  dsimp only at h
  refine RX.callAt (some 14) (v := (Value.tuple #[(Value.string x10), (Value.int .i64 x11)])) 18 #[(Sl3.v x7), (Value.int .i64 16)] (by kernel_rfl) (by kernel_rfl) (by kernel_rfl) (nat_Text_ok hx) ?_
  refine RX.psn 5 [(4, (Value.int .i64 x11)), (3, (Value.string x10)), (16, (Value.int .i64 x11)), (15, (Value.string x10)), (12, (Value.tuple #[(Value.string x10), (Value.int .i64 x11)]))] (by kernel_rfl) ?_
  refine RX.done (by kernel_rfl) ?_
  refine fun ss hs => (WX.nxt ?_ ss hs)
  refine WX.seq (by kernel_rfl) ?_
  refine WX.region (opsOf (cfst (csnd (csnd (csnd B17))))) (by kernel_rfl) ?_
  refine RX.psn 3 [(19, (Value.bool (decide (x8 = 0)))), (18, (Value.bool (decide (x8 = 0)))), (17, (Value.int .i64 x8))] (by kernel_rfl) ?_
  rcases ite_some h with ⟨hp, h⟩ | ⟨hp, h⟩
  · refine RX.fix 19 true (decide_eq_true hp) (by kernel_rfl) ?_
    refine RX.psn 4 [(23, (Value.bool (decide (x11 = 0)))), (22, (Value.bool (decide (x11 = 0)))), (21, (Value.bool (decide (x11 = 0)))), (20, (Value.int .i64 x11))] (by kernel_rfl) ?_
    rcases ite_some h with ⟨hp, h⟩ | ⟨hp, h⟩
    · refine RX.fix 23 true (decide_eq_true hp) (by kernel_rfl) ?_
      refine RX.psn 4 [(0, (Value.bool (x10.toList == (⟨#[49, 102, 102, 102, 102, 102, 102, 102, 102, 102, 102, 102, 102, 102, 102, 102, 101]⟩ : ByteArray).toList))), (26, (Value.bool (x10.toList == (⟨#[49, 102, 102, 102, 102, 102, 102, 102, 102, 102, 102, 102, 102, 102, 102, 102, 101]⟩ : ByteArray).toList))), (25, (Value.bool (x10.toList == (⟨#[49, 102, 102, 102, 102, 102, 102, 102, 102, 102, 102, 102, 102, 102, 102, 102, 101]⟩ : ByteArray).toList))), (24, (Value.string x10))] (by kernel_rfl) ?_
      refine RX.done (by kernel_rfl) ?_
      refine fun ss hs => (WX.nxt ?_ ss hs)
      refine WX.ret (by kernel_rfl) ?_
      cases h
      exact fun ss hs => retR (rq hs (by kernel_rfl))
    · refine RX.fix 23 false (decide_eq_false hp) (by kernel_rfl) ?_
      refine RX.psn 4 [(0, (Value.bool false)), (26, (Value.bool false)), (25, undef), (24, undef)] (by kernel_rfl) ?_
      refine RX.done (by kernel_rfl) ?_
      refine fun ss hs => (WX.nxt ?_ ss hs)
      refine WX.ret (by kernel_rfl) ?_
      cases h
      exact fun ss hs => retR (rq hs (by kernel_rfl))
  · refine RX.fix 19 false (decide_eq_false hp) (by kernel_rfl) ?_
    refine RX.psn 8 [(0, (Value.bool false)), (26, (Value.bool false)), (25, undef), (24, undef), (23, (Value.bool false)), (22, (Value.bool false)), (21, undef), (20, undef)] (by kernel_rfl) ?_
    refine RX.done (by kernel_rfl) ?_
    refine fun ss hs => (WX.nxt ?_ ss hs)
    refine WX.ret (by kernel_rfl) ?_
    cases h
    exact fun ss hs => retR (rq hs (by kernel_rfl))

noncomputable def B73 : Code := (Try.f73.body).getD .skip

def ref01_trim_enc : Sl3 → Value
  | r0 => (Sl3.v r0)

def ref01_trim_hp (H : AH) : Sl3 → AH := fun _ => H

noncomputable def ref01_trim_b0 (H : AH) : Sl3 → Option (Lp Sl3 Sl3) := fun v0_1 =>
  if (v0_1.n : Int) > 0 then
    Option.bind (idxA 1 v0_1 (IntKind.i64.wrap ((v0_1.n : Int) - 1))) fun p2 =>
    Option.bind (rd (deI .u32) H p2) fun x3 =>
    if x3 = 0 then
      Option.bind (slc 1 H v0_1 none (some (IntKind.i64.wrap ((v0_1.n : Int) - 1))) none) fun s4 =>
      some (.next s4)
    else
      some (.brk v0_1)
  else
    some (.brk v0_1)

def ref01_trim_b0_kn (H : AH) : Sl3 → Kn := fun v0_1 => [(0, (Sl3.v v0_1))]

noncomputable def ref01_trim (H : AH) (a0 : Sl3) : Option Sl3 :=
  Option.bind (loopO (ref01_trim_b0 H) a0) fun o => match o with
  | .inl v0_5 =>
    some v0_5
  | .inr r => some r

theorem ref01_trim_b0_ok {H : AH} : ∀ s o, ref01_trim_b0 H s = some o →
    WX Try.prog 1000 4294967296 Try.f73.ntmps (cfst (cfst (cfst (csnd B73)))) (ref01_trim_b0_kn H s) ((fun _ => H) s) (lpQ (ref01_trim_b0_kn H) (fun _ => H) 0 (fun r => RQ Try.f73 (ref01_trim_enc r) (ref01_trim_hp H r)) o) := by
  rintro v0_1 o h
  unfold ref01_trim_b0 at h
  try dsimp only at h
  refine WX.seq (by kernel_rfl) ?_
  refine WX.seq (by kernel_rfl) ?_
  refine WX.region (opsOf (cfst (cfst (cfst (cfst (cfst (csnd B73))))))) (by kernel_rfl) ?_
  refine RX.psn 4 [(6, (Value.bool (decide ((v0_1.n : Int) > 0)))), (5, (Value.bool (decide ((v0_1.n : Int) > 0)))), (4, (Value.int .i64 (v0_1.n : Int))), (3, (Sl3.v v0_1))] (by kernel_rfl) ?_
  rcases ite_some h with ⟨hp, h⟩ | ⟨hp, h⟩
  · refine RX.fix 6 true (decide_eq_true hp) (by kernel_rfl) ?_
    refine RX.psn 4 [(10, (Value.int .i64 (IntKind.i64.wrap ((v0_1.n : Int) - 1)))), (9, (Value.int .i64 (v0_1.n : Int))), (8, (Sl3.v v0_1)), (7, (Sl3.v v0_1))] (by kernel_rfl) ?_
    obtain ⟨p2, hx, h⟩ := bind_some h
    refine RX.at (some 11) (Value.pointer (some p2)) (by kernel_rfl) (by kernel_rfl) (fun ih => Abs.run_idx (s := v0_1) (k := .i64) (t := 63) (e := 65) (x := .tmp 7) (y := .tmp 10) (by kernel_rfl) (by kernel_rfl) (by kernel_rfl) (by kernel_rfl) (by kernel_rfl) hx) ?_
    obtain ⟨x3, hx, h⟩ := bind_some h
    refine RX.at (some 12) (Value.int .u32 x3) (by kernel_rfl) (by kernel_rfl) (fun ih => Abs.run_load (t := 65) (x := .tmp 11) (a := p2) (by kernel_rfl) (by kernel_rfl) (by kernel_rfl) (rd_cell hx deI_inv)) ?_
    refine RX.psn 2 [(14, (Value.bool (decide (x3 = 0)))), (13, (Value.bool (decide (x3 = 0))))] (by kernel_rfl) ?_
    refine RX.done (by kernel_rfl) ?_
    refine fun ss hs => (WX.nxt ?_ ss hs)
    rcases ite_some h with ⟨hp, h⟩ | ⟨hp, h⟩
    · refine WX.condT _ (decide_eq_true hp) (by kernel_rfl) ?_
      refine WX.skip (by kernel_rfl) ?_
      refine fun ss hs => (WX.nxt ?_ ss hs)
      refine WX.block 1 (by kernel_rfl) ?_
      refine WX.region (opsOf (cfst (csnd (cfst (cfst (cfst (csnd B73))))))) (by kernel_rfl) ?_
      refine RX.psn 4 [(18, (Value.int .i64 (IntKind.i64.wrap ((v0_1.n : Int) - 1)))), (17, (Value.int .i64 (v0_1.n : Int))), (16, (Sl3.v v0_1)), (15, (Sl3.v v0_1))] (by kernel_rfl) ?_
      obtain ⟨s4, hx, h⟩ := bind_some h
      refine RX.at (some 19) (Sl3.v s4) (by kernel_rfl) (by kernel_rfl) (fun ih => Abs.run_slice (t := 63) (e := 65) (x := .tmp 15) (lo := none) (hi := (some (.tmp 18))) (mx := none) (s := v0_1) (k1 := .i64) (k2 := .i64) (k3 := .i64) (by kernel_rfl) (by kernel_rfl) (by kernel_rfl) (by kernel_rfl) (by kernel_rfl) (by kernel_rfl) (by kernel_rfl) hx) ?_
      refine RX.psn 1 [(0, (Sl3.v s4))] (by kernel_rfl) ?_
      refine RX.done (by kernel_rfl) ?_
      cases h
      exact fun ss hs => blkN (lpN rfl (hs.sub ((SubK.cons (by kernel_rfl) SubK.nil))))
    · refine WX.condF _ (decide_eq_false hp) (by kernel_rfl) ?_
      refine WX.exit 0 (by kernel_rfl) ?_
      cases h
      exact fun ss hs => seqE (lpB rfl (hs.sub ((SubK.cons (by kernel_rfl) SubK.nil))))
  · refine RX.fix 6 false (decide_eq_false hp) (by kernel_rfl) ?_
    refine RX.psn 8 [(14, (Value.bool false)), (13, undef), (12, undef), (11, undef), (10, undef), (9, undef), (8, undef), (7, undef)] (by kernel_rfl) ?_
    refine RX.done (by kernel_rfl) ?_
    refine fun ss hs => (WX.nxt ?_ ss hs)
    refine WX.condF false rfl (by kernel_rfl) ?_
    refine WX.exit 0 (by kernel_rfl) ?_
    cases h
    exact fun ss hs => seqE (lpB rfl (hs.sub ((SubK.cons (by kernel_rfl) SubK.nil))))

theorem ref01_trim_ok {H : AH} {a0 : Sl3} {r : Sl3} (h : ref01_trim H a0 = some r) :
    CallE Try.prog 1000 4294967296 73 #[(Sl3.v a0)] H (ref01_trim_enc r) (ref01_trim_hp H r) := by
  refine CallE.mk (args := [(Sl3.v a0)]) Try.func73 (B := B73) (by kernel_rfl) ?_
  unfold ref01_trim at h
  refine WX.seq (by kernel_rfl) ?_
  refine WX.region (opsOf (cfst B73)) (by kernel_rfl) ?_
  refine RX.psn 1 [(2, (Sl3.v Sl3.nil))] (by kernel_rfl) ?_
  refine RX.done (by kernel_rfl) ?_
  refine fun ss hs => (WX.nxt ?_ ss hs)
  refine WX.seq (by kernel_rfl) ?_
  refine WX.block 0 (by kernel_rfl) ?_
  obtain ⟨o, hl, h⟩ := bind_some h
  rcases o with v0_5 | r
  · dsimp only at h
    refine WX.loopI (by kernel_rfl) (ref01_trim_b0 H) (ref01_trim_b0_kn H) (fun _ => H) 0 (fun r => RQ Try.f73 (ref01_trim_enc r) (ref01_trim_hp H r)) ref01_trim_b0_ok hl ((SubK.cons (by kernel_rfl) SubK.nil)) rfl ?_
    clear hl
    refine fun ss hs => blkE ((WX.nxt ?_ ss hs))
    refine WX.seq (by kernel_rfl) ?_
    refine WX.region (opsOf (cfst (csnd (csnd B73)))) (by kernel_rfl) ?_
    refine RX.psn 2 [(2, (Sl3.v v0_5)), (20, (Sl3.v v0_5))] (by kernel_rfl) ?_
    refine RX.done (by kernel_rfl) ?_
    refine fun ss hs => (WX.nxt ?_ ss hs)
    refine WX.ret (by kernel_rfl) ?_
    cases h
    exact fun ss hs => retR (rq hs (by kernel_rfl))
  · dsimp only at h
    refine WX.loopR (by kernel_rfl) (ref01_trim_b0 H) (ref01_trim_b0_kn H) (fun _ => H) 0 (fun r => RQ Try.f73 (ref01_trim_enc r) (ref01_trim_hp H r)) ref01_trim_b0_ok hl ((SubK.cons (by kernel_rfl) SubK.nil)) rfl ?_
    cases h
    exact fun ss H hq => blkR (seqR (retR hq))

noncomputable def B48 : Code := (Try.f48.body).getD .skip

def ref01_From_enc : (Sl3 × AH) → Value
  | (r0, _) => (Sl3.v r0)

def ref01_From_hp (_ : AH) : (Sl3 × AH) → AH := fun r => r.2

noncomputable def ref01_From_b1 (a0 : Sl3) (v4_3 : Int) : (AH × Sl3 × Int) → Option (Lp (AH × Sl3 × Int) (Sl3 × AH)) := fun (H4, v3_5, v5_6) =>
  if v5_6 < 4 then
    Option.bind (idxA 1 a0 v4_3) fun p7 =>
    Option.bind (rd (deI .u64) H4 p7) fun x8 =>
    if (IntKind.u64.wrap (16 * (IntKind.u64.wrap v5_6))) < 0 then none else
    Option.bind (newR 65 1 #[(Value.int .u32 (iand .u32 (IntKind.u32.wrap (ishr .u64 x8 (IntKind.u64.wrap (16 * (IntKind.u64.wrap v5_6))))) 65535))] H4) fun (s9, H10) =>
    Option.bind (appS 4294967296 65 1 4 H10 v3_5 s9) fun (s11, H12) =>
    some (.next (H12, s11, (IntKind.i64.wrap (v5_6 + 1))))
  else
    some (.brk (H4, v3_5, v5_6))

def ref01_From_b1_kn (a0 : Sl3) (v4_3 : Int) : (AH × Sl3 × Int) → Kn := fun (H4, v3_5, v5_6) => [(3, (Sl3.v v3_5)), (5, (Value.int .i64 v5_6)), (0, (Sl3.v a0)), (4, (Value.int .i64 v4_3))]

noncomputable def ref01_From_b0 (a0 : Sl3) : (AH × Sl3 × Int) → Option (Lp (AH × Sl3 × Int) (Sl3 × AH)) := fun (H1, v3_2, v4_3) =>
  if v4_3 < (a0.n : Int) then
    Option.bind (loopO (ref01_From_b1 a0 v4_3) (H1, v3_2, 0)) fun o => match o with
    | .inl (H13, v3_14, v5_15) =>
      some (.next (H13, v3_14, (IntKind.i64.wrap (v4_3 + 1))))
    | .inr r => some (.ret r)
  else
    some (.brk (H1, v3_2, v4_3))

def ref01_From_b0_kn (a0 : Sl3) : (AH × Sl3 × Int) → Kn := fun (H1, v3_2, v4_3) => [(3, (Sl3.v v3_2)), (4, (Value.int .i64 v4_3)), (0, (Sl3.v a0))]

noncomputable def ref01_From (H : AH) (a0 : Sl3) : Option (Sl3 × AH) :=
  Option.bind (loopO (ref01_From_b0 a0) (H, Sl3.nil, 0)) fun o => match o with
  | .inl (H16, v3_17, v4_18) =>
    Option.bind (ref01_trim H16 v3_17) fun x19 =>
    some (x19, H16)
  | .inr r => some r

theorem ref01_From_b1_ok {a0 : Sl3} {v4_3 : Int} : ∀ s o, ref01_From_b1 a0 v4_3 s = some o →
    WX Try.prog 1000 4294967296 Try.f48.ntmps (cfst (cfst (csnd (cfst (cfst (csnd (cfst (cfst (csnd (cfst (csnd (csnd B48)))))))))))) (ref01_From_b1_kn a0 v4_3 s) ((fun s => s.1) s) (lpQ (ref01_From_b1_kn a0 v4_3) (fun s => s.1) 2 (fun r => RQ Try.f48 (ref01_From_enc r) (ref01_From_hp ⟨0, .nil⟩ r)) o) := by
  rintro ⟨H4, v3_5, v5_6⟩ o h
  unfold ref01_From_b1 at h
  try dsimp only at h
  refine WX.seq (by kernel_rfl) ?_
  refine WX.seq (by kernel_rfl) ?_
  refine WX.region (opsOf (cfst (cfst (cfst (cfst (csnd (cfst (cfst (csnd (cfst (cfst (csnd (cfst (csnd (csnd B48))))))))))))))) (by kernel_rfl) ?_
  refine RX.psn 2 [(13, (Value.bool (decide (v5_6 < 4)))), (12, (Value.int .i64 v5_6))] (by kernel_rfl) ?_
  refine RX.done (by kernel_rfl) ?_
  refine fun ss hs => (WX.nxt ?_ ss hs)
  rcases ite_some h with ⟨hp, h⟩ | ⟨hp, h⟩
  · refine WX.condT _ (decide_eq_true hp) (by kernel_rfl) ?_
    refine WX.skip (by kernel_rfl) ?_
    refine fun ss hs => (WX.nxt ?_ ss hs)
    refine WX.seq (by kernel_rfl) ?_
    refine WX.block 3 (by kernel_rfl) ?_
    refine WX.region (opsOf (cfst (cfst (csnd (cfst (cfst (csnd (cfst (cfst (csnd (cfst (cfst (csnd (cfst (csnd (csnd B48)))))))))))))))) (by kernel_rfl) ?_
    refine RX.psn 3 [(18, (Value.int .i64 v4_3)), (17, (Sl3.v a0)), (16, (Sl3.v v3_5))] (by kernel_rfl) ?_
    obtain ⟨p7, hx, h⟩ := bind_some h
    refine RX.at (some 19) (Value.pointer (some p7)) (by kernel_rfl) (by kernel_rfl) (fun ih => Abs.run_idx (s := a0) (k := .i64) (t := 24) (e := 38) (x := .tmp 17) (y := .tmp 18) (by kernel_rfl) (by kernel_rfl) (by kernel_rfl) (by kernel_rfl) (by kernel_rfl) hx) ?_
    obtain ⟨x8, hx, h⟩ := bind_some h
    refine RX.at (some 20) (Value.int .u64 x8) (by kernel_rfl) (by kernel_rfl) (fun ih => Abs.run_load (t := 38) (x := .tmp 19) (a := p7) (by kernel_rfl) (by kernel_rfl) (by kernel_rfl) (rd_cell hx deI_inv)) ?_
    refine RX.psn 3 [(23, (Value.int .u64 (IntKind.u64.wrap (16 * (IntKind.u64.wrap v5_6))))), (22, (Value.int .u64 (IntKind.u64.wrap v5_6))), (21, (Value.int .i64 v5_6))] (by kernel_rfl) ?_
    rcases ite_some h with ⟨_, h⟩ | ⟨hx, h⟩
    · cases h
    · refine RX.at (some 24) (Value.int .u64 (ishr .u64 x8 (IntKind.u64.wrap (16 * (IntKind.u64.wrap v5_6))))) (by kernel_rfl) (by kernel_rfl) (fun ih => Abs.run_shr (t := 38) (u := 73) (x := .tmp 20) (y := .tmp 23) (k' := .u64) (by kernel_rfl) (by kernel_rfl) (by kernel_rfl) hx) ?_
      refine RX.psn 2 [(26, (Value.int .u32 (iand .u32 (IntKind.u32.wrap (ishr .u64 x8 (IntKind.u64.wrap (16 * (IntKind.u64.wrap v5_6))))) 65535))), (25, (Value.int .u32 (IntKind.u32.wrap (ishr .u64 x8 (IntKind.u64.wrap (16 * (IntKind.u64.wrap v5_6)))))))] (by kernel_rfl) ?_
      obtain ⟨⟨s9, H10⟩, hx, h⟩ := bind_some h
      dsimp only at h
      refine RX.at (some 27) (Sl3.v s9) (by kernel_rfl) (by kernel_rfl) (fun ih => Abs.run_newR (by kernel_rfl) (by kernel_rfl) hx) ?_
      obtain ⟨⟨s11, H12⟩, hx, h⟩ := bind_some h
      dsimp only at h
      refine RX.at (some 28) (Sl3.v s11) (by kernel_rfl) (by kernel_rfl) (fun ih => Abs.run_app (x := .tmp 16) (y := .tmp 27) (ts := #[63, 63]) (s := v3_5) (z := s9) (by kernel_rfl) (by kernel_rfl) (by kernel_rfl) (by kernel_rfl) hx) ?_
      refine RX.psn 1 [(3, (Sl3.v s11))] (by kernel_rfl) ?_
      refine RX.done (by kernel_rfl) ?_
      refine fun ss hs => blkN ((WX.nxt ?_ ss hs))
      refine WX.region (opsOf (csnd (csnd (cfst (cfst (csnd (cfst (cfst (csnd (cfst (cfst (csnd (cfst (csnd (csnd B48))))))))))))))) (by kernel_rfl) ?_
      refine RX.psn 3 [(5, (Value.int .i64 (IntKind.i64.wrap (v5_6 + 1)))), (15, (Value.int .i64 (IntKind.i64.wrap (v5_6 + 1)))), (14, (Value.int .i64 v5_6))] (by kernel_rfl) ?_
      refine RX.done (by kernel_rfl) ?_
      cases h
      exact fun ss hs => lpN rfl (hs.sub ((SubK.cons (by kernel_rfl) (SubK.cons (by kernel_rfl) (SubK.cons (by kernel_rfl) (SubK.cons (by kernel_rfl) SubK.nil))))))
  · refine WX.condF _ (decide_eq_false hp) (by kernel_rfl) ?_
    refine WX.exit 2 (by kernel_rfl) ?_
    cases h
    exact fun ss hs => seqE (lpB rfl (hs.sub ((SubK.cons (by kernel_rfl) (SubK.cons (by kernel_rfl) (SubK.cons (by kernel_rfl) (SubK.cons (by kernel_rfl) SubK.nil)))))))

theorem ref01_From_b0_ok {a0 : Sl3} : ∀ s o, ref01_From_b0 a0 s = some o →
    WX Try.prog 1000 4294967296 Try.f48.ntmps (cfst (cfst (csnd (cfst (csnd (csnd B48)))))) (ref01_From_b0_kn a0 s) ((fun s => s.1) s) (lpQ (ref01_From_b0_kn a0) (fun s => s.1) 0 (fun r => RQ Try.f48 (ref01_From_enc r) (ref01_From_hp ⟨0, .nil⟩ r)) o) := by
  rintro ⟨H1, v3_2, v4_3⟩ o h
  unfold ref01_From_b0 at h
  try dsimp only at h
  refine WX.seq (by kernel_rfl) ?_
  refine WX.seq (by kernel_rfl) ?_
  refine WX.region (opsOf (cfst (cfst (cfst (cfst (csnd (cfst (csnd (csnd B48))))))))) (by kernel_rfl) ?_
  refine RX.psn 4 [(9, (Value.bool (decide (v4_3 < (a0.n : Int))))), (8, (Value.int .i64 (a0.n : Int))), (7, (Sl3.v a0)), (6, (Value.int .i64 v4_3))] (by kernel_rfl) ?_
  refine RX.done (by kernel_rfl) ?_
  refine fun ss hs => (WX.nxt ?_ ss hs)
  rcases ite_some h with ⟨hp, h⟩ | ⟨hp, h⟩
  · refine WX.condT _ (decide_eq_true hp) (by kernel_rfl) ?_
    refine WX.skip (by kernel_rfl) ?_
    refine fun ss hs => (WX.nxt ?_ ss hs)
    refine WX.seq (by kernel_rfl) ?_
    refine WX.block 1 (by kernel_rfl) ?_
    refine WX.seq (by kernel_rfl) ?_
    refine WX.region (opsOf (cfst (cfst (cfst (csnd (cfst (cfst (csnd (cfst (csnd (csnd B48))))))))))) (by kernel_rfl) ?_
    refine RX.psn 1 [(5, (Value.int .i64 0))] (by kernel_rfl) ?_
    refine RX.done (by kernel_rfl) ?_
    refine fun ss hs => (WX.nxt ?_ ss hs)
    refine WX.block 2 (by kernel_rfl) ?_
    obtain ⟨o, hl, h⟩ := bind_some h
    rcases o with ⟨H13, v3_14, v5_15⟩ | r
    · dsimp only at h
      refine WX.loopI (by kernel_rfl) (ref01_From_b1 a0 v4_3) (ref01_From_b1_kn a0 v4_3) (fun s => s.1) 2 (fun r => RQ Try.f48 (ref01_From_enc r) (ref01_From_hp ⟨0, .nil⟩ r)) ref01_From_b1_ok hl ((SubK.cons (by kernel_rfl) (SubK.cons (by kernel_rfl) (SubK.cons (by kernel_rfl) (SubK.cons (by kernel_rfl) SubK.nil))))) rfl ?_
      clear hl
      refine fun ss hs => blkE (blkN ((WX.nxt ?_ ss hs)))
      refine WX.region (opsOf (csnd (csnd (cfst (cfst (csnd (cfst (csnd (csnd B48))))))))) (by kernel_rfl) ?_
      refine RX.psn 3 [(4, (Value.int .i64 (IntKind.i64.wrap (v4_3 + 1)))), (11, (Value.int .i64 (IntKind.i64.wrap (v4_3 + 1)))), (10, (Value.int .i64 v4_3))] (by kernel_rfl) ?_
      refine RX.done (by kernel_rfl) ?_
      cases h
      exact fun ss hs => lpN rfl (hs.sub ((SubK.cons (by kernel_rfl) (SubK.cons (by kernel_rfl) (SubK.cons (by kernel_rfl) SubK.nil)))))
    · dsimp only at h
      refine WX.loopR (by kernel_rfl) (ref01_From_b1 a0 v4_3) (ref01_From_b1_kn a0 v4_3) (fun s => s.1) 2 (fun r => RQ Try.f48 (ref01_From_enc r) (ref01_From_hp ⟨0, .nil⟩ r)) ref01_From_b1_ok hl ((SubK.cons (by kernel_rfl) (SubK.cons (by kernel_rfl) (SubK.cons (by kernel_rfl) (SubK.cons (by kernel_rfl) SubK.nil))))) rfl ?_
      cases h
      exact fun ss H hq => blkR (blkR (seqR (lpR hq)))
  · refine WX.condF _ (decide_eq_false hp) (by kernel_rfl) ?_
    refine WX.exit 0 (by kernel_rfl) ?_
    cases h
    exact fun ss hs => seqE (lpB rfl (hs.sub ((SubK.cons (by kernel_rfl) (SubK.cons (by kernel_rfl) (SubK.cons (by kernel_rfl) SubK.nil))))))

theorem ref01_From_ok {H : AH} {a0 : Sl3} {r : (Sl3 × AH)} (h : ref01_From H a0 = some r) :
    CallE Try.prog 1000 4294967296 48 #[(Sl3.v a0)] H (ref01_From_enc r) (ref01_From_hp H r) := by
  refine CallE.mk (args := [(Sl3.v a0)]) Try.func48 (B := B48) (by kernel_rfl) ?_
  unfold ref01_From at h
  refine WX.seq (by kernel_rfl) ?_
  refine WX.region (opsOf (cfst B48)) (by kernel_rfl) ?_
  refine RX.psn 1 [(2, (Sl3.v Sl3.nil))] (by kernel_rfl) ?_
  refine RX.done (by kernel_rfl) ?_
  refine fun ss hs => (WX.nxt ?_ ss hs)
  refine WX.seq (by kernel_rfl) ?_
  refine WX.region (opsOf (cfst (csnd B48))) (by kernel_rfl) ?_
  refine RX.psn 1 [(3, (Sl3.v Sl3.nil))] (by kernel_rfl) ?_
  refine RX.done (by kernel_rfl) ?_
  refine fun ss hs => (WX.nxt ?_ ss hs)
  refine WX.seq (by kernel_rfl) ?_
  refine WX.seq (by kernel_rfl) ?_
  refine WX.region (opsOf (cfst (cfst (csnd (csnd B48))))) (by kernel_rfl) ?_
  refine RX.psn 1 [(4, (Value.int .i64 0))] (by kernel_rfl) ?_
  refine RX.done (by kernel_rfl) ?_
  refine fun ss hs => (WX.nxt ?_ ss hs)
  refine WX.block 0 (by kernel_rfl) ?_
  obtain ⟨o, hl, h⟩ := bind_some h
  rcases o with ⟨H16, v3_17, v4_18⟩ | r
  · dsimp only at h
    refine WX.loopI (by kernel_rfl) (ref01_From_b0 a0) (ref01_From_b0_kn a0) (fun s => s.1) 0 (fun r => RQ Try.f48 (ref01_From_enc r) (ref01_From_hp ⟨0, .nil⟩ r)) ref01_From_b0_ok hl ((SubK.cons (by kernel_rfl) (SubK.cons (by kernel_rfl) (SubK.cons (by kernel_rfl) SubK.nil)))) rfl ?_
    clear hl
    refine fun ss hs => blkE ((WX.nxt ?_ ss hs))
    refine WX.seq (by kernel_rfl) ?_
    refine WX.region (opsOf (cfst (csnd (csnd (csnd B48))))) (by kernel_rfl) ?_
    refine RX.psn 1 [(29, (Sl3.v v3_17))] (by kernel_rfl) ?_
    obtain ⟨x19, hx, h⟩ := bind_some h
    refine RX.callAt (some 30) (v := (Sl3.v x19)) 73 #[(Sl3.v v3_17)] (by kernel_rfl) (by kernel_rfl) (by kernel_rfl) (ref01_trim_ok hx) ?_
    refine RX.psn 1 [(2, (Sl3.v x19))] (by kernel_rfl) ?_
    refine RX.done (by kernel_rfl) ?_
    refine fun ss hs => (WX.nxt ?_ ss hs)
    refine WX.ret (by kernel_rfl) ?_
    cases h
    exact fun ss hs => retR (rq hs (by kernel_rfl))
  · dsimp only at h
    refine WX.loopR (by kernel_rfl) (ref01_From_b0 a0) (ref01_From_b0_kn a0) (fun s => s.1) 0 (fun r => RQ Try.f48 (ref01_From_enc r) (ref01_From_hp ⟨0, .nil⟩ r)) ref01_From_b0_ok hl ((SubK.cons (by kernel_rfl) (SubK.cons (by kernel_rfl) (SubK.cons (by kernel_rfl) SubK.nil)))) rfl ?_
    cases h
    exact fun ss H hq => blkR (seqR (retR hq))

noncomputable def B50 : Code := (Try.f50.body).getD .skip

def ref01_Long_enc : Bool → Value
  | r0 => (Value.bool r0)

def ref01_Long_hp (H : AH) : Bool → AH := fun _ => H

noncomputable def ref01_Long (a0 : Sl3) : Option Bool :=
  some (decide ((a0.n : Int) > 16384))

theorem ref01_Long_ok {H : AH} {a0 : Sl3} {r : Bool} (h : ref01_Long a0 = some r) :
    CallE Try.prog 1000 4294967296 50 #[(Sl3.v a0)] H (ref01_Long_enc r) (ref01_Long_hp H r) := by
  refine CallE.mk (args := [(Sl3.v a0)]) Try.func50 (B := B50) (by kernel_rfl) ?_
  unfold ref01_Long at h
  refine WX.seq (by kernel_rfl) ?_
  refine WX.region (opsOf (cfst B50)) (by kernel_rfl) ?_
  refine RX.psn 1 [(2, (Value.bool false))] (by kernel_rfl) ?_
  refine RX.done (by kernel_rfl) ?_
  refine fun ss hs => (WX.nxt ?_ ss hs)
  refine WX.seq (by kernel_rfl) ?_
  refine WX.region (opsOf (cfst (csnd B50))) (by kernel_rfl) ?_
  refine RX.psn 4 [(2, (Value.bool (decide ((a0.n : Int) > 16384)))), (5, (Value.bool (decide ((a0.n : Int) > 16384)))), (4, (Value.int .i64 (a0.n : Int))), (3, (Sl3.v a0))] (by kernel_rfl) ?_
  refine RX.done (by kernel_rfl) ?_
  refine fun ss hs => (WX.nxt ?_ ss hs)
  refine WX.ret (by kernel_rfl) ?_
  cases h
  exact fun ss hs => retR (rq hs (by kernel_rfl))

noncomputable def B47 : Code := (Try.f47.body).getD .skip

def ref01_long_enc : (Bool × AH) → Value
  | (r0, _) => (Value.bool r0)

def ref01_long_hp (_ : AH) : (Bool × AH) → AH := fun r => r.2

noncomputable def ref01_long_b0 (a0 : Sl3) : (AH × Int) → Option (Lp (AH × Int) (Bool × AH)) := fun (H1, v3_2) =>
  if v3_2 < (a0.n : Int) then
    Option.bind (idxA 1 a0 v3_2) fun p3 =>
    Option.bind (rd deSl H1 p3) fun x4 =>
    Option.bind (ref01_From H1 x4) fun (x5, H6) =>
    Option.bind (ref01_Long x5) fun x7 =>
    if x7 = true then
      some (.ret (true, H6))
    else
      some (.next (H6, (IntKind.i64.wrap (v3_2 + 1))))
  else
    some (.brk (H1, v3_2))

def ref01_long_b0_kn (a0 : Sl3) : (AH × Int) → Kn := fun (H1, v3_2) => [(3, (Value.int .i64 v3_2)), (0, (Sl3.v a0))]

noncomputable def ref01_long (H : AH) (a0 : Sl3) : Option (Bool × AH) :=
  Option.bind (loopO (ref01_long_b0 a0) (H, 0)) fun o => match o with
  | .inl (H8, v3_9) =>
    some (false, H8)
  | .inr r => some r

theorem ref01_long_b0_ok {a0 : Sl3} : ∀ s o, ref01_long_b0 a0 s = some o →
    WX Try.prog 1000 4294967296 Try.f47.ntmps (cfst (cfst (csnd (cfst (csnd B47))))) (ref01_long_b0_kn a0 s) ((fun s => s.1) s) (lpQ (ref01_long_b0_kn a0) (fun s => s.1) 0 (fun r => RQ Try.f47 (ref01_long_enc r) (ref01_long_hp ⟨0, .nil⟩ r)) o) := by
  rintro ⟨H1, v3_2⟩ o h
  unfold ref01_long_b0 at h
  try dsimp only at h
  refine WX.seq (by kernel_rfl) ?_
  refine WX.seq (by kernel_rfl) ?_
  refine WX.region (opsOf (cfst (cfst (cfst (cfst (csnd (cfst (csnd B47)))))))) (by kernel_rfl) ?_
  refine RX.psn 4 [(7, (Value.bool (decide (v3_2 < (a0.n : Int))))), (6, (Value.int .i64 (a0.n : Int))), (5, (Sl3.v a0)), (4, (Value.int .i64 v3_2))] (by kernel_rfl) ?_
  refine RX.done (by kernel_rfl) ?_
  refine fun ss hs => (WX.nxt ?_ ss hs)
  rcases ite_some h with ⟨hp, h⟩ | ⟨hp, h⟩
  · refine WX.condT _ (decide_eq_true hp) (by kernel_rfl) ?_
    refine WX.skip (by kernel_rfl) ?_
    refine fun ss hs => (WX.nxt ?_ ss hs)
    refine WX.seq (by kernel_rfl) ?_
    refine WX.block 1 (by kernel_rfl) ?_
    refine WX.seq (by kernel_rfl) ?_
    refine WX.region (opsOf (cfst (cfst (cfst (csnd (cfst (cfst (csnd (cfst (csnd B47)))))))))) (by kernel_rfl) ?_
    refine RX.psn 2 [(11, (Value.int .i64 v3_2)), (10, (Sl3.v a0))] (by kernel_rfl) ?_
    obtain ⟨p3, hx, h⟩ := bind_some h
    refine RX.at (some 12) (Value.pointer (some p3)) (by kernel_rfl) (by kernel_rfl) (fun ih => Abs.run_idx (s := a0) (k := .i64) (t := 22) (e := 24) (x := .tmp 10) (y := .tmp 11) (by kernel_rfl) (by kernel_rfl) (by kernel_rfl) (by kernel_rfl) (by kernel_rfl) hx) ?_
    obtain ⟨x4, hx, h⟩ := bind_some h
    refine RX.at (some 13) (Sl3.v x4) (by kernel_rfl) (by kernel_rfl) (fun ih => Abs.run_load (t := 24) (x := .tmp 12) (a := p3) (by kernel_rfl) (by kernel_rfl) (by kernel_rfl) (rd_cell hx deSl_inv)) ?_
    obtain ⟨⟨x5, H6⟩, hx, h⟩ := bind_some h
    dsimp only at h
    refine RX.callAt (some 14) (v := (Sl3.v x5)) 48 #[(Sl3.v x4)] (by kernel_rfl) (by kernel_rfl) (by kernel_rfl) (ref01_From_ok hx) ?_
    obtain ⟨x7, hx, h⟩ := bind_some h
    refine RX.callAt (some 15) (v := (Value.bool x7)) 50 #[(Sl3.v x5)] (by kernel_rfl) (by kernel_rfl) (by kernel_rfl) (ref01_Long_ok hx) ?_
    refine RX.done (by kernel_rfl) ?_
    refine fun ss hs => (WX.nxt ?_ ss hs)
    rcases ite_some h with ⟨hp, h⟩ | ⟨hp, h⟩
    · refine WX.condT _ hp (by kernel_rfl) ?_
      refine WX.seq (by kernel_rfl) ?_
      refine WX.region (opsOf (cfst (cfst (csnd (cfst (cfst (csnd (cfst (cfst (csnd (cfst (csnd B47)))))))))))) (by kernel_rfl) ?_
      refine RX.psn 1 [(2, (Value.bool true))] (by kernel_rfl) ?_
      refine RX.done (by kernel_rfl) ?_
      refine fun ss hs => (WX.nxt ?_ ss hs)
      refine WX.ret (by kernel_rfl) ?_
      cases h
      exact fun ss hs => blkR (seqR (lpR (rq hs (by kernel_rfl))))
    · refine WX.condF _ (b_not hp) (by kernel_rfl) ?_
      refine WX.skip (by kernel_rfl) ?_
      refine fun ss hs => blkN ((WX.nxt ?_ ss hs))
      refine WX.region (opsOf (csnd (csnd (cfst (cfst (csnd (cfst (csnd B47)))))))) (by kernel_rfl) ?_
      refine RX.psn 3 [(3, (Value.int .i64 (IntKind.i64.wrap (v3_2 + 1)))), (9, (Value.int .i64 (IntKind.i64.wrap (v3_2 + 1)))), (8, (Value.int .i64 v3_2))] (by kernel_rfl) ?_
      refine RX.done (by kernel_rfl) ?_
      cases h
      exact fun ss hs => lpN rfl (hs.sub ((SubK.cons (by kernel_rfl) (SubK.cons (by kernel_rfl) SubK.nil))))
  · refine WX.condF _ (decide_eq_false hp) (by kernel_rfl) ?_
    refine WX.exit 0 (by kernel_rfl) ?_
    cases h
    exact fun ss hs => seqE (lpB rfl (hs.sub ((SubK.cons (by kernel_rfl) (SubK.cons (by kernel_rfl) SubK.nil)))))

theorem ref01_long_ok {H : AH} {a0 : Sl3} {r : (Bool × AH)} (h : ref01_long H a0 = some r) :
    CallE Try.prog 1000 4294967296 47 #[(Sl3.v a0)] H (ref01_long_enc r) (ref01_long_hp H r) := by
  refine CallE.mk (args := [(Sl3.v a0)]) Try.func47 (B := B47) (by kernel_rfl) ?_
  unfold ref01_long at h
  refine WX.seq (by kernel_rfl) ?_
  refine WX.region (opsOf (cfst B47)) (by kernel_rfl) ?_
  refine RX.psn 1 [(2, (Value.bool false))] (by kernel_rfl) ?_
  refine RX.done (by kernel_rfl) ?_
  refine fun ss hs => (WX.nxt ?_ ss hs)
  refine WX.seq (by kernel_rfl) ?_
  refine WX.seq (by kernel_rfl) ?_
  refine WX.region (opsOf (cfst (cfst (csnd B47)))) (by kernel_rfl) ?_
  refine RX.psn 1 [(3, (Value.int .i64 0))] (by kernel_rfl) ?_
  refine RX.done (by kernel_rfl) ?_
  refine fun ss hs => (WX.nxt ?_ ss hs)
  refine WX.block 0 (by kernel_rfl) ?_
  obtain ⟨o, hl, h⟩ := bind_some h
  rcases o with ⟨H8, v3_9⟩ | r
  · dsimp only at h
    refine WX.loopI (by kernel_rfl) (ref01_long_b0 a0) (ref01_long_b0_kn a0) (fun s => s.1) 0 (fun r => RQ Try.f47 (ref01_long_enc r) (ref01_long_hp ⟨0, .nil⟩ r)) ref01_long_b0_ok hl ((SubK.cons (by kernel_rfl) (SubK.cons (by kernel_rfl) SubK.nil))) rfl ?_
    clear hl
    refine fun ss hs => blkE ((WX.nxt ?_ ss hs))
    refine WX.seq (by kernel_rfl) ?_
    refine WX.region (opsOf (cfst (csnd (csnd B47)))) (by kernel_rfl) ?_
    refine RX.psn 1 [(2, (Value.bool false))] (by kernel_rfl) ?_
    refine RX.done (by kernel_rfl) ?_
    refine fun ss hs => (WX.nxt ?_ ss hs)
    refine WX.ret (by kernel_rfl) ?_
    cases h
    exact fun ss hs => retR (rq hs (by kernel_rfl))
  · dsimp only at h
    refine WX.loopR (by kernel_rfl) (ref01_long_b0 a0) (ref01_long_b0_kn a0) (fun s => s.1) 0 (fun r => RQ Try.f47 (ref01_long_enc r) (ref01_long_hp ⟨0, .nil⟩ r)) ref01_long_b0_ok hl ((SubK.cons (by kernel_rfl) (SubK.cons (by kernel_rfl) SubK.nil))) rfl ?_
    cases h
    exact fun ss H hq => blkR (seqR (retR hq))

noncomputable def B60 : Code := (Try.f60.body).getD .skip

def ref01_To_enc : (Sl3 × AH) → Value
  | (r0, _) => (Sl3.v r0)

def ref01_To_hp (_ : AH) : (Sl3 × AH) → AH := fun r => r.2

noncomputable def ref01_To_b0 (x1 : Sl3) : (AH × Sl3 × Int) → Option (Lp (AH × Sl3 × Int) (Sl3 × AH)) := fun (H2, v3_3, v4_4) =>
  if v4_4 < (x1.n : Int) then
    Option.bind (α := (AH × Sl3)) (
      if (Int.tmod v4_4 4) = 0 then
        Option.bind (newR 38 1 #[(Value.int .u64 0)] H2) fun (s7, H8) =>
        Option.bind (appS 4294967296 38 1 8 H8 v3_3 s7) fun (s9, H10) =>
        some (H10, s9)
      else
        some (H2, v3_3)) fun (H5, v3_6) =>
    if belowSN H5.next v3_6 = true then
      if belowSN H5.next v3_6 = true then
        Option.bind (idxA 1 v3_6 (IntKind.i64.wrap (Int.tdiv v4_4 4))) fun p11 =>
        if belowN H5.next p11 = true then
          Option.bind (rd (deI .u64) H5 p11) fun x12 =>
          if belowSN H5.next x1 = true then
            Option.bind (idxA 1 x1 v4_4) fun p13 =>
            if belowN H5.next p13 = true then
              Option.bind (rd (deI .u32) H5 p13) fun x14 =>
              if (IntKind.u64.wrap (16 * (IntKind.u64.wrap (Int.tmod v4_4 4)))) < 0 then none else
              Option.bind (idxA 1 v3_6 (IntKind.i64.wrap (Int.tdiv v4_4 4))) fun p15 =>
              if belowN H5.next p15 = true then
                Option.bind (H5.setCell 4294967296 p15 (Value.int .u64 (ior .u64 x12 (ishl .u64 (IntKind.u64.wrap x14) (IntKind.u64.wrap (16 * (IntKind.u64.wrap (Int.tmod v4_4 4)))))))) fun H16 =>
                if H5.next ≤ H16.next then
                  some (.next (H16, v3_6, (IntKind.i64.wrap (v4_4 + 1))))
                else none
              else none
            else none
          else none
        else none
      else none
    else none
  else
    some (.brk (H2, v3_3, v4_4))

def ref01_To_b0_kn (x1 : Sl3) : (AH × Sl3 × Int) → Kn := fun (H2, v3_3, v4_4) => [(3, (Sl3.v v3_3)), (4, (Value.int .i64 v4_4)), (0, (Sl3.v x1))]

noncomputable def ref01_To (H : AH) (a0 : Sl3) : Option (Sl3 × AH) :=
  Option.bind (ref01_trim H a0) fun x1 =>
  Option.bind (loopO (ref01_To_b0 x1) (H, Sl3.nil, 0)) fun o => match o with
  | .inl (H17, v3_18, v4_19) =>
    some (v3_18, H17)
  | .inr r => some r

theorem ref01_To_b0_ok {x1 : Sl3} : ∀ s o, ref01_To_b0 x1 s = some o →
    WX Try.prog 1000 4294967296 Try.f60.ntmps (cfst (cfst (csnd (cfst (csnd (csnd (csnd B60))))))) (ref01_To_b0_kn x1 s) ((fun s => s.1) s) (lpQ (ref01_To_b0_kn x1) (fun s => s.1) 0 (fun r => RQ Try.f60 (ref01_To_enc r) (ref01_To_hp ⟨0, .nil⟩ r)) o) := by
  rintro ⟨H2, v3_3, v4_4⟩ o h
  unfold ref01_To_b0 at h
  try dsimp only at h
  refine WX.seq (by kernel_rfl) ?_
  refine WX.seq (by kernel_rfl) ?_
  refine WX.region (opsOf (cfst (cfst (cfst (cfst (csnd (cfst (csnd (csnd (csnd B60)))))))))) (by kernel_rfl) ?_
  refine RX.psn 4 [(10, (Value.bool (decide (v4_4 < (x1.n : Int))))), (9, (Value.int .i64 (x1.n : Int))), (8, (Sl3.v x1)), (7, (Value.int .i64 v4_4))] (by kernel_rfl) ?_
  refine RX.done (by kernel_rfl) ?_
  refine fun ss hs => (WX.nxt ?_ ss hs)
  rcases ite_some h with ⟨hp, h⟩ | ⟨hp, h⟩
  · refine WX.condT _ (decide_eq_true hp) (by kernel_rfl) ?_
    refine WX.skip (by kernel_rfl) ?_
    refine fun ss hs => (WX.nxt ?_ ss hs)
    refine WX.seq (by kernel_rfl) ?_
    refine WX.block 1 (by kernel_rfl) ?_
    obtain ⟨⟨H5, v3_6⟩, hx, h⟩ := bind_some h
    dsimp only at h
    refine WX.seq (by kernel_rfl) ?_
    refine WX.join ([(3, (Sl3.v v3_6)), (0, (Sl3.v x1)), (4, (Value.int .i64 v4_4))]) H5 ?_ (fun ss hs => WX.nxt ?_ ss hs)
    · clear h; rename _ => h
      refine WX.seq (by kernel_rfl) ?_
      refine WX.region (opsOf (cfst (cfst (cfst (cfst (csnd (cfst (cfst (csnd (cfst (csnd (csnd (csnd B60))))))))))))) (by kernel_rfl) ?_
      refine RX.psn 3 [(15, (Value.bool (decide ((Int.tmod v4_4 4) = 0)))), (14, (Value.int .i64 (Int.tmod v4_4 4))), (13, (Value.int .i64 v4_4))] (by kernel_rfl) ?_
      refine RX.done (by kernel_rfl) ?_
      refine fun ss hs => (WX.nxt ?_ ss hs)
      rcases ite_some h with ⟨hp, h⟩ | ⟨hp, h⟩
      · refine WX.condT _ (decide_eq_true hp) (by kernel_rfl) ?_
        refine WX.region (opsOf (cfst (csnd (cfst (cfst (cfst (csnd (cfst (cfst (csnd (cfst (csnd (csnd (csnd B60)))))))))))))) (by kernel_rfl) ?_
        refine RX.psn 1 [(16, (Sl3.v v3_3))] (by kernel_rfl) ?_
        obtain ⟨⟨s7, H8⟩, hx, h⟩ := bind_some h
        dsimp only at h
        refine RX.at (some 17) (Sl3.v s7) (by kernel_rfl) (by kernel_rfl) (fun ih => Abs.run_newR (by kernel_rfl) (by kernel_rfl) hx) ?_
        obtain ⟨⟨s9, H10⟩, hx, h⟩ := bind_some h
        dsimp only at h
        refine RX.at (some 18) (Sl3.v s9) (by kernel_rfl) (by kernel_rfl) (fun ih => Abs.run_app (x := .tmp 16) (y := .tmp 17) (ts := #[24, 24]) (s := v3_3) (z := s7) (by kernel_rfl) (by kernel_rfl) (by kernel_rfl) (by kernel_rfl) hx) ?_
        refine RX.psn 1 [(3, (Sl3.v s9))] (by kernel_rfl) ?_
        refine RX.done (by kernel_rfl) ?_
        cases h
        exact fun ss hs => ⟨rfl, hs.sub ((SubK.cons (by kernel_rfl) (SubK.cons (by kernel_rfl) (SubK.cons (by kernel_rfl) SubK.nil)))), rfl⟩
      · refine WX.condF _ (decide_eq_false hp) (by kernel_rfl) ?_
        refine WX.skip (by kernel_rfl) ?_
        cases h
        exact fun ss hs => ⟨rfl, hs.sub ((SubK.cons (by kernel_rfl) (SubK.cons (by kernel_rfl) (SubK.cons (by kernel_rfl) SubK.nil)))), rfl⟩
    · clear hx
      refine WX.drawn (opsOf (csnd (cfst (cfst (csnd (cfst (cfst (csnd (cfst (csnd (csnd (csnd B60)))))))))))) false (by kernel_rfl) (by kernel_rfl) ?_
      rcases ite_some h with ⟨hb, h⟩ | ⟨_, h⟩
      · refine DX.q (some 19) (Sl3.v v3_6) (by kernel_rfl) (by kernel_rfl) (by kernel_rfl) (fun ih H => by kernel_rfl) (calm_sl (belowSN_lt hb)) ?_
        refine DX.q (some 20) (Value.int .i64 v4_4) (by kernel_rfl) (by kernel_rfl) (by kernel_rfl) (fun ih H => by kernel_rfl) calm_int ?_
        refine DX.q (some 21) (Value.int .i64 (IntKind.i64.wrap (Int.tdiv v4_4 4))) (by kernel_rfl) (by kernel_rfl) (by kernel_rfl) (fun ih H => by kernel_rfl) calm_int ?_
        rcases ite_some h with ⟨hb, h⟩ | ⟨_, h⟩
        · refine DX.q (some 22) (Sl3.v v3_6) (by kernel_rfl) (by kernel_rfl) (by kernel_rfl) (fun ih H => by kernel_rfl) (calm_sl (belowSN_lt hb)) ?_
          refine DX.q (some 23) (Value.int .i64 v4_4) (by kernel_rfl) (by kernel_rfl) (by kernel_rfl) (fun ih H => by kernel_rfl) calm_int ?_
          refine DX.q (some 24) (Value.int .i64 (IntKind.i64.wrap (Int.tdiv v4_4 4))) (by kernel_rfl) (by kernel_rfl) (by kernel_rfl) (fun ih H => by kernel_rfl) calm_int ?_
          obtain ⟨p11, hx, h⟩ := bind_some h
          rcases ite_some h with ⟨hb, h⟩ | ⟨_, h⟩
          · refine DX.q (some 25) (Value.pointer (some p11)) (by kernel_rfl) (by kernel_rfl) (by kernel_rfl) (fun ih H => Abs.run_idx (s := v3_6) (k := .i64) (t := 24) (e := 38) (x := .tmp 22) (y := .tmp 24) (by kernel_rfl) (by kernel_rfl) (by kernel_rfl) (by kernel_rfl) (by kernel_rfl) hx) (calm_ptr (belowN_lt hb)) ?_
            obtain ⟨x12, hx, h⟩ := bind_some h
            refine DX.l (some 26) (Value.int .u64 x12) (by kernel_rfl) (by kernel_rfl) (by kernel_rfl) (by kernel_rfl) (fun ih H hm => Abs.run_load (t := 38) (x := .tmp 25) (a := p11) (by kernel_rfl) (by kernel_rfl) (by kernel_rfl) ((cell_mem hm _).trans (rd_cell hx deI_inv))) calm_int ?_
            rcases ite_some h with ⟨hb, h⟩ | ⟨_, h⟩
            · refine DX.q (some 27) (Sl3.v x1) (by kernel_rfl) (by kernel_rfl) (by kernel_rfl) (fun ih H => by kernel_rfl) (calm_sl (belowSN_lt hb)) ?_
              refine DX.q (some 28) (Value.int .i64 v4_4) (by kernel_rfl) (by kernel_rfl) (by kernel_rfl) (fun ih H => by kernel_rfl) calm_int ?_
              obtain ⟨p13, hx, h⟩ := bind_some h
              rcases ite_some h with ⟨hb, h⟩ | ⟨_, h⟩
              · refine DX.q (some 29) (Value.pointer (some p13)) (by kernel_rfl) (by kernel_rfl) (by kernel_rfl) (fun ih H => Abs.run_idx (s := x1) (k := .i64) (t := 63) (e := 65) (x := .tmp 27) (y := .tmp 28) (by kernel_rfl) (by kernel_rfl) (by kernel_rfl) (by kernel_rfl) (by kernel_rfl) hx) (calm_ptr (belowN_lt hb)) ?_
                obtain ⟨x14, hx, h⟩ := bind_some h
                refine DX.l (some 30) (Value.int .u32 x14) (by kernel_rfl) (by kernel_rfl) (by kernel_rfl) (by kernel_rfl) (fun ih H hm => Abs.run_load (t := 65) (x := .tmp 29) (a := p13) (by kernel_rfl) (by kernel_rfl) (by kernel_rfl) ((cell_mem hm _).trans (rd_cell hx deI_inv))) calm_int ?_
                refine DX.q (some 31) (Value.int .u64 (IntKind.u64.wrap x14)) (by kernel_rfl) (by kernel_rfl) (by kernel_rfl) (fun ih H => by kernel_rfl) calm_int ?_
                refine DX.q (some 32) (Value.int .i64 v4_4) (by kernel_rfl) (by kernel_rfl) (by kernel_rfl) (fun ih H => by kernel_rfl) calm_int ?_
                refine DX.q (some 33) (Value.int .i64 (Int.tmod v4_4 4)) (by kernel_rfl) (by kernel_rfl) (by kernel_rfl) (fun ih H => by kernel_rfl) calm_int ?_
                refine DX.q (some 34) (Value.int .u64 (IntKind.u64.wrap (Int.tmod v4_4 4))) (by kernel_rfl) (by kernel_rfl) (by kernel_rfl) (fun ih H => by kernel_rfl) calm_int ?_
                refine DX.q (some 35) (Value.int .u64 (IntKind.u64.wrap (16 * (IntKind.u64.wrap (Int.tmod v4_4 4))))) (by kernel_rfl) (by kernel_rfl) (by kernel_rfl) (fun ih H => by kernel_rfl) calm_int ?_
                rcases ite_some h with ⟨_, h⟩ | ⟨hx, h⟩
                · cases h
                · refine DX.q (some 36) (Value.int .u64 (ishl .u64 (IntKind.u64.wrap x14) (IntKind.u64.wrap (16 * (IntKind.u64.wrap (Int.tmod v4_4 4)))))) (by kernel_rfl) (by kernel_rfl) (by kernel_rfl) (fun ih H => Abs.run_shl (t := 38) (u := 73) (x := .tmp 31) (y := .tmp 35) (k' := .u64) (by kernel_rfl) (by kernel_rfl) (by kernel_rfl) hx) calm_int ?_
                  refine DX.q (some 37) (Value.int .u64 (ior .u64 x12 (ishl .u64 (IntKind.u64.wrap x14) (IntKind.u64.wrap (16 * (IntKind.u64.wrap (Int.tmod v4_4 4))))))) (by kernel_rfl) (by kernel_rfl) (by kernel_rfl) (fun ih H => by kernel_rfl) calm_int ?_
                  obtain ⟨p15, hx, h⟩ := bind_some h
                  rcases ite_some h with ⟨hb, h⟩ | ⟨_, h⟩
                  · refine DX.q (some 38) (Value.pointer (some p15)) (by kernel_rfl) (by kernel_rfl) (by kernel_rfl) (fun ih H => Abs.run_idx (s := v3_6) (k := .i64) (t := 24) (e := 38) (x := .tmp 19) (y := .tmp 21) (by kernel_rfl) (by kernel_rfl) (by kernel_rfl) (by kernel_rfl) (by kernel_rfl) hx) (calm_ptr (belowN_lt hb)) ?_
                    obtain ⟨H16, hx, h⟩ := bind_some h
                    rcases ite_some h with ⟨hle, h⟩ | ⟨_, h⟩
                    · refine DX.w none undef H5 (by kernel_rfl) (by kernel_rfl) (by kernel_rfl) (by kernel_rfl) [] [] (by kernel_rfl) (by kernel_rfl) rfl (fun ih => Abs.run_store1 (t := 38) (x := .tmp 38) (y := .tmp 37) (a := p15) (v := (Value.int .u64 (ior .u64 x12 (ishl .u64 (IntKind.u64.wrap x14) (IntKind.u64.wrap (16 * (IntKind.u64.wrap (Int.tmod v4_4 4)))))))) (by kernel_rfl) (by kernel_rfl) (by kernel_rfl) (by kernel_rfl) (by kernel_rfl) hx) hle (fun hh => by cases hh) ?_
                      refine DX.end_ (H' := H16) (by kernel_rfl) rfl ?_
                      refine fun ss hs => blkN ((WX.nxt ?_ ss hs))
                      refine WX.region (opsOf (csnd (csnd (cfst (cfst (csnd (cfst (csnd (csnd (csnd B60)))))))))) (by kernel_rfl) ?_
                      refine RX.psn 3 [(4, (Value.int .i64 (IntKind.i64.wrap (v4_4 + 1)))), (12, (Value.int .i64 (IntKind.i64.wrap (v4_4 + 1)))), (11, (Value.int .i64 v4_4))] (by kernel_rfl) ?_
                      refine RX.done (by kernel_rfl) ?_
                      cases h
                      exact fun ss hs => lpN rfl (hs.sub ((SubK.cons (by kernel_rfl) (SubK.cons (by kernel_rfl) (SubK.cons (by kernel_rfl) SubK.nil)))))
                    · cases h
                  · cases h
              · cases h
            · cases h
          · cases h
        · cases h
      · cases h
  · refine WX.condF _ (decide_eq_false hp) (by kernel_rfl) ?_
    refine WX.exit 0 (by kernel_rfl) ?_
    cases h
    exact fun ss hs => seqE (lpB rfl (hs.sub ((SubK.cons (by kernel_rfl) (SubK.cons (by kernel_rfl) (SubK.cons (by kernel_rfl) SubK.nil))))))

theorem ref01_To_ok {H : AH} {a0 : Sl3} {r : (Sl3 × AH)} (h : ref01_To H a0 = some r) :
    CallE Try.prog 1000 4294967296 60 #[(Sl3.v a0)] H (ref01_To_enc r) (ref01_To_hp H r) := by
  refine CallE.mk (args := [(Sl3.v a0)]) Try.func60 (B := B60) (by kernel_rfl) ?_
  unfold ref01_To at h
  refine WX.seq (by kernel_rfl) ?_
  refine WX.region (opsOf (cfst B60)) (by kernel_rfl) ?_
  refine RX.psn 1 [(2, (Sl3.v Sl3.nil))] (by kernel_rfl) ?_
  refine RX.done (by kernel_rfl) ?_
  refine fun ss hs => (WX.nxt ?_ ss hs)
  refine WX.seq (by kernel_rfl) ?_
  refine WX.region (opsOf (cfst (csnd B60))) (by kernel_rfl) ?_
  refine RX.psn 1 [(5, (Sl3.v a0))] (by kernel_rfl) ?_
  obtain ⟨x1, hx, h⟩ := bind_some h
  refine RX.callAt (some 6) (v := (Sl3.v x1)) 73 #[(Sl3.v a0)] (by kernel_rfl) (by kernel_rfl) (by kernel_rfl) (ref01_trim_ok hx) ?_
  refine RX.psn 1 [(0, (Sl3.v x1))] (by kernel_rfl) ?_
  refine RX.done (by kernel_rfl) ?_
  refine fun ss hs => (WX.nxt ?_ ss hs)
  refine WX.seq (by kernel_rfl) ?_
  refine WX.region (opsOf (cfst (csnd (csnd B60)))) (by kernel_rfl) ?_
  refine RX.psn 1 [(3, (Sl3.v Sl3.nil))] (by kernel_rfl) ?_
  refine RX.done (by kernel_rfl) ?_
  refine fun ss hs => (WX.nxt ?_ ss hs)
  refine WX.seq (by kernel_rfl) ?_
  refine WX.seq (by kernel_rfl) ?_
  refine WX.region (opsOf (cfst (cfst (csnd (csnd (csnd B60)))))) (by kernel_rfl) ?_
  refine RX.psn 1 [(4, (Value.int .i64 0))] (by kernel_rfl) ?_
  refine RX.done (by kernel_rfl) ?_
  refine fun ss hs => (WX.nxt ?_ ss hs)
  refine WX.block 0 (by kernel_rfl) ?_
  obtain ⟨o, hl, h⟩ := bind_some h
  rcases o with ⟨H17, v3_18, v4_19⟩ | r
  · dsimp only at h
    refine WX.loopI (by kernel_rfl) (ref01_To_b0 x1) (ref01_To_b0_kn x1) (fun s => s.1) 0 (fun r => RQ Try.f60 (ref01_To_enc r) (ref01_To_hp ⟨0, .nil⟩ r)) ref01_To_b0_ok hl ((SubK.cons (by kernel_rfl) (SubK.cons (by kernel_rfl) (SubK.cons (by kernel_rfl) SubK.nil)))) rfl ?_
    clear hl
    refine fun ss hs => blkE ((WX.nxt ?_ ss hs))
    refine WX.seq (by kernel_rfl) ?_
    refine WX.region (opsOf (cfst (csnd (csnd (csnd (csnd B60)))))) (by kernel_rfl) ?_
    refine RX.psn 2 [(2, (Sl3.v v3_18)), (39, (Sl3.v v3_18))] (by kernel_rfl) ?_
    refine RX.done (by kernel_rfl) ?_
    refine fun ss hs => (WX.nxt ?_ ss hs)
    refine WX.ret (by kernel_rfl) ?_
    cases h
    exact fun ss hs => retR (rq hs (by kernel_rfl))
  · dsimp only at h
    refine WX.loopR (by kernel_rfl) (ref01_To_b0 x1) (ref01_To_b0_kn x1) (fun s => s.1) 0 (fun r => RQ Try.f60 (ref01_To_enc r) (ref01_To_hp ⟨0, .nil⟩ r)) ref01_To_b0_ok hl ((SubK.cons (by kernel_rfl) (SubK.cons (by kernel_rfl) (SubK.cons (by kernel_rfl) SubK.nil)))) rfl ?_
    cases h
    exact fun ss H hq => blkR (seqR (retR hq))

noncomputable def B65 : Code := (Try.f65.body).getD .skip

def ref01_limb_enc : Int → Value
  | r0 => (Value.int .u32 r0)

def ref01_limb_hp (H : AH) : Int → AH := fun _ => H

noncomputable def ref01_limb (H : AH) (a0 : Sl3) (a1 : Int) : Option Int :=
  if a1 < (a0.n : Int) then
    Option.bind (idxA 1 a0 a1) fun p1 =>
    Option.bind (rd (deI .u32) H p1) fun x2 =>
    some x2
  else
    some 0

theorem ref01_limb_ok {H : AH} {a0 : Sl3} {a1 : Int} {r : Int} (h : ref01_limb H a0 a1 = some r) :
    CallE Try.prog 1000 4294967296 65 #[(Sl3.v a0), (Value.int .i64 a1)] H (ref01_limb_enc r) (ref01_limb_hp H r) := by
  refine CallE.mk (args := [(Sl3.v a0), (Value.int .i64 a1)]) Try.func65 (B := B65) (by kernel_rfl) ?_
  unfold ref01_limb at h
  refine WX.seq (by kernel_rfl) ?_
  refine WX.region (opsOf (cfst B65)) (by kernel_rfl) ?_
  refine RX.psn 1 [(4, (Value.int .u32 0))] (by kernel_rfl) ?_
  refine RX.done (by kernel_rfl) ?_
  refine fun ss hs => (WX.nxt ?_ ss hs)
  refine WX.seq (by kernel_rfl) ?_
  refine WX.seq (by kernel_rfl) ?_
  refine WX.region (opsOf (cfst (cfst (csnd B65)))) (by kernel_rfl) ?_
  refine RX.psn 4 [(8, (Value.bool (decide (a1 < (a0.n : Int))))), (7, (Value.int .i64 (a0.n : Int))), (6, (Sl3.v a0)), (5, (Value.int .i64 a1))] (by kernel_rfl) ?_
  refine RX.done (by kernel_rfl) ?_
  refine fun ss hs => (WX.nxt ?_ ss hs)
  rcases ite_some h with ⟨hp, h⟩ | ⟨hp, h⟩
  · refine WX.condT _ (decide_eq_true hp) (by kernel_rfl) ?_
    refine WX.seq (by kernel_rfl) ?_
    refine WX.region (opsOf (cfst (cfst (csnd (cfst (csnd B65)))))) (by kernel_rfl) ?_
    refine RX.psn 2 [(10, (Value.int .i64 a1)), (9, (Sl3.v a0))] (by kernel_rfl) ?_
    obtain ⟨p1, hx, h⟩ := bind_some h
    refine RX.at (some 11) (Value.pointer (some p1)) (by kernel_rfl) (by kernel_rfl) (fun ih => Abs.run_idx (s := a0) (k := .i64) (t := 63) (e := 65) (x := .tmp 9) (y := .tmp 10) (by kernel_rfl) (by kernel_rfl) (by kernel_rfl) (by kernel_rfl) (by kernel_rfl) hx) ?_
    obtain ⟨x2, hx, h⟩ := bind_some h
    refine RX.at (some 12) (Value.int .u32 x2) (by kernel_rfl) (by kernel_rfl) (fun ih => Abs.run_load (t := 65) (x := .tmp 11) (a := p1) (by kernel_rfl) (by kernel_rfl) (by kernel_rfl) (rd_cell hx deI_inv)) ?_
    refine RX.psn 1 [(4, (Value.int .u32 x2))] (by kernel_rfl) ?_
    refine RX.done (by kernel_rfl) ?_
    refine fun ss hs => (WX.nxt ?_ ss hs)
    refine WX.ret (by kernel_rfl) ?_
    cases h
    exact fun ss hs => seqR (retR (rq hs (by kernel_rfl)))
  · refine WX.condF _ (decide_eq_false hp) (by kernel_rfl) ?_
    refine WX.skip (by kernel_rfl) ?_
    refine fun ss hs => (WX.nxt ?_ ss hs)
    refine WX.seq (by kernel_rfl) ?_
    refine WX.region (opsOf (cfst (csnd (csnd B65)))) (by kernel_rfl) ?_
    refine RX.psn 1 [(4, (Value.int .u32 0))] (by kernel_rfl) ?_
    refine RX.done (by kernel_rfl) ?_
    refine fun ss hs => (WX.nxt ?_ ss hs)
    refine WX.ret (by kernel_rfl) ?_
    cases h
    exact fun ss hs => retR (rq hs (by kernel_rfl))

end Go.Proofs.Ytoadagekdnkciaa

namespace Go.Proofs.Ytoadagekdnkciaa
open Go Go.Abs
set_option maxRecDepth 100000

noncomputable def B59 : Code := (Try.f59.body).getD .skip

def ref01_AddH_enc : (Sl3 × AH) → Value
  | (r0, _) => (Sl3.v r0)

def ref01_AddH_hp (_ : AH) : (Sl3 × AH) → AH := fun r => r.2

noncomputable def ref01_AddH_b0 (a0 : Sl3) (a1 : Sl3) : (AH × Sl3 × Int × Int) → Option (Lp (AH × Sl3 × Int × Int) (Sl3 × AH)) := fun (H1, v5_2, v6_3, v7_4) =>
  Option.bind (α := Unit ⊕ (Lp (AH × Sl3 × Int × Int) (Sl3 × AH))) (
    if v7_4 < (a0.n : Int) then
      some (.inl ())
    else
      if v7_4 < (a1.n : Int) then
        some (.inl ())
      else
        if v6_3 > 0 then
          some (.inl ())
        else
          ((some (.brk (H1, v5_2, v6_3, v7_4))).map .inr)) fun o => match o with
  | .inl _ =>
    Option.bind (ref01_limb H1 a0 v7_4) fun x5 =>
    Option.bind (ref01_limb H1 a1 v7_4) fun x6 =>
    Option.bind (newR 65 1 #[(Value.int .u32 (iand .u32 (IntKind.u32.wrap ((IntKind.u32.wrap (x5 + x6)) + v6_3)) 65535))] H1) fun (s7, H8) =>
    Option.bind (appS 4294967296 65 1 4 H8 v5_2 s7) fun (s9, H10) =>
    some (.next (H10, s9, (ishr .u32 (IntKind.u32.wrap ((IntKind.u32.wrap (x5 + x6)) + v6_3)) 16), (IntKind.i64.wrap (v7_4 + 1))))
  | .inr r => some r

def ref01_AddH_b0_kn (a0 : Sl3) (a1 : Sl3) : (AH × Sl3 × Int × Int) → Kn := fun (H1, v5_2, v6_3, v7_4) => [(5, (Sl3.v v5_2)), (6, (Value.int .u32 v6_3)), (7, (Value.int .i64 v7_4)), (0, (Sl3.v a0)), (1, (Sl3.v a1))]

noncomputable def ref01_AddH (H : AH) (a0 : Sl3) (a1 : Sl3) : Option (Sl3 × AH) :=
  Option.bind (loopO (ref01_AddH_b0 a0 a1) (H, Sl3.nil, 0, 0)) fun o => match o with
  | .inl (H11, v5_12, v6_13, v7_14) =>
    Option.bind (ref01_trim H11 v5_12) fun x15 =>
    some (x15, H11)
  | .inr r => some r

theorem ref01_AddH_b0_ok {a0 : Sl3} {a1 : Sl3} : ∀ s o, ref01_AddH_b0 a0 a1 s = some o →
    WX Try.prog 1000 4294967296 Try.f59.ntmps (cfst (cfst (csnd (cfst (csnd (csnd (csnd B59))))))) (ref01_AddH_b0_kn a0 a1 s) ((fun s => s.1) s) (lpQ (ref01_AddH_b0_kn a0 a1) (fun s => s.1) 0 (fun r => RQ Try.f59 (ref01_AddH_enc r) (ref01_AddH_hp ⟨0, .nil⟩ r)) o) := by
  rintro ⟨H1, v5_2, v6_3, v7_4⟩ o h
  unfold ref01_AddH_b0 at h
  try dsimp only at h
  obtain ⟨o, hx, h⟩ := bind_some h
  rcases o with _ | ro
  · dsimp only at h
    refine WX.seq (by kernel_rfl) ?_
    refine WX.join ([(0, (Sl3.v a0)), (1, (Sl3.v a1)), (5, (Sl3.v v5_2)), (6, (Value.int .u32 v6_3)), (7, (Value.int .i64 v7_4))]) H1 ?_ (fun ss hs => WX.nxt ?_ ss hs)
    · clear h; rename _ => h
      refine WX.seq (by kernel_rfl) ?_
      refine WX.region (opsOf (cfst (cfst (cfst (cfst (csnd (cfst (csnd (csnd (csnd B59)))))))))) (by kernel_rfl) ?_
      refine RX.psn 5 [(13, (Value.bool (decide (v7_4 < (a0.n : Int))))), (12, (Value.bool (decide (v7_4 < (a0.n : Int))))), (11, (Value.int .i64 (a0.n : Int))), (10, (Sl3.v a0)), (9, (Value.int .i64 v7_4))] (by kernel_rfl) ?_
      rcases ite_some h with ⟨hp, h⟩ | ⟨hp, h⟩
      · refine RX.fix 13 true (decide_eq_true hp) (by kernel_rfl) ?_
        refine RX.psn 9 [(22, (Value.bool true)), (21, undef), (20, undef), (19, (Value.bool true)), (18, (Value.bool true)), (17, undef), (16, undef), (15, undef), (14, undef)] (by kernel_rfl) ?_
        refine RX.done (by kernel_rfl) ?_
        refine fun ss hs => (WX.nxt ?_ ss hs)
        refine WX.condT true rfl (by kernel_rfl) ?_
        refine WX.skip (by kernel_rfl) ?_
        cases h
        exact fun ss hs => ⟨rfl, hs.sub ((SubK.cons (by kernel_rfl) (SubK.cons (by kernel_rfl) (SubK.cons (by kernel_rfl) (SubK.cons (by kernel_rfl) (SubK.cons (by kernel_rfl) SubK.nil)))))), rfl⟩
      · refine RX.fix 13 false (decide_eq_false hp) (by kernel_rfl) ?_
        refine RX.psn 6 [(19, (Value.bool (decide (v7_4 < (a1.n : Int))))), (18, (Value.bool (decide (v7_4 < (a1.n : Int))))), (17, (Value.bool (decide (v7_4 < (a1.n : Int))))), (16, (Value.int .i64 (a1.n : Int))), (15, (Sl3.v a1)), (14, (Value.int .i64 v7_4))] (by kernel_rfl) ?_
        rcases ite_some h with ⟨hp, h⟩ | ⟨hp, h⟩
        · refine RX.fix 19 true (decide_eq_true hp) (by kernel_rfl) ?_
          refine RX.psn 3 [(22, (Value.bool true)), (21, undef), (20, undef)] (by kernel_rfl) ?_
          refine RX.done (by kernel_rfl) ?_
          refine fun ss hs => (WX.nxt ?_ ss hs)
          refine WX.condT true rfl (by kernel_rfl) ?_
          refine WX.skip (by kernel_rfl) ?_
          cases h
          exact fun ss hs => ⟨rfl, hs.sub ((SubK.cons (by kernel_rfl) (SubK.cons (by kernel_rfl) (SubK.cons (by kernel_rfl) (SubK.cons (by kernel_rfl) (SubK.cons (by kernel_rfl) SubK.nil)))))), rfl⟩
        · refine RX.fix 19 false (decide_eq_false hp) (by kernel_rfl) ?_
          refine RX.psn 3 [(22, (Value.bool (decide (v6_3 > 0)))), (21, (Value.bool (decide (v6_3 > 0)))), (20, (Value.int .u32 v6_3))] (by kernel_rfl) ?_
          refine RX.done (by kernel_rfl) ?_
          refine fun ss hs => (WX.nxt ?_ ss hs)
          rcases ite_some h with ⟨hp, h⟩ | ⟨hp, h⟩
          · refine WX.condT _ (decide_eq_true hp) (by kernel_rfl) ?_
            refine WX.skip (by kernel_rfl) ?_
            cases h
            exact fun ss hs => ⟨rfl, hs.sub ((SubK.cons (by kernel_rfl) (SubK.cons (by kernel_rfl) (SubK.cons (by kernel_rfl) (SubK.cons (by kernel_rfl) (SubK.cons (by kernel_rfl) SubK.nil)))))), rfl⟩
          · refine WX.condF _ (decide_eq_false hp) (by kernel_rfl) ?_
            refine WX.exit 0 (by kernel_rfl) ?_
            exact (map_inl h).elim
    · clear hx
      refine WX.seq (by kernel_rfl) ?_
      refine WX.block 1 (by kernel_rfl) ?_
      refine WX.seq (by kernel_rfl) ?_
      refine WX.region (opsOf (cfst (cfst (cfst (csnd (cfst (cfst (csnd (cfst (csnd (csnd (csnd B59)))))))))))) (by kernel_rfl) ?_
      refine RX.psn 2 [(26, (Value.int .i64 v7_4)), (25, (Sl3.v a0))] (by kernel_rfl) ?_
      obtain ⟨x5, hx, h⟩ := bind_some h
      refine RX.callAt (some 27) (v := (Value.int .u32 x5)) 65 #[(Sl3.v a0), (Value.int .i64 v7_4)] (by kernel_rfl) (by kernel_rfl) (by kernel_rfl) (ref01_limb_ok hx) ?_
      refine RX.psn 2 [(29, (Value.int .i64 v7_4)), (28, (Sl3.v a1))] (by kernel_rfl) ?_
      obtain ⟨x6, hx, h⟩ := bind_some h
      refine RX.callAt (some 30) (v := (Value.int .u32 x6)) 65 #[(Sl3.v a1), (Value.int .i64 v7_4)] (by kernel_rfl) (by kernel_rfl) (by kernel_rfl) (ref01_limb_ok hx) ?_
      refine RX.psn 4 [(8, (Value.int .u32 (IntKind.u32.wrap ((IntKind.u32.wrap (x5 + x6)) + v6_3)))), (33, (Value.int .u32 (IntKind.u32.wrap ((IntKind.u32.wrap (x5 + x6)) + v6_3)))), (32, (Value.int .u32 v6_3)), (31, (Value.int .u32 (IntKind.u32.wrap (x5 + x6))))] (by kernel_rfl) ?_
      refine RX.done (by kernel_rfl) ?_
      refine fun ss hs => (WX.nxt ?_ ss hs)
      refine WX.seq (by kernel_rfl) ?_
      refine WX.region (opsOf (cfst (csnd (cfst (cfst (csnd (cfst (cfst (csnd (cfst (csnd (csnd (csnd B59))))))))))))) (by kernel_rfl) ?_
      refine RX.psn 3 [(36, (Value.int .u32 (iand .u32 (IntKind.u32.wrap ((IntKind.u32.wrap (x5 + x6)) + v6_3)) 65535))), (35, (Value.int .u32 (IntKind.u32.wrap ((IntKind.u32.wrap (x5 + x6)) + v6_3)))), (34, (Sl3.v v5_2))] (by kernel_rfl) ?_
      obtain ⟨⟨s7, H8⟩, hx, h⟩ := bind_some h
      dsimp only at h
      refine RX.at (some 37) (Sl3.v s7) (by kernel_rfl) (by kernel_rfl) (fun ih => Abs.run_newR (by kernel_rfl) (by kernel_rfl) hx) ?_
      obtain ⟨⟨s9, H10⟩, hx, h⟩ := bind_some h
      dsimp only at h
      refine RX.at (some 38) (Sl3.v s9) (by kernel_rfl) (by kernel_rfl) (fun ih => Abs.run_app (x := .tmp 34) (y := .tmp 37) (ts := #[63, 63]) (s := v5_2) (z := s7) (by kernel_rfl) (by kernel_rfl) (by kernel_rfl) (by kernel_rfl) hx) ?_
      refine RX.psn 1 [(5, (Sl3.v s9))] (by kernel_rfl) ?_
      refine RX.done (by kernel_rfl) ?_
      refine fun ss hs => (WX.nxt ?_ ss hs)
      refine WX.region (opsOf (csnd (csnd (cfst (cfst (csnd (cfst (cfst (csnd (cfst (csnd (csnd (csnd B59))))))))))))) (by kernel_rfl) ?_
      refine RX.psn 3 [(6, (Value.int .u32 (ishr .u32 (IntKind.u32.wrap ((IntKind.u32.wrap (x5 + x6)) + v6_3)) 16))), (40, (Value.int .u32 (ishr .u32 (IntKind.u32.wrap ((IntKind.u32.wrap (x5 + x6)) + v6_3)) 16))), (39, (Value.int .u32 (IntKind.u32.wrap ((IntKind.u32.wrap (x5 + x6)) + v6_3))))] (by kernel_rfl) ?_
      refine RX.done (by kernel_rfl) ?_
      refine fun ss hs => blkN ((WX.nxt ?_ ss hs))
      refine WX.region (opsOf (csnd (csnd (cfst (cfst (csnd (cfst (csnd (csnd (csnd B59)))))))))) (by kernel_rfl) ?_
      refine RX.psn 3 [(7, (Value.int .i64 (IntKind.i64.wrap (v7_4 + 1)))), (24, (Value.int .i64 (IntKind.i64.wrap (v7_4 + 1)))), (23, (Value.int .i64 v7_4))] (by kernel_rfl) ?_
      refine RX.done (by kernel_rfl) ?_
      cases h
      exact fun ss hs => lpN rfl (hs.sub ((SubK.cons (by kernel_rfl) (SubK.cons (by kernel_rfl) (SubK.cons (by kernel_rfl) (SubK.cons (by kernel_rfl) (SubK.cons (by kernel_rfl) SubK.nil)))))))
  · cases h; rename _ => h
    refine WX.seq (by kernel_rfl) ?_
    refine WX.seq (by kernel_rfl) ?_
    refine WX.region (opsOf (cfst (cfst (cfst (cfst (csnd (cfst (csnd (csnd (csnd B59)))))))))) (by kernel_rfl) ?_
    refine RX.psn 5 [(13, (Value.bool (decide (v7_4 < (a0.n : Int))))), (12, (Value.bool (decide (v7_4 < (a0.n : Int))))), (11, (Value.int .i64 (a0.n : Int))), (10, (Sl3.v a0)), (9, (Value.int .i64 v7_4))] (by kernel_rfl) ?_
    rcases ite_some h with ⟨hp, h⟩ | ⟨hp, h⟩
    · refine RX.fix 13 true (decide_eq_true hp) (by kernel_rfl) ?_
      refine RX.psn 9 [(22, (Value.bool true)), (21, undef), (20, undef), (19, (Value.bool true)), (18, (Value.bool true)), (17, undef), (16, undef), (15, undef), (14, undef)] (by kernel_rfl) ?_
      refine RX.done (by kernel_rfl) ?_
      refine fun ss hs => (WX.nxt ?_ ss hs)
      refine WX.condT true rfl (by kernel_rfl) ?_
      refine WX.skip (by kernel_rfl) ?_
      cases h
    · refine RX.fix 13 false (decide_eq_false hp) (by kernel_rfl) ?_
      refine RX.psn 6 [(19, (Value.bool (decide (v7_4 < (a1.n : Int))))), (18, (Value.bool (decide (v7_4 < (a1.n : Int))))), (17, (Value.bool (decide (v7_4 < (a1.n : Int))))), (16, (Value.int .i64 (a1.n : Int))), (15, (Sl3.v a1)), (14, (Value.int .i64 v7_4))] (by kernel_rfl) ?_
      rcases ite_some h with ⟨hp, h⟩ | ⟨hp, h⟩
      · refine RX.fix 19 true (decide_eq_true hp) (by kernel_rfl) ?_
        refine RX.psn 3 [(22, (Value.bool true)), (21, undef), (20, undef)] (by kernel_rfl) ?_
        refine RX.done (by kernel_rfl) ?_
        refine fun ss hs => (WX.nxt ?_ ss hs)
        refine WX.condT true rfl (by kernel_rfl) ?_
        refine WX.skip (by kernel_rfl) ?_
        cases h
      · refine RX.fix 19 false (decide_eq_false hp) (by kernel_rfl) ?_
        refine RX.psn 3 [(22, (Value.bool (decide (v6_3 > 0)))), (21, (Value.bool (decide (v6_3 > 0)))), (20, (Value.int .u32 v6_3))] (by kernel_rfl) ?_
        refine RX.done (by kernel_rfl) ?_
        refine fun ss hs => (WX.nxt ?_ ss hs)
        rcases ite_some h with ⟨hp, h⟩ | ⟨hp, h⟩
        · refine WX.condT _ (decide_eq_true hp) (by kernel_rfl) ?_
          refine WX.skip (by kernel_rfl) ?_
          cases h
        · refine WX.condF _ (decide_eq_false hp) (by kernel_rfl) ?_
          refine WX.exit 0 (by kernel_rfl) ?_
          replace h := map_inr h
          cases h
          exact fun ss hs => seqE (lpB rfl (hs.sub ((SubK.cons (by kernel_rfl) (SubK.cons (by kernel_rfl) (SubK.cons (by kernel_rfl) (SubK.cons (by kernel_rfl) (SubK.cons (by kernel_rfl) SubK.nil))))))))

theorem ref01_AddH_ok {H : AH} {a0 : Sl3} {a1 : Sl3} {r : (Sl3 × AH)} (h : ref01_AddH H a0 a1 = some r) :
    CallE Try.prog 1000 4294967296 59 #[(Sl3.v a0), (Sl3.v a1)] H (ref01_AddH_enc r) (ref01_AddH_hp H r) := by
  refine CallE.mk (args := [(Sl3.v a0), (Sl3.v a1)]) Try.func59 (B := B59) (by kernel_rfl) ?_
  unfold ref01_AddH at h
  refine WX.seq (by kernel_rfl) ?_
  refine WX.region (opsOf (cfst B59)) (by kernel_rfl) ?_
  refine RX.psn 1 [(4, (Sl3.v Sl3.nil))] (by kernel_rfl) ?_
  refine RX.done (by kernel_rfl) ?_
  refine fun ss hs => (WX.nxt ?_ ss hs)
  refine WX.seq (by kernel_rfl) ?_
  refine WX.region (opsOf (cfst (csnd B59))) (by kernel_rfl) ?_
  refine RX.psn 1 [(5, (Sl3.v Sl3.nil))] (by kernel_rfl) ?_
  refine RX.done (by kernel_rfl) ?_
  refine fun ss hs => (WX.nxt ?_ ss hs)
  refine WX.seq (by kernel_rfl) ?_
  refine WX.region (opsOf (cfst (csnd (csnd B59)))) (by kernel_rfl) ?_
  refine RX.psn 1 [(6, (Value.int .u32 0))] (by kernel_rfl) ?_
  refine RX.done (by kernel_rfl) ?_
  refine fun ss hs => (WX.nxt ?_ ss hs)
  refine WX.seq (by kernel_rfl) ?_
  refine WX.seq (by kernel_rfl) ?_
  refine WX.region (opsOf (cfst (cfst (csnd (csnd (csnd B59)))))) (by kernel_rfl) ?_
  refine RX.psn 1 [(7, (Value.int .i64 0))] (by kernel_rfl) ?_
  refine RX.done (by kernel_rfl) ?_
  refine fun ss hs => (WX.nxt ?_ ss hs)
  refine WX.block 0 (by kernel_rfl) ?_
  obtain ⟨o, hl, h⟩ := bind_some h
  rcases o with ⟨H11, v5_12, v6_13, v7_14⟩ | r
  · dsimp only at h
    refine WX.loopI (by kernel_rfl) (ref01_AddH_b0 a0 a1) (ref01_AddH_b0_kn a0 a1) (fun s => s.1) 0 (fun r => RQ Try.f59 (ref01_AddH_enc r) (ref01_AddH_hp ⟨0, .nil⟩ r)) ref01_AddH_b0_ok hl ((SubK.cons (by kernel_rfl) (SubK.cons (by kernel_rfl) (SubK.cons (by kernel_rfl) (SubK.cons (by kernel_rfl) (SubK.cons (by kernel_rfl) SubK.nil)))))) rfl ?_
    clear hl
    refine fun ss hs => blkE ((WX.nxt ?_ ss hs))
    refine WX.seq (by kernel_rfl) ?_
    refine WX.region (opsOf (cfst (csnd (csnd (csnd (csnd B59)))))) (by kernel_rfl) ?_
    refine RX.psn 1 [(41, (Sl3.v v5_12))] (by kernel_rfl) ?_
    obtain ⟨x15, hx, h⟩ := bind_some h
    refine RX.callAt (some 42) (v := (Sl3.v x15)) 73 #[(Sl3.v v5_12)] (by kernel_rfl) (by kernel_rfl) (by kernel_rfl) (ref01_trim_ok hx) ?_
    refine RX.psn 1 [(4, (Sl3.v x15))] (by kernel_rfl) ?_
    refine RX.done (by kernel_rfl) ?_
    refine fun ss hs => (WX.nxt ?_ ss hs)
    refine WX.ret (by kernel_rfl) ?_
    cases h
    exact fun ss hs => retR (rq hs (by kernel_rfl))
  · dsimp only at h
    refine WX.loopR (by kernel_rfl) (ref01_AddH_b0 a0 a1) (ref01_AddH_b0_kn a0 a1) (fun s => s.1) 0 (fun r => RQ Try.f59 (ref01_AddH_enc r) (ref01_AddH_hp ⟨0, .nil⟩ r)) ref01_AddH_b0_ok hl ((SubK.cons (by kernel_rfl) (SubK.cons (by kernel_rfl) (SubK.cons (by kernel_rfl) (SubK.cons (by kernel_rfl) (SubK.cons (by kernel_rfl) SubK.nil)))))) rfl ?_
    cases h
    exact fun ss H hq => blkR (seqR (retR hq))

noncomputable def B61 : Code := (Try.f61.body).getD .skip

def ref01_CmpH_enc : Int → Value
  | r0 => (Value.int .i64 r0)

def ref01_CmpH_hp (H : AH) : Int → AH := fun _ => H

noncomputable def ref01_CmpH_b0 (H : AH) (x1 : Sl3) (x2 : Sl3) : Int → Option (Lp Int Int) := fun v5_3 =>
  if v5_3 ≥ 0 then
    if belowS H x1 = true then
      Option.bind (idxA 1 x1 v5_3) fun p4 =>
      if below H p4 = true then
        Option.bind (rd (deI .u32) H p4) fun x5 =>
        if belowS H x2 = true then
          Option.bind (idxA 1 x2 v5_3) fun p6 =>
          if below H p6 = true then
            Option.bind (rd (deI .u32) H p6) fun x7 =>
            if x5 < x7 then
              some (.ret (-1))
            else
              if belowS H x1 = true then
                Option.bind (idxA 1 x1 v5_3) fun p8 =>
                if below H p8 = true then
                  Option.bind (rd (deI .u32) H p8) fun x9 =>
                  if belowS H x2 = true then
                    Option.bind (idxA 1 x2 v5_3) fun p10 =>
                    if below H p10 = true then
                      Option.bind (rd (deI .u32) H p10) fun x11 =>
                      if x9 > x11 then
                        some (.ret 1)
                      else
                        some (.next (IntKind.i64.wrap (v5_3 - 1)))
                    else none
                  else none
                else none
              else none
          else none
        else none
      else none
    else none
  else
    some (.brk v5_3)

def ref01_CmpH_b0_kn (H : AH) (x1 : Sl3) (x2 : Sl3) : Int → Kn := fun v5_3 => [(5, (Value.int .i64 v5_3)), (0, (Sl3.v x1)), (1, (Sl3.v x2))]

noncomputable def ref01_CmpH (H : AH) (a0 : Sl3) (a1 : Sl3) : Option Int :=
  Option.bind (ref01_trim H a0) fun x1 =>
  Option.bind (ref01_trim H a1) fun x2 =>
  if (x1.n : Int) < (x2.n : Int) then
    some (-1)
  else
    if (x1.n : Int) > (x2.n : Int) then
      some 1
    else
      Option.bind (loopO (ref01_CmpH_b0 H x1 x2) (IntKind.i64.wrap ((x1.n : Int) - 1))) fun o => match o with
      | .inl v5_12 =>
        some 0
      | .inr r => some r

theorem ref01_CmpH_b0_ok {H : AH} {x1 : Sl3} {x2 : Sl3} : ∀ s o, ref01_CmpH_b0 H x1 x2 s = some o →
    WX Try.prog 1000 4294967296 Try.f61.ntmps (cfst (cfst (csnd (cfst (csnd (csnd (csnd (csnd B61)))))))) (ref01_CmpH_b0_kn H x1 x2 s) ((fun _ => H) s) (lpQ (ref01_CmpH_b0_kn H x1 x2) (fun _ => H) 0 (fun r => RQ Try.f61 (ref01_CmpH_enc r) (ref01_CmpH_hp H r)) o) := by
  rintro v5_3 o h
  unfold ref01_CmpH_b0 at h
  try dsimp only at h
  refine WX.seq (by kernel_rfl) ?_
  refine WX.seq (by kernel_rfl) ?_
  refine WX.region (opsOf (cfst (cfst (cfst (cfst (csnd (cfst (csnd (csnd (csnd (csnd B61))))))))))) (by kernel_rfl) ?_
  refine RX.psn 2 [(24, (Value.bool (decide (v5_3 ≥ 0)))), (23, (Value.int .i64 v5_3))] (by kernel_rfl) ?_
  refine RX.done (by kernel_rfl) ?_
  refine fun ss hs => (WX.nxt ?_ ss hs)
  rcases ite_some h with ⟨hp, h⟩ | ⟨hp, h⟩
  · refine WX.condT _ (decide_eq_true hp) (by kernel_rfl) ?_
    refine WX.skip (by kernel_rfl) ?_
    refine fun ss hs => (WX.nxt ?_ ss hs)
    refine WX.seq (by kernel_rfl) ?_
    refine WX.block 1 (by kernel_rfl) ?_
    refine WX.seq (by kernel_rfl) ?_
    refine WX.seq (by kernel_rfl) ?_
    refine WX.quiet (opsOf (cfst (cfst (cfst (cfst (csnd (cfst (cfst (csnd (cfst (csnd (csnd (csnd (csnd B61)))))))))))))) (by kernel_rfl) (by kernel_rfl) ?_
    rcases ite_some h with ⟨hb, h⟩ | ⟨_, h⟩
    · refine QX.at (some 27) (Sl3.v x1) (by kernel_rfl) (by kernel_rfl) (by kernel_rfl) (fun ih => by kernel_rfl) (calm_sl (belowS_lt hb)) ?_
      refine QX.at (some 28) (Value.int .i64 v5_3) (by kernel_rfl) (by kernel_rfl) (by kernel_rfl) (fun ih => by kernel_rfl) calm_int ?_
      obtain ⟨p4, hx, h⟩ := bind_some h
      rcases ite_some h with ⟨hb, h⟩ | ⟨_, h⟩
      · refine QX.at (some 29) (Value.pointer (some p4)) (by kernel_rfl) (by kernel_rfl) (by kernel_rfl) (fun ih => Abs.run_idx (s := x1) (k := .i64) (t := 63) (e := 65) (x := .tmp 27) (y := .tmp 28) (by kernel_rfl) (by kernel_rfl) (by kernel_rfl) (by kernel_rfl) (by kernel_rfl) hx) (calm_ptr (below_lt hb)) ?_
        obtain ⟨x5, hx, h⟩ := bind_some h
        refine QX.at (some 30) (Value.int .u32 x5) (by kernel_rfl) (by kernel_rfl) (by kernel_rfl) (fun ih => Abs.run_load (t := 65) (x := .tmp 29) (a := p4) (by kernel_rfl) (by kernel_rfl) (by kernel_rfl) (rd_cell hx deI_inv)) calm_int ?_
        rcases ite_some h with ⟨hb, h⟩ | ⟨_, h⟩
        · refine QX.at (some 31) (Sl3.v x2) (by kernel_rfl) (by kernel_rfl) (by kernel_rfl) (fun ih => by kernel_rfl) (calm_sl (belowS_lt hb)) ?_
          refine QX.at (some 32) (Value.int .i64 v5_3) (by kernel_rfl) (by kernel_rfl) (by kernel_rfl) (fun ih => by kernel_rfl) calm_int ?_
          obtain ⟨p6, hx, h⟩ := bind_some h
          rcases ite_some h with ⟨hb, h⟩ | ⟨_, h⟩
          · refine QX.at (some 33) (Value.pointer (some p6)) (by kernel_rfl) (by kernel_rfl) (by kernel_rfl) (fun ih => Abs.run_idx (s := x2) (k := .i64) (t := 63) (e := 65) (x := .tmp 31) (y := .tmp 32) (by kernel_rfl) (by kernel_rfl) (by kernel_rfl) (by kernel_rfl) (by kernel_rfl) hx) (calm_ptr (below_lt hb)) ?_
            obtain ⟨x7, hx, h⟩ := bind_some h
            refine QX.at (some 34) (Value.int .u32 x7) (by kernel_rfl) (by kernel_rfl) (by kernel_rfl) (fun ih => Abs.run_load (t := 65) (x := .tmp 33) (a := p6) (by kernel_rfl) (by kernel_rfl) (by kernel_rfl) (rd_cell hx deI_inv)) calm_int ?_
            refine QX.at (some 35) (Value.bool (decide (x5 < x7))) (by kernel_rfl) (by kernel_rfl) (by kernel_rfl) (fun ih => by kernel_rfl) calm_bool ?_
            refine QX.done (by kernel_rfl) ?_
            refine fun ss hs => (WX.nxt ?_ ss hs)
            rcases ite_some h with ⟨hp, h⟩ | ⟨hp, h⟩
            · refine WX.condT _ (decide_eq_true hp) (by kernel_rfl) ?_
              refine WX.seq (by kernel_rfl) ?_
              refine WX.region (opsOf (cfst (cfst (csnd (cfst (cfst (cfst (csnd (cfst (cfst (csnd (cfst (csnd (csnd (csnd (csnd B61)))))))))))))))) (by kernel_rfl) ?_
              refine RX.psn 1 [(4, (Value.int .i64 (-1)))] (by kernel_rfl) ?_
              refine RX.done (by kernel_rfl) ?_
              refine fun ss hs => (WX.nxt ?_ ss hs)
              refine WX.ret (by kernel_rfl) ?_
              cases h
              exact fun ss hs => seqR (blkR (seqR (lpR (rq hs (by kernel_rfl)))))
            · refine WX.condF _ (decide_eq_false hp) (by kernel_rfl) ?_
              refine WX.skip (by kernel_rfl) ?_
              refine fun ss hs => (WX.nxt ?_ ss hs)
              refine WX.seq (by kernel_rfl) ?_
              refine WX.quiet (opsOf (cfst (csnd (cfst (cfst (csnd (cfst (cfst (csnd (cfst (csnd (csnd (csnd (csnd B61)))))))))))))) (by kernel_rfl) (by kernel_rfl) ?_
              rcases ite_some h with ⟨hb, h⟩ | ⟨_, h⟩
              · refine QX.at (some 36) (Sl3.v x1) (by kernel_rfl) (by kernel_rfl) (by kernel_rfl) (fun ih => by kernel_rfl) (calm_sl (belowS_lt hb)) ?_
                refine QX.at (some 37) (Value.int .i64 v5_3) (by kernel_rfl) (by kernel_rfl) (by kernel_rfl) (fun ih => by kernel_rfl) calm_int ?_
                obtain ⟨p8, hx, h⟩ := bind_some h
                rcases ite_some h with ⟨hb, h⟩ | ⟨_, h⟩
                · refine QX.at (some 38) (Value.pointer (some p8)) (by kernel_rfl) (by kernel_rfl) (by kernel_rfl) (fun ih => Abs.run_idx (s := x1) (k := .i64) (t := 63) (e := 65) (x := .tmp 36) (y := .tmp 37) (by kernel_rfl) (by kernel_rfl) (by kernel_rfl) (by kernel_rfl) (by kernel_rfl) hx) (calm_ptr (below_lt hb)) ?_
                  obtain ⟨x9, hx, h⟩ := bind_some h
                  refine QX.at (some 39) (Value.int .u32 x9) (by kernel_rfl) (by kernel_rfl) (by kernel_rfl) (fun ih => Abs.run_load (t := 65) (x := .tmp 38) (a := p8) (by kernel_rfl) (by kernel_rfl) (by kernel_rfl) (rd_cell hx deI_inv)) calm_int ?_
                  rcases ite_some h with ⟨hb, h⟩ | ⟨_, h⟩
                  · refine QX.at (some 40) (Sl3.v x2) (by kernel_rfl) (by kernel_rfl) (by kernel_rfl) (fun ih => by kernel_rfl) (calm_sl (belowS_lt hb)) ?_
                    refine QX.at (some 41) (Value.int .i64 v5_3) (by kernel_rfl) (by kernel_rfl) (by kernel_rfl) (fun ih => by kernel_rfl) calm_int ?_
                    obtain ⟨p10, hx, h⟩ := bind_some h
                    rcases ite_some h with ⟨hb, h⟩ | ⟨_, h⟩
                    · refine QX.at (some 42) (Value.pointer (some p10)) (by kernel_rfl) (by kernel_rfl) (by kernel_rfl) (fun ih => Abs.run_idx (s := x2) (k := .i64) (t := 63) (e := 65) (x := .tmp 40) (y := .tmp 41) (by kernel_rfl) (by kernel_rfl) (by kernel_rfl) (by kernel_rfl) (by kernel_rfl) hx) (calm_ptr (below_lt hb)) ?_
                      obtain ⟨x11, hx, h⟩ := bind_some h
                      refine QX.at (some 43) (Value.int .u32 x11) (by kernel_rfl) (by kernel_rfl) (by kernel_rfl) (fun ih => Abs.run_load (t := 65) (x := .tmp 42) (a := p10) (by kernel_rfl) (by kernel_rfl) (by kernel_rfl) (rd_cell hx deI_inv)) calm_int ?_
                      refine QX.at (some 44) (Value.bool (decide (x9 > x11))) (by kernel_rfl) (by kernel_rfl) (by kernel_rfl) (fun ih => by kernel_rfl) calm_bool ?_
                      refine QX.done (by kernel_rfl) ?_
                      refine fun ss hs => (WX.nxt ?_ ss hs)
                      rcases ite_some h with ⟨hp, h⟩ | ⟨hp, h⟩
                      · refine WX.condT _ (decide_eq_true hp) (by kernel_rfl) ?_
                        refine WX.seq (by kernel_rfl) ?_
                        refine WX.region (opsOf (cfst (cfst (csnd (csnd (cfst (cfst (csnd (cfst (cfst (csnd (cfst (csnd (csnd (csnd (csnd B61)))))))))))))))) (by kernel_rfl) ?_
                        refine RX.psn 1 [(4, (Value.int .i64 1))] (by kernel_rfl) ?_
                        refine RX.done (by kernel_rfl) ?_
                        refine fun ss hs => (WX.nxt ?_ ss hs)
                        refine WX.ret (by kernel_rfl) ?_
                        cases h
                        exact fun ss hs => blkR (seqR (lpR (rq hs (by kernel_rfl))))
                      · refine WX.condF _ (decide_eq_false hp) (by kernel_rfl) ?_
                        refine WX.skip (by kernel_rfl) ?_
                        refine fun ss hs => blkN ((WX.nxt ?_ ss hs))
                        refine WX.region (opsOf (csnd (csnd (cfst (cfst (csnd (cfst (csnd (csnd (csnd (csnd B61))))))))))) (by kernel_rfl) ?_
                        refine RX.psn 3 [(5, (Value.int .i64 (IntKind.i64.wrap (v5_3 - 1)))), (26, (Value.int .i64 (IntKind.i64.wrap (v5_3 - 1)))), (25, (Value.int .i64 v5_3))] (by kernel_rfl) ?_
                        refine RX.done (by kernel_rfl) ?_
                        cases h
                        exact fun ss hs => lpN rfl (hs.sub ((SubK.cons (by kernel_rfl) (SubK.cons (by kernel_rfl) (SubK.cons (by kernel_rfl) SubK.nil)))))
                    · cases h
                  · cases h
                · cases h
              · cases h
          · cases h
        · cases h
      · cases h
    · cases h
  · refine WX.condF _ (decide_eq_false hp) (by kernel_rfl) ?_
    refine WX.exit 0 (by kernel_rfl) ?_
    cases h
    exact fun ss hs => seqE (lpB rfl (hs.sub ((SubK.cons (by kernel_rfl) (SubK.cons (by kernel_rfl) (SubK.cons (by kernel_rfl) SubK.nil))))))

theorem ref01_CmpH_ok {H : AH} {a0 : Sl3} {a1 : Sl3} {r : Int} (h : ref01_CmpH H a0 a1 = some r) :
    CallE Try.prog 1000 4294967296 61 #[(Sl3.v a0), (Sl3.v a1)] H (ref01_CmpH_enc r) (ref01_CmpH_hp H r) := by
  refine CallE.mk (args := [(Sl3.v a0), (Sl3.v a1)]) Try.func61 (B := B61) (by kernel_rfl) ?_
  unfold ref01_CmpH at h
  refine WX.seq (by kernel_rfl) ?_
  refine WX.region (opsOf (cfst B61)) (by kernel_rfl) ?_
  refine RX.psn 1 [(4, (Value.int .i64 0))] (by kernel_rfl) ?_
  refine RX.done (by kernel_rfl) ?_
  refine fun ss hs => (WX.nxt ?_ ss hs)
  refine WX.seq (by kernel_rfl) ?_
  refine WX.region (opsOf (cfst (csnd B61))) (by kernel_rfl) ?_
  refine RX.psn 1 [(6, (Sl3.v a0))] (by kernel_rfl) ?_
  obtain ⟨x1, hx, h⟩ := bind_some h
  refine RX.callAt (some 7) (v := (Sl3.v x1)) 73 #[(Sl3.v a0)] (by kernel_rfl) (by kernel_rfl) (by kernel_rfl) (ref01_trim_ok hx) ?_
  refine RX.psn 1 [(8, (Sl3.v a1))] (by kernel_rfl) ?_
  obtain ⟨x2, hx, h⟩ := bind_some h
  refine RX.callAt (some 9) (v := (Sl3.v x2)) 73 #[(Sl3.v a1)] (by kernel_rfl) (by kernel_rfl) (by kernel_rfl) (ref01_trim_ok hx) ?_
  refine RX.psn 2 [(1, (Sl3.v x2)), (0, (Sl3.v x1))] (by kernel_rfl) ?_
  refine RX.done (by kernel_rfl) ?_
  refine fun ss hs => (WX.nxt ?_ ss hs)
  refine WX.seq (by kernel_rfl) ?_
  refine WX.seq (by kernel_rfl) ?_
  refine WX.region (opsOf (cfst (cfst (csnd (csnd B61))))) (by kernel_rfl) ?_
  refine RX.psn 5 [(14, (Value.bool (decide ((x1.n : Int) < (x2.n : Int))))), (13, (Value.int .i64 (x2.n : Int))), (12, (Sl3.v x2)), (11, (Value.int .i64 (x1.n : Int))), (10, (Sl3.v x1))] (by kernel_rfl) ?_
  refine RX.done (by kernel_rfl) ?_
  refine fun ss hs => (WX.nxt ?_ ss hs)
  rcases ite_some h with ⟨hp, h⟩ | ⟨hp, h⟩
  · refine WX.condT _ (decide_eq_true hp) (by kernel_rfl) ?_
    refine WX.seq (by kernel_rfl) ?_
    refine WX.region (opsOf (cfst (cfst (csnd (cfst (csnd (csnd B61))))))) (by kernel_rfl) ?_
    refine RX.psn 1 [(4, (Value.int .i64 (-1)))] (by kernel_rfl) ?_
    refine RX.done (by kernel_rfl) ?_
    refine fun ss hs => (WX.nxt ?_ ss hs)
    refine WX.ret (by kernel_rfl) ?_
    cases h
    exact fun ss hs => seqR (retR (rq hs (by kernel_rfl)))
  · refine WX.condF _ (decide_eq_false hp) (by kernel_rfl) ?_
    refine WX.skip (by kernel_rfl) ?_
    refine fun ss hs => (WX.nxt ?_ ss hs)
    refine WX.seq (by kernel_rfl) ?_
    refine WX.seq (by kernel_rfl) ?_
    refine WX.region (opsOf (cfst (cfst (csnd (csnd (csnd B61)))))) (by kernel_rfl) ?_
    refine RX.psn 5 [(19, (Value.bool (decide ((x1.n : Int) > (x2.n : Int))))), (18, (Value.int .i64 (x2.n : Int))), (17, (Sl3.v x2)), (16, (Value.int .i64 (x1.n : Int))), (15, (Sl3.v x1))] (by kernel_rfl) ?_
    refine RX.done (by kernel_rfl) ?_
    refine fun ss hs => (WX.nxt ?_ ss hs)
    rcases ite_some h with ⟨hp, h⟩ | ⟨hp, h⟩
    · refine WX.condT _ (decide_eq_true hp) (by kernel_rfl) ?_
      refine WX.seq (by kernel_rfl) ?_
      refine WX.region (opsOf (cfst (cfst (csnd (cfst (csnd (csnd (csnd B61)))))))) (by kernel_rfl) ?_
      refine RX.psn 1 [(4, (Value.int .i64 1))] (by kernel_rfl) ?_
      refine RX.done (by kernel_rfl) ?_
      refine fun ss hs => (WX.nxt ?_ ss hs)
      refine WX.ret (by kernel_rfl) ?_
      cases h
      exact fun ss hs => seqR (retR (rq hs (by kernel_rfl)))
    · refine WX.condF _ (decide_eq_false hp) (by kernel_rfl) ?_
      refine WX.skip (by kernel_rfl) ?_
      refine fun ss hs => (WX.nxt ?_ ss hs)
      refine WX.seq (by kernel_rfl) ?_
      refine WX.seq (by kernel_rfl) ?_
      refine WX.region (opsOf (cfst (cfst (csnd (csnd (csnd (csnd B61))))))) (by kernel_rfl) ?_
      refine RX.psn 4 [(5, (Value.int .i64 (IntKind.i64.wrap ((x1.n : Int) - 1)))), (22, (Value.int .i64 (IntKind.i64.wrap ((x1.n : Int) - 1)))), (21, (Value.int .i64 (x1.n : Int))), (20, (Sl3.v x1))] (by kernel_rfl) ?_
      refine RX.done (by kernel_rfl) ?_
      refine fun ss hs => (WX.nxt ?_ ss hs)
      refine WX.block 0 (by kernel_rfl) ?_
      obtain ⟨o, hl, h⟩ := bind_some h
      rcases o with v5_12 | r
      · dsimp only at h
        refine WX.loopI (by kernel_rfl) (ref01_CmpH_b0 H x1 x2) (ref01_CmpH_b0_kn H x1 x2) (fun _ => H) 0 (fun r => RQ Try.f61 (ref01_CmpH_enc r) (ref01_CmpH_hp H r)) ref01_CmpH_b0_ok hl ((SubK.cons (by kernel_rfl) (SubK.cons (by kernel_rfl) (SubK.cons (by kernel_rfl) SubK.nil)))) rfl ?_
        clear hl
        refine fun ss hs => blkE ((WX.nxt ?_ ss hs))
        refine WX.seq (by kernel_rfl) ?_
        refine WX.region (opsOf (cfst (csnd (csnd (csnd (csnd (csnd B61))))))) (by kernel_rfl) ?_
        refine RX.psn 1 [(4, (Value.int .i64 0))] (by kernel_rfl) ?_
        refine RX.done (by kernel_rfl) ?_
        refine fun ss hs => (WX.nxt ?_ ss hs)
        refine WX.ret (by kernel_rfl) ?_
        cases h
        exact fun ss hs => retR (rq hs (by kernel_rfl))
      · dsimp only at h
        refine WX.loopR (by kernel_rfl) (ref01_CmpH_b0 H x1 x2) (ref01_CmpH_b0_kn H x1 x2) (fun _ => H) 0 (fun r => RQ Try.f61 (ref01_CmpH_enc r) (ref01_CmpH_hp H r)) ref01_CmpH_b0_ok hl ((SubK.cons (by kernel_rfl) (SubK.cons (by kernel_rfl) (SubK.cons (by kernel_rfl) SubK.nil)))) rfl ?_
        cases h
        exact fun ss H hq => blkR (seqR (retR hq))

noncomputable def B67 : Code := (Try.f67.body).getD .skip

def ref01_SubH_enc : (Sl3 × AH) → Value
  | (r0, _) => (Sl3.v r0)

def ref01_SubH_hp (_ : AH) : (Sl3 × AH) → AH := fun r => r.2

noncomputable def ref01_SubH_b0 (a0 : Sl3) (a1 : Sl3) : (AH × Sl3 × Int × Int) → Option (Lp (AH × Sl3 × Int × Int) (Sl3 × AH)) := fun (H1, v5_2, v6_3, v7_4) =>
  if v7_4 < (a0.n : Int) then
    Option.bind (ref01_limb H1 a0 v7_4) fun x5 =>
    Option.bind (ref01_limb H1 a1 v7_4) fun x6 =>
    Option.bind (newR 65 1 #[(Value.int .u32 (iand .u32 (IntKind.u32.wrap ((IntKind.u32.wrap ((IntKind.u32.wrap (x5 + 65536)) - x6)) - v6_3)) 65535))] H1) fun (s7, H8) =>
    Option.bind (appS 4294967296 65 1 4 H8 v5_2 s7) fun (s9, H10) =>
    some (.next (H10, s9, (IntKind.u32.wrap (1 - (ishr .u32 (IntKind.u32.wrap ((IntKind.u32.wrap ((IntKind.u32.wrap (x5 + 65536)) - x6)) - v6_3)) 16))), (IntKind.i64.wrap (v7_4 + 1))))
  else
    some (.brk (H1, v5_2, v6_3, v7_4))

def ref01_SubH_b0_kn (a0 : Sl3) (a1 : Sl3) : (AH × Sl3 × Int × Int) → Kn := fun (H1, v5_2, v6_3, v7_4) => [(5, (Sl3.v v5_2)), (6, (Value.int .u32 v6_3)), (7, (Value.int .i64 v7_4)), (0, (Sl3.v a0)), (1, (Sl3.v a1))]

noncomputable def ref01_SubH (H : AH) (a0 : Sl3) (a1 : Sl3) : Option (Sl3 × AH) :=
  Option.bind (loopO (ref01_SubH_b0 a0 a1) (H, Sl3.nil, 0, 0)) fun o => match o with
  | .inl (H11, v5_12, v6_13, v7_14) =>
    Option.bind (ref01_trim H11 v5_12) fun x15 =>
    some (x15, H11)
  | .inr r => some r

theorem ref01_SubH_b0_ok {a0 : Sl3} {a1 : Sl3} : ∀ s o, ref01_SubH_b0 a0 a1 s = some o →
    WX Try.prog 1000 4294967296 Try.f67.ntmps (cfst (cfst (csnd (cfst (csnd (csnd (csnd B67))))))) (ref01_SubH_b0_kn a0 a1 s) ((fun s => s.1) s) (lpQ (ref01_SubH_b0_kn a0 a1) (fun s => s.1) 0 (fun r => RQ Try.f67 (ref01_SubH_enc r) (ref01_SubH_hp ⟨0, .nil⟩ r)) o) := by
  rintro ⟨H1, v5_2, v6_3, v7_4⟩ o h
  unfold ref01_SubH_b0 at h
  try dsimp only at h
  refine WX.seq (by kernel_rfl) ?_
  refine WX.seq (by kernel_rfl) ?_
  refine WX.region (opsOf (cfst (cfst (cfst (cfst (csnd (cfst (csnd (csnd (csnd B67)))))))))) (by kernel_rfl) ?_
  refine RX.psn 4 [(12, (Value.bool (decide (v7_4 < (a0.n : Int))))), (11, (Value.int .i64 (a0.n : Int))), (10, (Sl3.v a0)), (9, (Value.int .i64 v7_4))] (by kernel_rfl) ?_
  refine RX.done (by kernel_rfl) ?_
  refine fun ss hs => (WX.nxt ?_ ss hs)
  rcases ite_some h with ⟨hp, h⟩ | ⟨hp, h⟩
  · refine WX.condT _ (decide_eq_true hp) (by kernel_rfl) ?_
    refine WX.skip (by kernel_rfl) ?_
    refine fun ss hs => (WX.nxt ?_ ss hs)
    refine WX.seq (by kernel_rfl) ?_
    refine WX.block 1 (by kernel_rfl) ?_
    refine WX.seq (by kernel_rfl) ?_
    refine WX.region (opsOf (cfst (cfst (cfst (csnd (cfst (cfst (csnd (cfst (csnd (csnd (csnd B67)))))))))))) (by kernel_rfl) ?_
    refine RX.psn 2 [(16, (Value.int .i64 v7_4)), (15, (Sl3.v a0))] (by kernel_rfl) ?_
    obtain ⟨x5, hx, h⟩ := bind_some h
    refine RX.callAt (some 17) (v := (Value.int .u32 x5)) 65 #[(Sl3.v a0), (Value.int .i64 v7_4)] (by kernel_rfl) (by kernel_rfl) (by kernel_rfl) (ref01_limb_ok hx) ?_
    refine RX.psn 3 [(20, (Value.int .i64 v7_4)), (19, (Sl3.v a1)), (18, (Value.int .u32 (IntKind.u32.wrap (x5 + 65536))))] (by kernel_rfl) ?_
    obtain ⟨x6, hx, h⟩ := bind_some h
    refine RX.callAt (some 21) (v := (Value.int .u32 x6)) 65 #[(Sl3.v a1), (Value.int .i64 v7_4)] (by kernel_rfl) (by kernel_rfl) (by kernel_rfl) (ref01_limb_ok hx) ?_
    refine RX.psn 4 [(8, (Value.int .u32 (IntKind.u32.wrap ((IntKind.u32.wrap ((IntKind.u32.wrap (x5 + 65536)) - x6)) - v6_3)))), (24, (Value.int .u32 (IntKind.u32.wrap ((IntKind.u32.wrap ((IntKind.u32.wrap (x5 + 65536)) - x6)) - v6_3)))), (23, (Value.int .u32 v6_3)), (22, (Value.int .u32 (IntKind.u32.wrap ((IntKind.u32.wrap (x5 + 65536)) - x6))))] (by kernel_rfl) ?_
    refine RX.done (by kernel_rfl) ?_
    refine fun ss hs => (WX.nxt ?_ ss hs)
    refine WX.seq (by kernel_rfl) ?_
    refine WX.region (opsOf (cfst (csnd (cfst (cfst (csnd (cfst (cfst (csnd (cfst (csnd (csnd (csnd B67))))))))))))) (by kernel_rfl) ?_
    refine RX.psn 3 [(27, (Value.int .u32 (iand .u32 (IntKind.u32.wrap ((IntKind.u32.wrap ((IntKind.u32.wrap (x5 + 65536)) - x6)) - v6_3)) 65535))), (26, (Value.int .u32 (IntKind.u32.wrap ((IntKind.u32.wrap ((IntKind.u32.wrap (x5 + 65536)) - x6)) - v6_3)))), (25, (Sl3.v v5_2))] (by kernel_rfl) ?_
    obtain ⟨⟨s7, H8⟩, hx, h⟩ := bind_some h
    dsimp only at h
    refine RX.at (some 28) (Sl3.v s7) (by kernel_rfl) (by kernel_rfl) (fun ih => Abs.run_newR (by kernel_rfl) (by kernel_rfl) hx) ?_
    obtain ⟨⟨s9, H10⟩, hx, h⟩ := bind_some h
    dsimp only at h
    refine RX.at (some 29) (Sl3.v s9) (by kernel_rfl) (by kernel_rfl) (fun ih => Abs.run_app (x := .tmp 25) (y := .tmp 28) (ts := #[63, 63]) (s := v5_2) (z := s7) (by kernel_rfl) (by kernel_rfl) (by kernel_rfl) (by kernel_rfl) hx) ?_
    refine RX.psn 1 [(5, (Sl3.v s9))] (by kernel_rfl) ?_
    refine RX.done (by kernel_rfl) ?_
    refine fun ss hs => (WX.nxt ?_ ss hs)
    refine WX.region (opsOf (csnd (csnd (cfst (cfst (csnd (cfst (cfst (csnd (cfst (csnd (csnd (csnd B67))))))))))))) (by kernel_rfl) ?_
    refine RX.psn 4 [(6, (Value.int .u32 (IntKind.u32.wrap (1 - (ishr .u32 (IntKind.u32.wrap ((IntKind.u32.wrap ((IntKind.u32.wrap (x5 + 65536)) - x6)) - v6_3)) 16))))), (32, (Value.int .u32 (IntKind.u32.wrap (1 - (ishr .u32 (IntKind.u32.wrap ((IntKind.u32.wrap ((IntKind.u32.wrap (x5 + 65536)) - x6)) - v6_3)) 16))))), (31, (Value.int .u32 (ishr .u32 (IntKind.u32.wrap ((IntKind.u32.wrap ((IntKind.u32.wrap (x5 + 65536)) - x6)) - v6_3)) 16))), (30, (Value.int .u32 (IntKind.u32.wrap ((IntKind.u32.wrap ((IntKind.u32.wrap (x5 + 65536)) - x6)) - v6_3))))] (by kernel_rfl) ?_
    refine RX.done (by kernel_rfl) ?_
    refine fun ss hs => blkN ((WX.nxt ?_ ss hs))
    refine WX.region (opsOf (csnd (csnd (cfst (cfst (csnd (cfst (csnd (csnd (csnd B67)))))))))) (by kernel_rfl) ?_
    refine RX.psn 3 [(7, (Value.int .i64 (IntKind.i64.wrap (v7_4 + 1)))), (14, (Value.int .i64 (IntKind.i64.wrap (v7_4 + 1)))), (13, (Value.int .i64 v7_4))] (by kernel_rfl) ?_
    refine RX.done (by kernel_rfl) ?_
    cases h
    exact fun ss hs => lpN rfl (hs.sub ((SubK.cons (by kernel_rfl) (SubK.cons (by kernel_rfl) (SubK.cons (by kernel_rfl) (SubK.cons (by kernel_rfl) (SubK.cons (by kernel_rfl) SubK.nil)))))))
  · refine WX.condF _ (decide_eq_false hp) (by kernel_rfl) ?_
    refine WX.exit 0 (by kernel_rfl) ?_
    cases h
    exact fun ss hs => seqE (lpB rfl (hs.sub ((SubK.cons (by kernel_rfl) (SubK.cons (by kernel_rfl) (SubK.cons (by kernel_rfl) (SubK.cons (by kernel_rfl) (SubK.cons (by kernel_rfl) SubK.nil))))))))

theorem ref01_SubH_ok {H : AH} {a0 : Sl3} {a1 : Sl3} {r : (Sl3 × AH)} (h : ref01_SubH H a0 a1 = some r) :
    CallE Try.prog 1000 4294967296 67 #[(Sl3.v a0), (Sl3.v a1)] H (ref01_SubH_enc r) (ref01_SubH_hp H r) := by
  refine CallE.mk (args := [(Sl3.v a0), (Sl3.v a1)]) Try.func67 (B := B67) (by kernel_rfl) ?_
  unfold ref01_SubH at h
  refine WX.seq (by kernel_rfl) ?_
  refine WX.region (opsOf (cfst B67)) (by kernel_rfl) ?_
  refine RX.psn 1 [(4, (Sl3.v Sl3.nil))] (by kernel_rfl) ?_
  refine RX.done (by kernel_rfl) ?_
  refine fun ss hs => (WX.nxt ?_ ss hs)
  refine WX.seq (by kernel_rfl) ?_
  refine WX.region (opsOf (cfst (csnd B67))) (by kernel_rfl) ?_
  refine RX.psn 1 [(5, (Sl3.v Sl3.nil))] (by kernel_rfl) ?_
  refine RX.done (by kernel_rfl) ?_
  refine fun ss hs => (WX.nxt ?_ ss hs)
  refine WX.seq (by kernel_rfl) ?_
  refine WX.region (opsOf (cfst (csnd (csnd B67)))) (by kernel_rfl) ?_
  refine RX.psn 1 [(6, (Value.int .u32 0))] (by kernel_rfl) ?_
  refine RX.done (by kernel_rfl) ?_
  refine fun ss hs => (WX.nxt ?_ ss hs)
  refine WX.seq (by kernel_rfl) ?_
  refine WX.seq (by kernel_rfl) ?_
  refine WX.region (opsOf (cfst (cfst (csnd (csnd (csnd B67)))))) (by kernel_rfl) ?_
  refine RX.psn 1 [(7, (Value.int .i64 0))] (by kernel_rfl) ?_
  refine RX.done (by kernel_rfl) ?_
  refine fun ss hs => (WX.nxt ?_ ss hs)
  refine WX.block 0 (by kernel_rfl) ?_
  obtain ⟨o, hl, h⟩ := bind_some h
  rcases o with ⟨H11, v5_12, v6_13, v7_14⟩ | r
  · dsimp only at h
    refine WX.loopI (by kernel_rfl) (ref01_SubH_b0 a0 a1) (ref01_SubH_b0_kn a0 a1) (fun s => s.1) 0 (fun r => RQ Try.f67 (ref01_SubH_enc r) (ref01_SubH_hp ⟨0, .nil⟩ r)) ref01_SubH_b0_ok hl ((SubK.cons (by kernel_rfl) (SubK.cons (by kernel_rfl) (SubK.cons (by kernel_rfl) (SubK.cons (by kernel_rfl) (SubK.cons (by kernel_rfl) SubK.nil)))))) rfl ?_
    clear hl
    refine fun ss hs => blkE ((WX.nxt ?_ ss hs))
    refine WX.seq (by kernel_rfl) ?_
    refine WX.region (opsOf (cfst (csnd (csnd (csnd (csnd B67)))))) (by kernel_rfl) ?_
    refine RX.psn 1 [(33, (Sl3.v v5_12))] (by kernel_rfl) ?_
    obtain ⟨x15, hx, h⟩ := bind_some h
    refine RX.callAt (some 34) (v := (Sl3.v x15)) 73 #[(Sl3.v v5_12)] (by kernel_rfl) (by kernel_rfl) (by kernel_rfl) (ref01_trim_ok hx) ?_
    refine RX.psn 1 [(4, (Sl3.v x15))] (by kernel_rfl) ?_
    refine RX.done (by kernel_rfl) ?_
    refine fun ss hs => (WX.nxt ?_ ss hs)
    refine WX.ret (by kernel_rfl) ?_
    cases h
    exact fun ss hs => retR (rq hs (by kernel_rfl))
  · dsimp only at h
    refine WX.loopR (by kernel_rfl) (ref01_SubH_b0 a0 a1) (ref01_SubH_b0_kn a0 a1) (fun s => s.1) 0 (fun r => RQ Try.f67 (ref01_SubH_enc r) (ref01_SubH_hp ⟨0, .nil⟩ r)) ref01_SubH_b0_ok hl ((SubK.cons (by kernel_rfl) (SubK.cons (by kernel_rfl) (SubK.cons (by kernel_rfl) (SubK.cons (by kernel_rfl) (SubK.cons (by kernel_rfl) SubK.nil)))))) rfl ?_
    cases h
    exact fun ss H hq => blkR (seqR (retR hq))

noncomputable def B69 : Code := (Try.f69.body).getD .skip

def ref01_QuoH_enc : (Sl3 × Sl3 × AH) → Value
  | (r0, r1, _) => (Value.tuple #[(Sl3.v r0), (Sl3.v r1)])

def ref01_QuoH_hp (_ : AH) : (Sl3 × Sl3 × AH) → AH := fun r => r.2.2

noncomputable def ref01_QuoH_b0 (a0 : Sl3) (a1 : Sl3) (s1 : Sl3) : (AH × Sl3 × Int) → Option (Lp (AH × Sl3 × Int) (Sl3 × Sl3 × AH)) := fun (H3, v7_4, v8_5) =>
  if v8_5 ≥ 0 then
    Option.bind (α := (AH × Sl3)) (
      Option.bind (ref01_AddH H3 v7_4 v7_4) fun (x8, H9) =>
      Option.bind (α := (AH × Sl3)) (
        Option.bind (idxA 1 a0 (IntKind.i64.wrap (Int.tdiv v8_5 16))) fun p12 =>
        Option.bind (rd (deI .u32) H9 p12) fun x13 =>
        if (IntKind.u64.wrap (Int.tmod v8_5 16)) < 0 then none else
        if (iand .u32 (ishr .u32 x13 (IntKind.u64.wrap (Int.tmod v8_5 16))) 1) = 1 then
          Option.bind (newR 65 1 #[(Value.int .u32 1)] H9) fun (s14, H15) =>
          Option.bind (ref01_AddH H15 x8 s14) fun (x16, H17) =>
          some (H17, x16)
        else
          some (H9, x8)) fun (H10, v7_11) =>
      Option.bind (ref01_CmpH H10 v7_11 a1) fun x18 =>
      if x18 ≥ 0 then
        Option.bind (ref01_SubH H10 v7_11 a1) fun (x19, H20) =>
        Option.bind (idxA 1 s1 (IntKind.i64.wrap (Int.tdiv v8_5 16))) fun p21 =>
        Option.bind (rd (deI .u32) H20 p21) fun x22 =>
        if (IntKind.u64.wrap (Int.tmod v8_5 16)) < 0 then none else
        Option.bind (idxA 1 s1 (IntKind.i64.wrap (Int.tdiv v8_5 16))) fun p23 =>
        Option.bind (H20.setCell 4294967296 p23 (Value.int .u32 (ior .u32 x22 (ishl .u32 1 (IntKind.u64.wrap (Int.tmod v8_5 16)))))) fun H24 =>
        some (H24, x19)
      else
        some (H10, v7_11)) fun (H6, v7_7) =>
    some (.next (H6, v7_7, (IntKind.i64.wrap (v8_5 - 1))))
  else
    some (.brk (H3, v7_4, v8_5))

def ref01_QuoH_b0_kn (a0 : Sl3) (a1 : Sl3) (s1 : Sl3) : (AH × Sl3 × Int) → Kn := fun (H3, v7_4, v8_5) => [(7, (Sl3.v v7_4)), (8, (Value.int .i64 v8_5)), (0, (Sl3.v a0)), (1, (Sl3.v a1)), (6, (Sl3.v s1))]

noncomputable def ref01_QuoH (H : AH) (a0 : Sl3) (a1 : Sl3) : Option (Sl3 × Sl3 × AH) :=
  Option.bind (mkS 65 1 4 #[(Value.int .u32 0)] H (a0.n : Int) (a0.n : Int)) fun (s1, H2) =>
  Option.bind (loopO (ref01_QuoH_b0 a0 a1 s1) (H2, Sl3.nil, (IntKind.i64.wrap ((IntKind.i64.wrap (16 * (a0.n : Int))) - 1)))) fun o => match o with
  | .inl (H25, v7_26, v8_27) =>
    Option.bind (ref01_trim H25 s1) fun x28 =>
    Option.bind (ref01_trim H25 v7_26) fun x29 =>
    some (x28, x29, H25)
  | .inr r => some r

theorem ref01_QuoH_b0_ok {a0 : Sl3} {a1 : Sl3} {s1 : Sl3} : ∀ s o, ref01_QuoH_b0 a0 a1 s1 s = some o →
    WX Try.prog 1000 4294967296 Try.f69.ntmps (cfst (cfst (csnd (cfst (csnd (csnd (csnd B69))))))) (ref01_QuoH_b0_kn a0 a1 s1 s) ((fun s => s.1) s) (lpQ (ref01_QuoH_b0_kn a0 a1 s1) (fun s => s.1) 0 (fun r => RQ Try.f69 (ref01_QuoH_enc r) (ref01_QuoH_hp ⟨0, .nil⟩ r)) o) := by
  rintro ⟨H3, v7_4, v8_5⟩ o h
  unfold ref01_QuoH_b0 at h
  try dsimp only at h
  refine WX.seq (by kernel_rfl) ?_
  refine WX.seq (by kernel_rfl) ?_
  refine WX.region (opsOf (cfst (cfst (cfst (cfst (csnd (cfst (csnd (csnd (csnd B69)))))))))) (by kernel_rfl) ?_
  refine RX.psn 2 [(17, (Value.bool (decide (v8_5 ≥ 0)))), (16, (Value.int .i64 v8_5))] (by kernel_rfl) ?_
  refine RX.done (by kernel_rfl) ?_
  refine fun ss hs => (WX.nxt ?_ ss hs)
  rcases ite_some h with ⟨hp, h⟩ | ⟨hp, h⟩
  · refine WX.condT _ (decide_eq_true hp) (by kernel_rfl) ?_
    refine WX.skip (by kernel_rfl) ?_
    refine fun ss hs => (WX.nxt ?_ ss hs)
    obtain ⟨⟨H6, v7_7⟩, hx, h⟩ := bind_some h
    dsimp only at h
    refine WX.seq (by kernel_rfl) ?_
    refine WX.join ([(7, (Sl3.v v7_7)), (0, (Sl3.v a0)), (1, (Sl3.v a1)), (6, (Sl3.v s1)), (8, (Value.int .i64 v8_5))]) H6 ?_ (fun ss hs => WX.nxt ?_ ss hs)
    · clear h; rename _ => h
      refine WX.block 1 (by kernel_rfl) ?_
      refine WX.seq (by kernel_rfl) ?_
      refine WX.region (opsOf (cfst (cfst (cfst (csnd (cfst (cfst (csnd (cfst (csnd (csnd (csnd B69)))))))))))) (by kernel_rfl) ?_
      refine RX.psn 2 [(21, (Sl3.v v7_4)), (20, (Sl3.v v7_4))] (by kernel_rfl) ?_
      obtain ⟨⟨x8, H9⟩, hx, h⟩ := bind_some h
      dsimp only at h
      refine RX.callAt (some 22) (v := (Sl3.v x8)) 59 #[(Sl3.v v7_4), (Sl3.v v7_4)] (by kernel_rfl) (by kernel_rfl) (by kernel_rfl) (ref01_AddH_ok hx) ?_
      refine RX.psn 1 [(7, (Sl3.v x8))] (by kernel_rfl) ?_
      refine RX.done (by kernel_rfl) ?_
      refine fun ss hs => (WX.nxt ?_ ss hs)
      obtain ⟨⟨H10, v7_11⟩, hx, h⟩ := bind_some h
      dsimp only at h
      refine WX.seq (by kernel_rfl) ?_
      refine WX.join ([(7, (Sl3.v v7_11)), (0, (Sl3.v a0)), (1, (Sl3.v a1)), (6, (Sl3.v s1)), (8, (Value.int .i64 v8_5))]) H10 ?_ (fun ss hs => WX.nxt ?_ ss hs)
      · clear h; rename _ => h
        refine WX.seq (by kernel_rfl) ?_
        refine WX.region (opsOf (cfst (cfst (csnd (cfst (cfst (csnd (cfst (cfst (csnd (cfst (csnd (csnd (csnd B69)))))))))))))) (by kernel_rfl) ?_
        refine RX.psn 3 [(25, (Value.int .i64 (IntKind.i64.wrap (Int.tdiv v8_5 16)))), (24, (Value.int .i64 v8_5)), (23, (Sl3.v a0))] (by kernel_rfl) ?_
        obtain ⟨p12, hx, h⟩ := bind_some h
        refine RX.at (some 26) (Value.pointer (some p12)) (by kernel_rfl) (by kernel_rfl) (fun ih => Abs.run_idx (s := a0) (k := .i64) (t := 63) (e := 65) (x := .tmp 23) (y := .tmp 25) (by kernel_rfl) (by kernel_rfl) (by kernel_rfl) (by kernel_rfl) (by kernel_rfl) hx) ?_
        obtain ⟨x13, hx, h⟩ := bind_some h
        refine RX.at (some 27) (Value.int .u32 x13) (by kernel_rfl) (by kernel_rfl) (fun ih => Abs.run_load (t := 65) (x := .tmp 26) (a := p12) (by kernel_rfl) (by kernel_rfl) (by kernel_rfl) (rd_cell hx deI_inv)) ?_
        refine RX.psn 3 [(30, (Value.int .u64 (IntKind.u64.wrap (Int.tmod v8_5 16)))), (29, (Value.int .i64 (Int.tmod v8_5 16))), (28, (Value.int .i64 v8_5))] (by kernel_rfl) ?_
        rcases ite_some h with ⟨_, h⟩ | ⟨hx, h⟩
        · cases h
        · refine RX.at (some 31) (Value.int .u32 (ishr .u32 x13 (IntKind.u64.wrap (Int.tmod v8_5 16)))) (by kernel_rfl) (by kernel_rfl) (fun ih => Abs.run_shr (t := 65) (u := 73) (x := .tmp 27) (y := .tmp 30) (k' := .u64) (by kernel_rfl) (by kernel_rfl) (by kernel_rfl) hx) ?_
          refine RX.psn 2 [(33, (Value.bool (decide ((iand .u32 (ishr .u32 x13 (IntKind.u64.wrap (Int.tmod v8_5 16))) 1) = 1)))), (32, (Value.int .u32 (iand .u32 (ishr .u32 x13 (IntKind.u64.wrap (Int.tmod v8_5 16))) 1)))] (by kernel_rfl) ?_
          refine RX.done (by kernel_rfl) ?_
          refine fun ss hs => (WX.nxt ?_ ss hs)
          rcases ite_some h with ⟨hp, h⟩ | ⟨hp, h⟩
          · refine WX.condT _ (decide_eq_true hp) (by kernel_rfl) ?_
            refine WX.region (opsOf (cfst (csnd (cfst (csnd (cfst (cfst (csnd (cfst (cfst (csnd (cfst (csnd (csnd (csnd B69))))))))))))))) (by kernel_rfl) ?_
            refine RX.psn 1 [(34, (Sl3.v x8))] (by kernel_rfl) ?_
            obtain ⟨⟨s14, H15⟩, hx, h⟩ := bind_some h
            dsimp only at h
            refine RX.at (some 35) (Sl3.v s14) (by kernel_rfl) (by kernel_rfl) (fun ih => Abs.run_newR (by kernel_rfl) (by kernel_rfl) hx) ?_
            obtain ⟨⟨x16, H17⟩, hx, h⟩ := bind_some h
            dsimp only at h
            refine RX.callAt (some 36) (v := (Sl3.v x16)) 59 #[(Sl3.v x8), (Sl3.v s14)] (by kernel_rfl) (by kernel_rfl) (by kernel_rfl) (ref01_AddH_ok hx) ?_
            refine RX.psn 1 [(7, (Sl3.v x16))] (by kernel_rfl) ?_
            refine RX.done (by kernel_rfl) ?_
            cases h
            exact fun ss hs => ⟨rfl, hs.sub ((SubK.cons (by kernel_rfl) (SubK.cons (by kernel_rfl) (SubK.cons (by kernel_rfl) (SubK.cons (by kernel_rfl) (SubK.cons (by kernel_rfl) SubK.nil)))))), rfl⟩
          · refine WX.condF _ (decide_eq_false hp) (by kernel_rfl) ?_
            refine WX.skip (by kernel_rfl) ?_
            cases h
            exact fun ss hs => ⟨rfl, hs.sub ((SubK.cons (by kernel_rfl) (SubK.cons (by kernel_rfl) (SubK.cons (by kernel_rfl) (SubK.cons (by kernel_rfl) (SubK.cons (by kernel_rfl) SubK.nil)))))), rfl⟩
      · clear hx
        refine WX.seq (by kernel_rfl) ?_
        refine WX.region (opsOf (cfst (csnd (csnd (cfst (cfst (csnd (cfst (cfst (csnd (cfst (csnd (csnd (csnd B69)))))))))))))) (by kernel_rfl) ?_
        refine RX.psn 2 [(38, (Sl3.v a1)), (37, (Sl3.v v7_11))] (by kernel_rfl) ?_
        obtain ⟨x18, hx, h⟩ := bind_some h
        refine RX.callAt (some 39) (v := (Value.int .i64 x18)) 61 #[(Sl3.v v7_11), (Sl3.v a1)] (by kernel_rfl) (by kernel_rfl) (by kernel_rfl) (ref01_CmpH_ok hx) ?_
        refine RX.psn 1 [(40, (Value.bool (decide (x18 ≥ 0))))] (by kernel_rfl) ?_
        refine RX.done (by kernel_rfl) ?_
        refine fun ss hs => (WX.nxt ?_ ss hs)
        rcases ite_some h with ⟨hp, h⟩ | ⟨hp, h⟩
        · refine WX.condT _ (decide_eq_true hp) (by kernel_rfl) ?_
          refine WX.seq (by kernel_rfl) ?_
          refine WX.region (opsOf (cfst (cfst (csnd (csnd (csnd (cfst (cfst (csnd (cfst (cfst (csnd (cfst (csnd (csnd (csnd B69)))))))))))))))) (by kernel_rfl) ?_
          refine RX.psn 2 [(42, (Sl3.v a1)), (41, (Sl3.v v7_11))] (by kernel_rfl) ?_
          obtain ⟨⟨x19, H20⟩, hx, h⟩ := bind_some h
          dsimp only at h
          refine RX.callAt (some 43) (v := (Sl3.v x19)) 67 #[(Sl3.v v7_11), (Sl3.v a1)] (by kernel_rfl) (by kernel_rfl) (by kernel_rfl) (ref01_SubH_ok hx) ?_
          refine RX.psn 1 [(7, (Sl3.v x19))] (by kernel_rfl) ?_
          refine RX.done (by kernel_rfl) ?_
          refine fun ss hs => (WX.nxt ?_ ss hs)
          refine WX.region (opsOf (csnd (cfst (csnd (csnd (csnd (cfst (cfst (csnd (cfst (cfst (csnd (cfst (csnd (csnd (csnd B69)))))))))))))))) (by kernel_rfl) ?_
          refine RX.psn 6 [(49, (Value.int .i64 (IntKind.i64.wrap (Int.tdiv v8_5 16)))), (48, (Value.int .i64 v8_5)), (47, (Sl3.v s1)), (46, (Value.int .i64 (IntKind.i64.wrap (Int.tdiv v8_5 16)))), (45, (Value.int .i64 v8_5)), (44, (Sl3.v s1))] (by kernel_rfl) ?_
          obtain ⟨p21, hx, h⟩ := bind_some h
          refine RX.at (some 50) (Value.pointer (some p21)) (by kernel_rfl) (by kernel_rfl) (fun ih => Abs.run_idx (s := s1) (k := .i64) (t := 63) (e := 65) (x := .tmp 47) (y := .tmp 49) (by kernel_rfl) (by kernel_rfl) (by kernel_rfl) (by kernel_rfl) (by kernel_rfl) hx) ?_
          obtain ⟨x22, hx, h⟩ := bind_some h
          refine RX.at (some 51) (Value.int .u32 x22) (by kernel_rfl) (by kernel_rfl) (fun ih => Abs.run_load (t := 65) (x := .tmp 50) (a := p21) (by kernel_rfl) (by kernel_rfl) (by kernel_rfl) (rd_cell hx deI_inv)) ?_
          refine RX.psn 3 [(54, (Value.int .u64 (IntKind.u64.wrap (Int.tmod v8_5 16)))), (53, (Value.int .i64 (Int.tmod v8_5 16))), (52, (Value.int .i64 v8_5))] (by kernel_rfl) ?_
          rcases ite_some h with ⟨_, h⟩ | ⟨hx, h⟩
          · cases h
          · refine RX.at (some 55) (Value.int .u32 (ishl .u32 1 (IntKind.u64.wrap (Int.tmod v8_5 16)))) (by kernel_rfl) (by kernel_rfl) (fun ih => Abs.run_shl (t := 65) (u := 73) (x := .const (Value.int .u32 1)) (y := .tmp 54) (k' := .u64) (by kernel_rfl) (by kernel_rfl) (by kernel_rfl) hx) ?_
            refine RX.psn 1 [(56, (Value.int .u32 (ior .u32 x22 (ishl .u32 1 (IntKind.u64.wrap (Int.tmod v8_5 16))))))] (by kernel_rfl) ?_
            obtain ⟨p23, hx, h⟩ := bind_some h
            refine RX.at (some 57) (Value.pointer (some p23)) (by kernel_rfl) (by kernel_rfl) (fun ih => Abs.run_idx (s := s1) (k := .i64) (t := 63) (e := 65) (x := .tmp 44) (y := .tmp 46) (by kernel_rfl) (by kernel_rfl) (by kernel_rfl) (by kernel_rfl) (by kernel_rfl) hx) ?_
            obtain ⟨H24, hx, h⟩ := bind_some h
            refine RX.at none undef (by kernel_rfl) (by kernel_rfl) (fun ih => Abs.run_store1 (t := 65) (x := .tmp 57) (y := .tmp 56) (a := p23) (v := (Value.int .u32 (ior .u32 x22 (ishl .u32 1 (IntKind.u64.wrap (Int.tmod v8_5 16)))))) (by kernel_rfl) (by kernel_rfl) (by kernel_rfl) (by kernel_rfl) (by kernel_rfl) hx) ?_
            refine RX.done (by kernel_rfl) ?_
            cases h
            exact fun ss hs => blkN (⟨rfl, hs.sub ((SubK.cons (by kernel_rfl) (SubK.cons (by kernel_rfl) (SubK.cons (by kernel_rfl) (SubK.cons (by kernel_rfl) (SubK.cons (by kernel_rfl) SubK.nil)))))), rfl⟩)
        · refine WX.condF _ (decide_eq_false hp) (by kernel_rfl) ?_
          refine WX.skip (by kernel_rfl) ?_
          cases h
          exact fun ss hs => blkN (⟨rfl, hs.sub ((SubK.cons (by kernel_rfl) (SubK.cons (by kernel_rfl) (SubK.cons (by kernel_rfl) (SubK.cons (by kernel_rfl) (SubK.cons (by kernel_rfl) SubK.nil)))))), rfl⟩)
    · clear hx
      refine WX.region (opsOf (csnd (csnd (cfst (cfst (csnd (cfst (csnd (csnd (csnd B69)))))))))) (by kernel_rfl) ?_
      refine RX.psn 3 [(8, (Value.int .i64 (IntKind.i64.wrap (v8_5 - 1)))), (19, (Value.int .i64 (IntKind.i64.wrap (v8_5 - 1)))), (18, (Value.int .i64 v8_5))] (by kernel_rfl) ?_
      refine RX.done (by kernel_rfl) ?_
      cases h
      exact fun ss hs => lpN rfl (hs.sub ((SubK.cons (by kernel_rfl) (SubK.cons (by kernel_rfl) (SubK.cons (by kernel_rfl) (SubK.cons (by kernel_rfl) (SubK.cons (by kernel_rfl) SubK.nil)))))))
  · refine WX.condF _ (decide_eq_false hp) (by kernel_rfl) ?_
    refine WX.exit 0 (by kernel_rfl) ?_
    cases h
    exact fun ss hs => seqE (lpB rfl (hs.sub ((SubK.cons (by kernel_rfl) (SubK.cons (by kernel_rfl) (SubK.cons (by kernel_rfl) (SubK.cons (by kernel_rfl) (SubK.cons (by kernel_rfl) SubK.nil))))))))

theorem ref01_QuoH_ok {H : AH} {a0 : Sl3} {a1 : Sl3} {r : (Sl3 × Sl3 × AH)} (h : ref01_QuoH H a0 a1 = some r) :
    CallE Try.prog 1000 4294967296 69 #[(Sl3.v a0), (Sl3.v a1)] H (ref01_QuoH_enc r) (ref01_QuoH_hp H r) := by
  refine CallE.mk (args := [(Sl3.v a0), (Sl3.v a1)]) Try.func69 (B := B69) (by kernel_rfl) ?_
  unfold ref01_QuoH at h
  refine WX.seq (by kernel_rfl) ?_
  refine WX.region (opsOf (cfst B69)) (by kernel_rfl) ?_
  refine RX.psn 2 [(5, (Sl3.v Sl3.nil)), (4, (Sl3.v Sl3.nil))] (by kernel_rfl) ?_
  refine RX.done (by kernel_rfl) ?_
  refine fun ss hs => (WX.nxt ?_ ss hs)
  refine WX.seq (by kernel_rfl) ?_
  refine WX.region (opsOf (cfst (csnd B69))) (by kernel_rfl) ?_
  refine RX.psn 2 [(10, (Value.int .i64 (a0.n : Int))), (9, (Sl3.v a0))] (by kernel_rfl) ?_
  obtain ⟨⟨s1, H2⟩, hx, h⟩ := bind_some h
  dsimp only at h
  refine RX.at (some 11) (Sl3.v s1) (by kernel_rfl) (by kernel_rfl) (fun ih => Abs.run_mk (t := 63) (x := .tmp 10) (y := .tmp 10) (k1 := .i64) (k2 := .i64) (by kernel_rfl) (by kernel_rfl) (by kernel_rfl) (by kernel_rfl) hx) ?_
  refine RX.psn 1 [(6, (Sl3.v s1))] (by kernel_rfl) ?_
  refine RX.done (by kernel_rfl) ?_
  refine fun ss hs => (WX.nxt ?_ ss hs)
  refine WX.seq (by kernel_rfl) ?_
  refine WX.region (opsOf (cfst (csnd (csnd B69)))) (by kernel_rfl) ?_
  refine RX.psn 1 [(7, (Sl3.v Sl3.nil))] (by kernel_rfl) ?_
  refine RX.done (by kernel_rfl) ?_
  refine fun ss hs => (WX.nxt ?_ ss hs)
  refine WX.seq (by kernel_rfl) ?_
  refine WX.seq (by kernel_rfl) ?_
  refine WX.region (opsOf (cfst (cfst (csnd (csnd (csnd B69)))))) (by kernel_rfl) ?_
  refine RX.psn 5 [(8, (Value.int .i64 (IntKind.i64.wrap ((IntKind.i64.wrap (16 * (a0.n : Int))) - 1)))), (15, (Value.int .i64 (IntKind.i64.wrap ((IntKind.i64.wrap (16 * (a0.n : Int))) - 1)))), (14, (Value.int .i64 (IntKind.i64.wrap (16 * (a0.n : Int))))), (13, (Value.int .i64 (a0.n : Int))), (12, (Sl3.v a0))] (by kernel_rfl) ?_
  refine RX.done (by kernel_rfl) ?_
  refine fun ss hs => (WX.nxt ?_ ss hs)
  refine WX.block 0 (by kernel_rfl) ?_
  obtain ⟨o, hl, h⟩ := bind_some h
  rcases o with ⟨H25, v7_26, v8_27⟩ | r
  · dsimp only at h
    refine WX.loopI (by kernel_rfl) (ref01_QuoH_b0 a0 a1 s1) (ref01_QuoH_b0_kn a0 a1 s1) (fun s => s.1) 0 (fun r => RQ Try.f69 (ref01_QuoH_enc r) (ref01_QuoH_hp ⟨0, .nil⟩ r)) ref01_QuoH_b0_ok hl ((SubK.cons (by kernel_rfl) (SubK.cons (by kernel_rfl) (SubK.cons (by kernel_rfl) (SubK.cons (by kernel_rfl) (SubK.cons (by kernel_rfl) SubK.nil)))))) rfl ?_
    clear hl
    refine fun ss hs => blkE ((WX.nxt ?_ ss hs))
    refine WX.seq (by kernel_rfl) ?_
    refine WX.region (opsOf (cfst (csnd (csnd (csnd (csnd B69)))))) (by kernel_rfl) ?_
    refine RX.psn 1 [(58, (Sl3.v s1))] (by kernel_rfl) ?_
    obtain ⟨x28, hx, h⟩ := bind_some h
    refine RX.callAt (some 59) (v := (Sl3.v x28)) 73 #[(Sl3.v s1)] (by kernel_rfl) (by kernel_rfl) (by kernel_rfl) (ref01_trim_ok hx) ?_
    refine RX.psn 1 [(60, (Sl3.v v7_26))] (by kernel_rfl) ?_
    obtain ⟨x29, hx, h⟩ := bind_some h
    refine RX.callAt (some 61) (v := (Sl3.v x29)) 73 #[(Sl3.v v7_26)] (by kernel_rfl) (by kernel_rfl) (by kernel_rfl) (ref01_trim_ok hx) ?_
    refine RX.psn 2 [(5, (Sl3.v x29)), (4, (Sl3.v x28))] (by kernel_rfl) ?_
    refine RX.done (by kernel_rfl) ?_
    refine fun ss hs => (WX.nxt ?_ ss hs)
    refine WX.ret (by kernel_rfl) ?_
    cases h
    exact fun ss hs => retR (rq hs (by kernel_rfl))
  · dsimp only at h
    refine WX.loopR (by kernel_rfl) (ref01_QuoH_b0 a0 a1 s1) (ref01_QuoH_b0_kn a0 a1 s1) (fun s => s.1) 0 (fun r => RQ Try.f69 (ref01_QuoH_enc r) (ref01_QuoH_hp ⟨0, .nil⟩ r)) ref01_QuoH_b0_ok hl ((SubK.cons (by kernel_rfl) (SubK.cons (by kernel_rfl) (SubK.cons (by kernel_rfl) (SubK.cons (by kernel_rfl) (SubK.cons (by kernel_rfl) SubK.nil)))))) rfl ?_
    cases h
    exact fun ss H hq => blkR (seqR (retR hq))

end Go.Proofs.Ytoadagekdnkciaa

namespace Go.Proofs.Ytoadagekdnkciaa
open Go Go.Abs
set_option maxRecDepth 100000

noncomputable def B39 : Code := (Try.f39.body).getD .skip

def ref01_Quo_enc : (Sl3 × Sl3 × Int × AH) → Value
  | (r0, r1, r2, _) => (Value.tuple #[(Sl3.v r0), (Sl3.v r1), (Value.int .i64 r2)])

def ref01_Quo_hp (_ : AH) : (Sl3 × Sl3 × Int × AH) → AH := fun r => r.2.2.2

noncomputable def ref01_Quo (H : AH) (a0 : Sl3) (a1 : Sl3) : Option (Sl3 × Sl3 × Int × AH) :=
  Option.bind (newR 24 2 #[(Sl3.v a0), (Sl3.v a1)] H) fun (s1, H2) =>
  Option.bind (ref01_long H2 s1) fun (x3, H4) =>
  if x3 = true then
    some (Sl3.nil, Sl3.nil, 5, H4)
  else
    Option.bind (ref01_From H4 a1) fun (x5, H6) =>
    if (x5.n : Int) = 0 then
      some (Sl3.nil, Sl3.nil, 11, H6)
    else
      Option.bind (ref01_From H6 a0) fun (x7, H8) =>
      Option.bind (ref01_From H8 a1) fun (x9, H10) =>
      Option.bind (ref01_QuoH H10 x7 x9) fun (x11, x12, H13) =>
      Option.bind (ref01_To H13 x11) fun (x14, H15) =>
      Option.bind (ref01_To H15 x12) fun (x16, H17) =>
      some (x14, x16, 0, H17)

theorem ref01_Quo_ok {H : AH} {a0 : Sl3} {a1 : Sl3} {r : (Sl3 × Sl3 × Int × AH)} (h : ref01_Quo H a0 a1 = some r) :
    CallE Try.prog 1000 4294967296 39 #[(Sl3.v a0), (Sl3.v a1)] H (ref01_Quo_enc r) (ref01_Quo_hp H r) := by
  refine CallE.mk (args := [(Sl3.v a0), (Sl3.v a1)]) Try.func39 (B := B39) (by kernel_rfl) ?_
  unfold ref01_Quo at h
  refine WX.seq (by kernel_rfl) ?_
  refine WX.region (opsOf (cfst B39)) (by kernel_rfl) ?_
  refine RX.psn 3 [(6, (Value.int .i64 0)), (5, (Sl3.v Sl3.nil)), (4, (Sl3.v Sl3.nil))] (by kernel_rfl) ?_
  refine RX.done (by kernel_rfl) ?_
  refine fun ss hs => (WX.nxt ?_ ss hs)
  refine WX.seq (by kernel_rfl) ?_
  refine WX.seq (by kernel_rfl) ?_
  refine WX.region (opsOf (cfst (cfst (csnd B39)))) (by kernel_rfl) ?_
  refine RX.psn 2 [(10, (Sl3.v a1)), (9, (Sl3.v a0))] (by kernel_rfl) ?_
  obtain ⟨⟨s1, H2⟩, hx, h⟩ := bind_some h
  dsimp only at h
  refine RX.at (some 11) (Sl3.v s1) (by kernel_rfl) (by kernel_rfl) (fun ih => Abs.run_newR (by kernel_rfl) (by kernel_rfl) hx) ?_
  obtain ⟨⟨x3, H4⟩, hx, h⟩ := bind_some h
  dsimp only at h
  refine RX.callAt (some 12) (v := (Value.bool x3)) 47 #[(Sl3.v s1)] (by kernel_rfl) (by kernel_rfl) (by kernel_rfl) (ref01_long_ok hx) ?_
  refine RX.done (by kernel_rfl) ?_
  refine fun ss hs => (WX.nxt ?_ ss hs)
  rcases ite_some h with ⟨hp, h⟩ | ⟨hp, h⟩
  · refine WX.condT _ hp (by kernel_rfl) ?_
    refine WX.seq (by kernel_rfl) ?_
    refine WX.region (opsOf (cfst (cfst (csnd (cfst (csnd B39)))))) (by kernel_rfl) ?_
    refine RX.psn 3 [(6, (Value.int .i64 5)), (5, (Sl3.v Sl3.nil)), (4, (Sl3.v Sl3.nil))] (by kernel_rfl) ?_
    refine RX.done (by kernel_rfl) ?_
    refine fun ss hs => (WX.nxt ?_ ss hs)
    refine WX.ret (by kernel_rfl) ?_
    cases h
    exact fun ss hs => seqR (retR (rq hs (by kernel_rfl)))
  · refine WX.condF _ (b_not hp) (by kernel_rfl) ?_
    refine WX.skip (by kernel_rfl) ?_
    refine fun ss hs => (WX.nxt ?_ ss hs)
    refine WX.seq (by kernel_rfl) ?_
    refine WX.seq (by kernel_rfl) ?_
    refine WX.region (opsOf (cfst (cfst (csnd (csnd B39))))) (by kernel_rfl) ?_
    refine RX.psn 1 [(13, (Sl3.v a1))] (by kernel_rfl) ?_
    obtain ⟨⟨x5, H6⟩, hx, h⟩ := bind_some h
    dsimp only at h
    refine RX.callAt (some 14) (v := (Sl3.v x5)) 48 #[(Sl3.v a1)] (by kernel_rfl) (by kernel_rfl) (by kernel_rfl) (ref01_From_ok hx) ?_
    refine RX.psn 2 [(16, (Value.bool (decide ((x5.n : Int) = 0)))), (15, (Value.int .i64 (x5.n : Int)))] (by kernel_rfl) ?_
    refine RX.done (by kernel_rfl) ?_
    refine fun ss hs => (WX.nxt ?_ ss hs)
    rcases ite_some h with ⟨hp, h⟩ | ⟨hp, h⟩
    · refine WX.condT _ (decide_eq_true hp) (by kernel_rfl) ?_
      refine WX.seq (by kernel_rfl) ?_
      refine WX.region (opsOf (cfst (cfst (csnd (cfst (csnd (csnd B39))))))) (by kernel_rfl) ?_
      refine RX.psn 3 [(6, (Value.int .i64 11)), (5, (Sl3.v Sl3.nil)), (4, (Sl3.v Sl3.nil))] (by kernel_rfl) ?_
      refine RX.done (by kernel_rfl) ?_
      refine fun ss hs => (WX.nxt ?_ ss hs)
      refine WX.ret (by kernel_rfl) ?_
      cases h
      exact fun ss hs => seqR (retR (rq hs (by kernel_rfl)))
    · refine WX.condF _ (decide_eq_false hp) (by kernel_rfl) ?_
      refine WX.skip (by kernel_rfl) ?_
      refine fun ss hs => (WX.nxt ?_ ss hs)
      refine WX.seq (by kernel_rfl) ?_
      refine WX.region (opsOf (cfst (csnd (csnd (csnd B39))))) (by kernel_rfl) ?_
      refine RX.psn 1 [(18, (Sl3.v a0))] (by kernel_rfl) ?_
      obtain ⟨⟨x7, H8⟩, hx, h⟩ := bind_some h
      dsimp only at h
      refine RX.callAt (some 19) (v := (Sl3.v x7)) 48 #[(Sl3.v a0)] (by kernel_rfl) (by kernel_rfl) (by kernel_rfl) (ref01_From_ok hx) ?_
      refine RX.psn 1 [(20, (Sl3.v a1))] (by kernel_rfl) ?_
      obtain ⟨⟨x9, H10⟩, hx, h⟩ := bind_some h
      dsimp only at h
      refine RX.callAt (some 21) (v := (Sl3.v x9)) 48 #[(Sl3.v a1)] (by kernel_rfl) (by kernel_rfl) (by kernel_rfl) (ref01_From_ok hx) ?_
      obtain ⟨⟨x11, x12, H13⟩, hx, h⟩ := bind_some h
      dsimp only at h
      refine RX.callAt (some 22) (v := (Value.tuple #[(Sl3.v x11), (Sl3.v x12)])) 69 #[(Sl3.v x7), (Sl3.v x9)] (by kernel_rfl) (by kernel_rfl) (by kernel_rfl) (ref01_QuoH_ok hx) ?_
      refine RX.psn 5 [(8, (Sl3.v x12)), (7, (Sl3.v x11)), (24, (Sl3.v x12)), (23, (Sl3.v x11)), (17, (Value.tuple #[(Sl3.v x11), (Sl3.v x12)]))] (by kernel_rfl) ?_
      refine RX.done (by kernel_rfl) ?_
      refine fun ss hs => (WX.nxt ?_ ss hs)
      refine WX.seq (by kernel_rfl) ?_
      refine WX.region (opsOf (cfst (csnd (csnd (csnd (csnd B39)))))) (by kernel_rfl) ?_
      refine RX.psn 1 [(25, (Sl3.v x11))] (by kernel_rfl) ?_
      obtain ⟨⟨x14, H15⟩, hx, h⟩ := bind_some h
      dsimp only at h
      refine RX.callAt (some 26) (v := (Sl3.v x14)) 60 #[(Sl3.v x11)] (by kernel_rfl) (by kernel_rfl) (by kernel_rfl) (ref01_To_ok hx) ?_
      refine RX.psn 1 [(27, (Sl3.v x12))] (by kernel_rfl) ?_
      obtain ⟨⟨x16, H17⟩, hx, h⟩ := bind_some h
      dsimp only at h
      refine RX.callAt (some 28) (v := (Sl3.v x16)) 60 #[(Sl3.v x12)] (by kernel_rfl) (by kernel_rfl) (by kernel_rfl) (ref01_To_ok hx) ?_
      refine RX.psn 3 [(6, (Value.int .i64 0)), (5, (Sl3.v x16)), (4, (Sl3.v x14))] (by kernel_rfl) ?_
      refine RX.done (by kernel_rfl) ?_
      refine fun ss hs => (WX.nxt ?_ ss hs)
      refine WX.ret (by kernel_rfl) ?_
      cases h
      exact fun ss hs => retR (rq hs (by kernel_rfl))

noncomputable def B10 : Code := (Try.f10.body).getD .skip

def law01_NatQuos_enc : (Bool × AH) → Value
  | (r0, _) => (Value.bool r0)

def law01_NatQuos_hp (_ : AH) : (Bool × AH) → AH := fun r => r.2

noncomputable def law01_NatQuos (H : AH) (a0 : Sl3) (a1 : Sl3) : Option (Bool × AH) :=
  Option.bind (nat_Quo H a0 a1) fun (x1, x2, x3, H4) =>
  Option.bind (ref01_Quo H4 a0 a1) fun (x5, x6, x7, H8) =>
  Option.bind (ref01_Same H8 x1 x5) fun x9 =>
  if x9 = true then
    Option.bind (ref01_Same H8 x2 x6) fun x10 =>
    if x10 = true then
      if x3 = x7 then
        Option.bind (law01_alive H8) fun (x11, H12) =>
        some (x11, H12)
      else
        some (false, H8)
    else
      some (false, H8)
  else
    some (false, H8)

theorem law01_NatQuos_ok {H : AH} {a0 : Sl3} {a1 : Sl3} {r : (Bool × AH)} (h : law01_NatQuos H a0 a1 = some r) :
    CallE Try.prog 1000 4294967296 10 #[(Sl3.v a0), (Sl3.v a1)] H (law01_NatQuos_enc r) (law01_NatQuos_hp H r) := by
  refine CallE.mk (args := [(Sl3.v a0), (Sl3.v a1)]) Try.func10 (B := B10) (by kernel_rfl) ?_
  unfold law01_NatQuos at h
  refine WX.seq (by kernel_rfl) ?_
  refine WX.region (opsOf (cfst B10)) (by kernel_rfl) ?_
  refine RX.psn 1 [(4, (Value.bool false))] (by kernel_rfl) ?_
  refine RX.done (by kernel_rfl) ?_
  refine fun ss hs => (WX.nxt ?_ ss hs)
  refine WX.seq (by kernel_rfl) ?_
  refine WX.region (opsOf (cfst (csnd B10))) (by kernel_rfl) ?_
  refine RX.psn 2 [(13, (Sl3.v a1)), (12, (Sl3.v a0))] (by kernel_rfl) ?_
  obtain ⟨⟨x1, x2, x3, H4⟩, hx, h⟩ := bind_some h
  dsimp only at h
  refine RX.callAt (some 14) (v := (Value.tuple #[(Sl3.v x1), (Sl3.v x2), (Value.int .i64 x3)])) 38 #[(Sl3.v a0), (Sl3.v a1)] (by kernel_rfl) (by kernel_rfl) (by kernel_rfl) (nat_Quo_ok hx) ?_
  refine RX.psn 7 [(7, (Value.int .i64 x3)), (6, (Sl3.v x2)), (5, (Sl3.v x1)), (17, (Value.int .i64 x3)), (16, (Sl3.v x2)), (15, (Sl3.v x1)), (11, (Value.tuple #[(Sl3.v x1), (Sl3.v x2), (Value.int .i64 x3)]))] (by kernel_rfl) ?_
  refine RX.done (by kernel_rfl) ?_
  refine fun ss hs => (WX.nxt ?_ ss hs)
  refine WX.seq (by kernel_rfl) ?_
  refine WX.region (opsOf (cfst (csnd (csnd B10)))) (by kernel_rfl) ?_
  refine RX.psn 2 [(20, (Sl3.v a1)), (19, (Sl3.v a0))] (by kernel_rfl) ?_
  obtain ⟨⟨x5, x6, x7, H8⟩, hx, h⟩ := bind_some h
  dsimp only at h
  refine RX.callAt (some 21) (v := (Value.tuple #[(Sl3.v x5), (Sl3.v x6), (Value.int .i64 x7)])) 39 #[(Sl3.v a0), (Sl3.v a1)] (by kernel_rfl) (by kernel_rfl) (by kernel_rfl) (ref01_Quo_ok hx) ?_
  refine RX.psn 7 [(10, (Value.int .i64 x7)), (9, (Sl3.v x6)), (8, (Sl3.v x5)), (24, (Value.int .i64 x7)), (23, (Sl3.v x6)), (22, (Sl3.v x5)), (18, (Value.tuple #[(Sl3.v x5), (Sl3.v x6), (Value.int .i64 x7)]))] (by kernel_rfl) ?_
  refine RX.done (by kernel_rfl) ?_
  refine fun ss hs => (WX.nxt ?_ ss hs)
  refine WX.seq (by kernel_rfl) ?_
  refine WX.region (opsOf (cfst (csnd (csnd (csnd B10))))) (by kernel_rfl) ?_
  refine RX.psn 2 [(26, (Sl3.v x5)), (25, (Sl3.v x1))] (by kernel_rfl) ?_
  obtain ⟨x9, hx, h⟩ := bind_some h
  refine RX.callAt (some 27) (v := (Value.bool x9)) 16 #[(Sl3.v x1), (Sl3.v x5)] (by kernel_rfl) (by kernel_rfl) (by kernel_rfl) (ref01_Same_ok hx) ?_
  refine RX.psn 1 [(28, (Value.bool x9))] (by kernel_rfl) ?_
  rcases ite_some h with ⟨hp, h⟩ | ⟨hp, h⟩
  · refine RX.fix 28 true hp (by kernel_rfl) ?_
    refine RX.psn 2 [(30, (Sl3.v x6)), (29, (Sl3.v x2))] (by kernel_rfl) ?_
    obtain ⟨x10, hx, h⟩ := bind_some h
    refine RX.callAt (some 31) (v := (Value.bool x10)) 16 #[(Sl3.v x2), (Sl3.v x6)] (by kernel_rfl) (by kernel_rfl) (by kernel_rfl) (ref01_Same_ok hx) ?_
    refine RX.psn 2 [(33, (Value.bool x10)), (32, (Value.bool x10))] (by kernel_rfl) ?_
    rcases ite_some h with ⟨hp, h⟩ | ⟨hp, h⟩
    · refine RX.fix 33 true hp (by kernel_rfl) ?_
      refine RX.psn 5 [(38, (Value.bool (decide (x3 = x7)))), (37, (Value.bool (decide (x3 = x7)))), (36, (Value.bool (decide (x3 = x7)))), (35, (Value.int .i64 x7)), (34, (Value.int .i64 x3))] (by kernel_rfl) ?_
      rcases ite_some h with ⟨hp, h⟩ | ⟨hp, h⟩
      · refine RX.fix 38 true (decide_eq_true hp) (by kernel_rfl) ?_
        obtain ⟨⟨x11, H12⟩, hx, h⟩ := bind_some h
        dsimp only at h
        refine RX.callAt (some 39) (v := (Value.bool x11)) 17 #[] (by kernel_rfl) (by kernel_rfl) (by kernel_rfl) (law01_alive_ok hx) ?_
        refine RX.psn 2 [(4, (Value.bool x11)), (40, (Value.bool x11))] (by kernel_rfl) ?_
        refine RX.done (by kernel_rfl) ?_
        refine fun ss hs => (WX.nxt ?_ ss hs)
        refine WX.ret (by kernel_rfl) ?_
        cases h
        exact fun ss hs => retR (rq hs (by kernel_rfl))
      · refine RX.fix 38 false (decide_eq_false hp) (by kernel_rfl) ?_
        refine RX.psn 3 [(4, (Value.bool false)), (40, (Value.bool false)), (39, undef)] (by kernel_rfl) ?_
        refine RX.done (by kernel_rfl) ?_
        refine fun ss hs => (WX.nxt ?_ ss hs)
        refine WX.ret (by kernel_rfl) ?_
        cases h
        exact fun ss hs => retR (rq hs (by kernel_rfl))
    · refine RX.fix 33 false (b_not hp) (by kernel_rfl) ?_
      refine RX.psn 8 [(4, (Value.bool false)), (40, (Value.bool false)), (39, undef), (38, (Value.bool false)), (37, (Value.bool false)), (36, undef), (35, undef), (34, undef)] (by kernel_rfl) ?_
      refine RX.done (by kernel_rfl) ?_
      refine fun ss hs => (WX.nxt ?_ ss hs)
      refine WX.ret (by kernel_rfl) ?_
      cases h
      exact fun ss hs => retR (rq hs (by kernel_rfl))
  · refine RX.fix 28 false (b_not hp) (by kernel_rfl) ?_
    refine RX.psn 13 [(4, (Value.bool false)), (40, (Value.bool false)), (39, undef), (38, (Value.bool false)), (37, (Value.bool false)), (36, undef), (35, undef), (34, undef), (33, (Value.bool false)), (32, (Value.bool false)), (31, undef), (30, undef), (29, undef)] (by kernel_rfl) ?_
    refine RX.done (by kernel_rfl) ?_
    refine fun ss hs => (WX.nxt ?_ ss hs)
    refine WX.ret (by kernel_rfl) ?_
    cases h
    exact fun ss hs => retR (rq hs (by kernel_rfl))

end Go.Proofs.Ytoadagekdnkciaa
