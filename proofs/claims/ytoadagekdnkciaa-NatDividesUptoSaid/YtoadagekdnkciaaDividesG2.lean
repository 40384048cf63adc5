/- Functions of the program as Lean functions over the abstract heap, and that the interpreter comes to them (printed by a program of this project's own), part 2. No condition. -/
import Derived.Test.YtoadagekdnkciaaDividesG1
namespace Go.Proofs.Ytoadagekdnkciaa
open Go Go.Abs
set_option maxRecDepth 100000

noncomputable def B70 : Code := (Try.f70.body).getD .skip

def slices_IndexFunc__43_enc : Int → Value
  | r0 => (Value.int .i64 r0)

def slices_IndexFunc__43_hp (H : AH) : Int → AH := fun _ => H

noncomputable def slices_IndexFunc__43_b0 (H : AH) (a0 : Sl3) : Int → Option (Lp Int Int) := fun v8_1 =>
  if v8_1 < (a0.n : Int) then
    Option.bind (idxA 1 a0 v8_1) fun p2 =>
    Option.bind (rd deSl H p2) fun x3 =>
    Option.bind (nat_Mul_1 H x3) fun x4 =>
    if x4 = true then
      some (.ret v8_1)
    else
      some (.next (IntKind.i64.wrap (v8_1 + 1)))
  else
    some (.brk v8_1)

def slices_IndexFunc__43_b0_kn (H : AH) (a0 : Sl3) : Int → Kn := fun v8_1 => [(8, (Value.int .i64 v8_1)), (0, (Sl3.v a0)), (1, (Value.func (.func 43) #[] #[])), (7, (Value.int .i64 (a0.n : Int)))]

noncomputable def slices_IndexFunc__43 (H : AH) (a0 : Sl3) : Option Int :=
  Option.bind (loopO (slices_IndexFunc__43_b0 H a0) 0) fun o => match o with
  | .inl v8_5 =>
    some (-1)
  | .inr r => some r

theorem slices_IndexFunc__43_b0_ok {H : AH} {a0 : Sl3} : ∀ s o, slices_IndexFunc__43_b0 H a0 s = some o →
    WX Try.prog 1000 4294967296 Try.f70.ntmps (cfst (cfst (csnd (cfst (csnd B70))))) (slices_IndexFunc__43_b0_kn H a0 s) ((fun _ => H) s) (lpQ (slices_IndexFunc__43_b0_kn H a0) (fun _ => H) 0 (fun r => RQ Try.f70 (slices_IndexFunc__43_enc r) (slices_IndexFunc__43_hp H r)) o) := by
  rintro v8_1 o h
  unfold slices_IndexFunc__43_b0 at h
  try dsimp only at h
  refine WX.seq (by kernel_rfl) ?_
  refine WX.region (opsOf (cfst (cfst (cfst (csnd (cfst (csnd B70))))))) (by kernel_rfl) ?_
  refine RX.psn 1 [(9, (Value.bool (decide (v8_1 < (a0.n : Int)))))] (by kernel_rfl) ?_
  refine RX.done (by kernel_rfl) ?_
  refine fun ss hs => (WX.nxt ?_ ss hs)
  refine WX.seq (by kernel_rfl) ?_
  rcases ite_some h with ⟨hp, h⟩ | ⟨hp, h⟩
  · refine WX.condT _ (decide_eq_true hp) (by kernel_rfl) ?_
    refine WX.skip (by kernel_rfl) ?_
    refine fun ss hs => (WX.nxt ?_ ss hs)
    refine WX.seq (by kernel_rfl) ?_
    refine WX.block 1 (by kernel_rfl) ?_
    refine WX.seq (by kernel_rfl) ?_
    refine WX.region (opsOf (cfst (cfst (cfst (csnd (csnd (cfst (cfst (csnd (cfst (csnd B70))))))))))) (by kernel_rfl) ?_
    refine RX.psn 2 [(5, (Value.int .i64 v8_1)), (10, (Value.int .i64 v8_1))] (by kernel_rfl) ?_
    refine RX.done (by kernel_rfl) ?_
    refine fun ss hs => (WX.nxt ?_ ss hs)
    refine WX.seq (by kernel_rfl) ?_
    refine WX.region (opsOf (cfst (csnd (cfst (cfst (csnd (csnd (cfst (cfst (csnd (cfst (csnd B70)))))))))))) (by kernel_rfl) ?_
    refine RX.psn 3 [(13, (Value.int .i64 v8_1)), (12, (Sl3.v a0)), (11, (Value.func (.func 43) #[] #[]))] (by kernel_rfl) ?_
    obtain ⟨p2, hx, h⟩ := bind_some h
    refine RX.at (some 14) (Value.pointer (some p2)) (by kernel_rfl) (by kernel_rfl) (fun ih => Abs.run_idx (s := a0) (k := .i64) (t := 22) (e := 24) (x := .tmp 12) (y := .tmp 13) (by kernel_rfl) (by kernel_rfl) (by kernel_rfl) (by kernel_rfl) (by kernel_rfl) hx) ?_
    obtain ⟨x3, hx, h⟩ := bind_some h
    refine RX.at (some 15) (Sl3.v x3) (by kernel_rfl) (by kernel_rfl) (fun ih => Abs.run_load (t := 24) (x := .tmp 14) (a := p2) (by kernel_rfl) (by kernel_rfl) (by kernel_rfl) (rd_cell hx deSl_inv)) ?_
    obtain ⟨x4, hx, h⟩ := bind_some h
    refine RX.callAt (some 16) (v := (Value.bool x4)) 43 #[(Sl3.v x3)] (by kernel_rfl) (by kernel_rfl) (by kernel_rfl) (nat_Mul_1_ok hx) ?_
    refine RX.done (by kernel_rfl) ?_
    refine fun ss hs => (WX.nxt ?_ ss hs)
    rcases ite_some h with ⟨hp, h⟩ | ⟨hp, h⟩
    · refine WX.condT _ hp (by kernel_rfl) ?_
      refine WX.seq (by kernel_rfl) ?_
      refine WX.region (opsOf (cfst (cfst (csnd (csnd (cfst (cfst (csnd (csnd (cfst (cfst (csnd (cfst (csnd B70)))))))))))))) (by kernel_rfl) ?_
      refine RX.psn 2 [(4, (Value.int .i64 v8_1)), (17, (Value.int .i64 v8_1))] (by kernel_rfl) ?_
      refine RX.done (by kernel_rfl) ?_
      refine fun ss hs => (WX.nxt ?_ ss hs)
      refine WX.ret (by kernel_rfl) ?_
      cases h
      exact fun ss hs => blkR (seqR (lpR (rq hs (by kernel_rfl))))
    · refine WX.condF _ (b_not hp) (by kernel_rfl) ?_
      refine WX.skip (by kernel_rfl) ?_
      refine fun ss hs => blkN ((WX.nxt ?_ ss hs))
      refine WX.region (opsOf (csnd (csnd (csnd (cfst (cfst (csnd (cfst (csnd B70))))))))) (by kernel_rfl) ?_
      refine RX.psn 2 [(8, (Value.int .i64 (IntKind.i64.wrap (v8_1 + 1)))), (18, (Value.int .i64 (IntKind.i64.wrap (v8_1 + 1))))] (by kernel_rfl) ?_
      refine RX.done (by kernel_rfl) ?_
      cases h
      exact fun ss hs => lpN rfl (hs.sub ((SubK.cons (by kernel_rfl) (SubK.cons (by kernel_rfl) (SubK.cons (by kernel_rfl) (SubK.cons (by kernel_rfl) SubK.nil))))))
  · refine WX.condF _ (decide_eq_false hp) (by kernel_rfl) ?_
    refine WX.exit 0 (by kernel_rfl) ?_
    cases h
    exact fun ss hs => seqE (lpB rfl (hs.sub ((SubK.cons (by kernel_rfl) (SubK.cons (by kernel_rfl) (SubK.cons (by kernel_rfl) (SubK.cons (by kernel_rfl) SubK.nil)))))))

theorem slices_IndexFunc__43_ok {H : AH} {a0 : Sl3} {r : Int} (h : slices_IndexFunc__43 H a0 = some r) :
    CallE Try.prog 1000 4294967296 70 #[(Sl3.v a0), (Value.func (.func 43) #[] #[])] H (slices_IndexFunc__43_enc r) (slices_IndexFunc__43_hp H r) := by
  refine CallE.mk (args := [(Sl3.v a0), (Value.func (.func 43) #[] #[])]) Try.func70 (B := B70) (by kernel_rfl) ?_
  unfold slices_IndexFunc__43 at h
  refine WX.seq (by kernel_rfl) ?_
  refine WX.region (opsOf (cfst B70)) (by kernel_rfl) ?_
  refine RX.psn 1 [(4, (Value.int .i64 0))] (by kernel_rfl) ?_
  refine RX.done (by kernel_rfl) ?_
  refine fun ss hs => (WX.nxt ?_ ss hs)
  refine WX.seq (by kernel_rfl) ?_
  refine WX.seq (by kernel_rfl) ?_
  refine WX.region (opsOf (cfst (cfst (csnd B70)))) (by kernel_rfl) ?_
  refine RX.psn 3 [(8, (Value.int .i64 0)), (7, (Value.int .i64 (a0.n : Int))), (6, (Sl3.v a0))] (by kernel_rfl) ?_
  refine RX.done (by kernel_rfl) ?_
  refine fun ss hs => (WX.nxt ?_ ss hs)
  refine WX.block 0 (by kernel_rfl) ?_
  obtain ⟨o, hl, h⟩ := bind_some h
  rcases o with v8_5 | r
  · dsimp only at h
    refine WX.loopI (by kernel_rfl) (slices_IndexFunc__43_b0 H a0) (slices_IndexFunc__43_b0_kn H a0) (fun _ => H) 0 (fun r => RQ Try.f70 (slices_IndexFunc__43_enc r) (slices_IndexFunc__43_hp H r)) slices_IndexFunc__43_b0_ok hl ((SubK.cons (by kernel_rfl) (SubK.cons (by kernel_rfl) (SubK.cons (by kernel_rfl) (SubK.cons (by kernel_rfl) SubK.nil))))) rfl ?_
    clear hl
    refine fun ss hs => blkE ((WX.nxt ?_ ss hs))
    refine WX.seq (by kernel_rfl) ?_
    refine WX.region (opsOf (cfst (csnd (csnd B70)))) (by kernel_rfl) ?_
    refine RX.psn 1 [(4, (Value.int .i64 (-1)))] (by kernel_rfl) ?_
    refine RX.done (by kernel_rfl) ?_
    refine fun ss hs => (WX.nxt ?_ ss hs)
    refine WX.ret (by kernel_rfl) ?_
    cases h
    exact fun ss hs => retR (rq hs (by kernel_rfl))
  · dsimp only at h
    refine WX.loopR (by kernel_rfl) (slices_IndexFunc__43_b0 H a0) (slices_IndexFunc__43_b0_kn H a0) (fun _ => H) 0 (fun r => RQ Try.f70 (slices_IndexFunc__43_enc r) (slices_IndexFunc__43_hp H r)) slices_IndexFunc__43_b0_ok hl ((SubK.cons (by kernel_rfl) (SubK.cons (by kernel_rfl) (SubK.cons (by kernel_rfl) (SubK.cons (by kernel_rfl) SubK.nil))))) rfl ?_
    cases h
    exact fun ss H hq => blkR (seqR (retR hq))

noncomputable def B42 : Code := (Try.f42.body).getD .skip

def slices_ContainsFunc__43_enc : Bool → Value
  | r0 => (Value.bool r0)

def slices_ContainsFunc__43_hp (H : AH) : Bool → AH := fun _ => H

noncomputable def slices_ContainsFunc__43 (H : AH) (a0 : Sl3) : Option Bool :=
  Option.bind (slices_IndexFunc__43 H a0) fun x1 =>
  some (decide (x1 ≥ 0))

theorem slices_ContainsFunc__43_ok {H : AH} {a0 : Sl3} {r : Bool} (h : slices_ContainsFunc__43 H a0 = some r) :
    CallE Try.prog 1000 4294967296 42 #[(Sl3.v a0), (Value.func (.func 43) #[] #[])] H (slices_ContainsFunc__43_enc r) (slices_ContainsFunc__43_hp H r) := by
  refine CallE.mk (args := [(Sl3.v a0), (Value.func (.func 43) #[] #[])]) Try.func42 (B := B42) (by kernel_rfl) ?_
  unfold slices_ContainsFunc__43 at h
  refine WX.seq (by kernel_rfl) ?_
  refine WX.region (opsOf (cfst B42)) (by kernel_rfl) ?_
  refine RX.psn 1 [(4, (Value.bool false))] (by kernel_rfl) ?_
  refine RX.done (by kernel_rfl) ?_
  refine fun ss hs => (WX.nxt ?_ ss hs)
  refine WX.seq (by kernel_rfl) ?_
  refine WX.region (opsOf (cfst (csnd B42))) (by kernel_rfl) ?_
  refine RX.psn 2 [(6, (Value.func (.func 43) #[] #[])), (5, (Sl3.v a0))] (by kernel_rfl) ?_
  obtain ⟨x1, hx, h⟩ := bind_some h
  refine RX.callAt (some 7) (v := (Value.int .i64 x1)) 70 #[(Sl3.v a0), (Value.func (.func 43) #[] #[])] (by kernel_rfl) (by kernel_rfl) (by kernel_rfl) (slices_IndexFunc__43_ok hx) ?_
  refine RX.psn 2 [(4, (Value.bool (decide (x1 ≥ 0)))), (8, (Value.bool (decide (x1 ≥ 0))))] (by kernel_rfl) ?_
  refine RX.done (by kernel_rfl) ?_
  refine fun ss hs => (WX.nxt ?_ ss hs)
  refine WX.ret (by kernel_rfl) ?_
  cases h
  exact fun ss hs => retR (rq hs (by kernel_rfl))

noncomputable def B45 : Code := (Try.f45.body).getD .skip

def nat_mul_enc : (Sl3 × AH) → Value
  | (r0, _) => (Sl3.v r0)

def nat_mul_hp (_ : AH) : (Sl3 × AH) → AH := fun r => r.2

noncomputable def nat_mul_b1 (a0 : Sl3) (a1 : Sl3) (s1 : Sl3) (v22_4 : Int) (x6 : Int) : (AH × Int × Int) → Option (Lp (AH × Int × Int) (Sl3 × AH)) := fun (H7, v8_8, v29_9) =>
  if v29_9 < (a1.n : Int) then
    Option.bind (idxA 1 a1 v29_9) fun p10 =>
    Option.bind (rd (deI .u64) H7 p10) fun x11 =>
    Option.bind (bits_Mul64 x6 x11) fun (x12, x13) =>
    Option.bind (idxA 1 s1 (IntKind.i64.wrap (v22_4 + v29_9))) fun p14 =>
    Option.bind (rd (deI .u64) H7 p14) fun x15 =>
    Option.bind (add64 x13 x15 0) fun (x16, x17) =>
    Option.bind (add64 x16 v8_8 0) fun (x18, x19) =>
    Option.bind (idxA 1 s1 (IntKind.i64.wrap (v22_4 + v29_9))) fun p20 =>
    Option.bind (H7.setCell 4294967296 p20 (Value.int .u64 x18)) fun H21 =>
    some (.next (H21, (IntKind.u64.wrap ((IntKind.u64.wrap (x12 + x17)) + x19)), (IntKind.i64.wrap (v29_9 + 1))))
  else
    some (.brk (H7, v8_8, v29_9))

def nat_mul_b1_kn (a0 : Sl3) (a1 : Sl3) (s1 : Sl3) (v22_4 : Int) (x6 : Int) : (AH × Int × Int) → Kn := fun (H7, v8_8, v29_9) => [(8, (Value.int .u64 v8_8)), (29, (Value.int .i64 v29_9)), (1, (Sl3.v a1)), (5, (Sl3.v s1)), (6, (Value.int .i64 v22_4)), (7, (Value.int .u64 x6)), (20, (Sl3.v a0)), (21, (Value.int .i64 (a0.n : Int))), (22, (Value.int .i64 v22_4)), (27, (Sl3.v a1)), (28, (Value.int .i64 (a1.n : Int)))]

noncomputable def nat_mul_b0 (a0 : Sl3) (a1 : Sl3) (s1 : Sl3) : (AH × Int) → Option (Lp (AH × Int) (Sl3 × AH)) := fun (H3, v22_4) =>
  if v22_4 < (a0.n : Int) then
    Option.bind (idxA 1 a0 v22_4) fun p5 =>
    Option.bind (rd (deI .u64) H3 p5) fun x6 =>
    Option.bind (loopO (nat_mul_b1 a0 a1 s1 v22_4 x6) (H3, 0, 0)) fun o => match o with
    | .inl (H22, v8_23, v29_24) =>
      Option.bind (idxA 1 s1 (IntKind.i64.wrap (v22_4 + (a1.n : Int)))) fun p25 =>
      Option.bind (H22.setCell 4294967296 p25 (Value.int .u64 v8_23)) fun H26 =>
      some (.next (H26, (IntKind.i64.wrap (v22_4 + 1))))
    | .inr r => some (.ret r)
  else
    some (.brk (H3, v22_4))

def nat_mul_b0_kn (a0 : Sl3) (a1 : Sl3) (s1 : Sl3) : (AH × Int) → Kn := fun (H3, v22_4) => [(22, (Value.int .i64 v22_4)), (1, (Sl3.v a1)), (5, (Sl3.v s1)), (20, (Sl3.v a0)), (21, (Value.int .i64 (a0.n : Int)))]

noncomputable def nat_mul (H : AH) (a0 : Sl3) (a1 : Sl3) : Option (Sl3 × AH) :=
  Option.bind (mkS 38 1 8 #[(Value.int .u64 0)] H (IntKind.i64.wrap ((a0.n : Int) + (a1.n : Int))) (IntKind.i64.wrap ((a0.n : Int) + (a1.n : Int)))) fun (s1, H2) =>
  Option.bind (loopO (nat_mul_b0 a0 a1 s1) (H2, 0)) fun o => match o with
  | .inl (H27, v22_28) =>
    Option.bind (nat_trim H27 s1) fun x29 =>
    some (x29, H27)
  | .inr r => some r

theorem nat_mul_b1_ok {a0 : Sl3} {a1 : Sl3} {s1 : Sl3} {v22_4 : Int} {x6 : Int} : ∀ s o, nat_mul_b1 a0 a1 s1 v22_4 x6 s = some o →
    WX Try.prog 1000 4294967296 Try.f45.ntmps (cfst (cfst (csnd (cfst (csnd (csnd (cfst (cfst (csnd (csnd (cfst (cfst (csnd (cfst (csnd (csnd B45)))))))))))))))) (nat_mul_b1_kn a0 a1 s1 v22_4 x6 s) ((fun s => s.1) s) (lpQ (nat_mul_b1_kn a0 a1 s1 v22_4 x6) (fun s => s.1) 2 (fun r => RQ Try.f45 (nat_mul_enc r) (nat_mul_hp ⟨0, .nil⟩ r)) o) := by
  rintro ⟨H7, v8_8, v29_9⟩ o h
  unfold nat_mul_b1 at h
  try dsimp only at h
  refine WX.seq (by kernel_rfl) ?_
  refine WX.region (opsOf (cfst (cfst (cfst (csnd (cfst (csnd (csnd (cfst (cfst (csnd (csnd (cfst (cfst (csnd (cfst (csnd (csnd B45)))))))))))))))))) (by kernel_rfl) ?_
  refine RX.psn 1 [(30, (Value.bool (decide (v29_9 < (a1.n : Int)))))] (by kernel_rfl) ?_
  refine RX.done (by kernel_rfl) ?_
  refine fun ss hs => (WX.nxt ?_ ss hs)
  refine WX.seq (by kernel_rfl) ?_
  rcases ite_some h with ⟨hp, h⟩ | ⟨hp, h⟩
  · refine WX.condT _ (decide_eq_true hp) (by kernel_rfl) ?_
    refine WX.skip (by kernel_rfl) ?_
    refine fun ss hs => (WX.nxt ?_ ss hs)
    refine WX.seq (by kernel_rfl) ?_
    refine WX.block 3 (by kernel_rfl) ?_
    refine WX.seq (by kernel_rfl) ?_
    refine WX.region (opsOf (cfst (cfst (cfst (csnd (csnd (cfst (cfst (csnd (cfst (csnd (csnd (cfst (cfst (csnd (csnd (cfst (cfst (csnd (cfst (csnd (csnd B45)))))))))))))))))))))) (by kernel_rfl) ?_
    refine RX.psn 1 [(31, (Value.int .i64 v29_9))] (by kernel_rfl) ?_
    obtain ⟨p10, hx, h⟩ := bind_some h
    refine RX.at (some 32) (Value.pointer (some p10)) (by kernel_rfl) (by kernel_rfl) (fun ih => Abs.run_idx (s := a1) (k := .i64) (t := 24) (e := 38) (x := .tmp 27) (y := .tmp 29) (by kernel_rfl) (by kernel_rfl) (by kernel_rfl) (by kernel_rfl) (by kernel_rfl) hx) ?_
    obtain ⟨x11, hx, h⟩ := bind_some h
    refine RX.at (some 33) (Value.int .u64 x11) (by kernel_rfl) (by kernel_rfl) (fun ih => Abs.run_load (t := 38) (x := .tmp 32) (a := p10) (by kernel_rfl) (by kernel_rfl) (by kernel_rfl) (rd_cell hx deI_inv)) ?_
    refine RX.psn 2 [(10, (Value.int .u64 x11)), (9, (Value.int .i64 v29_9))] (by kernel_rfl) ?_
    refine RX.done (by kernel_rfl) ?_
    refine fun ss hs => (WX.nxt ?_ ss hs)
    refine WX.seq (by kernel_rfl) ?_
    refine WX.region (opsOf (cfst (csnd (cfst (cfst (csnd (csnd (cfst (cfst (csnd (cfst (csnd (csnd (cfst (cfst (csnd (csnd (cfst (cfst (csnd (cfst (csnd (csnd B45))))))))))))))))))))))) (by kernel_rfl) ?_
    refine RX.psn 2 [(36, (Value.int .u64 x11)), (35, (Value.int .u64 x6))] (by kernel_rfl) ?_
    obtain ⟨⟨x12, x13⟩, hx, h⟩ := bind_some h
    dsimp only at h
    refine RX.callAt (some 37) (v := (Value.tuple #[(Value.int .u64 x12), (Value.int .u64 x13)])) 71 #[(Value.int .u64 x6), (Value.int .u64 x11)] (by kernel_rfl) (by kernel_rfl) (by kernel_rfl) (bits_Mul64_ok hx) ?_
    refine RX.psn 5 [(12, (Value.int .u64 x13)), (11, (Value.int .u64 x12)), (39, (Value.int .u64 x13)), (38, (Value.int .u64 x12)), (34, (Value.tuple #[(Value.int .u64 x12), (Value.int .u64 x13)]))] (by kernel_rfl) ?_
    refine RX.done (by kernel_rfl) ?_
    refine fun ss hs => (WX.nxt ?_ ss hs)
    refine WX.seq (by kernel_rfl) ?_
    refine WX.region (opsOf (cfst (csnd (csnd (cfst (cfst (csnd (csnd (cfst (cfst (csnd (cfst (csnd (csnd (cfst (cfst (csnd (csnd (cfst (cfst (csnd (cfst (csnd (csnd B45)))))))))))))))))))))))) (by kernel_rfl) ?_
    refine RX.psn 1 [(13, (Value.int .u64 0))] (by kernel_rfl) ?_
    refine RX.done (by kernel_rfl) ?_
    refine fun ss hs => (WX.nxt ?_ ss hs)
    refine WX.seq (by kernel_rfl) ?_
    refine WX.region (opsOf (cfst (csnd (csnd (csnd (cfst (cfst (csnd (csnd (cfst (cfst (csnd (cfst (csnd (csnd (cfst (cfst (csnd (csnd (cfst (cfst (csnd (cfst (csnd (csnd B45))))))))))))))))))))))))) (by kernel_rfl) ?_
    refine RX.psn 5 [(45, (Value.int .i64 (IntKind.i64.wrap (v22_4 + v29_9)))), (44, (Value.int .i64 v29_9)), (43, (Value.int .i64 v22_4)), (42, (Sl3.v s1)), (41, (Value.int .u64 x13))] (by kernel_rfl) ?_
    obtain ⟨p14, hx, h⟩ := bind_some h
    refine RX.at (some 46) (Value.pointer (some p14)) (by kernel_rfl) (by kernel_rfl) (fun ih => Abs.run_idx (s := s1) (k := .i64) (t := 24) (e := 38) (x := .tmp 42) (y := .tmp 45) (by kernel_rfl) (by kernel_rfl) (by kernel_rfl) (by kernel_rfl) (by kernel_rfl) hx) ?_
    obtain ⟨x15, hx, h⟩ := bind_some h
    refine RX.at (some 47) (Value.int .u64 x15) (by kernel_rfl) (by kernel_rfl) (fun ih => Abs.run_load (t := 38) (x := .tmp 46) (a := p14) (by kernel_rfl) (by kernel_rfl) (by kernel_rfl) (rd_cell hx deI_inv)) ?_
    obtain ⟨⟨x16, x17⟩, hx, h⟩ := bind_some h
    dsimp only at h
    refine RX.callAt (some 48) (v := (Value.tuple #[(Value.int .u64 x16), (Value.int .u64 x17)])) 72 #[(Value.int .u64 x13), (Value.int .u64 x15), (Value.int .u64 0)] (by kernel_rfl) (by kernel_rfl) (by kernel_rfl) (ext72_ok hx) ?_
    refine RX.psn 5 [(13, (Value.int .u64 x17)), (12, (Value.int .u64 x16)), (50, (Value.int .u64 x17)), (49, (Value.int .u64 x16)), (40, (Value.tuple #[(Value.int .u64 x16), (Value.int .u64 x17)]))] (by kernel_rfl) ?_
    refine RX.done (by kernel_rfl) ?_
    refine fun ss hs => (WX.nxt ?_ ss hs)
    refine WX.seq (by kernel_rfl) ?_
    refine WX.region (opsOf (cfst (csnd (csnd (csnd (csnd (cfst (cfst (csnd (csnd (cfst (cfst (csnd (cfst (csnd (csnd (cfst (cfst (csnd (csnd (cfst (cfst (csnd (cfst (csnd (csnd B45)))))))))))))))))))))))))) (by kernel_rfl) ?_
    refine RX.psn 4 [(11, (Value.int .u64 (IntKind.u64.wrap (x12 + x17)))), (53, (Value.int .u64 (IntKind.u64.wrap (x12 + x17)))), (52, (Value.int .u64 x17)), (51, (Value.int .u64 x12))] (by kernel_rfl) ?_
    refine RX.done (by kernel_rfl) ?_
    refine fun ss hs => (WX.nxt ?_ ss hs)
    refine WX.seq (by kernel_rfl) ?_
    refine WX.region (opsOf (cfst (csnd (csnd (csnd (csnd (csnd (cfst (cfst (csnd (csnd (cfst (cfst (csnd (cfst (csnd (csnd (cfst (cfst (csnd (csnd (cfst (cfst (csnd (cfst (csnd (csnd B45))))))))))))))))))))))))))) (by kernel_rfl) ?_
    refine RX.psn 2 [(56, (Value.int .u64 v8_8)), (55, (Value.int .u64 x16))] (by kernel_rfl) ?_
    obtain ⟨⟨x18, x19⟩, hx, h⟩ := bind_some h
    dsimp only at h
    refine RX.callAt (some 57) (v := (Value.tuple #[(Value.int .u64 x18), (Value.int .u64 x19)])) 72 #[(Value.int .u64 x16), (Value.int .u64 v8_8), (Value.int .u64 0)] (by kernel_rfl) (by kernel_rfl) (by kernel_rfl) (ext72_ok hx) ?_
    refine RX.psn 5 [(13, (Value.int .u64 x19)), (12, (Value.int .u64 x18)), (59, (Value.int .u64 x19)), (58, (Value.int .u64 x18)), (54, (Value.tuple #[(Value.int .u64 x18), (Value.int .u64 x19)]))] (by kernel_rfl) ?_
    refine RX.done (by kernel_rfl) ?_
    refine fun ss hs => (WX.nxt ?_ ss hs)
    refine WX.seq (by kernel_rfl) ?_
    refine WX.region (opsOf (cfst (csnd (csnd (csnd (csnd (csnd (csnd (cfst (cfst (csnd (csnd (cfst (cfst (csnd (cfst (csnd (csnd (cfst (cfst (csnd (csnd (cfst (cfst (csnd (cfst (csnd (csnd B45)))))))))))))))))))))))))))) (by kernel_rfl) ?_
    refine RX.psn 4 [(11, (Value.int .u64 (IntKind.u64.wrap ((IntKind.u64.wrap (x12 + x17)) + x19)))), (62, (Value.int .u64 (IntKind.u64.wrap ((IntKind.u64.wrap (x12 + x17)) + x19)))), (61, (Value.int .u64 x19)), (60, (Value.int .u64 (IntKind.u64.wrap (x12 + x17))))] (by kernel_rfl) ?_
    refine RX.done (by kernel_rfl) ?_
    refine fun ss hs => (WX.nxt ?_ ss hs)
    refine WX.region (opsOf (csnd (csnd (csnd (csnd (csnd (csnd (csnd (cfst (cfst (csnd (csnd (cfst (cfst (csnd (cfst (csnd (csnd (cfst (cfst (csnd (csnd (cfst (cfst (csnd (cfst (csnd (csnd B45)))))))))))))))))))))))))))) (by kernel_rfl) ?_
    refine RX.psn 6 [(68, (Value.int .u64 (IntKind.u64.wrap ((IntKind.u64.wrap (x12 + x17)) + x19)))), (67, (Value.int .u64 x18)), (66, (Value.int .i64 (IntKind.i64.wrap (v22_4 + v29_9)))), (65, (Value.int .i64 v29_9)), (64, (Value.int .i64 v22_4)), (63, (Sl3.v s1))] (by kernel_rfl) ?_
    obtain ⟨p20, hx, h⟩ := bind_some h
    refine RX.at (some 69) (Value.pointer (some p20)) (by kernel_rfl) (by kernel_rfl) (fun ih => Abs.run_idx (s := s1) (k := .i64) (t := 24) (e := 38) (x := .tmp 63) (y := .tmp 66) (by kernel_rfl) (by kernel_rfl) (by kernel_rfl) (by kernel_rfl) (by kernel_rfl) hx) ?_
    obtain ⟨H21, hx, h⟩ := bind_some h
    refine RX.at none undef (by kernel_rfl) (by kernel_rfl) (fun ih => Abs.run_store1 (t := 38) (x := .tmp 69) (y := .tmp 67) (a := p20) (v := (Value.int .u64 x18)) (by kernel_rfl) (by kernel_rfl) (by kernel_rfl) (by kernel_rfl) (by kernel_rfl) hx) ?_
    refine RX.psn 1 [(8, (Value.int .u64 (IntKind.u64.wrap ((IntKind.u64.wrap (x12 + x17)) + x19))))] (by kernel_rfl) ?_
    refine RX.done (by kernel_rfl) ?_
    refine fun ss hs => blkN ((WX.nxt ?_ ss hs))
    refine WX.region (opsOf (csnd (csnd (csnd (cfst (cfst (csnd (cfst (csnd (csnd (cfst (cfst (csnd (csnd (cfst (cfst (csnd (cfst (csnd (csnd B45)))))))))))))))))))) (by kernel_rfl) ?_
    refine RX.psn 2 [(29, (Value.int .i64 (IntKind.i64.wrap (v29_9 + 1)))), (70, (Value.int .i64 (IntKind.i64.wrap (v29_9 + 1))))] (by kernel_rfl) ?_
    refine RX.done (by kernel_rfl) ?_
    cases h
    exact fun ss hs => lpN rfl (hs.sub ((SubK.cons (by kernel_rfl) (SubK.cons (by kernel_rfl) (SubK.cons (by kernel_rfl) (SubK.cons (by kernel_rfl) (SubK.cons (by kernel_rfl) (SubK.cons (by kernel_rfl) (SubK.cons (by kernel_rfl) (SubK.cons (by kernel_rfl) (SubK.cons (by kernel_rfl) (SubK.cons (by kernel_rfl) (SubK.cons (by kernel_rfl) SubK.nil)))))))))))))
  · refine WX.condF _ (decide_eq_false hp) (by kernel_rfl) ?_
    refine WX.exit 2 (by kernel_rfl) ?_
    cases h
    exact fun ss hs => seqE (lpB rfl (hs.sub ((SubK.cons (by kernel_rfl) (SubK.cons (by kernel_rfl) (SubK.cons (by kernel_rfl) (SubK.cons (by kernel_rfl) (SubK.cons (by kernel_rfl) (SubK.cons (by kernel_rfl) (SubK.cons (by kernel_rfl) (SubK.cons (by kernel_rfl) (SubK.cons (by kernel_rfl) (SubK.cons (by kernel_rfl) (SubK.cons (by kernel_rfl) SubK.nil))))))))))))))

theorem nat_mul_b0_ok {a0 : Sl3} {a1 : Sl3} {s1 : Sl3} : ∀ s o, nat_mul_b0 a0 a1 s1 s = some o →
    WX Try.prog 1000 4294967296 Try.f45.ntmps (cfst (cfst (csnd (cfst (csnd (csnd B45)))))) (nat_mul_b0_kn a0 a1 s1 s) ((fun s => s.1) s) (lpQ (nat_mul_b0_kn a0 a1 s1) (fun s => s.1) 0 (fun r => RQ Try.f45 (nat_mul_enc r) (nat_mul_hp ⟨0, .nil⟩ r)) o) := by
  rintro ⟨H3, v22_4⟩ o h
  unfold nat_mul_b0 at h
  try dsimp only at h
  refine WX.seq (by kernel_rfl) ?_
  refine WX.region (opsOf (cfst (cfst (cfst (csnd (cfst (csnd (csnd B45)))))))) (by kernel_rfl) ?_
  refine RX.psn 1 [(23, (Value.bool (decide (v22_4 < (a0.n : Int)))))] (by kernel_rfl) ?_
  refine RX.done (by kernel_rfl) ?_
  refine fun ss hs => (WX.nxt ?_ ss hs)
  refine WX.seq (by kernel_rfl) ?_
  rcases ite_some h with ⟨hp, h⟩ | ⟨hp, h⟩
  · refine WX.condT _ (decide_eq_true hp) (by kernel_rfl) ?_
    refine WX.skip (by kernel_rfl) ?_
    refine fun ss hs => (WX.nxt ?_ ss hs)
    refine WX.seq (by kernel_rfl) ?_
    refine WX.block 1 (by kernel_rfl) ?_
    refine WX.seq (by kernel_rfl) ?_
    refine WX.region (opsOf (cfst (cfst (cfst (csnd (csnd (cfst (cfst (csnd (cfst (csnd (csnd B45)))))))))))) (by kernel_rfl) ?_
    refine RX.psn 1 [(24, (Value.int .i64 v22_4))] (by kernel_rfl) ?_
    obtain ⟨p5, hx, h⟩ := bind_some h
    refine RX.at (some 25) (Value.pointer (some p5)) (by kernel_rfl) (by kernel_rfl) (fun ih => Abs.run_idx (s := a0) (k := .i64) (t := 24) (e := 38) (x := .tmp 20) (y := .tmp 22) (by kernel_rfl) (by kernel_rfl) (by kernel_rfl) (by kernel_rfl) (by kernel_rfl) hx) ?_
    obtain ⟨x6, hx, h⟩ := bind_some h
    refine RX.at (some 26) (Value.int .u64 x6) (by kernel_rfl) (by kernel_rfl) (fun ih => Abs.run_load (t := 38) (x := .tmp 25) (a := p5) (by kernel_rfl) (by kernel_rfl) (by kernel_rfl) (rd_cell hx deI_inv)) ?_
    refine RX.psn 2 [(7, (Value.int .u64 x6)), (6, (Value.int .i64 v22_4))] (by kernel_rfl) ?_
    refine RX.done (by kernel_rfl) ?_
    refine fun ss hs => (WX.nxt ?_ ss hs)
    refine WX.seq (by kernel_rfl) ?_
    refine WX.region (opsOf (cfst (csnd (cfst (cfst (csnd (csnd (cfst (cfst (csnd (cfst (csnd (csnd B45))))))))))))) (by kernel_rfl) ?_
    refine RX.psn 1 [(8, (Value.int .u64 0))] (by kernel_rfl) ?_
    refine RX.done (by kernel_rfl) ?_
    refine fun ss hs => (WX.nxt ?_ ss hs)
    refine WX.seq (by kernel_rfl) ?_
    refine WX.seq (by kernel_rfl) ?_
    refine WX.region (opsOf (cfst (cfst (csnd (csnd (cfst (cfst (csnd (csnd (cfst (cfst (csnd (cfst (csnd (csnd B45))))))))))))))) (by kernel_rfl) ?_
    refine RX.psn 3 [(29, (Value.int .i64 0)), (28, (Value.int .i64 (a1.n : Int))), (27, (Sl3.v a1))] (by kernel_rfl) ?_
    refine RX.done (by kernel_rfl) ?_
    refine fun ss hs => (WX.nxt ?_ ss hs)
    refine WX.block 2 (by kernel_rfl) ?_
    obtain ⟨o, hl, h⟩ := bind_some h
    rcases o with ⟨H22, v8_23, v29_24⟩ | r
    · dsimp only at h
      refine WX.loopI (by kernel_rfl) (nat_mul_b1 a0 a1 s1 v22_4 x6) (nat_mul_b1_kn a0 a1 s1 v22_4 x6) (fun s => s.1) 2 (fun r => RQ Try.f45 (nat_mul_enc r) (nat_mul_hp ⟨0, .nil⟩ r)) nat_mul_b1_ok hl ((SubK.cons (by kernel_rfl) (SubK.cons (by kernel_rfl) (SubK.cons (by kernel_rfl) (SubK.cons (by kernel_rfl) (SubK.cons (by kernel_rfl) (SubK.cons (by kernel_rfl) (SubK.cons (by kernel_rfl) (SubK.cons (by kernel_rfl) (SubK.cons (by kernel_rfl) (SubK.cons (by kernel_rfl) (SubK.cons (by kernel_rfl) SubK.nil)))))))))))) rfl ?_
      clear hl
      refine fun ss hs => blkE ((WX.nxt ?_ ss hs))
      refine WX.region (opsOf (csnd (csnd (csnd (cfst (cfst (csnd (csnd (cfst (cfst (csnd (cfst (csnd (csnd B45)))))))))))))) (by kernel_rfl) ?_
      refine RX.psn 6 [(76, (Value.int .u64 v8_23)), (75, (Value.int .i64 (IntKind.i64.wrap (v22_4 + (a1.n : Int))))), (74, (Value.int .i64 (a1.n : Int))), (73, (Sl3.v a1)), (72, (Value.int .i64 v22_4)), (71, (Sl3.v s1))] (by kernel_rfl) ?_
      obtain ⟨p25, hx, h⟩ := bind_some h
      refine RX.at (some 77) (Value.pointer (some p25)) (by kernel_rfl) (by kernel_rfl) (fun ih => Abs.run_idx (s := s1) (k := .i64) (t := 24) (e := 38) (x := .tmp 71) (y := .tmp 75) (by kernel_rfl) (by kernel_rfl) (by kernel_rfl) (by kernel_rfl) (by kernel_rfl) hx) ?_
      obtain ⟨H26, hx, h⟩ := bind_some h
      refine RX.at none undef (by kernel_rfl) (by kernel_rfl) (fun ih => Abs.run_store1 (t := 38) (x := .tmp 77) (y := .tmp 76) (a := p25) (v := (Value.int .u64 v8_23)) (by kernel_rfl) (by kernel_rfl) (by kernel_rfl) (by kernel_rfl) (by kernel_rfl) hx) ?_
      refine RX.done (by kernel_rfl) ?_
      refine fun ss hs => blkN ((WX.nxt ?_ ss hs))
      refine WX.region (opsOf (csnd (csnd (csnd (cfst (cfst (csnd (cfst (csnd (csnd B45)))))))))) (by kernel_rfl) ?_
      refine RX.psn 2 [(22, (Value.int .i64 (IntKind.i64.wrap (v22_4 + 1)))), (78, (Value.int .i64 (IntKind.i64.wrap (v22_4 + 1))))] (by kernel_rfl) ?_
      refine RX.done (by kernel_rfl) ?_
      cases h
      exact fun ss hs => lpN rfl (hs.sub ((SubK.cons (by kernel_rfl) (SubK.cons (by kernel_rfl) (SubK.cons (by kernel_rfl) (SubK.cons (by kernel_rfl) (SubK.cons (by kernel_rfl) SubK.nil)))))))
    · dsimp only at h
      refine WX.loopR (by kernel_rfl) (nat_mul_b1 a0 a1 s1 v22_4 x6) (nat_mul_b1_kn a0 a1 s1 v22_4 x6) (fun s => s.1) 2 (fun r => RQ Try.f45 (nat_mul_enc r) (nat_mul_hp ⟨0, .nil⟩ r)) nat_mul_b1_ok hl ((SubK.cons (by kernel_rfl) (SubK.cons (by kernel_rfl) (SubK.cons (by kernel_rfl) (SubK.cons (by kernel_rfl) (SubK.cons (by kernel_rfl) (SubK.cons (by kernel_rfl) (SubK.cons (by kernel_rfl) (SubK.cons (by kernel_rfl) (SubK.cons (by kernel_rfl) (SubK.cons (by kernel_rfl) (SubK.cons (by kernel_rfl) SubK.nil)))))))))))) rfl ?_
      cases h
      exact fun ss H hq => blkR (seqR (blkR (seqR (lpR hq))))
  · refine WX.condF _ (decide_eq_false hp) (by kernel_rfl) ?_
    refine WX.exit 0 (by kernel_rfl) ?_
    cases h
    exact fun ss hs => seqE (lpB rfl (hs.sub ((SubK.cons (by kernel_rfl) (SubK.cons (by kernel_rfl) (SubK.cons (by kernel_rfl) (SubK.cons (by kernel_rfl) (SubK.cons (by kernel_rfl) SubK.nil))))))))

theorem nat_mul_ok {H : AH} {a0 : Sl3} {a1 : Sl3} {r : (Sl3 × AH)} (h : nat_mul H a0 a1 = some r) :
    CallE Try.prog 1000 4294967296 45 #[(Sl3.v a0), (Sl3.v a1)] H (nat_mul_enc r) (nat_mul_hp H r) := by
  refine CallE.mk (args := [(Sl3.v a0), (Sl3.v a1)]) Try.func45 (B := B45) (by kernel_rfl) ?_
  unfold nat_mul at h
  refine WX.seq (by kernel_rfl) ?_
  refine WX.region (opsOf (cfst B45)) (by kernel_rfl) ?_
  refine RX.psn 1 [(4, (Sl3.v Sl3.nil))] (by kernel_rfl) ?_
  refine RX.done (by kernel_rfl) ?_
  refine fun ss hs => (WX.nxt ?_ ss hs)
  refine WX.seq (by kernel_rfl) ?_
  refine WX.region (opsOf (cfst (csnd B45))) (by kernel_rfl) ?_
  refine RX.psn 5 [(18, (Value.int .i64 (IntKind.i64.wrap ((a0.n : Int) + (a1.n : Int))))), (17, (Value.int .i64 (a1.n : Int))), (16, (Sl3.v a1)), (15, (Value.int .i64 (a0.n : Int))), (14, (Sl3.v a0))] (by kernel_rfl) ?_
  obtain ⟨⟨s1, H2⟩, hx, h⟩ := bind_some h
  dsimp only at h
  refine RX.at (some 19) (Sl3.v s1) (by kernel_rfl) (by kernel_rfl) (fun ih => Abs.run_mk (t := 24) (x := .tmp 18) (y := .tmp 18) (k1 := .i64) (k2 := .i64) (by kernel_rfl) (by kernel_rfl) (by kernel_rfl) (by kernel_rfl) hx) ?_
  refine RX.psn 1 [(5, (Sl3.v s1))] (by kernel_rfl) ?_
  refine RX.done (by kernel_rfl) ?_
  refine fun ss hs => (WX.nxt ?_ ss hs)
  refine WX.seq (by kernel_rfl) ?_
  refine WX.seq (by kernel_rfl) ?_
  refine WX.region (opsOf (cfst (cfst (csnd (csnd B45))))) (by kernel_rfl) ?_
  refine RX.psn 3 [(22, (Value.int .i64 0)), (21, (Value.int .i64 (a0.n : Int))), (20, (Sl3.v a0))] (by kernel_rfl) ?_
  refine RX.done (by kernel_rfl) ?_
  refine fun ss hs => (WX.nxt ?_ ss hs)
  refine WX.block 0 (by kernel_rfl) ?_
  obtain ⟨o, hl, h⟩ := bind_some h
  rcases o with ⟨H27, v22_28⟩ | r
  · dsimp only at h
    refine WX.loopI (by kernel_rfl) (nat_mul_b0 a0 a1 s1) (nat_mul_b0_kn a0 a1 s1) (fun s => s.1) 0 (fun r => RQ Try.f45 (nat_mul_enc r) (nat_mul_hp ⟨0, .nil⟩ r)) nat_mul_b0_ok hl ((SubK.cons (by kernel_rfl) (SubK.cons (by kernel_rfl) (SubK.cons (by kernel_rfl) (SubK.cons (by kernel_rfl) (SubK.cons (by kernel_rfl) SubK.nil)))))) rfl ?_
    clear hl
    refine fun ss hs => blkE ((WX.nxt ?_ ss hs))
    refine WX.seq (by kernel_rfl) ?_
    refine WX.region (opsOf (cfst (csnd (csnd (csnd B45))))) (by kernel_rfl) ?_
    refine RX.psn 1 [(79, (Sl3.v s1))] (by kernel_rfl) ?_
    obtain ⟨x29, hx, h⟩ := bind_some h
    refine RX.callAt (some 80) (v := (Sl3.v x29)) 44 #[(Sl3.v s1)] (by kernel_rfl) (by kernel_rfl) (by kernel_rfl) (nat_trim_ok hx) ?_
    refine RX.psn 1 [(4, (Sl3.v x29))] (by kernel_rfl) ?_
    refine RX.done (by kernel_rfl) ?_
    refine fun ss hs => (WX.nxt ?_ ss hs)
    refine WX.ret (by kernel_rfl) ?_
    cases h
    exact fun ss hs => retR (rq hs (by kernel_rfl))
  · dsimp only at h
    refine WX.loopR (by kernel_rfl) (nat_mul_b0 a0 a1 s1) (nat_mul_b0_kn a0 a1 s1) (fun s => s.1) 0 (fun r => RQ Try.f45 (nat_mul_enc r) (nat_mul_hp ⟨0, .nil⟩ r)) nat_mul_b0_ok hl ((SubK.cons (by kernel_rfl) (SubK.cons (by kernel_rfl) (SubK.cons (by kernel_rfl) (SubK.cons (by kernel_rfl) (SubK.cons (by kernel_rfl) SubK.nil)))))) rfl ?_
    cases h
    exact fun ss H hq => blkR (seqR (retR hq))

noncomputable def B14 : Code := (Try.f14.body).getD .skip

def nat_Mul_enc : (Sl3 × Int × AH) → Value
  | (r0, r1, _) => (Value.tuple #[(Sl3.v r0), (Value.int .i64 r1)])

def nat_Mul_hp (_ : AH) : (Sl3 × Int × AH) → AH := fun r => r.2.2

noncomputable def nat_Mul_b0 (a0 : Sl3) : (AH × Sl3 × Int) → Option (Lp (AH × Sl3 × Int) (Sl3 × Int × AH)) := fun (H5, v4_6, v14_7) =>
  if v14_7 < (a0.n : Int) then
    Option.bind (idxA 1 a0 v14_7) fun p8 =>
    Option.bind (rd deSl H5 p8) fun x9 =>
    Option.bind (nat_trim H5 x9) fun x10 =>
    Option.bind (nat_mul H5 v4_6 x10) fun (x11, H12) =>
    Option.bind (newR 24 1 #[(Sl3.v x11)] H12) fun (s13, H14) =>
    Option.bind (nat_long H14 s13) fun x15 =>
    if x15 = true then
      some (.ret (Sl3.nil, 5, H14))
    else
      some (.next (H14, x11, (IntKind.i64.wrap (v14_7 + 1))))
  else
    some (.brk (H5, v4_6, v14_7))

def nat_Mul_b0_kn (a0 : Sl3) : (AH × Sl3 × Int) → Kn := fun (H5, v4_6, v14_7) => [(4, (Sl3.v v4_6)), (14, (Value.int .i64 v14_7)), (12, (Sl3.v a0)), (13, (Value.int .i64 (a0.n : Int)))]

noncomputable def nat_Mul (H : AH) (a0 : Sl3) : Option (Sl3 × Int × AH) :=
  Option.bind (nat_long H a0) fun x1 =>
  if x1 = true then
    some (Sl3.nil, 5, H)
  else
    Option.bind (slices_ContainsFunc__43 H a0) fun x2 =>
    if x2 = true then
      some (Sl3.nil, 0, H)
    else
      Option.bind (newR 38 1 #[(Value.int .u64 1)] H) fun (s3, H4) =>
      Option.bind (loopO (nat_Mul_b0 a0) (H4, s3, 0)) fun o => match o with
      | .inl (H16, v4_17, v14_18) =>
        Option.bind (nat_out H16 v4_17) fun (x19, x20, H21) =>
        some (x19, x20, H21)
      | .inr r => some r

theorem nat_Mul_b0_ok {a0 : Sl3} : ∀ s o, nat_Mul_b0 a0 s = some o →
    WX Try.prog 1000 4294967296 Try.f14.ntmps (cfst (cfst (csnd (cfst (csnd (csnd (csnd (csnd B14)))))))) (nat_Mul_b0_kn a0 s) ((fun s => s.1) s) (lpQ (nat_Mul_b0_kn a0) (fun s => s.1) 0 (fun r => RQ Try.f14 (nat_Mul_enc r) (nat_Mul_hp ⟨0, .nil⟩ r)) o) := by
  rintro ⟨H5, v4_6, v14_7⟩ o h
  unfold nat_Mul_b0 at h
  try dsimp only at h
  refine WX.seq (by kernel_rfl) ?_
  refine WX.region (opsOf (cfst (cfst (cfst (csnd (cfst (csnd (csnd (csnd (csnd B14)))))))))) (by kernel_rfl) ?_
  refine RX.psn 1 [(15, (Value.bool (decide (v14_7 < (a0.n : Int)))))] (by kernel_rfl) ?_
  refine RX.done (by kernel_rfl) ?_
  refine fun ss hs => (WX.nxt ?_ ss hs)
  refine WX.seq (by kernel_rfl) ?_
  rcases ite_some h with ⟨hp, h⟩ | ⟨hp, h⟩
  · refine WX.condT _ (decide_eq_true hp) (by kernel_rfl) ?_
    refine WX.skip (by kernel_rfl) ?_
    refine fun ss hs => (WX.nxt ?_ ss hs)
    refine WX.seq (by kernel_rfl) ?_
    refine WX.block 1 (by kernel_rfl) ?_
    refine WX.seq (by kernel_rfl) ?_
    refine WX.region (opsOf (cfst (cfst (cfst (csnd (csnd (cfst (cfst (csnd (cfst (csnd (csnd (csnd (csnd B14)))))))))))))) (by kernel_rfl) ?_
    obtain ⟨p8, hx, h⟩ := bind_some h
    refine RX.at (some 16) (Value.pointer (some p8)) (by kernel_rfl) (by kernel_rfl) (fun ih => Abs.run_idx (s := a0) (k := .i64) (t := 22) (e := 24) (x := .tmp 12) (y := .tmp 14) (by kernel_rfl) (by kernel_rfl) (by kernel_rfl) (by kernel_rfl) (by kernel_rfl) hx) ?_
    obtain ⟨x9, hx, h⟩ := bind_some h
    refine RX.at (some 17) (Sl3.v x9) (by kernel_rfl) (by kernel_rfl) (fun ih => Abs.run_load (t := 24) (x := .tmp 16) (a := p8) (by kernel_rfl) (by kernel_rfl) (by kernel_rfl) (rd_cell hx deSl_inv)) ?_
    refine RX.psn 1 [(6, (Sl3.v x9))] (by kernel_rfl) ?_
    refine RX.done (by kernel_rfl) ?_
    refine fun ss hs => (WX.nxt ?_ ss hs)
    refine WX.seq (by kernel_rfl) ?_
    refine WX.region (opsOf (cfst (csnd (cfst (cfst (csnd (csnd (cfst (cfst (csnd (cfst (csnd (csnd (csnd (csnd B14))))))))))))))) (by kernel_rfl) ?_
    refine RX.psn 2 [(19, (Sl3.v x9)), (18, (Sl3.v v4_6))] (by kernel_rfl) ?_
    obtain ⟨x10, hx, h⟩ := bind_some h
    refine RX.callAt (some 20) (v := (Sl3.v x10)) 44 #[(Sl3.v x9)] (by kernel_rfl) (by kernel_rfl) (by kernel_rfl) (nat_trim_ok hx) ?_
    obtain ⟨⟨x11, H12⟩, hx, h⟩ := bind_some h
    dsimp only at h
    refine RX.callAt (some 21) (v := (Sl3.v x11)) 45 #[(Sl3.v v4_6), (Sl3.v x10)] (by kernel_rfl) (by kernel_rfl) (by kernel_rfl) (nat_mul_ok hx) ?_
    refine RX.psn 1 [(4, (Sl3.v x11))] (by kernel_rfl) ?_
    refine RX.done (by kernel_rfl) ?_
    refine fun ss hs => (WX.nxt ?_ ss hs)
    refine WX.seq (by kernel_rfl) ?_
    refine WX.region (opsOf (cfst (csnd (csnd (cfst (cfst (csnd (csnd (cfst (cfst (csnd (cfst (csnd (csnd (csnd (csnd B14)))))))))))))))) (by kernel_rfl) ?_
    refine RX.psn 1 [(22, (Sl3.v x11))] (by kernel_rfl) ?_
    obtain ⟨⟨s13, H14⟩, hx, h⟩ := bind_some h
    dsimp only at h
    refine RX.at (some 23) (Sl3.v s13) (by kernel_rfl) (by kernel_rfl) (fun ih => Abs.run_newR (by kernel_rfl) (by kernel_rfl) hx) ?_
    obtain ⟨x15, hx, h⟩ := bind_some h
    refine RX.callAt (some 24) (v := (Value.bool x15)) 41 #[(Sl3.v s13)] (by kernel_rfl) (by kernel_rfl) (by kernel_rfl) (nat_long_ok hx) ?_
    refine RX.done (by kernel_rfl) ?_
    refine fun ss hs => (WX.nxt ?_ ss hs)
    rcases ite_some h with ⟨hp, h⟩ | ⟨hp, h⟩
    · refine WX.condT _ hp (by kernel_rfl) ?_
      refine WX.seq (by kernel_rfl) ?_
      refine WX.region (opsOf (cfst (cfst (csnd (csnd (csnd (cfst (cfst (csnd (csnd (cfst (cfst (csnd (cfst (csnd (csnd (csnd (csnd B14)))))))))))))))))) (by kernel_rfl) ?_
      refine RX.psn 2 [(3, (Value.int .i64 5)), (2, (Sl3.v Sl3.nil))] (by kernel_rfl) ?_
      refine RX.done (by kernel_rfl) ?_
      refine fun ss hs => (WX.nxt ?_ ss hs)
      refine WX.ret (by kernel_rfl) ?_
      cases h
      exact fun ss hs => blkR (seqR (lpR (rq hs (by kernel_rfl))))
    · refine WX.condF _ (b_not hp) (by kernel_rfl) ?_
      refine WX.skip (by kernel_rfl) ?_
      refine fun ss hs => blkN ((WX.nxt ?_ ss hs))
      refine WX.region (opsOf (csnd (csnd (csnd (cfst (cfst (csnd (cfst (csnd (csnd (csnd (csnd B14)))))))))))) (by kernel_rfl) ?_
      refine RX.psn 2 [(14, (Value.int .i64 (IntKind.i64.wrap (v14_7 + 1)))), (25, (Value.int .i64 (IntKind.i64.wrap (v14_7 + 1))))] (by kernel_rfl) ?_
      refine RX.done (by kernel_rfl) ?_
      cases h
      exact fun ss hs => lpN rfl (hs.sub ((SubK.cons (by kernel_rfl) (SubK.cons (by kernel_rfl) (SubK.cons (by kernel_rfl) (SubK.cons (by kernel_rfl) SubK.nil))))))
  · refine WX.condF _ (decide_eq_false hp) (by kernel_rfl) ?_
    refine WX.exit 0 (by kernel_rfl) ?_
    cases h
    exact fun ss hs => seqE (lpB rfl (hs.sub ((SubK.cons (by kernel_rfl) (SubK.cons (by kernel_rfl) (SubK.cons (by kernel_rfl) (SubK.cons (by kernel_rfl) SubK.nil)))))))

theorem nat_Mul_ok {H : AH} {a0 : Sl3} {r : (Sl3 × Int × AH)} (h : nat_Mul H a0 = some r) :
    CallE Try.prog 1000 4294967296 14 #[(Sl3.v a0)] H (nat_Mul_enc r) (nat_Mul_hp H r) := by
  refine CallE.mk (args := [(Sl3.v a0)]) Try.func14 (B := B14) (by kernel_rfl) ?_
  unfold nat_Mul at h
  refine WX.seq (by kernel_rfl) ?_
  refine WX.region (opsOf (cfst B14)) (by kernel_rfl) ?_
  refine RX.psn 2 [(3, (Value.int .i64 0)), (2, (Sl3.v Sl3.nil))] (by kernel_rfl) ?_
  refine RX.done (by kernel_rfl) ?_
  refine fun ss hs => (WX.nxt ?_ ss hs)
  refine WX.seq (by kernel_rfl) ?_
  refine WX.seq (by kernel_rfl) ?_
  refine WX.region (opsOf (cfst (cfst (csnd B14)))) (by kernel_rfl) ?_
  refine RX.psn 1 [(7, (Sl3.v a0))] (by kernel_rfl) ?_
  obtain ⟨x1, hx, h⟩ := bind_some h
  refine RX.callAt (some 8) (v := (Value.bool x1)) 41 #[(Sl3.v a0)] (by kernel_rfl) (by kernel_rfl) (by kernel_rfl) (nat_long_ok hx) ?_
  refine RX.done (by kernel_rfl) ?_
  refine fun ss hs => (WX.nxt ?_ ss hs)
  rcases ite_some h with ⟨hp, h⟩ | ⟨hp, h⟩
  · refine WX.condT _ hp (by kernel_rfl) ?_
    refine WX.seq (by kernel_rfl) ?_
    refine WX.region (opsOf (cfst (cfst (csnd (cfst (csnd B14)))))) (by kernel_rfl) ?_
    refine RX.psn 2 [(3, (Value.int .i64 5)), (2, (Sl3.v Sl3.nil))] (by kernel_rfl) ?_
    refine RX.done (by kernel_rfl) ?_
    refine fun ss hs => (WX.nxt ?_ ss hs)
    refine WX.ret (by kernel_rfl) ?_
    cases h
    exact fun ss hs => seqR (retR (rq hs (by kernel_rfl)))
  · refine WX.condF _ (b_not hp) (by kernel_rfl) ?_
    refine WX.skip (by kernel_rfl) ?_
    refine fun ss hs => (WX.nxt ?_ ss hs)
    refine WX.seq (by kernel_rfl) ?_
    refine WX.seq (by kernel_rfl) ?_
    refine WX.region (opsOf (cfst (cfst (csnd (csnd B14))))) (by kernel_rfl) ?_
    refine RX.psn 1 [(9, (Sl3.v a0))] (by kernel_rfl) ?_
    obtain ⟨x2, hx, h⟩ := bind_some h
    refine RX.callAt (some 10) (v := (Value.bool x2)) 42 #[(Sl3.v a0), (Value.func (.func 43) #[] #[])] (by kernel_rfl) (by kernel_rfl) (by kernel_rfl) (slices_ContainsFunc__43_ok hx) ?_
    refine RX.done (by kernel_rfl) ?_
    refine fun ss hs => (WX.nxt ?_ ss hs)
    rcases ite_some h with ⟨hp, h⟩ | ⟨hp, h⟩
    · refine WX.condT _ hp (by kernel_rfl) ?_
      refine WX.seq (by kernel_rfl) ?_
      refine WX.region (opsOf (cfst (cfst (csnd (cfst (csnd (csnd B14))))))) (by kernel_rfl) ?_
      refine RX.psn 2 [(3, (Value.int .i64 0)), (2, (Sl3.v Sl3.nil))] (by kernel_rfl) ?_
      refine RX.done (by kernel_rfl) ?_
      refine fun ss hs => (WX.nxt ?_ ss hs)
      refine WX.ret (by kernel_rfl) ?_
      cases h
      exact fun ss hs => seqR (retR (rq hs (by kernel_rfl)))
    · refine WX.condF _ (b_not hp) (by kernel_rfl) ?_
      refine WX.skip (by kernel_rfl) ?_
      refine fun ss hs => (WX.nxt ?_ ss hs)
      refine WX.seq (by kernel_rfl) ?_
      refine WX.region (opsOf (cfst (csnd (csnd (csnd B14))))) (by kernel_rfl) ?_
      obtain ⟨⟨s3, H4⟩, hx, h⟩ := bind_some h
      dsimp only at h
      refine RX.at (some 11) (Sl3.v s3) (by kernel_rfl) (by kernel_rfl) (fun ih => Abs.run_newR (by kernel_rfl) (by kernel_rfl) hx) ?_
      refine RX.psn 1 [(4, (Sl3.v s3))] (by kernel_rfl) ?_
      refine RX.done (by kernel_rfl) ?_
      refine fun ss hs => (WX.nxt ?_ ss hs)
      refine WX.seq (by kernel_rfl) ?_
      refine WX.seq (by kernel_rfl) ?_
      refine WX.region (opsOf (cfst (cfst (csnd (csnd (csnd (csnd B14))))))) (by kernel_rfl) ?_
      refine RX.psn 3 [(14, (Value.int .i64 0)), (13, (Value.int .i64 (a0.n : Int))), (12, (Sl3.v a0))] (by kernel_rfl) ?_
      refine RX.done (by kernel_rfl) ?_
      refine fun ss hs => (WX.nxt ?_ ss hs)
      refine WX.block 0 (by kernel_rfl) ?_
      obtain ⟨o, hl, h⟩ := bind_some h
      rcases o with ⟨H16, v4_17, v14_18⟩ | r
      · dsimp only at h
        refine WX.loopI (by kernel_rfl) (nat_Mul_b0 a0) (nat_Mul_b0_kn a0) (fun s => s.1) 0 (fun r => RQ Try.f14 (nat_Mul_enc r) (nat_Mul_hp ⟨0, .nil⟩ r)) nat_Mul_b0_ok hl ((SubK.cons (by kernel_rfl) (SubK.cons (by kernel_rfl) (SubK.cons (by kernel_rfl) (SubK.cons (by kernel_rfl) SubK.nil))))) rfl ?_
        clear hl
        refine fun ss hs => blkE ((WX.nxt ?_ ss hs))
        refine WX.seq (by kernel_rfl) ?_
        refine WX.region (opsOf (cfst (csnd (csnd (csnd (csnd (csnd B14))))))) (by kernel_rfl) ?_
        refine RX.psn 1 [(26, (Sl3.v v4_17))] (by kernel_rfl) ?_
        obtain ⟨⟨x19, x20, H21⟩, hx, h⟩ := bind_some h
        dsimp only at h
        refine RX.callAt (some 27) (v := (Value.tuple #[(Sl3.v x19), (Value.int .i64 x20)])) 46 #[(Sl3.v v4_17)] (by kernel_rfl) (by kernel_rfl) (by kernel_rfl) (nat_out_ok hx) ?_
        refine RX.psn 4 [(3, (Value.int .i64 x20)), (2, (Sl3.v x19)), (29, (Value.int .i64 x20)), (28, (Sl3.v x19))] (by kernel_rfl) ?_
        refine RX.done (by kernel_rfl) ?_
        refine fun ss hs => (WX.nxt ?_ ss hs)
        refine WX.ret (by kernel_rfl) ?_
        cases h
        exact fun ss hs => retR (rq hs (by kernel_rfl))
      · dsimp only at h
        refine WX.loopR (by kernel_rfl) (nat_Mul_b0 a0) (nat_Mul_b0_kn a0) (fun s => s.1) 0 (fun r => RQ Try.f14 (nat_Mul_enc r) (nat_Mul_hp ⟨0, .nil⟩ r)) nat_Mul_b0_ok hl ((SubK.cons (by kernel_rfl) (SubK.cons (by kernel_rfl) (SubK.cons (by kernel_rfl) (SubK.cons (by kernel_rfl) SubK.nil))))) rfl ?_
        cases h
        exact fun ss H hq => blkR (seqR (retR hq))

noncomputable def B24 : Code := (Try.f24.body).getD .skip

def nat_Of_enc : (Sl3 × AH) → Value
  | (r0, _) => (Sl3.v r0)

def nat_Of_hp (_ : AH) : (Sl3 × AH) → AH := fun r => r.2

noncomputable def nat_Of (H : AH) (a0 : Int) : Option (Sl3 × AH) :=
  Option.bind (newR 38 1 #[(Value.int .u64 a0)] H) fun (s1, H2) =>
  Option.bind (nat_own H2 s1) fun (x3, H4) =>
  some (x3, H4)

theorem nat_Of_ok {H : AH} {a0 : Int} {r : (Sl3 × AH)} (h : nat_Of H a0 = some r) :
    CallE Try.prog 1000 4294967296 24 #[(Value.int .u64 a0)] H (nat_Of_enc r) (nat_Of_hp H r) := by
  refine CallE.mk (args := [(Value.int .u64 a0)]) Try.func24 (B := B24) (by kernel_rfl) ?_
  unfold nat_Of at h
  refine WX.seq (by kernel_rfl) ?_
  refine WX.region (opsOf (cfst B24)) (by kernel_rfl) ?_
  refine RX.psn 1 [(2, (Sl3.v Sl3.nil))] (by kernel_rfl) ?_
  refine RX.done (by kernel_rfl) ?_
  refine fun ss hs => (WX.nxt ?_ ss hs)
  refine WX.seq (by kernel_rfl) ?_
  refine WX.region (opsOf (cfst (csnd B24))) (by kernel_rfl) ?_
  refine RX.psn 1 [(3, (Value.int .u64 a0))] (by kernel_rfl) ?_
  obtain ⟨⟨s1, H2⟩, hx, h⟩ := bind_some h
  dsimp only at h
  refine RX.at (some 4) (Sl3.v s1) (by kernel_rfl) (by kernel_rfl) (fun ih => Abs.run_newR (by kernel_rfl) (by kernel_rfl) hx) ?_
  obtain ⟨⟨x3, H4⟩, hx, h⟩ := bind_some h
  dsimp only at h
  refine RX.callAt (some 5) (v := (Sl3.v x3)) 52 #[(Sl3.v s1)] (by kernel_rfl) (by kernel_rfl) (by kernel_rfl) (nat_own_ok hx) ?_
  refine RX.psn 1 [(2, (Sl3.v x3))] (by kernel_rfl) ?_
  refine RX.done (by kernel_rfl) ?_
  refine fun ss hs => (WX.nxt ?_ ss hs)
  refine WX.ret (by kernel_rfl) ?_
  cases h
  exact fun ss hs => retR (rq hs (by kernel_rfl))

noncomputable def B38 : Code := (Try.f38.body).getD .skip

def nat_Quo_enc : (Sl3 × Sl3 × Int × AH) → Value
  | (r0, r1, r2, _) => (Value.tuple #[(Sl3.v r0), (Sl3.v r1), (Value.int .i64 r2)])

def nat_Quo_hp (_ : AH) : (Sl3 × Sl3 × Int × AH) → AH := fun r => r.2.2.2

noncomputable def nat_Quo (H : AH) (a0 : Sl3) (a1 : Sl3) : Option (Sl3 × Sl3 × Int × AH) :=
  Option.bind (newR 24 2 #[(Sl3.v a0), (Sl3.v a1)] H) fun (s1, H2) =>
  Option.bind (nat_long H2 s1) fun x3 =>
  if x3 = true then
    some (Sl3.nil, Sl3.nil, 5, H2)
  else
    Option.bind (nat_trim H2 a1) fun x4 =>
    if (x4.n : Int) = 0 then
      some (Sl3.nil, Sl3.nil, 11, H2)
    else
      Option.bind (nat_trim H2 a0) fun x5 =>
      Option.bind (nat_trim H2 a1) fun x6 =>
      Option.bind (nat_quo H2 x5 x6) fun (x7, x8, H9) =>
      Option.bind (nat_own H9 x7) fun (x10, H11) =>
      Option.bind (nat_own H11 x8) fun (x12, H13) =>
      some (x10, x12, 0, H13)

theorem nat_Quo_ok {H : AH} {a0 : Sl3} {a1 : Sl3} {r : (Sl3 × Sl3 × Int × AH)} (h : nat_Quo H a0 a1 = some r) :
    CallE Try.prog 1000 4294967296 38 #[(Sl3.v a0), (Sl3.v a1)] H (nat_Quo_enc r) (nat_Quo_hp H r) := by
  refine CallE.mk (args := [(Sl3.v a0), (Sl3.v a1)]) Try.func38 (B := B38) (by kernel_rfl) ?_
  unfold nat_Quo at h
  refine WX.seq (by kernel_rfl) ?_
  refine WX.region (opsOf (cfst B38)) (by kernel_rfl) ?_
  refine RX.psn 3 [(6, (Value.int .i64 0)), (5, (Sl3.v Sl3.nil)), (4, (Sl3.v Sl3.nil))] (by kernel_rfl) ?_
  refine RX.done (by kernel_rfl) ?_
  refine fun ss hs => (WX.nxt ?_ ss hs)
  refine WX.seq (by kernel_rfl) ?_
  refine WX.seq (by kernel_rfl) ?_
  refine WX.region (opsOf (cfst (cfst (csnd B38)))) (by kernel_rfl) ?_
  refine RX.psn 2 [(10, (Sl3.v a1)), (9, (Sl3.v a0))] (by kernel_rfl) ?_
  obtain ⟨⟨s1, H2⟩, hx, h⟩ := bind_some h
  dsimp only at h
  refine RX.at (some 11) (Sl3.v s1) (by kernel_rfl) (by kernel_rfl) (fun ih => Abs.run_newR (by kernel_rfl) (by kernel_rfl) hx) ?_
  obtain ⟨x3, hx, h⟩ := bind_some h
  refine RX.callAt (some 12) (v := (Value.bool x3)) 41 #[(Sl3.v s1)] (by kernel_rfl) (by kernel_rfl) (by kernel_rfl) (nat_long_ok hx) ?_
  refine RX.done (by kernel_rfl) ?_
  refine fun ss hs => (WX.nxt ?_ ss hs)
  rcases ite_some h with ⟨hp, h⟩ | ⟨hp, h⟩
  · refine WX.condT _ hp (by kernel_rfl) ?_
    refine WX.seq (by kernel_rfl) ?_
    refine WX.region (opsOf (cfst (cfst (csnd (cfst (csnd B38)))))) (by kernel_rfl) ?_
    refine RX.psn 3 [(6, (Value.int .i64 5)), (5, (Sl3.v Sl3.nil)), (4, (Sl3.v Sl3.nil))] (by kernel_rfl) ?_
    refine RX.done (by kernel_rfl) ?_
    refine fun ss hs => (WX.nxt ?_ ss hs)
    refine WX.ret (by kernel_rfl) ?_
    cases h
    exact fun ss hs => seqR (retR (rq hs (by kernel_rfl)))
  · refine WX.condF _ (b_not hp) (by kernel_rfl) ?_
    refine WX.skip (by kernel_rfl) ?_
    refine fun ss hs => (WX.nxt ?_ ss hs)
    refine WX.seq (by kernel_rfl) ?_
    refine WX.seq (by kernel_rfl) ?_
    refine WX.region (opsOf (cfst (cfst (csnd (csnd B38))))) (by kernel_rfl) ?_
    refine RX.psn 1 [(13, (Sl3.v a1))] (by kernel_rfl) ?_
    obtain ⟨x4, hx, h⟩ := bind_some h
    refine RX.callAt (some 14) (v := (Sl3.v x4)) 44 #[(Sl3.v a1)] (by kernel_rfl) (by kernel_rfl) (by kernel_rfl) (nat_trim_ok hx) ?_
    refine RX.psn 2 [(16, (Value.bool (decide ((x4.n : Int) = 0)))), (15, (Value.int .i64 (x4.n : Int)))] (by kernel_rfl) ?_
    refine RX.done (by kernel_rfl) ?_
    refine fun ss hs => (WX.nxt ?_ ss hs)
    rcases ite_some h with ⟨hp, h⟩ | ⟨hp, h⟩
    · refine WX.condT _ (decide_eq_true hp) (by kernel_rfl) ?_
      refine WX.seq (by kernel_rfl) ?_
      refine WX.region (opsOf (cfst (cfst (csnd (cfst (csnd (csnd B38))))))) (by kernel_rfl) ?_
      refine RX.psn 3 [(6, (Value.int .i64 11)), (5, (Sl3.v Sl3.nil)), (4, (Sl3.v Sl3.nil))] (by kernel_rfl) ?_
      refine RX.done (by kernel_rfl) ?_
      refine fun ss hs => (WX.nxt ?_ ss hs)
      refine WX.ret (by kernel_rfl) ?_
      cases h
      exact fun ss hs => seqR (retR (rq hs (by kernel_rfl)))
    · refine WX.condF _ (decide_eq_false hp) (by kernel_rfl) ?_
      refine WX.skip (by kernel_rfl) ?_
      refine fun ss hs => (WX.nxt ?_ ss hs)
      refine WX.seq (by kernel_rfl) ?_
      refine WX.region (opsOf (cfst (csnd (csnd (csnd B38))))) (by kernel_rfl) ?_
      refine RX.psn 1 [(18, (Sl3.v a0))] (by kernel_rfl) ?_
      obtain ⟨x5, hx, h⟩ := bind_some h
      refine RX.callAt (some 19) (v := (Sl3.v x5)) 44 #[(Sl3.v a0)] (by kernel_rfl) (by kernel_rfl) (by kernel_rfl) (nat_trim_ok hx) ?_
      refine RX.psn 1 [(20, (Sl3.v a1))] (by kernel_rfl) ?_
      obtain ⟨x6, hx, h⟩ := bind_some h
      refine RX.callAt (some 21) (v := (Sl3.v x6)) 44 #[(Sl3.v a1)] (by kernel_rfl) (by kernel_rfl) (by kernel_rfl) (nat_trim_ok hx) ?_
      obtain ⟨⟨x7, x8, H9⟩, hx, h⟩ := bind_some h
      dsimp only at h
      refine RX.callAt (some 22) (v := (Value.tuple #[(Sl3.v x7), (Sl3.v x8)])) 68 #[(Sl3.v x5), (Sl3.v x6)] (by kernel_rfl) (by kernel_rfl) (by kernel_rfl) (nat_quo_ok hx) ?_
      refine RX.psn 5 [(8, (Sl3.v x8)), (7, (Sl3.v x7)), (24, (Sl3.v x8)), (23, (Sl3.v x7)), (17, (Value.tuple #[(Sl3.v x7), (Sl3.v x8)]))] (by kernel_rfl) ?_
      refine RX.done (by kernel_rfl) ?_
      refine fun ss hs => (WX.nxt ?_ ss hs)
      refine WX.seq (by kernel_rfl) ?_
      refine WX.region (opsOf (cfst (csnd (csnd (csnd (csnd B38)))))) (by kernel_rfl) ?_
      refine RX.psn 1 [(25, (Sl3.v x7))] (by kernel_rfl) ?_
      obtain ⟨⟨x10, H11⟩, hx, h⟩ := bind_some h
      dsimp only at h
      refine RX.callAt (some 26) (v := (Sl3.v x10)) 52 #[(Sl3.v x7)] (by kernel_rfl) (by kernel_rfl) (by kernel_rfl) (nat_own_ok hx) ?_
      refine RX.psn 1 [(27, (Sl3.v x8))] (by kernel_rfl) ?_
      obtain ⟨⟨x12, H13⟩, hx, h⟩ := bind_some h
      dsimp only at h
      refine RX.callAt (some 28) (v := (Sl3.v x12)) 52 #[(Sl3.v x8)] (by kernel_rfl) (by kernel_rfl) (by kernel_rfl) (nat_own_ok hx) ?_
      refine RX.psn 3 [(6, (Value.int .i64 0)), (5, (Sl3.v x12)), (4, (Sl3.v x10))] (by kernel_rfl) ?_
      refine RX.done (by kernel_rfl) ?_
      refine fun ss hs => (WX.nxt ?_ ss hs)
      refine WX.ret (by kernel_rfl) ?_
      cases h
      exact fun ss hs => retR (rq hs (by kernel_rfl))

end Go.Proofs.Ytoadagekdnkciaa

namespace Go.Proofs.Ytoadagekdnkciaa
open Go Go.Abs
set_option maxRecDepth 100000

noncomputable def B18 : Code := (Try.f18.body).getD .skip

def nat_Text_enc : (ByteArray × Int × AH) → Value
  | (r0, r1, _) => (Value.tuple #[(Value.string r0), (Value.int .i64 r1)])

def nat_Text_hp (_ : AH) : (ByteArray × Int × AH) → AH := fun r => r.2.2

noncomputable def nat_Text_b1 (a1 : Int) (x9 : Sl3) : (AH × Sl3 × Int × Int) → Option (Lp (AH × Sl3 × Int × Int) (ByteArray × Int × AH)) := fun (H12, v6_13, v7_14, v8_15) =>
  Option.bind (α := Unit ⊕ (Lp (AH × Sl3 × Int × Int) (ByteArray × Int × AH))) (
    if v8_15 < 19 then
      if v7_14 > 0 then
        some (.inl ())
      else
        if (x9.n : Int) > 0 then
          some (.inl ())
        else
          ((some (.brk (H12, v6_13, v7_14, v8_15))).map .inr)
    else
      ((some (.brk (H12, v6_13, v7_14, v8_15))).map .inr)) fun o => match o with
  | .inl _ =>
    Option.bind (bytA (⟨#[48, 49, 50, 51, 52, 53, 54, 55, 56, 57, 97, 98, 99, 100, 101, 102]⟩ : ByteArray) (Int.tmod v7_14 10)) fun x16 =>
    Option.bind (newR 5 1 #[(Value.int .u8 x16)] H12) fun (s17, H18) =>
    Option.bind (appS 4294967296 5 1 1 H18 v6_13 s17) fun (s19, H20) =>
    some (.next (H20, s19, (IntKind.u64.wrap (Int.tdiv v7_14 10)), (IntKind.i64.wrap (v8_15 + 1))))
  | .inr r => some r

def nat_Text_b1_kn (a1 : Int) (x9 : Sl3) : (AH × Sl3 × Int × Int) → Kn := fun (H12, v6_13, v7_14, v8_15) => [(6, (Sl3.v v6_13)), (7, (Value.int .u64 v7_14)), (8, (Value.int .i64 v8_15)), (0, (Sl3.v x9)), (1, (Value.int .i64 a1))]

noncomputable def nat_Text_b2 (a1 : Int) (x25 : Sl3) : (AH × Sl3 × Int × Int) → Option (Lp (AH × Sl3 × Int × Int) (ByteArray × Int × AH)) := fun (H28, v6_29, v9_30, v10_31) =>
  Option.bind (α := Unit ⊕ (Lp (AH × Sl3 × Int × Int) (ByteArray × Int × AH))) (
    if v10_31 < 32 then
      if v9_30 > 0 then
        some (.inl ())
      else
        if (x25.n : Int) > 0 then
          some (.inl ())
        else
          ((some (.brk (H28, v6_29, v9_30, v10_31))).map .inr)
    else
      ((some (.brk (H28, v6_29, v9_30, v10_31))).map .inr)) fun o => match o with
  | .inl _ =>
    if (IntKind.u64.wrap a1) = 0 then none else
    Option.bind (bytA (⟨#[48, 49, 50, 51, 52, 53, 54, 55, 56, 57, 97, 98, 99, 100, 101, 102]⟩ : ByteArray) (Int.tmod v9_30 (IntKind.u64.wrap a1))) fun x32 =>
    Option.bind (newR 5 1 #[(Value.int .u8 x32)] H28) fun (s33, H34) =>
    Option.bind (appS 4294967296 5 1 1 H34 v6_29 s33) fun (s35, H36) =>
    if (IntKind.u64.wrap a1) = 0 then none else
    Option.bind (bits_Len (IntKind.u64.wrap (IntKind.i64.wrap (a1 - 1)))) fun x37 =>
    some (.next (H36, s35, (IntKind.u64.wrap (Int.tdiv v9_30 (IntKind.u64.wrap a1))), (IntKind.i64.wrap (v10_31 + x37))))
  | .inr r => some r

def nat_Text_b2_kn (a1 : Int) (x25 : Sl3) : (AH × Sl3 × Int × Int) → Kn := fun (H28, v6_29, v9_30, v10_31) => [(6, (Sl3.v v6_29)), (9, (Value.int .u64 v9_30)), (10, (Value.int .i64 v10_31)), (0, (Sl3.v x25)), (1, (Value.int .i64 a1))]

noncomputable def nat_Text_b0 (a1 : Int) : (AH × Sl3 × Sl3) → Option (Lp (AH × Sl3 × Sl3) (ByteArray × Int × AH)) := fun (H6, v0_7, v6_8) =>
  if (v0_7.n : Int) > 0 then
    if a1 = 10 then
      Option.bind (nat_single H6 v0_7 10000000000000000000) fun (x9, x10, H11) =>
      Option.bind (loopO (nat_Text_b1 a1 x9) (H11, v6_8, x10, 0)) fun o => match o with
      | .inl (H21, v6_22, v7_23, v8_24) =>
        some (.next (H21, x9, v6_22))
      | .inr r => some (.ret r)
    else
      Option.bind (nat_single H6 v0_7 4294967296) fun (x25, x26, H27) =>
      Option.bind (loopO (nat_Text_b2 a1 x25) (H27, v6_8, x26, 0)) fun o => match o with
      | .inl (H38, v6_39, v9_40, v10_41) =>
        some (.next (H38, x25, v6_39))
      | .inr r => some (.ret r)
  else
    some (.brk (H6, v0_7, v6_8))

def nat_Text_b0_kn (a1 : Int) : (AH × Sl3 × Sl3) → Kn := fun (H6, v0_7, v6_8) => [(0, (Sl3.v v0_7)), (6, (Sl3.v v6_8)), (1, (Value.int .i64 a1))]

noncomputable def nat_Text (H : AH) (a0 : Sl3) (a1 : Int) : Option (ByteArray × Int × AH) :=
  Option.bind (α := Unit ⊕ (ByteArray × Int × AH)) (
    if a1 = 2 then
      some (.inl ())
    else
      if a1 = 10 then
        some (.inl ())
      else
        if a1 = 16 then
          some (.inl ())
        else
          ((some ((⟨#[]⟩ : ByteArray), 12, H)).map .inr)) fun o => match o with
  | .inl _ =>
    Option.bind (newR 24 1 #[(Sl3.v a0)] H) fun (s1, H2) =>
    Option.bind (nat_long H2 s1) fun x3 =>
    if x3 = true then
      some ((⟨#[]⟩ : ByteArray), 5, H2)
    else
      Option.bind (nat_own H2 a0) fun (x4, H5) =>
      Option.bind (loopO (nat_Text_b0 a1) (H5, x4, Sl3.nil)) fun o => match o with
      | .inl (H42, v0_43, v6_44) =>
        if (v6_44.n : Int) = 0 then
          some ((⟨#[48]⟩ : ByteArray), 0, H42)
        else
          Option.bind (slices_Reverse H42 v6_44) fun H45 =>
          Option.bind (bts H45 v6_44) fun s46 =>
          some (s46, 0, H45)
      | .inr r => some r
  | .inr r => some r

theorem nat_Text_b1_ok {a1 : Int} {x9 : Sl3} : ∀ s o, nat_Text_b1 a1 x9 s = some o →
    WX Try.prog 1000 4294967296 Try.f18.ntmps (cfst (cfst (csnd (cfst (csnd (csnd (cfst (csnd (cfst (cfst (csnd (cfst (cfst (cfst (csnd (csnd (csnd (csnd (csnd B18))))))))))))))))))) (nat_Text_b1_kn a1 x9 s) ((fun s => s.1) s) (lpQ (nat_Text_b1_kn a1 x9) (fun s => s.1) 2 (fun r => RQ Try.f18 (nat_Text_enc r) (nat_Text_hp ⟨0, .nil⟩ r)) o) := by
  rintro ⟨H12, v6_13, v7_14, v8_15⟩ o h
  unfold nat_Text_b1 at h
  try dsimp only at h
  obtain ⟨o, hx, h⟩ := bind_some h
  rcases o with _ | ro
  · dsimp only at h
    refine WX.seq (by kernel_rfl) ?_
    refine WX.join ([(0, (Sl3.v x9)), (1, (Value.int .i64 a1)), (6, (Sl3.v v6_13)), (7, (Value.int .u64 v7_14)), (8, (Value.int .i64 v8_15))]) H12 ?_ (fun ss hs => WX.nxt ?_ ss hs)
    · clear h; rename _ => h
      refine WX.seq (by kernel_rfl) ?_
      refine WX.region (opsOf (cfst (cfst (cfst (cfst (csnd (cfst (csnd (csnd (cfst (csnd (cfst (cfst (csnd (cfst (cfst (cfst (csnd (csnd (csnd (csnd (csnd B18)))))))))))))))))))))) (by kernel_rfl) ?_
      refine RX.psn 3 [(38, (Value.bool (decide (v8_15 < 19)))), (37, (Value.bool (decide (v8_15 < 19)))), (36, (Value.int .i64 v8_15))] (by kernel_rfl) ?_
      rcases ite_some h with ⟨hp, h⟩ | ⟨hp, h⟩
      · refine RX.fix 38 true (decide_eq_true hp) (by kernel_rfl) ?_
        refine RX.psn 3 [(41, (Value.bool (decide (v7_14 > 0)))), (40, (Value.bool (decide (v7_14 > 0)))), (39, (Value.int .u64 v7_14))] (by kernel_rfl) ?_
        rcases ite_some h with ⟨hp, h⟩ | ⟨hp, h⟩
        · refine RX.fix 41 true (decide_eq_true hp) (by kernel_rfl) ?_
          refine RX.psn 5 [(46, (Value.bool true)), (45, (Value.bool true)), (44, undef), (43, undef), (42, undef)] (by kernel_rfl) ?_
          refine RX.done (by kernel_rfl) ?_
          refine fun ss hs => (WX.nxt ?_ ss hs)
          refine WX.condT true rfl (by kernel_rfl) ?_
          refine WX.skip (by kernel_rfl) ?_
          cases h
          exact fun ss hs => ⟨rfl, hs.sub ((SubK.cons (by kernel_rfl) (SubK.cons (by kernel_rfl) (SubK.cons (by kernel_rfl) (SubK.cons (by kernel_rfl) (SubK.cons (by kernel_rfl) SubK.nil)))))), rfl⟩
        · refine RX.fix 41 false (decide_eq_false hp) (by kernel_rfl) ?_
          refine RX.psn 5 [(46, (Value.bool (decide ((x9.n : Int) > 0)))), (45, (Value.bool (decide ((x9.n : Int) > 0)))), (44, (Value.bool (decide ((x9.n : Int) > 0)))), (43, (Value.int .i64 (x9.n : Int))), (42, (Sl3.v x9))] (by kernel_rfl) ?_
          refine RX.done (by kernel_rfl) ?_
          refine fun ss hs => (WX.nxt ?_ ss hs)
          rcases ite_some h with ⟨hp, h⟩ | ⟨hp, h⟩
          · refine WX.condT _ (decide_eq_true hp) (by kernel_rfl) ?_
            refine WX.skip (by kernel_rfl) ?_
            cases h
            exact fun ss hs => ⟨rfl, hs.sub ((SubK.cons (by kernel_rfl) (SubK.cons (by kernel_rfl) (SubK.cons (by kernel_rfl) (SubK.cons (by kernel_rfl) (SubK.cons (by kernel_rfl) SubK.nil)))))), rfl⟩
          · refine WX.condF _ (decide_eq_false hp) (by kernel_rfl) ?_
            refine WX.exit 2 (by kernel_rfl) ?_
            exact (map_inl h).elim
      · refine RX.fix 38 false (decide_eq_false hp) (by kernel_rfl) ?_
        refine RX.psn 8 [(46, (Value.bool false)), (45, undef), (44, undef), (43, undef), (42, undef), (41, undef), (40, undef), (39, undef)] (by kernel_rfl) ?_
        refine RX.done (by kernel_rfl) ?_
        refine fun ss hs => (WX.nxt ?_ ss hs)
        refine WX.condF false rfl (by kernel_rfl) ?_
        refine WX.exit 2 (by kernel_rfl) ?_
        exact (map_inl h).elim
    · clear hx
      refine WX.seq (by kernel_rfl) ?_
      refine WX.block 3 (by kernel_rfl) ?_
      refine WX.seq (by kernel_rfl) ?_
      refine WX.region (opsOf (cfst (cfst (cfst (csnd (cfst (cfst (csnd (cfst (csnd (csnd (cfst (csnd (cfst (cfst (csnd (cfst (cfst (cfst (csnd (csnd (csnd (csnd (csnd B18)))))))))))))))))))))))) (by kernel_rfl) ?_
      refine RX.psn 3 [(51, (Value.int .u64 (Int.tmod v7_14 10))), (50, (Value.int .u64 v7_14)), (49, (Sl3.v v6_13))] (by kernel_rfl) ?_
      obtain ⟨x16, hx, h⟩ := bind_some h
      refine RX.at (some 52) (Value.int .u8 x16) (by kernel_rfl) (by kernel_rfl) (fun ih => Abs.run_byt (t := 9) (x := .const (Value.string (⟨#[48, 49, 50, 51, 52, 53, 54, 55, 56, 57, 97, 98, 99, 100, 101, 102]⟩ : ByteArray))) (y := .tmp 51) (s := (⟨#[48, 49, 50, 51, 52, 53, 54, 55, 56, 57, 97, 98, 99, 100, 101, 102]⟩ : ByteArray)) (k := .u64) (i := (Int.tmod v7_14 10)) (by kernel_rfl) (by kernel_rfl) (by kernel_rfl) (by kernel_rfl) hx) ?_
      obtain ⟨⟨s17, H18⟩, hx, h⟩ := bind_some h
      dsimp only at h
      refine RX.at (some 53) (Sl3.v s17) (by kernel_rfl) (by kernel_rfl) (fun ih => Abs.run_newR (by kernel_rfl) (by kernel_rfl) hx) ?_
      obtain ⟨⟨s19, H20⟩, hx, h⟩ := bind_some h
      dsimp only at h
      refine RX.at (some 54) (Sl3.v s19) (by kernel_rfl) (by kernel_rfl) (fun ih => Abs.run_app (x := .tmp 49) (y := .tmp 53) (ts := #[69, 69]) (s := v6_13) (z := s17) (by kernel_rfl) (by kernel_rfl) (by kernel_rfl) (by kernel_rfl) hx) ?_
      refine RX.psn 1 [(6, (Sl3.v s19))] (by kernel_rfl) ?_
      refine RX.done (by kernel_rfl) ?_
      refine fun ss hs => (WX.nxt ?_ ss hs)
      refine WX.region (opsOf (csnd (cfst (cfst (csnd (cfst (cfst (csnd (cfst (csnd (csnd (cfst (csnd (cfst (cfst (csnd (cfst (cfst (cfst (csnd (csnd (csnd (csnd (csnd B18)))))))))))))))))))))))) (by kernel_rfl) ?_
      refine RX.psn 3 [(7, (Value.int .u64 (IntKind.u64.wrap (Int.tdiv v7_14 10)))), (56, (Value.int .u64 (IntKind.u64.wrap (Int.tdiv v7_14 10)))), (55, (Value.int .u64 v7_14))] (by kernel_rfl) ?_
      refine RX.done (by kernel_rfl) ?_
      refine fun ss hs => blkN ((WX.nxt ?_ ss hs))
      refine WX.region (opsOf (csnd (csnd (cfst (cfst (csnd (cfst (csnd (csnd (cfst (csnd (cfst (cfst (csnd (cfst (cfst (cfst (csnd (csnd (csnd (csnd (csnd B18)))))))))))))))))))))) (by kernel_rfl) ?_
      refine RX.psn 3 [(8, (Value.int .i64 (IntKind.i64.wrap (v8_15 + 1)))), (48, (Value.int .i64 (IntKind.i64.wrap (v8_15 + 1)))), (47, (Value.int .i64 v8_15))] (by kernel_rfl) ?_
      refine RX.done (by kernel_rfl) ?_
      cases h
      exact fun ss hs => lpN rfl (hs.sub ((SubK.cons (by kernel_rfl) (SubK.cons (by kernel_rfl) (SubK.cons (by kernel_rfl) (SubK.cons (by kernel_rfl) (SubK.cons (by kernel_rfl) SubK.nil)))))))
  · cases h; rename _ => h
    refine WX.seq (by kernel_rfl) ?_
    refine WX.seq (by kernel_rfl) ?_
    refine WX.region (opsOf (cfst (cfst (cfst (cfst (csnd (cfst (csnd (csnd (cfst (csnd (cfst (cfst (csnd (cfst (cfst (cfst (csnd (csnd (csnd (csnd (csnd B18)))))))))))))))))))))) (by kernel_rfl) ?_
    refine RX.psn 3 [(38, (Value.bool (decide (v8_15 < 19)))), (37, (Value.bool (decide (v8_15 < 19)))), (36, (Value.int .i64 v8_15))] (by kernel_rfl) ?_
    rcases ite_some h with ⟨hp, h⟩ | ⟨hp, h⟩
    · refine RX.fix 38 true (decide_eq_true hp) (by kernel_rfl) ?_
      refine RX.psn 3 [(41, (Value.bool (decide (v7_14 > 0)))), (40, (Value.bool (decide (v7_14 > 0)))), (39, (Value.int .u64 v7_14))] (by kernel_rfl) ?_
      rcases ite_some h with ⟨hp, h⟩ | ⟨hp, h⟩
      · refine RX.fix 41 true (decide_eq_true hp) (by kernel_rfl) ?_
        refine RX.psn 5 [(46, (Value.bool true)), (45, (Value.bool true)), (44, undef), (43, undef), (42, undef)] (by kernel_rfl) ?_
        refine RX.done (by kernel_rfl) ?_
        refine fun ss hs => (WX.nxt ?_ ss hs)
        refine WX.condT true rfl (by kernel_rfl) ?_
        refine WX.skip (by kernel_rfl) ?_
        cases h
      · refine RX.fix 41 false (decide_eq_false hp) (by kernel_rfl) ?_
        refine RX.psn 5 [(46, (Value.bool (decide ((x9.n : Int) > 0)))), (45, (Value.bool (decide ((x9.n : Int) > 0)))), (44, (Value.bool (decide ((x9.n : Int) > 0)))), (43, (Value.int .i64 (x9.n : Int))), (42, (Sl3.v x9))] (by kernel_rfl) ?_
        refine RX.done (by kernel_rfl) ?_
        refine fun ss hs => (WX.nxt ?_ ss hs)
        rcases ite_some h with ⟨hp, h⟩ | ⟨hp, h⟩
        · refine WX.condT _ (decide_eq_true hp) (by kernel_rfl) ?_
          refine WX.skip (by kernel_rfl) ?_
          cases h
        · refine WX.condF _ (decide_eq_false hp) (by kernel_rfl) ?_
          refine WX.exit 2 (by kernel_rfl) ?_
          replace h := map_inr h
          cases h
          exact fun ss hs => seqE (lpB rfl (hs.sub ((SubK.cons (by kernel_rfl) (SubK.cons (by kernel_rfl) (SubK.cons (by kernel_rfl) (SubK.cons (by kernel_rfl) (SubK.cons (by kernel_rfl) SubK.nil))))))))
    · refine RX.fix 38 false (decide_eq_false hp) (by kernel_rfl) ?_
      refine RX.psn 8 [(46, (Value.bool false)), (45, undef), (44, undef), (43, undef), (42, undef), (41, undef), (40, undef), (39, undef)] (by kernel_rfl) ?_
      refine RX.done (by kernel_rfl) ?_
      refine fun ss hs => (WX.nxt ?_ ss hs)
      refine WX.condF false rfl (by kernel_rfl) ?_
      refine WX.exit 2 (by kernel_rfl) ?_
      replace h := map_inr h
      cases h
      exact fun ss hs => seqE (lpB rfl (hs.sub ((SubK.cons (by kernel_rfl) (SubK.cons (by kernel_rfl) (SubK.cons (by kernel_rfl) (SubK.cons (by kernel_rfl) (SubK.cons (by kernel_rfl) SubK.nil))))))))

theorem nat_Text_b2_ok {a1 : Int} {x25 : Sl3} : ∀ s o, nat_Text_b2 a1 x25 s = some o →
    WX Try.prog 1000 4294967296 Try.f18.ntmps (cfst (cfst (csnd (csnd (csnd (csnd (cfst (csnd (cfst (cfst (cfst (csnd (csnd (csnd (csnd (csnd B18)))))))))))))))) (nat_Text_b2_kn a1 x25 s) ((fun s => s.1) s) (lpQ (nat_Text_b2_kn a1 x25) (fun s => s.1) 4 (fun r => RQ Try.f18 (nat_Text_enc r) (nat_Text_hp ⟨0, .nil⟩ r)) o) := by
  rintro ⟨H28, v6_29, v9_30, v10_31⟩ o h
  unfold nat_Text_b2 at h
  try dsimp only at h
  obtain ⟨o, hx, h⟩ := bind_some h
  rcases o with _ | ro
  · dsimp only at h
    refine WX.seq (by kernel_rfl) ?_
    refine WX.join ([(0, (Sl3.v x25)), (1, (Value.int .i64 a1)), (6, (Sl3.v v6_29)), (9, (Value.int .u64 v9_30)), (10, (Value.int .i64 v10_31))]) H28 ?_ (fun ss hs => WX.nxt ?_ ss hs)
    · clear h; rename _ => h
      refine WX.seq (by kernel_rfl) ?_
      refine WX.region (opsOf (cfst (cfst (cfst (cfst (csnd (csnd (csnd (csnd (cfst (csnd (cfst (cfst (cfst (csnd (csnd (csnd (csnd (csnd B18))))))))))))))))))) (by kernel_rfl) ?_
      refine RX.psn 3 [(64, (Value.bool (decide (v10_31 < 32)))), (63, (Value.bool (decide (v10_31 < 32)))), (62, (Value.int .i64 v10_31))] (by kernel_rfl) ?_
      rcases ite_some h with ⟨hp, h⟩ | ⟨hp, h⟩
      · refine RX.fix 64 true (decide_eq_true hp) (by kernel_rfl) ?_
        refine RX.psn 3 [(67, (Value.bool (decide (v9_30 > 0)))), (66, (Value.bool (decide (v9_30 > 0)))), (65, (Value.int .u64 v9_30))] (by kernel_rfl) ?_
        rcases ite_some h with ⟨hp, h⟩ | ⟨hp, h⟩
        · refine RX.fix 67 true (decide_eq_true hp) (by kernel_rfl) ?_
          refine RX.psn 5 [(72, (Value.bool true)), (71, (Value.bool true)), (70, undef), (69, undef), (68, undef)] (by kernel_rfl) ?_
          refine RX.done (by kernel_rfl) ?_
          refine fun ss hs => (WX.nxt ?_ ss hs)
          refine WX.condT true rfl (by kernel_rfl) ?_
          refine WX.skip (by kernel_rfl) ?_
          cases h
          exact fun ss hs => ⟨rfl, hs.sub ((SubK.cons (by kernel_rfl) (SubK.cons (by kernel_rfl) (SubK.cons (by kernel_rfl) (SubK.cons (by kernel_rfl) (SubK.cons (by kernel_rfl) SubK.nil)))))), rfl⟩
        · refine RX.fix 67 false (decide_eq_false hp) (by kernel_rfl) ?_
          refine RX.psn 5 [(72, (Value.bool (decide ((x25.n : Int) > 0)))), (71, (Value.bool (decide ((x25.n : Int) > 0)))), (70, (Value.bool (decide ((x25.n : Int) > 0)))), (69, (Value.int .i64 (x25.n : Int))), (68, (Sl3.v x25))] (by kernel_rfl) ?_
          refine RX.done (by kernel_rfl) ?_
          refine fun ss hs => (WX.nxt ?_ ss hs)
          rcases ite_some h with ⟨hp, h⟩ | ⟨hp, h⟩
          · refine WX.condT _ (decide_eq_true hp) (by kernel_rfl) ?_
            refine WX.skip (by kernel_rfl) ?_
            cases h
            exact fun ss hs => ⟨rfl, hs.sub ((SubK.cons (by kernel_rfl) (SubK.cons (by kernel_rfl) (SubK.cons (by kernel_rfl) (SubK.cons (by kernel_rfl) (SubK.cons (by kernel_rfl) SubK.nil)))))), rfl⟩
          · refine WX.condF _ (decide_eq_false hp) (by kernel_rfl) ?_
            refine WX.exit 4 (by kernel_rfl) ?_
            exact (map_inl h).elim
      · refine RX.fix 64 false (decide_eq_false hp) (by kernel_rfl) ?_
        refine RX.psn 8 [(72, (Value.bool false)), (71, undef), (70, undef), (69, undef), (68, undef), (67, undef), (66, undef), (65, undef)] (by kernel_rfl) ?_
        refine RX.done (by kernel_rfl) ?_
        refine fun ss hs => (WX.nxt ?_ ss hs)
        refine WX.condF false rfl (by kernel_rfl) ?_
        refine WX.exit 4 (by kernel_rfl) ?_
        exact (map_inl h).elim
    · clear hx
      refine WX.seq (by kernel_rfl) ?_
      refine WX.block 5 (by kernel_rfl) ?_
      refine WX.seq (by kernel_rfl) ?_
      refine WX.region (opsOf (cfst (cfst (cfst (csnd (cfst (cfst (csnd (csnd (csnd (csnd (cfst (csnd (cfst (cfst (cfst (csnd (csnd (csnd (csnd (csnd B18))))))))))))))))))))) (by kernel_rfl) ?_
      refine RX.psn 4 [(82, (Value.int .u64 (IntKind.u64.wrap a1))), (81, (Value.int .i64 a1)), (80, (Value.int .u64 v9_30)), (79, (Sl3.v v6_29))] (by kernel_rfl) ?_
      rcases ite_some h with ⟨_, h⟩ | ⟨hx, h⟩
      · cases h
      · refine RX.at (some 83) (Value.int .u64 (Int.tmod v9_30 (IntKind.u64.wrap a1))) (by kernel_rfl) (by kernel_rfl) (fun ih => Abs.run_rem (t := 38) (u := 38) (x := .tmp 80) (y := .tmp 82) (by kernel_rfl) (by kernel_rfl) (by kernel_rfl) hx) ?_
        obtain ⟨x32, hx, h⟩ := bind_some h
        refine RX.at (some 84) (Value.int .u8 x32) (by kernel_rfl) (by kernel_rfl) (fun ih => Abs.run_byt (t := 9) (x := .const (Value.string (⟨#[48, 49, 50, 51, 52, 53, 54, 55, 56, 57, 97, 98, 99, 100, 101, 102]⟩ : ByteArray))) (y := .tmp 83) (s := (⟨#[48, 49, 50, 51, 52, 53, 54, 55, 56, 57, 97, 98, 99, 100, 101, 102]⟩ : ByteArray)) (k := .u64) (i := (Int.tmod v9_30 (IntKind.u64.wrap a1))) (by kernel_rfl) (by kernel_rfl) (by kernel_rfl) (by kernel_rfl) hx) ?_
        obtain ⟨⟨s33, H34⟩, hx, h⟩ := bind_some h
        dsimp only at h
        refine RX.at (some 85) (Sl3.v s33) (by kernel_rfl) (by kernel_rfl) (fun ih => Abs.run_newR (by kernel_rfl) (by kernel_rfl) hx) ?_
        obtain ⟨⟨s35, H36⟩, hx, h⟩ := bind_some h
        dsimp only at h
        refine RX.at (some 86) (Sl3.v s35) (by kernel_rfl) (by kernel_rfl) (fun ih => Abs.run_app (x := .tmp 79) (y := .tmp 85) (ts := #[69, 69]) (s := v6_29) (z := s33) (by kernel_rfl) (by kernel_rfl) (by kernel_rfl) (by kernel_rfl) hx) ?_
        refine RX.psn 1 [(6, (Sl3.v s35))] (by kernel_rfl) ?_
        refine RX.done (by kernel_rfl) ?_
        refine fun ss hs => (WX.nxt ?_ ss hs)
        refine WX.region (opsOf (csnd (cfst (cfst (csnd (cfst (cfst (csnd (csnd (csnd (csnd (cfst (csnd (cfst (cfst (cfst (csnd (csnd (csnd (csnd (csnd B18))))))))))))))))))))) (by kernel_rfl) ?_
        refine RX.psn 3 [(89, (Value.int .u64 (IntKind.u64.wrap a1))), (88, (Value.int .i64 a1)), (87, (Value.int .u64 v9_30))] (by kernel_rfl) ?_
        rcases ite_some h with ⟨_, h⟩ | ⟨hx, h⟩
        · cases h
        · refine RX.at (some 90) (Value.int .u64 (IntKind.u64.wrap (Int.tdiv v9_30 (IntKind.u64.wrap a1)))) (by kernel_rfl) (by kernel_rfl) (fun ih => Abs.run_quo (t := 38) (u := 38) (x := .tmp 87) (y := .tmp 89) (by kernel_rfl) (by kernel_rfl) (by kernel_rfl) hx) ?_
          refine RX.psn 1 [(9, (Value.int .u64 (IntKind.u64.wrap (Int.tdiv v9_30 (IntKind.u64.wrap a1)))))] (by kernel_rfl) ?_
          refine RX.done (by kernel_rfl) ?_
          refine fun ss hs => blkN ((WX.nxt ?_ ss hs))
          refine WX.region (opsOf (csnd (csnd (cfst (cfst (csnd (csnd (csnd (csnd (cfst (csnd (cfst (cfst (cfst (csnd (csnd (csnd (csnd (csnd B18))))))))))))))))))) (by kernel_rfl) ?_
          refine RX.psn 4 [(76, (Value.int .u64 (IntKind.u64.wrap (IntKind.i64.wrap (a1 - 1))))), (75, (Value.int .i64 (IntKind.i64.wrap (a1 - 1)))), (74, (Value.int .i64 a1)), (73, (Value.int .i64 v10_31))] (by kernel_rfl) ?_
          obtain ⟨x37, hx, h⟩ := bind_some h
          refine RX.callAt (some 77) (v := (Value.int .i64 x37)) 54 #[(Value.int .u64 (IntKind.u64.wrap (IntKind.i64.wrap (a1 - 1))))] (by kernel_rfl) (by kernel_rfl) (by kernel_rfl) (bits_Len_ok hx) ?_
          refine RX.psn 2 [(10, (Value.int .i64 (IntKind.i64.wrap (v10_31 + x37)))), (78, (Value.int .i64 (IntKind.i64.wrap (v10_31 + x37))))] (by kernel_rfl) ?_
          refine RX.done (by kernel_rfl) ?_
          cases h
          exact fun ss hs => lpN rfl (hs.sub ((SubK.cons (by kernel_rfl) (SubK.cons (by kernel_rfl) (SubK.cons (by kernel_rfl) (SubK.cons (by kernel_rfl) (SubK.cons (by kernel_rfl) SubK.nil)))))))
  · cases h; rename _ => h
    refine WX.seq (by kernel_rfl) ?_
    refine WX.seq (by kernel_rfl) ?_
    refine WX.region (opsOf (cfst (cfst (cfst (cfst (csnd (csnd (csnd (csnd (cfst (csnd (cfst (cfst (cfst (csnd (csnd (csnd (csnd (csnd B18))))))))))))))))))) (by kernel_rfl) ?_
    refine RX.psn 3 [(64, (Value.bool (decide (v10_31 < 32)))), (63, (Value.bool (decide (v10_31 < 32)))), (62, (Value.int .i64 v10_31))] (by kernel_rfl) ?_
    rcases ite_some h with ⟨hp, h⟩ | ⟨hp, h⟩
    · refine RX.fix 64 true (decide_eq_true hp) (by kernel_rfl) ?_
      refine RX.psn 3 [(67, (Value.bool (decide (v9_30 > 0)))), (66, (Value.bool (decide (v9_30 > 0)))), (65, (Value.int .u64 v9_30))] (by kernel_rfl) ?_
      rcases ite_some h with ⟨hp, h⟩ | ⟨hp, h⟩
      · refine RX.fix 67 true (decide_eq_true hp) (by kernel_rfl) ?_
        refine RX.psn 5 [(72, (Value.bool true)), (71, (Value.bool true)), (70, undef), (69, undef), (68, undef)] (by kernel_rfl) ?_
        refine RX.done (by kernel_rfl) ?_
        refine fun ss hs => (WX.nxt ?_ ss hs)
        refine WX.condT true rfl (by kernel_rfl) ?_
        refine WX.skip (by kernel_rfl) ?_
        cases h
      · refine RX.fix 67 false (decide_eq_false hp) (by kernel_rfl) ?_
        refine RX.psn 5 [(72, (Value.bool (decide ((x25.n : Int) > 0)))), (71, (Value.bool (decide ((x25.n : Int) > 0)))), (70, (Value.bool (decide ((x25.n : Int) > 0)))), (69, (Value.int .i64 (x25.n : Int))), (68, (Sl3.v x25))] (by kernel_rfl) ?_
        refine RX.done (by kernel_rfl) ?_
        refine fun ss hs => (WX.nxt ?_ ss hs)
        rcases ite_some h with ⟨hp, h⟩ | ⟨hp, h⟩
        · refine WX.condT _ (decide_eq_true hp) (by kernel_rfl) ?_
          refine WX.skip (by kernel_rfl) ?_
          cases h
        · refine WX.condF _ (decide_eq_false hp) (by kernel_rfl) ?_
          refine WX.exit 4 (by kernel_rfl) ?_
          replace h := map_inr h
          cases h
          exact fun ss hs => seqE (lpB rfl (hs.sub ((SubK.cons (by kernel_rfl) (SubK.cons (by kernel_rfl) (SubK.cons (by kernel_rfl) (SubK.cons (by kernel_rfl) (SubK.cons (by kernel_rfl) SubK.nil))))))))
    · refine RX.fix 64 false (decide_eq_false hp) (by kernel_rfl) ?_
      refine RX.psn 8 [(72, (Value.bool false)), (71, undef), (70, undef), (69, undef), (68, undef), (67, undef), (66, undef), (65, undef)] (by kernel_rfl) ?_
      refine RX.done (by kernel_rfl) ?_
      refine fun ss hs => (WX.nxt ?_ ss hs)
      refine WX.condF false rfl (by kernel_rfl) ?_
      refine WX.exit 4 (by kernel_rfl) ?_
      replace h := map_inr h
      cases h
      exact fun ss hs => seqE (lpB rfl (hs.sub ((SubK.cons (by kernel_rfl) (SubK.cons (by kernel_rfl) (SubK.cons (by kernel_rfl) (SubK.cons (by kernel_rfl) (SubK.cons (by kernel_rfl) SubK.nil))))))))

theorem nat_Text_b0_ok {a1 : Int} : ∀ s o, nat_Text_b0 a1 s = some o →
    WX Try.prog 1000 4294967296 Try.f18.ntmps (cfst (cfst (cfst (csnd (csnd (csnd (csnd (csnd B18)))))))) (nat_Text_b0_kn a1 s) ((fun s => s.1) s) (lpQ (nat_Text_b0_kn a1) (fun s => s.1) 0 (fun r => RQ Try.f18 (nat_Text_enc r) (nat_Text_hp ⟨0, .nil⟩ r)) o) := by
  rintro ⟨H6, v0_7, v6_8⟩ o h
  unfold nat_Text_b0 at h
  try dsimp only at h
  refine WX.seq (by kernel_rfl) ?_
  refine WX.seq (by kernel_rfl) ?_
  refine WX.region (opsOf (cfst (cfst (cfst (cfst (cfst (csnd (csnd (csnd (csnd (csnd B18))))))))))) (by kernel_rfl) ?_
  refine RX.psn 3 [(28, (Value.bool (decide ((v0_7.n : Int) > 0)))), (27, (Value.int .i64 (v0_7.n : Int))), (26, (Sl3.v v0_7))] (by kernel_rfl) ?_
  refine RX.done (by kernel_rfl) ?_
  refine fun ss hs => (WX.nxt ?_ ss hs)
  rcases ite_some h with ⟨hp, h⟩ | ⟨hp, h⟩
  · refine WX.condT _ (decide_eq_true hp) (by kernel_rfl) ?_
    refine WX.skip (by kernel_rfl) ?_
    refine fun ss hs => (WX.nxt ?_ ss hs)
    refine WX.block 1 (by kernel_rfl) ?_
    refine WX.seq (by kernel_rfl) ?_
    refine WX.seq (by kernel_rfl) ?_
    refine WX.region (opsOf (cfst (cfst (cfst (csnd (cfst (cfst (cfst (csnd (csnd (csnd (csnd (csnd B18))))))))))))) (by kernel_rfl) ?_
    refine RX.psn 2 [(30, (Value.bool (decide (a1 = 10)))), (29, (Value.int .i64 a1))] (by kernel_rfl) ?_
    refine RX.done (by kernel_rfl) ?_
    refine fun ss hs => (WX.nxt ?_ ss hs)
    rcases ite_some h with ⟨hp, h⟩ | ⟨hp, h⟩
    · refine WX.condT _ (decide_eq_true hp) (by kernel_rfl) ?_
      refine WX.seq (by kernel_rfl) ?_
      refine WX.region (opsOf (cfst (cfst (csnd (cfst (cfst (csnd (cfst (cfst (cfst (csnd (csnd (csnd (csnd (csnd B18))))))))))))))) (by kernel_rfl) ?_
      refine RX.psn 1 [(7, (Value.int .u64 0))] (by kernel_rfl) ?_
      refine RX.done (by kernel_rfl) ?_
      refine fun ss hs => (WX.nxt ?_ ss hs)
      refine WX.seq (by kernel_rfl) ?_
      refine WX.region (opsOf (cfst (csnd (cfst (csnd (cfst (cfst (csnd (cfst (cfst (cfst (csnd (csnd (csnd (csnd (csnd B18)))))))))))))))) (by kernel_rfl) ?_
      refine RX.psn 1 [(32, (Sl3.v v0_7))] (by kernel_rfl) ?_
      obtain ⟨⟨x9, x10, H11⟩, hx, h⟩ := bind_some h
      dsimp only at h
      refine RX.callAt (some 33) (v := (Value.tuple #[(Sl3.v x9), (Value.int .u64 x10)])) 53 #[(Sl3.v v0_7), (Value.int .u64 10000000000000000000)] (by kernel_rfl) (by kernel_rfl) (by kernel_rfl) (nat_single_ok hx) ?_
      refine RX.psn 5 [(7, (Value.int .u64 x10)), (0, (Sl3.v x9)), (35, (Value.int .u64 x10)), (34, (Sl3.v x9)), (31, (Value.tuple #[(Sl3.v x9), (Value.int .u64 x10)]))] (by kernel_rfl) ?_
      refine RX.done (by kernel_rfl) ?_
      refine fun ss hs => (WX.nxt ?_ ss hs)
      refine WX.seq (by kernel_rfl) ?_
      refine WX.seq (by kernel_rfl) ?_
      refine WX.region (opsOf (cfst (cfst (csnd (csnd (cfst (csnd (cfst (cfst (csnd (cfst (cfst (cfst (csnd (csnd (csnd (csnd (csnd B18)))))))))))))))))) (by kernel_rfl) ?_
      refine RX.psn 1 [(8, (Value.int .i64 0))] (by kernel_rfl) ?_
      refine RX.done (by kernel_rfl) ?_
      refine fun ss hs => (WX.nxt ?_ ss hs)
      refine WX.block 2 (by kernel_rfl) ?_
      obtain ⟨o, hl, h⟩ := bind_some h
      rcases o with ⟨H21, v6_22, v7_23, v8_24⟩ | r
      · dsimp only at h
        refine WX.loopI (by kernel_rfl) (nat_Text_b1 a1 x9) (nat_Text_b1_kn a1 x9) (fun s => s.1) 2 (fun r => RQ Try.f18 (nat_Text_enc r) (nat_Text_hp ⟨0, .nil⟩ r)) nat_Text_b1_ok hl ((SubK.cons (by kernel_rfl) (SubK.cons (by kernel_rfl) (SubK.cons (by kernel_rfl) (SubK.cons (by kernel_rfl) (SubK.cons (by kernel_rfl) SubK.nil)))))) rfl ?_
        clear hl
        refine fun ss hs => blkE ((WX.nxt ?_ ss hs))
        refine WX.exit 1 (by kernel_rfl) ?_
        cases h
        exact fun ss hs => seqE (blkE (lpN rfl (hs.sub ((SubK.cons (by kernel_rfl) (SubK.cons (by kernel_rfl) (SubK.cons (by kernel_rfl) SubK.nil)))))))
      · dsimp only at h
        refine WX.loopR (by kernel_rfl) (nat_Text_b1 a1 x9) (nat_Text_b1_kn a1 x9) (fun s => s.1) 2 (fun r => RQ Try.f18 (nat_Text_enc r) (nat_Text_hp ⟨0, .nil⟩ r)) nat_Text_b1_ok hl ((SubK.cons (by kernel_rfl) (SubK.cons (by kernel_rfl) (SubK.cons (by kernel_rfl) (SubK.cons (by kernel_rfl) (SubK.cons (by kernel_rfl) SubK.nil)))))) rfl ?_
        cases h
        exact fun ss H hq => blkR (seqR (seqR (blkR (lpR hq))))
    · refine WX.condF _ (decide_eq_false hp) (by kernel_rfl) ?_
      refine WX.skip (by kernel_rfl) ?_
      refine fun ss hs => (WX.nxt ?_ ss hs)
      refine WX.seq (by kernel_rfl) ?_
      refine WX.region (opsOf (cfst (csnd (cfst (csnd (cfst (cfst (cfst (csnd (csnd (csnd (csnd (csnd B18))))))))))))) (by kernel_rfl) ?_
      refine RX.psn 1 [(9, (Value.int .u64 0))] (by kernel_rfl) ?_
      refine RX.done (by kernel_rfl) ?_
      refine fun ss hs => (WX.nxt ?_ ss hs)
      refine WX.seq (by kernel_rfl) ?_
      refine WX.region (opsOf (cfst (csnd (csnd (cfst (csnd (cfst (cfst (cfst (csnd (csnd (csnd (csnd (csnd B18)))))))))))))) (by kernel_rfl) ?_
      refine RX.psn 1 [(58, (Sl3.v v0_7))] (by kernel_rfl) ?_
      obtain ⟨⟨x25, x26, H27⟩, hx, h⟩ := bind_some h
      dsimp only at h
      refine RX.callAt (some 59) (v := (Value.tuple #[(Sl3.v x25), (Value.int .u64 x26)])) 53 #[(Sl3.v v0_7), (Value.int .u64 4294967296)] (by kernel_rfl) (by kernel_rfl) (by kernel_rfl) (nat_single_ok hx) ?_
      refine RX.psn 5 [(9, (Value.int .u64 x26)), (0, (Sl3.v x25)), (61, (Value.int .u64 x26)), (60, (Sl3.v x25)), (57, (Value.tuple #[(Sl3.v x25), (Value.int .u64 x26)]))] (by kernel_rfl) ?_
      refine RX.done (by kernel_rfl) ?_
      refine fun ss hs => (WX.nxt ?_ ss hs)
      refine WX.seq (by kernel_rfl) ?_
      refine WX.region (opsOf (cfst (csnd (csnd (csnd (cfst (csnd (cfst (cfst (cfst (csnd (csnd (csnd (csnd (csnd B18))))))))))))))) (by kernel_rfl) ?_
      refine RX.psn 1 [(10, (Value.int .i64 0))] (by kernel_rfl) ?_
      refine RX.done (by kernel_rfl) ?_
      refine fun ss hs => (WX.nxt ?_ ss hs)
      refine WX.block 4 (by kernel_rfl) ?_
      obtain ⟨o, hl, h⟩ := bind_some h
      rcases o with ⟨H38, v6_39, v9_40, v10_41⟩ | r
      · dsimp only at h
        refine WX.loopI (by kernel_rfl) (nat_Text_b2 a1 x25) (nat_Text_b2_kn a1 x25) (fun s => s.1) 4 (fun r => RQ Try.f18 (nat_Text_enc r) (nat_Text_hp ⟨0, .nil⟩ r)) nat_Text_b2_ok hl ((SubK.cons (by kernel_rfl) (SubK.cons (by kernel_rfl) (SubK.cons (by kernel_rfl) (SubK.cons (by kernel_rfl) (SubK.cons (by kernel_rfl) SubK.nil)))))) rfl ?_
        clear hl
        cases h
        exact fun ss hs => blkE (blkN (lpN rfl (hs.sub ((SubK.cons (by kernel_rfl) (SubK.cons (by kernel_rfl) (SubK.cons (by kernel_rfl) SubK.nil)))))))
      · dsimp only at h
        refine WX.loopR (by kernel_rfl) (nat_Text_b2 a1 x25) (nat_Text_b2_kn a1 x25) (fun s => s.1) 4 (fun r => RQ Try.f18 (nat_Text_enc r) (nat_Text_hp ⟨0, .nil⟩ r)) nat_Text_b2_ok hl ((SubK.cons (by kernel_rfl) (SubK.cons (by kernel_rfl) (SubK.cons (by kernel_rfl) (SubK.cons (by kernel_rfl) (SubK.cons (by kernel_rfl) SubK.nil)))))) rfl ?_
        cases h
        exact fun ss H hq => blkR (blkR (lpR hq))
  · refine WX.condF _ (decide_eq_false hp) (by kernel_rfl) ?_
    refine WX.exit 0 (by kernel_rfl) ?_
    cases h
    exact fun ss hs => seqE (lpB rfl (hs.sub ((SubK.cons (by kernel_rfl) (SubK.cons (by kernel_rfl) (SubK.cons (by kernel_rfl) SubK.nil))))))

theorem nat_Text_ok {H : AH} {a0 : Sl3} {a1 : Int} {r : (ByteArray × Int × AH)} (h : nat_Text H a0 a1 = some r) :
    CallE Try.prog 1000 4294967296 18 #[(Sl3.v a0), (Value.int .i64 a1)] H (nat_Text_enc r) (nat_Text_hp H r) := by
  refine CallE.mk (args := [(Sl3.v a0), (Value.int .i64 a1)]) Try.func18 (B := B18) (by kernel_rfl) ?_
  unfold nat_Text at h
  refine WX.seq (by kernel_rfl) ?_
  refine WX.region (opsOf (cfst B18)) (by kernel_rfl) ?_
  refine RX.psn 2 [(5, (Value.int .i64 0)), (4, (Value.string (⟨#[]⟩ : ByteArray)))] (by kernel_rfl) ?_
  refine RX.done (by kernel_rfl) ?_
  refine fun ss hs => (WX.nxt ?_ ss hs)
  obtain ⟨o, hx, h⟩ := bind_some h
  rcases o with _ | ro
  · dsimp only at h
    refine WX.seq (by kernel_rfl) ?_
    refine WX.join ([(0, (Sl3.v a0)), (1, (Value.int .i64 a1))]) H ?_ (fun ss hs => WX.nxt ?_ ss hs)
    · clear h; rename _ => h
      refine WX.seq (by kernel_rfl) ?_
      refine WX.region (opsOf (cfst (cfst (csnd B18)))) (by kernel_rfl) ?_
      refine RX.psn 3 [(13, (Value.bool (!decide (a1 = 2)))), (12, (Value.bool (!decide (a1 = 2)))), (11, (Value.int .i64 a1))] (by kernel_rfl) ?_
      rcases ite_some h with ⟨hp, h⟩ | ⟨hp, h⟩
      · refine RX.fix 13 false (dec_not hp) (by kernel_rfl) ?_
        refine RX.psn 7 [(20, (Value.bool false)), (19, undef), (18, undef), (17, (Value.bool false)), (16, (Value.bool false)), (15, undef), (14, undef)] (by kernel_rfl) ?_
        refine RX.done (by kernel_rfl) ?_
        refine fun ss hs => (WX.nxt ?_ ss hs)
        refine WX.condF false rfl (by kernel_rfl) ?_
        refine WX.skip (by kernel_rfl) ?_
        cases h
        exact fun ss hs => ⟨rfl, hs.sub ((SubK.cons (by kernel_rfl) (SubK.cons (by kernel_rfl) SubK.nil))), rfl⟩
      · refine RX.fix 13 true (dec_not' hp) (by kernel_rfl) ?_
        refine RX.psn 4 [(17, (Value.bool (!decide (a1 = 10)))), (16, (Value.bool (!decide (a1 = 10)))), (15, (Value.bool (!decide (a1 = 10)))), (14, (Value.int .i64 a1))] (by kernel_rfl) ?_
        rcases ite_some h with ⟨hp, h⟩ | ⟨hp, h⟩
        · refine RX.fix 17 false (dec_not hp) (by kernel_rfl) ?_
          refine RX.psn 3 [(20, (Value.bool false)), (19, undef), (18, undef)] (by kernel_rfl) ?_
          refine RX.done (by kernel_rfl) ?_
          refine fun ss hs => (WX.nxt ?_ ss hs)
          refine WX.condF false rfl (by kernel_rfl) ?_
          refine WX.skip (by kernel_rfl) ?_
          cases h
          exact fun ss hs => ⟨rfl, hs.sub ((SubK.cons (by kernel_rfl) (SubK.cons (by kernel_rfl) SubK.nil))), rfl⟩
        · refine RX.fix 17 true (dec_not' hp) (by kernel_rfl) ?_
          refine RX.psn 3 [(20, (Value.bool (!decide (a1 = 16)))), (19, (Value.bool (!decide (a1 = 16)))), (18, (Value.int .i64 a1))] (by kernel_rfl) ?_
          refine RX.done (by kernel_rfl) ?_
          refine fun ss hs => (WX.nxt ?_ ss hs)
          rcases ite_some h with ⟨hp, h⟩ | ⟨hp, h⟩
          · refine WX.condF _ (dec_not hp) (by kernel_rfl) ?_
            refine WX.skip (by kernel_rfl) ?_
            cases h
            exact fun ss hs => ⟨rfl, hs.sub ((SubK.cons (by kernel_rfl) (SubK.cons (by kernel_rfl) SubK.nil))), rfl⟩
          · refine WX.condT _ (dec_not' hp) (by kernel_rfl) ?_
            refine WX.seq (by kernel_rfl) ?_
            refine WX.region (opsOf (cfst (cfst (csnd (cfst (csnd B18)))))) (by kernel_rfl) ?_
            refine RX.psn 2 [(5, (Value.int .i64 12)), (4, (Value.string (⟨#[]⟩ : ByteArray)))] (by kernel_rfl) ?_
            refine RX.done (by kernel_rfl) ?_
            refine fun ss hs => (WX.nxt ?_ ss hs)
            refine WX.ret (by kernel_rfl) ?_
            exact (map_inl h).elim
    · clear hx
      refine WX.seq (by kernel_rfl) ?_
      refine WX.seq (by kernel_rfl) ?_
      refine WX.region (opsOf (cfst (cfst (csnd (csnd B18))))) (by kernel_rfl) ?_
      refine RX.psn 1 [(21, (Sl3.v a0))] (by kernel_rfl) ?_
      obtain ⟨⟨s1, H2⟩, hx, h⟩ := bind_some h
      dsimp only at h
      refine RX.at (some 22) (Sl3.v s1) (by kernel_rfl) (by kernel_rfl) (fun ih => Abs.run_newR (by kernel_rfl) (by kernel_rfl) hx) ?_
      obtain ⟨x3, hx, h⟩ := bind_some h
      refine RX.callAt (some 23) (v := (Value.bool x3)) 41 #[(Sl3.v s1)] (by kernel_rfl) (by kernel_rfl) (by kernel_rfl) (nat_long_ok hx) ?_
      refine RX.done (by kernel_rfl) ?_
      refine fun ss hs => (WX.nxt ?_ ss hs)
      rcases ite_some h with ⟨hp, h⟩ | ⟨hp, h⟩
      · refine WX.condT _ hp (by kernel_rfl) ?_
        refine WX.seq (by kernel_rfl) ?_
        refine WX.region (opsOf (cfst (cfst (csnd (cfst (csnd (csnd B18))))))) (by kernel_rfl) ?_
        refine RX.psn 2 [(5, (Value.int .i64 5)), (4, (Value.string (⟨#[]⟩ : ByteArray)))] (by kernel_rfl) ?_
        refine RX.done (by kernel_rfl) ?_
        refine fun ss hs => (WX.nxt ?_ ss hs)
        refine WX.ret (by kernel_rfl) ?_
        cases h
        exact fun ss hs => seqR (retR (rq hs (by kernel_rfl)))
      · refine WX.condF _ (b_not hp) (by kernel_rfl) ?_
        refine WX.skip (by kernel_rfl) ?_
        refine fun ss hs => (WX.nxt ?_ ss hs)
        refine WX.seq (by kernel_rfl) ?_
        refine WX.region (opsOf (cfst (csnd (csnd (csnd B18))))) (by kernel_rfl) ?_
        refine RX.psn 1 [(6, (Sl3.v Sl3.nil))] (by kernel_rfl) ?_
        refine RX.done (by kernel_rfl) ?_
        refine fun ss hs => (WX.nxt ?_ ss hs)
        refine WX.seq (by kernel_rfl) ?_
        refine WX.region (opsOf (cfst (csnd (csnd (csnd (csnd B18)))))) (by kernel_rfl) ?_
        refine RX.psn 1 [(24, (Sl3.v a0))] (by kernel_rfl) ?_
        obtain ⟨⟨x4, H5⟩, hx, h⟩ := bind_some h
        dsimp only at h
        refine RX.callAt (some 25) (v := (Sl3.v x4)) 52 #[(Sl3.v a0)] (by kernel_rfl) (by kernel_rfl) (by kernel_rfl) (nat_own_ok hx) ?_
        refine RX.psn 1 [(0, (Sl3.v x4))] (by kernel_rfl) ?_
        refine RX.done (by kernel_rfl) ?_
        refine fun ss hs => (WX.nxt ?_ ss hs)
        refine WX.seq (by kernel_rfl) ?_
        refine WX.block 0 (by kernel_rfl) ?_
        obtain ⟨o, hl, h⟩ := bind_some h
        rcases o with ⟨H42, v0_43, v6_44⟩ | r
        · dsimp only at h
          refine WX.loopI (by kernel_rfl) (nat_Text_b0 a1) (nat_Text_b0_kn a1) (fun s => s.1) 0 (fun r => RQ Try.f18 (nat_Text_enc r) (nat_Text_hp ⟨0, .nil⟩ r)) nat_Text_b0_ok hl ((SubK.cons (by kernel_rfl) (SubK.cons (by kernel_rfl) (SubK.cons (by kernel_rfl) SubK.nil)))) rfl ?_
          clear hl
          refine fun ss hs => blkE ((WX.nxt ?_ ss hs))
          refine WX.seq (by kernel_rfl) ?_
          refine WX.seq (by kernel_rfl) ?_
          refine WX.region (opsOf (cfst (cfst (csnd (csnd (csnd (csnd (csnd (csnd B18))))))))) (by kernel_rfl) ?_
          refine RX.psn 3 [(93, (Value.bool (decide ((v6_44.n : Int) = 0)))), (92, (Value.int .i64 (v6_44.n : Int))), (91, (Sl3.v v6_44))] (by kernel_rfl) ?_
          refine RX.done (by kernel_rfl) ?_
          refine fun ss hs => (WX.nxt ?_ ss hs)
          rcases ite_some h with ⟨hp, h⟩ | ⟨hp, h⟩
          · refine WX.condT _ (decide_eq_true hp) (by kernel_rfl) ?_
            refine WX.seq (by kernel_rfl) ?_
            refine WX.region (opsOf (cfst (cfst (csnd (cfst (csnd (csnd (csnd (csnd (csnd (csnd B18))))))))))) (by kernel_rfl) ?_
            refine RX.psn 2 [(5, (Value.int .i64 0)), (4, (Value.string (⟨#[48]⟩ : ByteArray)))] (by kernel_rfl) ?_
            refine RX.done (by kernel_rfl) ?_
            refine fun ss hs => (WX.nxt ?_ ss hs)
            refine WX.ret (by kernel_rfl) ?_
            cases h
            exact fun ss hs => seqR (retR (rq hs (by kernel_rfl)))
          · refine WX.condF _ (decide_eq_false hp) (by kernel_rfl) ?_
            refine WX.skip (by kernel_rfl) ?_
            refine fun ss hs => (WX.nxt ?_ ss hs)
            refine WX.seq (by kernel_rfl) ?_
            refine WX.region (opsOf (cfst (csnd (csnd (csnd (csnd (csnd (csnd (csnd B18))))))))) (by kernel_rfl) ?_
            refine RX.psn 1 [(94, (Sl3.v v6_44))] (by kernel_rfl) ?_
            obtain ⟨H45, hx, h⟩ := bind_some h
            refine RX.callAt (some 95) (v := (Value.tuple #[])) 55 #[(Sl3.v v6_44)] (by kernel_rfl) (by kernel_rfl) (by kernel_rfl) (slices_Reverse_ok hx) ?_
            refine RX.done (by kernel_rfl) ?_
            refine fun ss hs => (WX.nxt ?_ ss hs)
            refine WX.seq (by kernel_rfl) ?_
            refine WX.region (opsOf (cfst (csnd (csnd (csnd (csnd (csnd (csnd (csnd (csnd B18)))))))))) (by kernel_rfl) ?_
            refine RX.psn 1 [(96, (Sl3.v v6_44))] (by kernel_rfl) ?_
            obtain ⟨s46, hx, h⟩ := bind_some h
            refine RX.at (some 97) (Value.string s46) (by kernel_rfl) (by kernel_rfl) (fun ih => Abs.run_bts (t := 69) (u := 9) (e := 5) (x := .tmp 96) (s := v6_44) (by kernel_rfl) (by kernel_rfl) (by kernel_rfl) (by kernel_rfl) (by kernel_rfl) hx) ?_
            refine RX.psn 2 [(5, (Value.int .i64 0)), (4, (Value.string s46))] (by kernel_rfl) ?_
            refine RX.done (by kernel_rfl) ?_
            refine fun ss hs => (WX.nxt ?_ ss hs)
            refine WX.ret (by kernel_rfl) ?_
            cases h
            exact fun ss hs => retR (rq hs (by kernel_rfl))
        · dsimp only at h
          refine WX.loopR (by kernel_rfl) (nat_Text_b0 a1) (nat_Text_b0_kn a1) (fun s => s.1) 0 (fun r => RQ Try.f18 (nat_Text_enc r) (nat_Text_hp ⟨0, .nil⟩ r)) nat_Text_b0_ok hl ((SubK.cons (by kernel_rfl) (SubK.cons (by kernel_rfl) (SubK.cons (by kernel_rfl) SubK.nil)))) rfl ?_
          cases h
          exact fun ss H hq => blkR (seqR (retR hq))
  · cases h; rename _ => h
    refine WX.seq (by kernel_rfl) ?_
    refine WX.seq (by kernel_rfl) ?_
    refine WX.region (opsOf (cfst (cfst (csnd B18)))) (by kernel_rfl) ?_
    refine RX.psn 3 [(13, (Value.bool (!decide (a1 = 2)))), (12, (Value.bool (!decide (a1 = 2)))), (11, (Value.int .i64 a1))] (by kernel_rfl) ?_
    rcases ite_some h with ⟨hp, h⟩ | ⟨hp, h⟩
    · refine RX.fix 13 false (dec_not hp) (by kernel_rfl) ?_
      refine RX.psn 7 [(20, (Value.bool false)), (19, undef), (18, undef), (17, (Value.bool false)), (16, (Value.bool false)), (15, undef), (14, undef)] (by kernel_rfl) ?_
      refine RX.done (by kernel_rfl) ?_
      refine fun ss hs => (WX.nxt ?_ ss hs)
      refine WX.condF false rfl (by kernel_rfl) ?_
      refine WX.skip (by kernel_rfl) ?_
      cases h
    · refine RX.fix 13 true (dec_not' hp) (by kernel_rfl) ?_
      refine RX.psn 4 [(17, (Value.bool (!decide (a1 = 10)))), (16, (Value.bool (!decide (a1 = 10)))), (15, (Value.bool (!decide (a1 = 10)))), (14, (Value.int .i64 a1))] (by kernel_rfl) ?_
      rcases ite_some h with ⟨hp, h⟩ | ⟨hp, h⟩
      · refine RX.fix 17 false (dec_not hp) (by kernel_rfl) ?_
        refine RX.psn 3 [(20, (Value.bool false)), (19, undef), (18, undef)] (by kernel_rfl) ?_
        refine RX.done (by kernel_rfl) ?_
        refine fun ss hs => (WX.nxt ?_ ss hs)
        refine WX.condF false rfl (by kernel_rfl) ?_
        refine WX.skip (by kernel_rfl) ?_
        cases h
      · refine RX.fix 17 true (dec_not' hp) (by kernel_rfl) ?_
        refine RX.psn 3 [(20, (Value.bool (!decide (a1 = 16)))), (19, (Value.bool (!decide (a1 = 16)))), (18, (Value.int .i64 a1))] (by kernel_rfl) ?_
        refine RX.done (by kernel_rfl) ?_
        refine fun ss hs => (WX.nxt ?_ ss hs)
        rcases ite_some h with ⟨hp, h⟩ | ⟨hp, h⟩
        · refine WX.condF _ (dec_not hp) (by kernel_rfl) ?_
          refine WX.skip (by kernel_rfl) ?_
          cases h
        · refine WX.condT _ (dec_not' hp) (by kernel_rfl) ?_
          refine WX.seq (by kernel_rfl) ?_
          refine WX.region (opsOf (cfst (cfst (csnd (cfst (csnd B18)))))) (by kernel_rfl) ?_
          refine RX.psn 2 [(5, (Value.int .i64 12)), (4, (Value.string (⟨#[]⟩ : ByteArray)))] (by kernel_rfl) ?_
          refine RX.done (by kernel_rfl) ?_
          refine fun ss hs => (WX.nxt ?_ ss hs)
          refine WX.ret (by kernel_rfl) ?_
          replace h := map_inr h
          cases h
          exact fun ss hs => seqR (retR (rq hs (by kernel_rfl)))

noncomputable def B17 : Code := (Try.f17.body).getD .skip

def law01_alive_enc : (Bool × AH) → Value
  | (r0, _) => (Value.bool r0)

def law01_alive_hp (_ : AH) : (Bool × AH) → AH := fun r => r.2

noncomputable def law01_alive (H : AH) : Option (Bool × AH) :=
  Option.bind (nat_Of H 18446744073709551615) fun (x1, H2) =>
  Option.bind (nat_Of H2 2) fun (x3, H4) =>
  Option.bind (newR 24 2 #[(Sl3.v x1), (Sl3.v x3)] H4) fun (s5, H6) =>
  Option.bind (nat_Mul H6 s5) fun (x7, x8, H9) =>
  Option.bind (nat_Text H9 x7 16) fun (x10, x11, H12) =>
  if x8 = 0 then
    if x11 = 0 then
      some ((x10.toList == (⟨#[49, 102, 102, 102, 102, 102, 102, 102, 102, 102, 102, 102, 102, 102, 102, 102, 101]⟩ : ByteArray).toList), H12)
    else
      some (false, H12)
  else
    some (false, H12)

theorem law01_alive_ok {H : AH} {r : (Bool × AH)} (h : law01_alive H = some r) :
    CallE Try.prog 1000 4294967296 17 #[] H (law01_alive_enc r) (law01_alive_hp H r) := by
  refine CallE.mk (args := []) Try.func17 (B := B17) (by kernel_rfl) ?_
  unfold law01_alive at h
  refine WX.seq (by kernel_rfl) ?_
  refine WX.region (opsOf (cfst B17)) (by kernel_rfl) ?_
  refine RX.psn 1 [(0, (Value.bool false))] (by kernel_rfl) ?_
  refine RX.done (by kernel_rfl) ?_
  refine fun ss hs => (WX.nxt ?_ ss hs)
  refine WX.seq (by kernel_rfl) ?_
  refine WX.region (opsOf (cfst (csnd B17))) (by kernel_rfl) ?_
  obtain ⟨⟨x1, H2⟩, hx, h⟩ := bind_some h
  dsimp only at h
  refine RX.callAt (some 6) (v := (Sl3.v x1)) 24 #[(Value.int .u64 18446744073709551615)] (by kernel_rfl) (by kernel_rfl) (by kernel_rfl) (nat_Of_ok hx) ?_
  obtain ⟨⟨x3, H4⟩, hx, h⟩ := bind_some h
  dsimp only at h
  refine RX.callAt (some 7) (v := (Sl3.v x3)) 24 #[(Value.int .u64 2)] (by kernel_rfl) (by kernel_rfl) (by kernel_rfl) (nat_Of_ok hx) ?_
  obtain ⟨⟨s5, H6⟩, hx, h⟩ := bind_some h
  dsimp only at h
  refine RX.at (some 8) (Sl3.v s5) (by kernel_rfl) (by kernel_rfl) (fun ih => Abs.run_newR (by kernel_rfl) (by kernel_rfl) hx) ?_
  obtain ⟨⟨x7, x8, H9⟩, hx, h⟩ := bind_some h
  dsimp only at h
  refine RX.callAt (some 9) (v := (Value.tuple #[(Sl3.v x7), (Value.int .i64 x8)])) 14 #[(Sl3.v s5)] (by kernel_rfl) (by kernel_rfl) (by kernel_rfl) (nat_Mul_ok hx) ?_
  refine RX.psn 5 [(2, (Value.int .i64 x8)), (1, (Sl3.v x7)), (11, (Value.int .i64 x8)), (10, (Sl3.v x7)), (5, (Value.tuple #[(Sl3.v x7), (Value.int .i64 x8)]))] (by kernel_rfl) ?_
  refine RX.done (by kernel_rfl) ?_
  refine fun ss hs => (WX.nxt ?_ ss hs)
  refine WX.seq (by kernel_rfl) ?_
  refine WX.region (opsOf (cfst (csnd (csnd B17)))) (by kernel_rfl) ?_
  refine RX.psn 1 [(13, (Sl3.v x7))] (by kernel_rfl) ?_
  obtain ⟨⟨x10, x11, H12⟩, hx, h⟩ := bind_some h
  dsimp only at h
  refine RX.callAt (some 14) (v := (Value.tuple #[(Value.string x10), (Value.int .i64 x11)])) 18 #[(Sl3.v x7), (Value.int .i64 16)] (by kernel_rfl) (by kernel_rfl) (by kernel_rfl) (nat_Text_ok hx) ?_
  refine RX.psn 5 [(4, (Value.int .i64 x11)), (3, (Value.string x10)), (16, (Value.int .i64 x11)), (15, (Value.string x10)), (12, (Value.tuple #[(Value.string x10), (Value.int .i64 x11)]))] (by kernel_rfl) ?_
  refine RX.done (by kernel_rfl) ?_
  refine fun ss hs => (WX.nxt ?_ ss hs)
  refine WX.seq (by kernel_rfl) ?_
  refine WX.region (opsOf (cfst (csnd (csnd (csnd B17))))) (by kernel_rfl) ?_
  refine RX.psn 3 [(19, (Value.bool (decide (x8 = 0)))), (18, (Value.bool (decide (x8 = 0)))), (17, (Value.int .i64 x8))] (by kernel_rfl) ?_
  rcases ite_some h with ⟨hp, h⟩ | ⟨hp, h⟩
  · refine RX.fix 19 true (decide_eq_true hp) (by kernel_rfl) ?_
    refine RX.psn 4 [(23, (Value.bool (decide (x11 = 0)))), (22, (Value.bool (decide (x11 = 0)))), (21, (Value.bool (decide (x11 = 0)))), (20, (Value.int .i64 x11))] (by kernel_rfl) ?_
    rcases ite_some h with ⟨hp, h⟩ | ⟨hp, h⟩
    · refine RX.fix 23 true (decide_eq_true hp) (by kernel_rfl) ?_
      refine RX.psn 4 [(0, (Value.bool (x10.toList == (⟨#[49, 102, 102, 102, 102, 102, 102, 102, 102, 102, 102, 102, 102, 102, 102, 102, 101]⟩ : ByteArray).toList))), (26, (Value.bool (x10.toList == (⟨#[49, 102, 102, 102, 102, 102, 102, 102, 102, 102, 102, 102, 102, 102, 102, 102, 101]⟩ : ByteArray).toList))), (25, (Value.bool (x10.toList == (⟨#[49, 102, 102, 102, 102, 102, 102, 102, 102, 102, 102, 102, 102, 102, 102, 102, 101]⟩ : ByteArray).toList))), (24, (Value.string x10))] (by kernel_rfl) ?_
      refine RX.done (by kernel_rfl) ?_
      refine fun ss hs => (WX.nxt ?_ ss hs)
      refine WX.ret (by kernel_rfl) ?_
      cases h
      exact fun ss hs => retR (rq hs (by kernel_rfl))
    · refine RX.fix 23 false (decide_eq_false hp) (by kernel_rfl) ?_
      refine RX.psn 4 [(0, (Value.bool false)), (26, (Value.bool false)), (25, undef), (24, undef)] (by kernel_rfl) ?_
      refine RX.done (by kernel_rfl) ?_
      refine fun ss hs => (WX.nxt ?_ ss hs)
      refine WX.ret (by kernel_rfl) ?_
      cases h
      exact fun ss hs => retR (rq hs (by kernel_rfl))
  · refine RX.fix 19 false (decide_eq_false hp) (by kernel_rfl) ?_
    refine RX.psn 8 [(0, (Value.bool false)), (26, (Value.bool false)), (25, undef), (24, undef), (23, (Value.bool false)), (22, (Value.bool false)), (21, undef), (20, undef)] (by kernel_rfl) ?_
    refine RX.done (by kernel_rfl) ?_
    refine fun ss hs => (WX.nxt ?_ ss hs)
    refine WX.ret (by kernel_rfl) ?_
    cases h
    exact fun ss hs => retR (rq hs (by kernel_rfl))

end Go.Proofs.Ytoadagekdnkciaa

namespace Go.Proofs.Ytoadagekdnkciaa
open Go Go.Abs
set_option maxRecDepth 100000

noncomputable def B11 : Code := (Try.f11.body).getD .skip

def law01_NatDivides_enc : (Bool × AH) → Value
  | (r0, _) => (Value.bool r0)

def law01_NatDivides_hp (_ : AH) : (Bool × AH) → AH := fun r => r.2

noncomputable def law01_NatDivides (H : AH) (a0 : Sl3) (a1 : Sl3) : Option (Bool × AH) :=
  Option.bind (nat_Quo H a0 a1) fun (x1, x2, x3, H4) =>
  if x3 = 0 then
    Option.bind (newR 24 2 #[(Sl3.v x1), (Sl3.v a1)] H4) fun (s12, H13) =>
    Option.bind (nat_Mul H13 s12) fun (x14, x15, H16) =>
    Option.bind (newR 24 2 #[(Sl3.v x14), (Sl3.v x2)] H16) fun (s17, H18) =>
    Option.bind (nat_Add H18 s17) fun (x19, x20, H21) =>
    if x15 = 0 then
      if x20 = 0 then
        Option.bind (nat_Cmp H21 x19 a0) fun x22 =>
        if x22 = 0 then
          Option.bind (nat_Cmp H21 x2 a1) fun x23 =>
          if x23 ≥ 0 then
            some (false, H21)
          else
            Option.bind (nat_Gcd H21 a0 a1) fun (x24, x25, H26) =>
            Option.bind (nat_Quo H26 a0 x24) fun (x27, x28, x29, H30) =>
            Option.bind (nat_Quo H30 a1 x24) fun (x31, x32, x33, H34) =>
            Option.bind (nat_Gcd H34 x27 x31) fun (x35, x36, H37) =>
            if x25 = 0 then
              if x29 = 0 then
                if x33 = 0 then
                  if x36 = 0 then
                    Option.bind (nat_Len H37 x28) fun x38 =>
                    if x38 = 0 then
                      Option.bind (nat_Len H37 x32) fun x39 =>
                      if x39 = 0 then
                        Option.bind (nat_Of H37 1) fun (x40, H41) =>
                        Option.bind (nat_Cmp H41 x35 x40) fun x42 =>
                        if x42 = 0 then
                          Option.bind (law01_alive H41) fun (x43, H44) =>
                          some (x43, H44)
                        else
                          some (false, H41)
                      else
                        some (false, H37)
                    else
                      some (false, H37)
                  else
                    some (false, H37)
                else
                  some (false, H37)
              else
                some (false, H37)
            else
              some (false, H37)
        else
          some (false, H21)
      else
        some (false, H21)
    else
      some (false, H21)
  else
    if x3 = 11 then
      Option.bind (nat_Len H4 a1) fun x5 =>
      if x5 = 0 then
        Option.bind (law01_alive H4) fun (x6, H7) =>
        some (x6, H7)
      else
        if x3 = 5 then
          Option.bind (law01_alive H4) fun (x8, H9) =>
          some (x8, H9)
        else
          some (false, H4)
    else
      if x3 = 5 then
        Option.bind (law01_alive H4) fun (x10, H11) =>
        some (x10, H11)
      else
        some (false, H4)

theorem law01_NatDivides_ok {H : AH} {a0 : Sl3} {a1 : Sl3} {r : (Bool × AH)} (h : law01_NatDivides H a0 a1 = some r) :
    CallE Try.prog 1000 4294967296 11 #[(Sl3.v a0), (Sl3.v a1)] H (law01_NatDivides_enc r) (law01_NatDivides_hp H r) := by
  refine CallE.mk (args := [(Sl3.v a0), (Sl3.v a1)]) Try.func11 (B := B11) (by kernel_rfl) ?_
  unfold law01_NatDivides at h
  refine WX.seq (by kernel_rfl) ?_
  refine WX.region (opsOf (cfst B11)) (by kernel_rfl) ?_
  refine RX.psn 1 [(4, (Value.bool false))] (by kernel_rfl) ?_
  refine RX.done (by kernel_rfl) ?_
  refine fun ss hs => (WX.nxt ?_ ss hs)
  refine WX.seq (by kernel_rfl) ?_
  refine WX.region (opsOf (cfst (csnd B11))) (by kernel_rfl) ?_
  refine RX.psn 2 [(24, (Sl3.v a1)), (23, (Sl3.v a0))] (by kernel_rfl) ?_
  obtain ⟨⟨x1, x2, x3, H4⟩, hx, h⟩ := bind_some h
  dsimp only at h
  refine RX.callAt (some 25) (v := (Value.tuple #[(Sl3.v x1), (Sl3.v x2), (Value.int .i64 x3)])) 38 #[(Sl3.v a0), (Sl3.v a1)] (by kernel_rfl) (by kernel_rfl) (by kernel_rfl) (nat_Quo_ok hx) ?_
  refine RX.psn 7 [(7, (Value.int .i64 x3)), (6, (Sl3.v x2)), (5, (Sl3.v x1)), (28, (Value.int .i64 x3)), (27, (Sl3.v x2)), (26, (Sl3.v x1)), (22, (Value.tuple #[(Sl3.v x1), (Sl3.v x2), (Value.int .i64 x3)]))] (by kernel_rfl) ?_
  refine RX.done (by kernel_rfl) ?_
  refine fun ss hs => (WX.nxt ?_ ss hs)
  refine WX.seq (by kernel_rfl) ?_
  refine WX.seq (by kernel_rfl) ?_
  refine WX.region (opsOf (cfst (cfst (csnd (csnd B11))))) (by kernel_rfl) ?_
  refine RX.psn 2 [(30, (Value.bool (!decide (x3 = 0)))), (29, (Value.int .i64 x3))] (by kernel_rfl) ?_
  refine RX.done (by kernel_rfl) ?_
  refine fun ss hs => (WX.nxt ?_ ss hs)
  rcases ite_some h with ⟨hp, h⟩ | ⟨hp, h⟩
  · refine WX.condF _ (dec_not hp) (by kernel_rfl) ?_
    refine WX.skip (by kernel_rfl) ?_
    refine fun ss hs => (WX.nxt ?_ ss hs)
    refine WX.seq (by kernel_rfl) ?_
    refine WX.region (opsOf (cfst (csnd (csnd (csnd B11))))) (by kernel_rfl) ?_
    refine RX.psn 2 [(47, (Sl3.v a1)), (46, (Sl3.v x1))] (by kernel_rfl) ?_
    obtain ⟨⟨s12, H13⟩, hx, h⟩ := bind_some h
    dsimp only at h
    refine RX.at (some 48) (Sl3.v s12) (by kernel_rfl) (by kernel_rfl) (fun ih => Abs.run_newR (by kernel_rfl) (by kernel_rfl) hx) ?_
    obtain ⟨⟨x14, x15, H16⟩, hx, h⟩ := bind_some h
    dsimp only at h
    refine RX.callAt (some 49) (v := (Value.tuple #[(Sl3.v x14), (Value.int .i64 x15)])) 14 #[(Sl3.v s12)] (by kernel_rfl) (by kernel_rfl) (by kernel_rfl) (nat_Mul_ok hx) ?_
    refine RX.psn 5 [(9, (Value.int .i64 x15)), (8, (Sl3.v x14)), (51, (Value.int .i64 x15)), (50, (Sl3.v x14)), (45, (Value.tuple #[(Sl3.v x14), (Value.int .i64 x15)]))] (by kernel_rfl) ?_
    refine RX.done (by kernel_rfl) ?_
    refine fun ss hs => (WX.nxt ?_ ss hs)
    refine WX.seq (by kernel_rfl) ?_
    refine WX.region (opsOf (cfst (csnd (csnd (csnd (csnd B11)))))) (by kernel_rfl) ?_
    refine RX.psn 2 [(54, (Sl3.v x2)), (53, (Sl3.v x14))] (by kernel_rfl) ?_
    obtain ⟨⟨s17, H18⟩, hx, h⟩ := bind_some h
    dsimp only at h
    refine RX.at (some 55) (Sl3.v s17) (by kernel_rfl) (by kernel_rfl) (fun ih => Abs.run_newR (by kernel_rfl) (by kernel_rfl) hx) ?_
    obtain ⟨⟨x19, x20, H21⟩, hx, h⟩ := bind_some h
    dsimp only at h
    refine RX.callAt (some 56) (v := (Value.tuple #[(Sl3.v x19), (Value.int .i64 x20)])) 20 #[(Sl3.v s17)] (by kernel_rfl) (by kernel_rfl) (by kernel_rfl) (nat_Add_ok hx) ?_
    refine RX.psn 5 [(11, (Value.int .i64 x20)), (10, (Sl3.v x19)), (58, (Value.int .i64 x20)), (57, (Sl3.v x19)), (52, (Value.tuple #[(Sl3.v x19), (Value.int .i64 x20)]))] (by kernel_rfl) ?_
    refine RX.done (by kernel_rfl) ?_
    refine fun ss hs => (WX.nxt ?_ ss hs)
    refine WX.seq (by kernel_rfl) ?_
    refine WX.seq (by kernel_rfl) ?_
    refine WX.region (opsOf (cfst (cfst (csnd (csnd (csnd (csnd (csnd B11)))))))) (by kernel_rfl) ?_
    refine RX.psn 3 [(61, (Value.bool (!decide (x15 = 0)))), (60, (Value.bool (!decide (x15 = 0)))), (59, (Value.int .i64 x15))] (by kernel_rfl) ?_
    rcases ite_some h with ⟨hp, h⟩ | ⟨hp, h⟩
    · refine RX.fix 61 false (dec_not hp) (by kernel_rfl) ?_
      refine RX.psn 4 [(65, (Value.bool (!decide (x20 = 0)))), (64, (Value.bool (!decide (x20 = 0)))), (63, (Value.bool (!decide (x20 = 0)))), (62, (Value.int .i64 x20))] (by kernel_rfl) ?_
      rcases ite_some h with ⟨hp, h⟩ | ⟨hp, h⟩
      · refine RX.fix 65 false (dec_not hp) (by kernel_rfl) ?_
        refine RX.psn 2 [(67, (Sl3.v a0)), (66, (Sl3.v x19))] (by kernel_rfl) ?_
        obtain ⟨x22, hx, h⟩ := bind_some h
        refine RX.callAt (some 68) (v := (Value.int .i64 x22)) 26 #[(Sl3.v x19), (Sl3.v a0)] (by kernel_rfl) (by kernel_rfl) (by kernel_rfl) (nat_Cmp_ok hx) ?_
        refine RX.psn 3 [(71, (Value.bool (!decide (x22 = 0)))), (70, (Value.bool (!decide (x22 = 0)))), (69, (Value.bool (!decide (x22 = 0))))] (by kernel_rfl) ?_
        rcases ite_some h with ⟨hp, h⟩ | ⟨hp, h⟩
        · refine RX.fix 71 false (dec_not hp) (by kernel_rfl) ?_
          refine RX.psn 2 [(73, (Sl3.v a1)), (72, (Sl3.v x2))] (by kernel_rfl) ?_
          obtain ⟨x23, hx, h⟩ := bind_some h
          refine RX.callAt (some 74) (v := (Value.int .i64 x23)) 26 #[(Sl3.v x2), (Sl3.v a1)] (by kernel_rfl) (by kernel_rfl) (by kernel_rfl) (nat_Cmp_ok hx) ?_
          refine RX.psn 2 [(76, (Value.bool (decide (x23 ≥ 0)))), (75, (Value.bool (decide (x23 ≥ 0))))] (by kernel_rfl) ?_
          refine RX.done (by kernel_rfl) ?_
          refine fun ss hs => (WX.nxt ?_ ss hs)
          rcases ite_some h with ⟨hp, h⟩ | ⟨hp, h⟩
          · refine WX.condT _ (decide_eq_true hp) (by kernel_rfl) ?_
            refine WX.seq (by kernel_rfl) ?_
            refine WX.region (opsOf (cfst (cfst (csnd (cfst (csnd (csnd (csnd (csnd (csnd B11)))))))))) (by kernel_rfl) ?_
            refine RX.psn 1 [(4, (Value.bool false))] (by kernel_rfl) ?_
            refine RX.done (by kernel_rfl) ?_
            refine fun ss hs => (WX.nxt ?_ ss hs)
            refine WX.ret (by kernel_rfl) ?_
            cases h
            exact fun ss hs => seqR (retR (rq hs (by kernel_rfl)))
          · refine WX.condF _ (decide_eq_false hp) (by kernel_rfl) ?_
            refine WX.skip (by kernel_rfl) ?_
            refine fun ss hs => (WX.nxt ?_ ss hs)
            refine WX.seq (by kernel_rfl) ?_
            refine WX.region (opsOf (cfst (csnd (csnd (csnd (csnd (csnd (csnd B11)))))))) (by kernel_rfl) ?_
            refine RX.psn 2 [(79, (Sl3.v a1)), (78, (Sl3.v a0))] (by kernel_rfl) ?_
            obtain ⟨⟨x24, x25, H26⟩, hx, h⟩ := bind_some h
            dsimp only at h
            refine RX.callAt (some 80) (v := (Value.tuple #[(Sl3.v x24), (Value.int .i64 x25)])) 40 #[(Sl3.v a0), (Sl3.v a1)] (by kernel_rfl) (by kernel_rfl) (by kernel_rfl) (nat_Gcd_ok hx) ?_
            refine RX.psn 5 [(13, (Value.int .i64 x25)), (12, (Sl3.v x24)), (82, (Value.int .i64 x25)), (81, (Sl3.v x24)), (77, (Value.tuple #[(Sl3.v x24), (Value.int .i64 x25)]))] (by kernel_rfl) ?_
            refine RX.done (by kernel_rfl) ?_
            refine fun ss hs => (WX.nxt ?_ ss hs)
            refine WX.seq (by kernel_rfl) ?_
            refine WX.region (opsOf (cfst (csnd (csnd (csnd (csnd (csnd (csnd (csnd B11))))))))) (by kernel_rfl) ?_
            refine RX.psn 2 [(85, (Sl3.v x24)), (84, (Sl3.v a0))] (by kernel_rfl) ?_
            obtain ⟨⟨x27, x28, x29, H30⟩, hx, h⟩ := bind_some h
            dsimp only at h
            refine RX.callAt (some 86) (v := (Value.tuple #[(Sl3.v x27), (Sl3.v x28), (Value.int .i64 x29)])) 38 #[(Sl3.v a0), (Sl3.v x24)] (by kernel_rfl) (by kernel_rfl) (by kernel_rfl) (nat_Quo_ok hx) ?_
            refine RX.psn 7 [(16, (Value.int .i64 x29)), (15, (Sl3.v x28)), (14, (Sl3.v x27)), (89, (Value.int .i64 x29)), (88, (Sl3.v x28)), (87, (Sl3.v x27)), (83, (Value.tuple #[(Sl3.v x27), (Sl3.v x28), (Value.int .i64 x29)]))] (by kernel_rfl) ?_
            refine RX.done (by kernel_rfl) ?_
            refine fun ss hs => (WX.nxt ?_ ss hs)
            refine WX.seq (by kernel_rfl) ?_
            refine WX.region (opsOf (cfst (csnd (csnd (csnd (csnd (csnd (csnd (csnd (csnd B11)))))))))) (by kernel_rfl) ?_
            refine RX.psn 2 [(92, (Sl3.v x24)), (91, (Sl3.v a1))] (by kernel_rfl) ?_
            obtain ⟨⟨x31, x32, x33, H34⟩, hx, h⟩ := bind_some h
            dsimp only at h
            refine RX.callAt (some 93) (v := (Value.tuple #[(Sl3.v x31), (Sl3.v x32), (Value.int .i64 x33)])) 38 #[(Sl3.v a1), (Sl3.v x24)] (by kernel_rfl) (by kernel_rfl) (by kernel_rfl) (nat_Quo_ok hx) ?_
            refine RX.psn 7 [(19, (Value.int .i64 x33)), (18, (Sl3.v x32)), (17, (Sl3.v x31)), (96, (Value.int .i64 x33)), (95, (Sl3.v x32)), (94, (Sl3.v x31)), (90, (Value.tuple #[(Sl3.v x31), (Sl3.v x32), (Value.int .i64 x33)]))] (by kernel_rfl) ?_
            refine RX.done (by kernel_rfl) ?_
            refine fun ss hs => (WX.nxt ?_ ss hs)
            refine WX.seq (by kernel_rfl) ?_
            refine WX.region (opsOf (cfst (csnd (csnd (csnd (csnd (csnd (csnd (csnd (csnd (csnd B11))))))))))) (by kernel_rfl) ?_
            refine RX.psn 2 [(99, (Sl3.v x31)), (98, (Sl3.v x27))] (by kernel_rfl) ?_
            obtain ⟨⟨x35, x36, H37⟩, hx, h⟩ := bind_some h
            dsimp only at h
            refine RX.callAt (some 100) (v := (Value.tuple #[(Sl3.v x35), (Value.int .i64 x36)])) 40 #[(Sl3.v x27), (Sl3.v x31)] (by kernel_rfl) (by kernel_rfl) (by kernel_rfl) (nat_Gcd_ok hx) ?_
            refine RX.psn 5 [(21, (Value.int .i64 x36)), (20, (Sl3.v x35)), (102, (Value.int .i64 x36)), (101, (Sl3.v x35)), (97, (Value.tuple #[(Sl3.v x35), (Value.int .i64 x36)]))] (by kernel_rfl) ?_
            refine RX.done (by kernel_rfl) ?_
            refine fun ss hs => (WX.nxt ?_ ss hs)
            refine WX.seq (by kernel_rfl) ?_
            refine WX.region (opsOf (cfst (csnd (csnd (csnd (csnd (csnd (csnd (csnd (csnd (csnd (csnd B11)))))))))))) (by kernel_rfl) ?_
            refine RX.psn 3 [(105, (Value.bool (decide (x25 = 0)))), (104, (Value.bool (decide (x25 = 0)))), (103, (Value.int .i64 x25))] (by kernel_rfl) ?_
            rcases ite_some h with ⟨hp, h⟩ | ⟨hp, h⟩
            · refine RX.fix 105 true (decide_eq_true hp) (by kernel_rfl) ?_
              refine RX.psn 4 [(109, (Value.bool (decide (x29 = 0)))), (108, (Value.bool (decide (x29 = 0)))), (107, (Value.bool (decide (x29 = 0)))), (106, (Value.int .i64 x29))] (by kernel_rfl) ?_
              rcases ite_some h with ⟨hp, h⟩ | ⟨hp, h⟩
              · refine RX.fix 109 true (decide_eq_true hp) (by kernel_rfl) ?_
                refine RX.psn 4 [(113, (Value.bool (decide (x33 = 0)))), (112, (Value.bool (decide (x33 = 0)))), (111, (Value.bool (decide (x33 = 0)))), (110, (Value.int .i64 x33))] (by kernel_rfl) ?_
                rcases ite_some h with ⟨hp, h⟩ | ⟨hp, h⟩
                · refine RX.fix 113 true (decide_eq_true hp) (by kernel_rfl) ?_
                  refine RX.psn 4 [(117, (Value.bool (decide (x36 = 0)))), (116, (Value.bool (decide (x36 = 0)))), (115, (Value.bool (decide (x36 = 0)))), (114, (Value.int .i64 x36))] (by kernel_rfl) ?_
                  rcases ite_some h with ⟨hp, h⟩ | ⟨hp, h⟩
                  · refine RX.fix 117 true (decide_eq_true hp) (by kernel_rfl) ?_
                    refine RX.psn 1 [(118, (Sl3.v x28))] (by kernel_rfl) ?_
                    obtain ⟨x38, hx, h⟩ := bind_some h
                    refine RX.callAt (some 119) (v := (Value.int .i64 x38)) 28 #[(Sl3.v x28)] (by kernel_rfl) (by kernel_rfl) (by kernel_rfl) (nat_Len_ok hx) ?_
                    refine RX.psn 3 [(122, (Value.bool (decide (x38 = 0)))), (121, (Value.bool (decide (x38 = 0)))), (120, (Value.bool (decide (x38 = 0))))] (by kernel_rfl) ?_
                    rcases ite_some h with ⟨hp, h⟩ | ⟨hp, h⟩
                    · refine RX.fix 122 true (decide_eq_true hp) (by kernel_rfl) ?_
                      refine RX.psn 1 [(123, (Sl3.v x32))] (by kernel_rfl) ?_
                      obtain ⟨x39, hx, h⟩ := bind_some h
                      refine RX.callAt (some 124) (v := (Value.int .i64 x39)) 28 #[(Sl3.v x32)] (by kernel_rfl) (by kernel_rfl) (by kernel_rfl) (nat_Len_ok hx) ?_
                      refine RX.psn 3 [(127, (Value.bool (decide (x39 = 0)))), (126, (Value.bool (decide (x39 = 0)))), (125, (Value.bool (decide (x39 = 0))))] (by kernel_rfl) ?_
                      rcases ite_some h with ⟨hp, h⟩ | ⟨hp, h⟩
                      · refine RX.fix 127 true (decide_eq_true hp) (by kernel_rfl) ?_
                        refine RX.psn 1 [(128, (Sl3.v x35))] (by kernel_rfl) ?_
                        obtain ⟨⟨x40, H41⟩, hx, h⟩ := bind_some h
                        dsimp only at h
                        refine RX.callAt (some 129) (v := (Sl3.v x40)) 24 #[(Value.int .u64 1)] (by kernel_rfl) (by kernel_rfl) (by kernel_rfl) (nat_Of_ok hx) ?_
                        obtain ⟨x42, hx, h⟩ := bind_some h
                        refine RX.callAt (some 130) (v := (Value.int .i64 x42)) 26 #[(Sl3.v x35), (Sl3.v x40)] (by kernel_rfl) (by kernel_rfl) (by kernel_rfl) (nat_Cmp_ok hx) ?_
                        refine RX.psn 3 [(133, (Value.bool (decide (x42 = 0)))), (132, (Value.bool (decide (x42 = 0)))), (131, (Value.bool (decide (x42 = 0))))] (by kernel_rfl) ?_
                        rcases ite_some h with ⟨hp, h⟩ | ⟨hp, h⟩
                        · refine RX.fix 133 true (decide_eq_true hp) (by kernel_rfl) ?_
                          obtain ⟨⟨x43, H44⟩, hx, h⟩ := bind_some h
                          dsimp only at h
                          refine RX.callAt (some 134) (v := (Value.bool x43)) 17 #[] (by kernel_rfl) (by kernel_rfl) (by kernel_rfl) (law01_alive_ok hx) ?_
                          refine RX.psn 2 [(4, (Value.bool x43)), (135, (Value.bool x43))] (by kernel_rfl) ?_
                          refine RX.done (by kernel_rfl) ?_
                          refine fun ss hs => (WX.nxt ?_ ss hs)
                          refine WX.ret (by kernel_rfl) ?_
                          cases h
                          exact fun ss hs => retR (rq hs (by kernel_rfl))
                        · refine RX.fix 133 false (decide_eq_false hp) (by kernel_rfl) ?_
                          refine RX.psn 3 [(4, (Value.bool false)), (135, (Value.bool false)), (134, undef)] (by kernel_rfl) ?_
                          refine RX.done (by kernel_rfl) ?_
                          refine fun ss hs => (WX.nxt ?_ ss hs)
                          refine WX.ret (by kernel_rfl) ?_
                          cases h
                          exact fun ss hs => retR (rq hs (by kernel_rfl))
                      · refine RX.fix 127 false (decide_eq_false hp) (by kernel_rfl) ?_
                        refine RX.psn 9 [(4, (Value.bool false)), (135, (Value.bool false)), (134, undef), (133, (Value.bool false)), (132, (Value.bool false)), (131, undef), (130, undef), (129, undef), (128, undef)] (by kernel_rfl) ?_
                        refine RX.done (by kernel_rfl) ?_
                        refine fun ss hs => (WX.nxt ?_ ss hs)
                        refine WX.ret (by kernel_rfl) ?_
                        cases h
                        exact fun ss hs => retR (rq hs (by kernel_rfl))
                    · refine RX.fix 122 false (decide_eq_false hp) (by kernel_rfl) ?_
                      refine RX.psn 14 [(4, (Value.bool false)), (135, (Value.bool false)), (134, undef), (133, (Value.bool false)), (132, (Value.bool false)), (131, undef), (130, undef), (129, undef), (128, undef), (127, (Value.bool false)), (126, (Value.bool false)), (125, undef), (124, undef), (123, undef)] (by kernel_rfl) ?_
                      refine RX.done (by kernel_rfl) ?_
                      refine fun ss hs => (WX.nxt ?_ ss hs)
                      refine WX.ret (by kernel_rfl) ?_
                      cases h
                      exact fun ss hs => retR (rq hs (by kernel_rfl))
                  · refine RX.fix 117 false (decide_eq_false hp) (by kernel_rfl) ?_
                    refine RX.psn 19 [(4, (Value.bool false)), (135, (Value.bool false)), (134, undef), (133, (Value.bool false)), (132, (Value.bool false)), (131, undef), (130, undef), (129, undef), (128, undef), (127, (Value.bool false)), (126, (Value.bool false)), (125, undef), (124, undef), (123, undef), (122, (Value.bool false)), (121, (Value.bool false)), (120, undef), (119, undef), (118, undef)] (by kernel_rfl) ?_
                    refine RX.done (by kernel_rfl) ?_
                    refine fun ss hs => (WX.nxt ?_ ss hs)
                    refine WX.ret (by kernel_rfl) ?_
                    cases h
                    exact fun ss hs => retR (rq hs (by kernel_rfl))
                · refine RX.fix 113 false (decide_eq_false hp) (by kernel_rfl) ?_
                  refine RX.psn 23 [(4, (Value.bool false)), (135, (Value.bool false)), (134, undef), (133, (Value.bool false)), (132, (Value.bool false)), (131, undef), (130, undef), (129, undef), (128, undef), (127, (Value.bool false)), (126, (Value.bool false)), (125, undef), (124, undef), (123, undef), (122, (Value.bool false)), (121, (Value.bool false)), (120, undef), (119, undef), (118, undef), (117, (Value.bool false)), (116, (Value.bool false)), (115, undef), (114, undef)] (by kernel_rfl) ?_
                  refine RX.done (by kernel_rfl) ?_
                  refine fun ss hs => (WX.nxt ?_ ss hs)
                  refine WX.ret (by kernel_rfl) ?_
                  cases h
                  exact fun ss hs => retR (rq hs (by kernel_rfl))
              · refine RX.fix 109 false (decide_eq_false hp) (by kernel_rfl) ?_
                refine RX.psn 27 [(4, (Value.bool false)), (135, (Value.bool false)), (134, undef), (133, (Value.bool false)), (132, (Value.bool false)), (131, undef), (130, undef), (129, undef), (128, undef), (127, (Value.bool false)), (126, (Value.bool false)), (125, undef), (124, undef), (123, undef), (122, (Value.bool false)), (121, (Value.bool false)), (120, undef), (119, undef), (118, undef), (117, (Value.bool false)), (116, (Value.bool false)), (115, undef), (114, undef), (113, (Value.bool false)), (112, (Value.bool false)), (111, undef), (110, undef)] (by kernel_rfl) ?_
                refine RX.done (by kernel_rfl) ?_
                refine fun ss hs => (WX.nxt ?_ ss hs)
                refine WX.ret (by kernel_rfl) ?_
                cases h
                exact fun ss hs => retR (rq hs (by kernel_rfl))
            · refine RX.fix 105 false (decide_eq_false hp) (by kernel_rfl) ?_
              refine RX.psn 31 [(4, (Value.bool false)), (135, (Value.bool false)), (134, undef), (133, (Value.bool false)), (132, (Value.bool false)), (131, undef), (130, undef), (129, undef), (128, undef), (127, (Value.bool false)), (126, (Value.bool false)), (125, undef), (124, undef), (123, undef), (122, (Value.bool false)), (121, (Value.bool false)), (120, undef), (119, undef), (118, undef), (117, (Value.bool false)), (116, (Value.bool false)), (115, undef), (114, undef), (113, (Value.bool false)), (112, (Value.bool false)), (111, undef), (110, undef), (109, (Value.bool false)), (108, (Value.bool false)), (107, undef), (106, undef)] (by kernel_rfl) ?_
              refine RX.done (by kernel_rfl) ?_
              refine fun ss hs => (WX.nxt ?_ ss hs)
              refine WX.ret (by kernel_rfl) ?_
              cases h
              exact fun ss hs => retR (rq hs (by kernel_rfl))
        · refine RX.fix 71 true (dec_not' hp) (by kernel_rfl) ?_
          refine RX.psn 5 [(76, (Value.bool true)), (75, undef), (74, undef), (73, undef), (72, undef)] (by kernel_rfl) ?_
          refine RX.done (by kernel_rfl) ?_
          refine fun ss hs => (WX.nxt ?_ ss hs)
          refine WX.condT true rfl (by kernel_rfl) ?_
          refine WX.seq (by kernel_rfl) ?_
          refine WX.region (opsOf (cfst (cfst (csnd (cfst (csnd (csnd (csnd (csnd (csnd B11)))))))))) (by kernel_rfl) ?_
          refine RX.psn 1 [(4, (Value.bool false))] (by kernel_rfl) ?_
          refine RX.done (by kernel_rfl) ?_
          refine fun ss hs => (WX.nxt ?_ ss hs)
          refine WX.ret (by kernel_rfl) ?_
          cases h
          exact fun ss hs => seqR (retR (rq hs (by kernel_rfl)))
      · refine RX.fix 65 true (dec_not' hp) (by kernel_rfl) ?_
        refine RX.psn 11 [(76, (Value.bool true)), (75, undef), (74, undef), (73, undef), (72, undef), (71, (Value.bool true)), (70, (Value.bool true)), (69, undef), (68, undef), (67, undef), (66, undef)] (by kernel_rfl) ?_
        refine RX.done (by kernel_rfl) ?_
        refine fun ss hs => (WX.nxt ?_ ss hs)
        refine WX.condT true rfl (by kernel_rfl) ?_
        refine WX.seq (by kernel_rfl) ?_
        refine WX.region (opsOf (cfst (cfst (csnd (cfst (csnd (csnd (csnd (csnd (csnd B11)))))))))) (by kernel_rfl) ?_
        refine RX.psn 1 [(4, (Value.bool false))] (by kernel_rfl) ?_
        refine RX.done (by kernel_rfl) ?_
        refine fun ss hs => (WX.nxt ?_ ss hs)
        refine WX.ret (by kernel_rfl) ?_
        cases h
        exact fun ss hs => seqR (retR (rq hs (by kernel_rfl)))
    · refine RX.fix 61 true (dec_not' hp) (by kernel_rfl) ?_
      refine RX.psn 15 [(76, (Value.bool true)), (75, undef), (74, undef), (73, undef), (72, undef), (71, (Value.bool true)), (70, (Value.bool true)), (69, undef), (68, undef), (67, undef), (66, undef), (65, (Value.bool true)), (64, (Value.bool true)), (63, undef), (62, undef)] (by kernel_rfl) ?_
      refine RX.done (by kernel_rfl) ?_
      refine fun ss hs => (WX.nxt ?_ ss hs)
      refine WX.condT true rfl (by kernel_rfl) ?_
      refine WX.seq (by kernel_rfl) ?_
      refine WX.region (opsOf (cfst (cfst (csnd (cfst (csnd (csnd (csnd (csnd (csnd B11)))))))))) (by kernel_rfl) ?_
      refine RX.psn 1 [(4, (Value.bool false))] (by kernel_rfl) ?_
      refine RX.done (by kernel_rfl) ?_
      refine fun ss hs => (WX.nxt ?_ ss hs)
      refine WX.ret (by kernel_rfl) ?_
      cases h
      exact fun ss hs => seqR (retR (rq hs (by kernel_rfl)))
  · refine WX.condT _ (dec_not' hp) (by kernel_rfl) ?_
    refine WX.seq (by kernel_rfl) ?_
    refine WX.region (opsOf (cfst (cfst (csnd (cfst (csnd (csnd B11))))))) (by kernel_rfl) ?_
    refine RX.psn 3 [(33, (Value.bool (decide (x3 = 11)))), (32, (Value.bool (decide (x3 = 11)))), (31, (Value.int .i64 x3))] (by kernel_rfl) ?_
    rcases ite_some h with ⟨hp, h⟩ | ⟨hp, h⟩
    · refine RX.fix 33 true (decide_eq_true hp) (by kernel_rfl) ?_
      refine RX.psn 1 [(34, (Sl3.v a1))] (by kernel_rfl) ?_
      obtain ⟨x5, hx, h⟩ := bind_some h
      refine RX.callAt (some 35) (v := (Value.int .i64 x5)) 28 #[(Sl3.v a1)] (by kernel_rfl) (by kernel_rfl) (by kernel_rfl) (nat_Len_ok hx) ?_
      refine RX.psn 3 [(38, (Value.bool (decide (x5 = 0)))), (37, (Value.bool (decide (x5 = 0)))), (36, (Value.bool (decide (x5 = 0))))] (by kernel_rfl) ?_
      rcases ite_some h with ⟨hp, h⟩ | ⟨hp, h⟩
      · refine RX.fix 38 true (decide_eq_true hp) (by kernel_rfl) ?_
        refine RX.psn 4 [(42, (Value.bool true)), (41, (Value.bool true)), (40, undef), (39, undef)] (by kernel_rfl) ?_
        obtain ⟨⟨x6, H7⟩, hx, h⟩ := bind_some h
        dsimp only at h
        refine RX.callAt (some 43) (v := (Value.bool x6)) 17 #[] (by kernel_rfl) (by kernel_rfl) (by kernel_rfl) (law01_alive_ok hx) ?_
        refine RX.psn 2 [(4, (Value.bool x6)), (44, (Value.bool x6))] (by kernel_rfl) ?_
        refine RX.done (by kernel_rfl) ?_
        refine fun ss hs => (WX.nxt ?_ ss hs)
        refine WX.ret (by kernel_rfl) ?_
        cases h
        exact fun ss hs => seqR (retR (rq hs (by kernel_rfl)))
      · refine RX.fix 38 false (decide_eq_false hp) (by kernel_rfl) ?_
        refine RX.psn 4 [(42, (Value.bool (decide (x3 = 5)))), (41, (Value.bool (decide (x3 = 5)))), (40, (Value.bool (decide (x3 = 5)))), (39, (Value.int .i64 x3))] (by kernel_rfl) ?_
        rcases ite_some h with ⟨hp, h⟩ | ⟨hp, h⟩
        · refine RX.fix 42 true (decide_eq_true hp) (by kernel_rfl) ?_
          obtain ⟨⟨x8, H9⟩, hx, h⟩ := bind_some h
          dsimp only at h
          refine RX.callAt (some 43) (v := (Value.bool x8)) 17 #[] (by kernel_rfl) (by kernel_rfl) (by kernel_rfl) (law01_alive_ok hx) ?_
          refine RX.psn 2 [(4, (Value.bool x8)), (44, (Value.bool x8))] (by kernel_rfl) ?_
          refine RX.done (by kernel_rfl) ?_
          refine fun ss hs => (WX.nxt ?_ ss hs)
          refine WX.ret (by kernel_rfl) ?_
          cases h
          exact fun ss hs => seqR (retR (rq hs (by kernel_rfl)))
        · refine RX.fix 42 false (decide_eq_false hp) (by kernel_rfl) ?_
          refine RX.psn 3 [(4, (Value.bool false)), (44, (Value.bool false)), (43, undef)] (by kernel_rfl) ?_
          refine RX.done (by kernel_rfl) ?_
          refine fun ss hs => (WX.nxt ?_ ss hs)
          refine WX.ret (by kernel_rfl) ?_
          cases h
          exact fun ss hs => seqR (retR (rq hs (by kernel_rfl)))
    · refine RX.fix 33 false (decide_eq_false hp) (by kernel_rfl) ?_
      refine RX.psn 9 [(42, (Value.bool (decide (x3 = 5)))), (41, (Value.bool (decide (x3 = 5)))), (40, (Value.bool (decide (x3 = 5)))), (39, (Value.int .i64 x3)), (38, (Value.bool false)), (37, (Value.bool false)), (36, undef), (35, undef), (34, undef)] (by kernel_rfl) ?_
      rcases ite_some h with ⟨hp, h⟩ | ⟨hp, h⟩
      · refine RX.fix 42 true (decide_eq_true hp) (by kernel_rfl) ?_
        obtain ⟨⟨x10, H11⟩, hx, h⟩ := bind_some h
        dsimp only at h
        refine RX.callAt (some 43) (v := (Value.bool x10)) 17 #[] (by kernel_rfl) (by kernel_rfl) (by kernel_rfl) (law01_alive_ok hx) ?_
        refine RX.psn 2 [(4, (Value.bool x10)), (44, (Value.bool x10))] (by kernel_rfl) ?_
        refine RX.done (by kernel_rfl) ?_
        refine fun ss hs => (WX.nxt ?_ ss hs)
        refine WX.ret (by kernel_rfl) ?_
        cases h
        exact fun ss hs => seqR (retR (rq hs (by kernel_rfl)))
      · refine RX.fix 42 false (decide_eq_false hp) (by kernel_rfl) ?_
        refine RX.psn 3 [(4, (Value.bool false)), (44, (Value.bool false)), (43, undef)] (by kernel_rfl) ?_
        refine RX.done (by kernel_rfl) ?_
        refine fun ss hs => (WX.nxt ?_ ss hs)
        refine WX.ret (by kernel_rfl) ?_
        cases h
        exact fun ss hs => seqR (retR (rq hs (by kernel_rfl)))

end Go.Proofs.Ytoadagekdnkciaa
