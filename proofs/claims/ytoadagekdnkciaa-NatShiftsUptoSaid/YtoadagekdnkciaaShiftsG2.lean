/- Functions of the program as Lean functions over the abstract heap, and that the interpreter comes to them (printed by a program of this project's own), part 2. No condition. -/
import Derived.Test.YtoadagekdnkciaaShiftsG1
namespace Go.Proofs.Ytoadagekdnkciaa
open Go Go.Abs
set_option maxRecDepth 100000

noncomputable def B73 : Code := (Try.f73.body).getD .skip

def ref01_trim_enc : Sl3 → Value
  | r0 => (Sl3.v r0)

def ref01_trim_hp (H : AH) : Sl3 → AH := fun _ => H

noncomputable def ref01_trim_b0 (H : AH) : Sl3 → Option (Lp Sl3 Sl3) := fun v0_1 =>
  if (v0_1.n : Int) > 0 then
    Option.bind (idxA 1 v0_1 (IntKind.i64.wrap ((v0_1.n : Int) - 1))) fun p2 =>
    Option.bind (rd (deI .u32) H p2) fun x3 =>
    if x3 = 0 then
      Option.bind (slc 1 H v0_1 none (some (IntKind.i64.wrap ((v0_1.n : Int) - 1))) none) fun s4 =>
      some (.next s4)
    else
      some (.brk v0_1)
  else
    some (.brk v0_1)

def ref01_trim_b0_kn (H : AH) : Sl3 → Kn := fun v0_1 => [(0, (Sl3.v v0_1))]

noncomputable def ref01_trim (H : AH) (a0 : Sl3) : Option Sl3 :=
  Option.bind (loopO (ref01_trim_b0 H) a0) fun o => match o with
  | .inl v0_5 =>
    some v0_5
  | .inr r => some r

theorem ref01_trim_b0_ok {H : AH} : ∀ s o, ref01_trim_b0 H s = some o →
    WX Try.prog 1000 4294967296 Try.f73.ntmps (cfst (cfst (cfst (csnd B73)))) (ref01_trim_b0_kn H s) ((fun _ => H) s) (lpQ (ref01_trim_b0_kn H) (fun _ => H) 0 (fun r => RQ Try.f73 (ref01_trim_enc r) (ref01_trim_hp H r)) o) := by
  rintro v0_1 o h
  unfold ref01_trim_b0 at h
  try dsimp only at h
  refine WX.seq (by kernel_rfl) ?_
  refine WX.seq (by kernel_rfl) ?_
  refine WX.region (opsOf (cfst (cfst (cfst (cfst (cfst (csnd B73))))))) (by kernel_rfl) ?_
  refine RX.psn 4 [(6, (Value.bool (decide ((v0_1.n : Int) > 0)))), (5, (Value.bool (decide ((v0_1.n : Int) > 0)))), (4, (Value.int .i64 (v0_1.n : Int))), (3, (Sl3.v v0_1))] (by kernel_rfl) ?_
  rcases ite_some h with ⟨hp, h⟩ | ⟨hp, h⟩
  · refine RX.fix 6 true (decide_eq_true hp) (by kernel_rfl) ?_
    refine RX.psn 4 [(10, (Value.int .i64 (IntKind.i64.wrap ((v0_1.n : Int) - 1)))), (9, (Value.int .i64 (v0_1.n : Int))), (8, (Sl3.v v0_1)), (7, (Sl3.v v0_1))] (by kernel_rfl) ?_
    obtain ⟨p2, hx, h⟩ := bind_some h
    refine RX.at (some 11) (Value.pointer (some p2)) (by kernel_rfl) (by kernel_rfl) (fun ih => Abs.run_idx (s := v0_1) (k := .i64) (t := 63) (e := 65) (x := .tmp 7) (y := .tmp 10) (by kernel_rfl) (by kernel_rfl) (by kernel_rfl) (by kernel_rfl) (by kernel_rfl) hx) ?_
    obtain ⟨x3, hx, h⟩ := bind_some h
    refine RX.at (some 12) (Value.int .u32 x3) (by kernel_rfl) (by kernel_rfl) (fun ih => Abs.run_load (t := 65) (x := .tmp 11) (a := p2) (by kernel_rfl) (by kernel_rfl) (by kernel_rfl) (rd_cell hx deI_inv)) ?_
    refine RX.psn 2 [(14, (Value.bool (decide (x3 = 0)))), (13, (Value.bool (decide (x3 = 0))))] (by kernel_rfl) ?_
    refine RX.done (by kernel_rfl) ?_
    refine fun ss hs => (WX.nxt ?_ ss hs)
    rcases ite_some h with ⟨hp, h⟩ | ⟨hp, h⟩
    · refine WX.condT _ (decide_eq_true hp) (by kernel_rfl) ?_
      refine WX.skip (by kernel_rfl) ?_
      refine fun ss hs => (WX.nxt ?_ ss hs)
      refine WX.block 1 (by kernel_rfl) ?_
      refine WX.region (opsOf (cfst (csnd (cfst (cfst (cfst (csnd B73))))))) (by kernel_rfl) ?_
      refine RX.psn 4 [(18, (Value.int .i64 (IntKind.i64.wrap ((v0_1.n : Int) - 1)))), (17, (Value.int .i64 (v0_1.n : Int))), (16, (Sl3.v v0_1)), (15, (Sl3.v v0_1))] (by kernel_rfl) ?_
      obtain ⟨s4, hx, h⟩ := bind_some h
      refine RX.at (some 19) (Sl3.v s4) (by kernel_rfl) (by kernel_rfl) (fun ih => Abs.run_slice (t := 63) (e := 65) (x := .tmp 15) (lo := none) (hi := (some (.tmp 18))) (mx := none) (s := v0_1) (k1 := .i64) (k2 := .i64) (k3 := .i64) (by kernel_rfl) (by kernel_rfl) (by kernel_rfl) (by kernel_rfl) (by kernel_rfl) (by kernel_rfl) (by kernel_rfl) hx) ?_
      refine RX.psn 1 [(0, (Sl3.v s4))] (by kernel_rfl) ?_
      refine RX.done (by kernel_rfl) ?_
      cases h
      exact fun ss hs => blkN (lpN rfl (hs.sub ((SubK.cons (by kernel_rfl) SubK.nil))))
    · refine WX.condF _ (decide_eq_false hp) (by kernel_rfl) ?_
      refine WX.exit 0 (by kernel_rfl) ?_
      cases h
      exact fun ss hs => seqE (lpB rfl (hs.sub ((SubK.cons (by kernel_rfl) SubK.nil))))
  · refine RX.fix 6 false (decide_eq_false hp) (by kernel_rfl) ?_
    refine RX.psn 8 [(14, (Value.bool false)), (13, undef), (12, undef), (11, undef), (10, undef), (9, undef), (8, undef), (7, undef)] (by kernel_rfl) ?_
    refine RX.done (by kernel_rfl) ?_
    refine fun ss hs => (WX.nxt ?_ ss hs)
    refine WX.condF false rfl (by kernel_rfl) ?_
    refine WX.exit 0 (by kernel_rfl) ?_
    cases h
    exact fun ss hs => seqE (lpB rfl (hs.sub ((SubK.cons (by kernel_rfl) SubK.nil))))

theorem ref01_trim_ok {H : AH} {a0 : Sl3} {r : Sl3} (h : ref01_trim H a0 = some r) :
    CallE Try.prog 1000 4294967296 73 #[(Sl3.v a0)] H (ref01_trim_enc r) (ref01_trim_hp H r) := by
  refine CallE.mk (args := [(Sl3.v a0)]) Try.func73 (B := B73) (by kernel_rfl) ?_
  unfold ref01_trim at h
  refine WX.seq (by kernel_rfl) ?_
  refine WX.region (opsOf (cfst B73)) (by kernel_rfl) ?_
  refine RX.psn 1 [(2, (Sl3.v Sl3.nil))] (by kernel_rfl) ?_
  refine RX.done (by kernel_rfl) ?_
  refine fun ss hs => (WX.nxt ?_ ss hs)
  refine WX.seq (by kernel_rfl) ?_
  refine WX.block 0 (by kernel_rfl) ?_
  obtain ⟨o, hl, h⟩ := bind_some h
  rcases o with v0_5 | r
  · dsimp only at h
    refine WX.loopI (by kernel_rfl) (ref01_trim_b0 H) (ref01_trim_b0_kn H) (fun _ => H) 0 (fun r => RQ Try.f73 (ref01_trim_enc r) (ref01_trim_hp H r)) ref01_trim_b0_ok hl ((SubK.cons (by kernel_rfl) SubK.nil)) rfl ?_
    clear hl
    refine fun ss hs => blkE ((WX.nxt ?_ ss hs))
    refine WX.seq (by kernel_rfl) ?_
    refine WX.region (opsOf (cfst (csnd (csnd B73)))) (by kernel_rfl) ?_
    refine RX.psn 2 [(2, (Sl3.v v0_5)), (20, (Sl3.v v0_5))] (by kernel_rfl) ?_
    refine RX.done (by kernel_rfl) ?_
    refine fun ss hs => (WX.nxt ?_ ss hs)
    refine WX.ret (by kernel_rfl) ?_
    cases h
    exact fun ss hs => retR (rq hs (by kernel_rfl))
  · dsimp only at h
    refine WX.loopR (by kernel_rfl) (ref01_trim_b0 H) (ref01_trim_b0_kn H) (fun _ => H) 0 (fun r => RQ Try.f73 (ref01_trim_enc r) (ref01_trim_hp H r)) ref01_trim_b0_ok hl ((SubK.cons (by kernel_rfl) SubK.nil)) rfl ?_
    cases h
    exact fun ss H hq => blkR (seqR (retR hq))

noncomputable def B48 : Code := (Try.f48.body).getD .skip

def ref01_From_enc : (Sl3 × AH) → Value
  | (r0, _) => (Sl3.v r0)

def ref01_From_hp (_ : AH) : (Sl3 × AH) → AH := fun r => r.2

noncomputable def ref01_From_b1 (a0 : Sl3) (v4_3 : Int) : (AH × Sl3 × Int) → Option (Lp (AH × Sl3 × Int) (Sl3 × AH)) := fun (H4, v3_5, v5_6) =>
  if v5_6 < 4 then
    Option.bind (idxA 1 a0 v4_3) fun p7 =>
    Option.bind (rd (deI .u64) H4 p7) fun x8 =>
    if (IntKind.u64.wrap (16 * (IntKind.u64.wrap v5_6))) < 0 then none else
    Option.bind (newR 65 1 #[(Value.int .u32 (iand .u32 (IntKind.u32.wrap (ishr .u64 x8 (IntKind.u64.wrap (16 * (IntKind.u64.wrap v5_6))))) 65535))] H4) fun (s9, H10) =>
    Option.bind (appS 4294967296 65 1 4 H10 v3_5 s9) fun (s11, H12) =>
    some (.next (H12, s11, (IntKind.i64.wrap (v5_6 + 1))))
  else
    some (.brk (H4, v3_5, v5_6))

def ref01_From_b1_kn (a0 : Sl3) (v4_3 : Int) : (AH × Sl3 × Int) → Kn := fun (H4, v3_5, v5_6) => [(3, (Sl3.v v3_5)), (5, (Value.int .i64 v5_6)), (0, (Sl3.v a0)), (4, (Value.int .i64 v4_3))]

noncomputable def ref01_From_b0 (a0 : Sl3) : (AH × Sl3 × Int) → Option (Lp (AH × Sl3 × Int) (Sl3 × AH)) := fun (H1, v3_2, v4_3) =>
  if v4_3 < (a0.n : Int) then
    Option.bind (loopO (ref01_From_b1 a0 v4_3) (H1, v3_2, 0)) fun o => match o with
    | .inl (H13, v3_14, v5_15) =>
      some (.next (H13, v3_14, (IntKind.i64.wrap (v4_3 + 1))))
    | .inr r => some (.ret r)
  else
    some (.brk (H1, v3_2, v4_3))

def ref01_From_b0_kn (a0 : Sl3) : (AH × Sl3 × Int) → Kn := fun (H1, v3_2, v4_3) => [(3, (Sl3.v v3_2)), (4, (Value.int .i64 v4_3)), (0, (Sl3.v a0))]

noncomputable def ref01_From (H : AH) (a0 : Sl3) : Option (Sl3 × AH) :=
  Option.bind (loopO (ref01_From_b0 a0) (H, Sl3.nil, 0)) fun o => match o with
  | .inl (H16, v3_17, v4_18) =>
    Option.bind (ref01_trim H16 v3_17) fun x19 =>
    some (x19, H16)
  | .inr r => some r

theorem ref01_From_b1_ok {a0 : Sl3} {v4_3 : Int} : ∀ s o, ref01_From_b1 a0 v4_3 s = some o →
    WX Try.prog 1000 4294967296 Try.f48.ntmps (cfst (cfst (csnd (cfst (cfst (csnd (cfst (cfst (csnd (cfst (csnd (csnd B48)))))))))))) (ref01_From_b1_kn a0 v4_3 s) ((fun s => s.1) s) (lpQ (ref01_From_b1_kn a0 v4_3) (fun s => s.1) 2 (fun r => RQ Try.f48 (ref01_From_enc r) (ref01_From_hp ⟨0, .nil⟩ r)) o) := by
  rintro ⟨H4, v3_5, v5_6⟩ o h
  unfold ref01_From_b1 at h
  try dsimp only at h
  refine WX.seq (by kernel_rfl) ?_
  refine WX.seq (by kernel_rfl) ?_
  refine WX.region (opsOf (cfst (cfst (cfst (cfst (csnd (cfst (cfst (csnd (cfst (cfst (csnd (cfst (csnd (csnd B48))))))))))))))) (by kernel_rfl) ?_
  refine RX.psn 2 [(13, (Value.bool (decide (v5_6 < 4)))), (12, (Value.int .i64 v5_6))] (by kernel_rfl) ?_
  refine RX.done (by kernel_rfl) ?_
  refine fun ss hs => (WX.nxt ?_ ss hs)
  rcases ite_some h with ⟨hp, h⟩ | ⟨hp, h⟩
  · refine WX.condT _ (decide_eq_true hp) (by kernel_rfl) ?_
    refine WX.skip (by kernel_rfl) ?_
    refine fun ss hs => (WX.nxt ?_ ss hs)
    refine WX.seq (by kernel_rfl) ?_
    refine WX.block 3 (by kernel_rfl) ?_
    refine WX.region (opsOf (cfst (cfst (csnd (cfst (cfst (csnd (cfst (cfst (csnd (cfst (cfst (csnd (cfst (csnd (csnd B48)))))))))))))))) (by kernel_rfl) ?_
    refine RX.psn 3 [(18, (Value.int .i64 v4_3)), (17, (Sl3.v a0)), (16, (Sl3.v v3_5))] (by kernel_rfl) ?_
    obtain ⟨p7, hx, h⟩ := bind_some h
    refine RX.at (some 19) (Value.pointer (some p7)) (by kernel_rfl) (by kernel_rfl) (fun ih => Abs.run_idx (s := a0) (k := .i64) (t := 24) (e := 38) (x := .tmp 17) (y := .tmp 18) (by kernel_rfl) (by kernel_rfl) (by kernel_rfl) (by kernel_rfl) (by kernel_rfl) hx) ?_
    obtain ⟨x8, hx, h⟩ := bind_some h
    refine RX.at (some 20) (Value.int .u64 x8) (by kernel_rfl) (by kernel_rfl) (fun ih => Abs.run_load (t := 38) (x := .tmp 19) (a := p7) (by kernel_rfl) (by kernel_rfl) (by kernel_rfl) (rd_cell hx deI_inv)) ?_
    refine RX.psn 3 [(23, (Value.int .u64 (IntKind.u64.wrap (16 * (IntKind.u64.wrap v5_6))))), (22, (Value.int .u64 (IntKind.u64.wrap v5_6))), (21, (Value.int .i64 v5_6))] (by kernel_rfl) ?_
    rcases ite_some h with ⟨_, h⟩ | ⟨hx, h⟩
    · cases h
    · refine RX.at (some 24) (Value.int .u64 (ishr .u64 x8 (IntKind.u64.wrap (16 * (IntKind.u64.wrap v5_6))))) (by kernel_rfl) (by kernel_rfl) (fun ih => Abs.run_shr (t := 38) (u := 73) (x := .tmp 20) (y := .tmp 23) (k' := .u64) (by kernel_rfl) (by kernel_rfl) (by kernel_rfl) hx) ?_
      refine RX.psn 2 [(26, (Value.int .u32 (iand .u32 (IntKind.u32.wrap (ishr .u64 x8 (IntKind.u64.wrap (16 * (IntKind.u64.wrap v5_6))))) 65535))), (25, (Value.int .u32 (IntKind.u32.wrap (ishr .u64 x8 (IntKind.u64.wrap (16 * (IntKind.u64.wrap v5_6)))))))] (by kernel_rfl) ?_
      obtain ⟨⟨s9, H10⟩, hx, h⟩ := bind_some h
      dsimp only at h
      refine RX.at (some 27) (Sl3.v s9) (by kernel_rfl) (by kernel_rfl) (fun ih => Abs.run_newR (by kernel_rfl) (by kernel_rfl) hx) ?_
      obtain ⟨⟨s11, H12⟩, hx, h⟩ := bind_some h
      dsimp only at h
      refine RX.at (some 28) (Sl3.v s11) (by kernel_rfl) (by kernel_rfl) (fun ih => Abs.run_app (x := .tmp 16) (y := .tmp 27) (ts := #[63, 63]) (s := v3_5) (z := s9) (by kernel_rfl) (by kernel_rfl) (by kernel_rfl) (by kernel_rfl) hx) ?_
      refine RX.psn 1 [(3, (Sl3.v s11))] (by kernel_rfl) ?_
      refine RX.done (by kernel_rfl) ?_
      refine fun ss hs => blkN ((WX.nxt ?_ ss hs))
      refine WX.region (opsOf (csnd (csnd (cfst (cfst (csnd (cfst (cfst (csnd (cfst (cfst (csnd (cfst (csnd (csnd B48))))))))))))))) (by kernel_rfl) ?_
      refine RX.psn 3 [(5, (Value.int .i64 (IntKind.i64.wrap (v5_6 + 1)))), (15, (Value.int .i64 (IntKind.i64.wrap (v5_6 + 1)))), (14, (Value.int .i64 v5_6))] (by kernel_rfl) ?_
      refine RX.done (by kernel_rfl) ?_
      cases h
      exact fun ss hs => lpN rfl (hs.sub ((SubK.cons (by kernel_rfl) (SubK.cons (by kernel_rfl) (SubK.cons (by kernel_rfl) (SubK.cons (by kernel_rfl) SubK.nil))))))
  · refine WX.condF _ (decide_eq_false hp) (by kernel_rfl) ?_
    refine WX.exit 2 (by kernel_rfl) ?_
    cases h
    exact fun ss hs => seqE (lpB rfl (hs.sub ((SubK.cons (by kernel_rfl) (SubK.cons (by kernel_rfl) (SubK.cons (by kernel_rfl) (SubK.cons (by kernel_rfl) SubK.nil)))))))

theorem ref01_From_b0_ok {a0 : Sl3} : ∀ s o, ref01_From_b0 a0 s = some o →
    WX Try.prog 1000 4294967296 Try.f48.ntmps (cfst (cfst (csnd (cfst (csnd (csnd B48)))))) (ref01_From_b0_kn a0 s) ((fun s => s.1) s) (lpQ (ref01_From_b0_kn a0) (fun s => s.1) 0 (fun r => RQ Try.f48 (ref01_From_enc r) (ref01_From_hp ⟨0, .nil⟩ r)) o) := by
  rintro ⟨H1, v3_2, v4_3⟩ o h
  unfold ref01_From_b0 at h
  try dsimp only at h
  refine WX.seq (by kernel_rfl) ?_
  refine WX.seq (by kernel_rfl) ?_
  refine WX.region (opsOf (cfst (cfst (cfst (cfst (csnd (cfst (csnd (csnd B48))))))))) (by kernel_rfl) ?_
  refine RX.psn 4 [(9, (Value.bool (decide (v4_3 < (a0.n : Int))))), (8, (Value.int .i64 (a0.n : Int))), (7, (Sl3.v a0)), (6, (Value.int .i64 v4_3))] (by kernel_rfl) ?_
  refine RX.done (by kernel_rfl) ?_
  refine fun ss hs => (WX.nxt ?_ ss hs)
  rcases ite_some h with ⟨hp, h⟩ | ⟨hp, h⟩
  · refine WX.condT _ (decide_eq_true hp) (by kernel_rfl) ?_
    refine WX.skip (by kernel_rfl) ?_
    refine fun ss hs => (WX.nxt ?_ ss hs)
    refine WX.seq (by kernel_rfl) ?_
    refine WX.block 1 (by kernel_rfl) ?_
    refine WX.seq (by kernel_rfl) ?_
    refine WX.region (opsOf (cfst (cfst (cfst (csnd (cfst (cfst (csnd (cfst (csnd (csnd B48))))))))))) (by kernel_rfl) ?_
    refine RX.psn 1 [(5, (Value.int .i64 0))] (by kernel_rfl) ?_
    refine RX.done (by kernel_rfl) ?_
    refine fun ss hs => (WX.nxt ?_ ss hs)
    refine WX.block 2 (by kernel_rfl) ?_
    obtain ⟨o, hl, h⟩ := bind_some h
    rcases o with ⟨H13, v3_14, v5_15⟩ | r
    · dsimp only at h
      refine WX.loopI (by kernel_rfl) (ref01_From_b1 a0 v4_3) (ref01_From_b1_kn a0 v4_3) (fun s => s.1) 2 (fun r => RQ Try.f48 (ref01_From_enc r) (ref01_From_hp ⟨0, .nil⟩ r)) ref01_From_b1_ok hl ((SubK.cons (by kernel_rfl) (SubK.cons (by kernel_rfl) (SubK.cons (by kernel_rfl) (SubK.cons (by kernel_rfl) SubK.nil))))) rfl ?_
      clear hl
      refine fun ss hs => blkE (blkN ((WX.nxt ?_ ss hs)))
      refine WX.region (opsOf (csnd (csnd (cfst (cfst (csnd (cfst (csnd (csnd B48))))))))) (by kernel_rfl) ?_
      refine RX.psn 3 [(4, (Value.int .i64 (IntKind.i64.wrap (v4_3 + 1)))), (11, (Value.int .i64 (IntKind.i64.wrap (v4_3 + 1)))), (10, (Value.int .i64 v4_3))] (by kernel_rfl) ?_
      refine RX.done (by kernel_rfl) ?_
      cases h
      exact fun ss hs => lpN rfl (hs.sub ((SubK.cons (by kernel_rfl) (SubK.cons (by kernel_rfl) (SubK.cons (by kernel_rfl) SubK.nil)))))
    · dsimp only at h
      refine WX.loopR (by kernel_rfl) (ref01_From_b1 a0 v4_3) (ref01_From_b1_kn a0 v4_3) (fun s => s.1) 2 (fun r => RQ Try.f48 (ref01_From_enc r) (ref01_From_hp ⟨0, .nil⟩ r)) ref01_From_b1_ok hl ((SubK.cons (by kernel_rfl) (SubK.cons (by kernel_rfl) (SubK.cons (by kernel_rfl) (SubK.cons (by kernel_rfl) SubK.nil))))) rfl ?_
      cases h
      exact fun ss H hq => blkR (blkR (seqR (lpR hq)))
  · refine WX.condF _ (decide_eq_false hp) (by kernel_rfl) ?_
    refine WX.exit 0 (by kernel_rfl) ?_
    cases h
    exact fun ss hs => seqE (lpB rfl (hs.sub ((SubK.cons (by kernel_rfl) (SubK.cons (by kernel_rfl) (SubK.cons (by kernel_rfl) SubK.nil))))))

theorem ref01_From_ok {H : AH} {a0 : Sl3} {r : (Sl3 × AH)} (h : ref01_From H a0 = some r) :
    CallE Try.prog 1000 4294967296 48 #[(Sl3.v a0)] H (ref01_From_enc r) (ref01_From_hp H r) := by
  refine CallE.mk (args := [(Sl3.v a0)]) Try.func48 (B := B48) (by kernel_rfl) ?_
  unfold ref01_From at h
  refine WX.seq (by kernel_rfl) ?_
  refine WX.region (opsOf (cfst B48)) (by kernel_rfl) ?_
  refine RX.psn 1 [(2, (Sl3.v Sl3.nil))] (by kernel_rfl) ?_
  refine RX.done (by kernel_rfl) ?_
  refine fun ss hs => (WX.nxt ?_ ss hs)
  refine WX.seq (by kernel_rfl) ?_
  refine WX.region (opsOf (cfst (csnd B48))) (by kernel_rfl) ?_
  refine RX.psn 1 [(3, (Sl3.v Sl3.nil))] (by kernel_rfl) ?_
  refine RX.done (by kernel_rfl) ?_
  refine fun ss hs => (WX.nxt ?_ ss hs)
  refine WX.seq (by kernel_rfl) ?_
  refine WX.seq (by kernel_rfl) ?_
  refine WX.region (opsOf (cfst (cfst (csnd (csnd B48))))) (by kernel_rfl) ?_
  refine RX.psn 1 [(4, (Value.int .i64 0))] (by kernel_rfl) ?_
  refine RX.done (by kernel_rfl) ?_
  refine fun ss hs => (WX.nxt ?_ ss hs)
  refine WX.block 0 (by kernel_rfl) ?_
  obtain ⟨o, hl, h⟩ := bind_some h
  rcases o with ⟨H16, v3_17, v4_18⟩ | r
  · dsimp only at h
    refine WX.loopI (by kernel_rfl) (ref01_From_b0 a0) (ref01_From_b0_kn a0) (fun s => s.1) 0 (fun r => RQ Try.f48 (ref01_From_enc r) (ref01_From_hp ⟨0, .nil⟩ r)) ref01_From_b0_ok hl ((SubK.cons (by kernel_rfl) (SubK.cons (by kernel_rfl) (SubK.cons (by kernel_rfl) SubK.nil)))) rfl ?_
    clear hl
    refine fun ss hs => blkE ((WX.nxt ?_ ss hs))
    refine WX.seq (by kernel_rfl) ?_
    refine WX.region (opsOf (cfst (csnd (csnd (csnd B48))))) (by kernel_rfl) ?_
    refine RX.psn 1 [(29, (Sl3.v v3_17))] (by kernel_rfl) ?_
    obtain ⟨x19, hx, h⟩ := bind_some h
    refine RX.callAt (some 30) (v := (Sl3.v x19)) 73 #[(Sl3.v v3_17)] (by kernel_rfl) (by kernel_rfl) (by kernel_rfl) (ref01_trim_ok hx) ?_
    refine RX.psn 1 [(2, (Sl3.v x19))] (by kernel_rfl) ?_
    refine RX.done (by kernel_rfl) ?_
    refine fun ss hs => (WX.nxt ?_ ss hs)
    refine WX.ret (by kernel_rfl) ?_
    cases h
    exact fun ss hs => retR (rq hs (by kernel_rfl))
  · dsimp only at h
    refine WX.loopR (by kernel_rfl) (ref01_From_b0 a0) (ref01_From_b0_kn a0) (fun s => s.1) 0 (fun r => RQ Try.f48 (ref01_From_enc r) (ref01_From_hp ⟨0, .nil⟩ r)) ref01_From_b0_ok hl ((SubK.cons (by kernel_rfl) (SubK.cons (by kernel_rfl) (SubK.cons (by kernel_rfl) SubK.nil)))) rfl ?_
    cases h
    exact fun ss H hq => blkR (seqR (retR hq))

noncomputable def B50 : Code := (Try.f50.body).getD .skip

def ref01_Long_enc : Bool → Value
  | r0 => (Value.bool r0)

def ref01_Long_hp (H : AH) : Bool → AH := fun _ => H

noncomputable def ref01_Long (a0 : Sl3) : Option Bool :=
  some (decide ((a0.n : Int) > 16384))

theorem ref01_Long_ok {H : AH} {a0 : Sl3} {r : Bool} (h : ref01_Long a0 = some r) :
    CallE Try.prog 1000 4294967296 50 #[(Sl3.v a0)] H (ref01_Long_enc r) (ref01_Long_hp H r) := by
  refine CallE.mk (args := [(Sl3.v a0)]) Try.func50 (B := B50) (by kernel_rfl) ?_
  unfold ref01_Long at h
  refine WX.seq (by kernel_rfl) ?_
  refine WX.region (opsOf (cfst B50)) (by kernel_rfl) ?_
  refine RX.psn 1 [(2, (Value.bool false))] (by kernel_rfl) ?_
  refine RX.done (by kernel_rfl) ?_
  refine fun ss hs => (WX.nxt ?_ ss hs)
  refine WX.seq (by kernel_rfl) ?_
  refine WX.region (opsOf (cfst (csnd B50))) (by kernel_rfl) ?_
  refine RX.psn 4 [(2, (Value.bool (decide ((a0.n : Int) > 16384)))), (5, (Value.bool (decide ((a0.n : Int) > 16384)))), (4, (Value.int .i64 (a0.n : Int))), (3, (Sl3.v a0))] (by kernel_rfl) ?_
  refine RX.done (by kernel_rfl) ?_
  refine fun ss hs => (WX.nxt ?_ ss hs)
  refine WX.ret (by kernel_rfl) ?_
  cases h
  exact fun ss hs => retR (rq hs (by kernel_rfl))

noncomputable def B47 : Code := (Try.f47.body).getD .skip

def ref01_long_enc : (Bool × AH) → Value
  | (r0, _) => (Value.bool r0)

def ref01_long_hp (_ : AH) : (Bool × AH) → AH := fun r => r.2

noncomputable def ref01_long_b0 (a0 : Sl3) : (AH × Int) → Option (Lp (AH × Int) (Bool × AH)) := fun (H1, v3_2) =>
  if v3_2 < (a0.n : Int) then
    Option.bind (idxA 1 a0 v3_2) fun p3 =>
    Option.bind (rd deSl H1 p3) fun x4 =>
    Option.bind (ref01_From H1 x4) fun (x5, H6) =>
    Option.bind (ref01_Long x5) fun x7 =>
    if x7 = true then
      some (.ret (true, H6))
    else
      some (.next (H6, (IntKind.i64.wrap (v3_2 + 1))))
  else
    some (.brk (H1, v3_2))

def ref01_long_b0_kn (a0 : Sl3) : (AH × Int) → Kn := fun (H1, v3_2) => [(3, (Value.int .i64 v3_2)), (0, (Sl3.v a0))]

noncomputable def ref01_long (H : AH) (a0 : Sl3) : Option (Bool × AH) :=
  Option.bind (loopO (ref01_long_b0 a0) (H, 0)) fun o => match o with
  | .inl (H8, v3_9) =>
    some (false, H8)
  | .inr r => some r

theorem ref01_long_b0_ok {a0 : Sl3} : ∀ s o, ref01_long_b0 a0 s = some o →
    WX Try.prog 1000 4294967296 Try.f47.ntmps (cfst (cfst (csnd (cfst (csnd B47))))) (ref01_long_b0_kn a0 s) ((fun s => s.1) s) (lpQ (ref01_long_b0_kn a0) (fun s => s.1) 0 (fun r => RQ Try.f47 (ref01_long_enc r) (ref01_long_hp ⟨0, .nil⟩ r)) o) := by
  rintro ⟨H1, v3_2⟩ o h
  unfold ref01_long_b0 at h
  try dsimp only at h
  refine WX.seq (by kernel_rfl) ?_
  refine WX.seq (by kernel_rfl) ?_
  refine WX.region (opsOf (cfst (cfst (cfst (cfst (csnd (cfst (csnd B47)))))))) (by kernel_rfl) ?_
  refine RX.psn 4 [(7, (Value.bool (decide (v3_2 < (a0.n : Int))))), (6, (Value.int .i64 (a0.n : Int))), (5, (Sl3.v a0)), (4, (Value.int .i64 v3_2))] (by kernel_rfl) ?_
  refine RX.done (by kernel_rfl) ?_
  refine fun ss hs => (WX.nxt ?_ ss hs)
  rcases ite_some h with ⟨hp, h⟩ | ⟨hp, h⟩
  · refine WX.condT _ (decide_eq_true hp) (by kernel_rfl) ?_
    refine WX.skip (by kernel_rfl) ?_
    refine fun ss hs => (WX.nxt ?_ ss hs)
    refine WX.seq (by kernel_rfl) ?_
    refine WX.block 1 (by kernel_rfl) ?_
    refine WX.seq (by kernel_rfl) ?_
    refine WX.region (opsOf (cfst (cfst (cfst (csnd (cfst (cfst (csnd (cfst (csnd B47)))))))))) (by kernel_rfl) ?_
    refine RX.psn 2 [(11, (Value.int .i64 v3_2)), (10, (Sl3.v a0))] (by kernel_rfl) ?_
    obtain ⟨p3, hx, h⟩ := bind_some h
    refine RX.at (some 12) (Value.pointer (some p3)) (by kernel_rfl) (by kernel_rfl) (fun ih => Abs.run_idx (s := a0) (k := .i64) (t := 22) (e := 24) (x := .tmp 10) (y := .tmp 11) (by kernel_rfl) (by kernel_rfl) (by kernel_rfl) (by kernel_rfl) (by kernel_rfl) hx) ?_
    obtain ⟨x4, hx, h⟩ := bind_some h
    refine RX.at (some 13) (Sl3.v x4) (by kernel_rfl) (by kernel_rfl) (fun ih => Abs.run_load (t := 24) (x := .tmp 12) (a := p3) (by kernel_rfl) (by kernel_rfl) (by kernel_rfl) (rd_cell hx deSl_inv)) ?_
    obtain ⟨⟨x5, H6⟩, hx, h⟩ := bind_some h
    dsimp only at h
    refine RX.callAt (some 14) (v := (Sl3.v x5)) 48 #[(Sl3.v x4)] (by kernel_rfl) (by kernel_rfl) (by kernel_rfl) (ref01_From_ok hx) ?_
    obtain ⟨x7, hx, h⟩ := bind_some h
    refine RX.callAt (some 15) (v := (Value.bool x7)) 50 #[(Sl3.v x5)] (by kernel_rfl) (by kernel_rfl) (by kernel_rfl) (ref01_Long_ok hx) ?_
    refine RX.done (by kernel_rfl) ?_
    refine fun ss hs => (WX.nxt ?_ ss hs)
    rcases ite_some h with ⟨hp, h⟩ | ⟨hp, h⟩
    · refine WX.condT _ hp (by kernel_rfl) ?_
      refine WX.seq (by kernel_rfl) ?_
      refine WX.region (opsOf (cfst (cfst (csnd (cfst (cfst (csnd (cfst (cfst (csnd (cfst (csnd B47)))))))))))) (by kernel_rfl) ?_
      refine RX.psn 1 [(2, (Value.bool true))] (by kernel_rfl) ?_
      refine RX.done (by kernel_rfl) ?_
      refine fun ss hs => (WX.nxt ?_ ss hs)
      refine WX.ret (by kernel_rfl) ?_
      cases h
      exact fun ss hs => blkR (seqR (lpR (rq hs (by kernel_rfl))))
    · refine WX.condF _ (b_not hp) (by kernel_rfl) ?_
      refine WX.skip (by kernel_rfl) ?_
      refine fun ss hs => blkN ((WX.nxt ?_ ss hs))
      refine WX.region (opsOf (csnd (csnd (cfst (cfst (csnd (cfst (csnd B47)))))))) (by kernel_rfl) ?_
      refine RX.psn 3 [(3, (Value.int .i64 (IntKind.i64.wrap (v3_2 + 1)))), (9, (Value.int .i64 (IntKind.i64.wrap (v3_2 + 1)))), (8, (Value.int .i64 v3_2))] (by kernel_rfl) ?_
      refine RX.done (by kernel_rfl) ?_
      cases h
      exact fun ss hs => lpN rfl (hs.sub ((SubK.cons (by kernel_rfl) (SubK.cons (by kernel_rfl) SubK.nil))))
  · refine WX.condF _ (decide_eq_false hp) (by kernel_rfl) ?_
    refine WX.exit 0 (by kernel_rfl) ?_
    cases h
    exact fun ss hs => seqE (lpB rfl (hs.sub ((SubK.cons (by kernel_rfl) (SubK.cons (by kernel_rfl) SubK.nil)))))

theorem ref01_long_ok {H : AH} {a0 : Sl3} {r : (Bool × AH)} (h : ref01_long H a0 = some r) :
    CallE Try.prog 1000 4294967296 47 #[(Sl3.v a0)] H (ref01_long_enc r) (ref01_long_hp H r) := by
  refine CallE.mk (args := [(Sl3.v a0)]) Try.func47 (B := B47) (by kernel_rfl) ?_
  unfold ref01_long at h
  refine WX.seq (by kernel_rfl) ?_
  refine WX.region (opsOf (cfst B47)) (by kernel_rfl) ?_
  refine RX.psn 1 [(2, (Value.bool false))] (by kernel_rfl) ?_
  refine RX.done (by kernel_rfl) ?_
  refine fun ss hs => (WX.nxt ?_ ss hs)
  refine WX.seq (by kernel_rfl) ?_
  refine WX.seq (by kernel_rfl) ?_
  refine WX.region (opsOf (cfst (cfst (csnd B47)))) (by kernel_rfl) ?_
  refine RX.psn 1 [(3, (Value.int .i64 0))] (by kernel_rfl) ?_
  refine RX.done (by kernel_rfl) ?_
  refine fun ss hs => (WX.nxt ?_ ss hs)
  refine WX.block 0 (by kernel_rfl) ?_
  obtain ⟨o, hl, h⟩ := bind_some h
  rcases o with ⟨H8, v3_9⟩ | r
  · dsimp only at h
    refine WX.loopI (by kernel_rfl) (ref01_long_b0 a0) (ref01_long_b0_kn a0) (fun s => s.1) 0 (fun r => RQ Try.f47 (ref01_long_enc r) (ref01_long_hp ⟨0, .nil⟩ r)) ref01_long_b0_ok hl ((SubK.cons (by kernel_rfl) (SubK.cons (by kernel_rfl) SubK.nil))) rfl ?_
    clear hl
    refine fun ss hs => blkE ((WX.nxt ?_ ss hs))
    refine WX.seq (by kernel_rfl) ?_
    refine WX.region (opsOf (cfst (csnd (csnd B47)))) (by kernel_rfl) ?_
    refine RX.psn 1 [(2, (Value.bool false))] (by kernel_rfl) ?_
    refine RX.done (by kernel_rfl) ?_
    refine fun ss hs => (WX.nxt ?_ ss hs)
    refine WX.ret (by kernel_rfl) ?_
    cases h
    exact fun ss hs => retR (rq hs (by kernel_rfl))
  · dsimp only at h
    refine WX.loopR (by kernel_rfl) (ref01_long_b0 a0) (ref01_long_b0_kn a0) (fun s => s.1) 0 (fun r => RQ Try.f47 (ref01_long_enc r) (ref01_long_hp ⟨0, .nil⟩ r)) ref01_long_b0_ok hl ((SubK.cons (by kernel_rfl) (SubK.cons (by kernel_rfl) SubK.nil))) rfl ?_
    cases h
    exact fun ss H hq => blkR (seqR (retR hq))

noncomputable def B65 : Code := (Try.f65.body).getD .skip

def ref01_limb_enc : Int → Value
  | r0 => (Value.int .u32 r0)

def ref01_limb_hp (H : AH) : Int → AH := fun _ => H

noncomputable def ref01_limb (H : AH) (a0 : Sl3) (a1 : Int) : Option Int :=
  if a1 < (a0.n : Int) then
    Option.bind (idxA 1 a0 a1) fun p1 =>
    Option.bind (rd (deI .u32) H p1) fun x2 =>
    some x2
  else
    some 0

theorem ref01_limb_ok {H : AH} {a0 : Sl3} {a1 : Int} {r : Int} (h : ref01_limb H a0 a1 = some r) :
    CallE Try.prog 1000 4294967296 65 #[(Sl3.v a0), (Value.int .i64 a1)] H (ref01_limb_enc r) (ref01_limb_hp H r) := by
  refine CallE.mk (args := [(Sl3.v a0), (Value.int .i64 a1)]) Try.func65 (B := B65) (by kernel_rfl) ?_
  unfold ref01_limb at h
  refine WX.seq (by kernel_rfl) ?_
  refine WX.region (opsOf (cfst B65)) (by kernel_rfl) ?_
  refine RX.psn 1 [(4, (Value.int .u32 0))] (by kernel_rfl) ?_
  refine RX.done (by kernel_rfl) ?_
  refine fun ss hs => (WX.nxt ?_ ss hs)
  refine WX.seq (by kernel_rfl) ?_
  refine WX.seq (by kernel_rfl) ?_
  refine WX.region (opsOf (cfst (cfst (csnd B65)))) (by kernel_rfl) ?_
  refine RX.psn 4 [(8, (Value.bool (decide (a1 < (a0.n : Int))))), (7, (Value.int .i64 (a0.n : Int))), (6, (Sl3.v a0)), (5, (Value.int .i64 a1))] (by kernel_rfl) ?_
  refine RX.done (by kernel_rfl) ?_
  refine fun ss hs => (WX.nxt ?_ ss hs)
  rcases ite_some h with ⟨hp, h⟩ | ⟨hp, h⟩
  · refine WX.condT _ (decide_eq_true hp) (by kernel_rfl) ?_
    refine WX.seq (by kernel_rfl) ?_
    refine WX.region (opsOf (cfst (cfst (csnd (cfst (csnd B65)))))) (by kernel_rfl) ?_
    refine RX.psn 2 [(10, (Value.int .i64 a1)), (9, (Sl3.v a0))] (by kernel_rfl) ?_
    obtain ⟨p1, hx, h⟩ := bind_some h
    refine RX.at (some 11) (Value.pointer (some p1)) (by kernel_rfl) (by kernel_rfl) (fun ih => Abs.run_idx (s := a0) (k := .i64) (t := 63) (e := 65) (x := .tmp 9) (y := .tmp 10) (by kernel_rfl) (by kernel_rfl) (by kernel_rfl) (by kernel_rfl) (by kernel_rfl) hx) ?_
    obtain ⟨x2, hx, h⟩ := bind_some h
    refine RX.at (some 12) (Value.int .u32 x2) (by kernel_rfl) (by kernel_rfl) (fun ih => Abs.run_load (t := 65) (x := .tmp 11) (a := p1) (by kernel_rfl) (by kernel_rfl) (by kernel_rfl) (rd_cell hx deI_inv)) ?_
    refine RX.psn 1 [(4, (Value.int .u32 x2))] (by kernel_rfl) ?_
    refine RX.done (by kernel_rfl) ?_
    refine fun ss hs => (WX.nxt ?_ ss hs)
    refine WX.ret (by kernel_rfl) ?_
    cases h
    exact fun ss hs => seqR (retR (rq hs (by kernel_rfl)))
  · refine WX.condF _ (decide_eq_false hp) (by kernel_rfl) ?_
    refine WX.skip (by kernel_rfl) ?_
    refine fun ss hs => (WX.nxt ?_ ss hs)
    refine WX.seq (by kernel_rfl) ?_
    refine WX.region (opsOf (cfst (csnd (csnd B65)))) (by kernel_rfl) ?_
    refine RX.psn 1 [(4, (Value.int .u32 0))] (by kernel_rfl) ?_
    refine RX.done (by kernel_rfl) ?_
    refine fun ss hs => (WX.nxt ?_ ss hs)
    refine WX.ret (by kernel_rfl) ?_
    cases h
    exact fun ss hs => retR (rq hs (by kernel_rfl))

noncomputable def B49 : Code := (Try.f49.body).getD .skip

def ref01_MulH_enc : (Sl3 × AH) → Value
  | (r0, _) => (Sl3.v r0)

def ref01_MulH_hp (_ : AH) : (Sl3 × AH) → AH := fun r => r.2

noncomputable def ref01_MulH_b1 (a0 : Sl3) (a1 : Sl3) (s1 : Sl3) (v6_4 : Int) : (AH × Int × Int) → Option (Lp (AH × Int × Int) (Sl3 × AH)) := fun (H5, v7_6, v8_7) =>
  Option.bind (α := Unit ⊕ (Lp (AH × Int × Int) (Sl3 × AH))) (
    if v8_7 < (a1.n : Int) then
      some (.inl ())
    else
      if v7_6 > 0 then
        some (.inl ())
      else
        ((some (.brk (H5, v7_6, v8_7))).map .inr)) fun o => match o with
  | .inl _ =>
    if belowSN H5.next s1 = true then
      Option.bind (idxA 1 s1 (IntKind.i64.wrap (v6_4 + v8_7))) fun p8 =>
      if belowN H5.next p8 = true then
        Option.bind (rd (deI .u32) H5 p8) fun x9 =>
        if belowSN H5.next a0 = true then
          Option.bind (idxA 1 a0 v6_4) fun p10 =>
          if belowN H5.next p10 = true then
            Option.bind (rd (deI .u32) H5 p10) fun x11 =>
            if belowSN H5.next a1 = true then
              Option.bind (ref01_limb H5 a1 v8_7) fun x12 =>
              Option.bind (idxA 1 s1 (IntKind.i64.wrap (v6_4 + v8_7))) fun p13 =>
              Option.bind (H5.setCell 4294967296 p13 (Value.int .u32 (IntKind.u32.wrap (iand .u64 (IntKind.u64.wrap ((IntKind.u64.wrap ((IntKind.u64.wrap x9) + (IntKind.u64.wrap ((IntKind.u64.wrap x11) * (IntKind.u64.wrap x12))))) + v7_6)) 65535)))) fun H14 =>
              some (.next (H14, (ishr .u64 (IntKind.u64.wrap ((IntKind.u64.wrap ((IntKind.u64.wrap x9) + (IntKind.u64.wrap ((IntKind.u64.wrap x11) * (IntKind.u64.wrap x12))))) + v7_6)) 16), (IntKind.i64.wrap (v8_7 + 1))))
            else none
          else none
        else none
      else none
    else none
  | .inr r => some r

def ref01_MulH_b1_kn (a0 : Sl3) (a1 : Sl3) (s1 : Sl3) (v6_4 : Int) : (AH × Int × Int) → Kn := fun (H5, v7_6, v8_7) => [(7, (Value.int .u64 v7_6)), (8, (Value.int .i64 v8_7)), (0, (Sl3.v a0)), (1, (Sl3.v a1)), (5, (Sl3.v s1)), (6, (Value.int .i64 v6_4))]

noncomputable def ref01_MulH_b0 (a0 : Sl3) (a1 : Sl3) (s1 : Sl3) : (AH × Int) → Option (Lp (AH × Int) (Sl3 × AH)) := fun (H3, v6_4) =>
  if v6_4 < (a0.n : Int) then
    Option.bind (loopO (ref01_MulH_b1 a0 a1 s1 v6_4) (H3, 0, 0)) fun o => match o with
    | .inl (H15, v7_16, v8_17) =>
      some (.next (H15, (IntKind.i64.wrap (v6_4 + 1))))
    | .inr r => some (.ret r)
  else
    some (.brk (H3, v6_4))

def ref01_MulH_b0_kn (a0 : Sl3) (a1 : Sl3) (s1 : Sl3) : (AH × Int) → Kn := fun (H3, v6_4) => [(6, (Value.int .i64 v6_4)), (0, (Sl3.v a0)), (1, (Sl3.v a1)), (5, (Sl3.v s1))]

noncomputable def ref01_MulH (H : AH) (a0 : Sl3) (a1 : Sl3) : Option (Sl3 × AH) :=
  Option.bind (mkS 65 1 4 #[(Value.int .u32 0)] H (IntKind.i64.wrap ((a0.n : Int) + (a1.n : Int))) (IntKind.i64.wrap ((a0.n : Int) + (a1.n : Int)))) fun (s1, H2) =>
  Option.bind (loopO (ref01_MulH_b0 a0 a1 s1) (H2, 0)) fun o => match o with
  | .inl (H18, v6_19) =>
    Option.bind (ref01_trim H18 s1) fun x20 =>
    some (x20, H18)
  | .inr r => some r

theorem ref01_MulH_b1_ok {a0 : Sl3} {a1 : Sl3} {s1 : Sl3} {v6_4 : Int} : ∀ s o, ref01_MulH_b1 a0 a1 s1 v6_4 s = some o →
    WX Try.prog 1000 4294967296 Try.f49.ntmps (cfst (cfst (csnd (csnd (cfst (cfst (csnd (cfst (cfst (csnd (cfst (csnd (csnd B49))))))))))))) (ref01_MulH_b1_kn a0 a1 s1 v6_4 s) ((fun s => s.1) s) (lpQ (ref01_MulH_b1_kn a0 a1 s1 v6_4) (fun s => s.1) 2 (fun r => RQ Try.f49 (ref01_MulH_enc r) (ref01_MulH_hp ⟨0, .nil⟩ r)) o) := by
  rintro ⟨H5, v7_6, v8_7⟩ o h
  unfold ref01_MulH_b1 at h
  try dsimp only at h
  obtain ⟨o, hx, h⟩ := bind_some h
  rcases o with _ | ro
  · dsimp only at h
    refine WX.seq (by kernel_rfl) ?_
    refine WX.join ([(0, (Sl3.v a0)), (1, (Sl3.v a1)), (5, (Sl3.v s1)), (6, (Value.int .i64 v6_4)), (7, (Value.int .u64 v7_6)), (8, (Value.int .i64 v8_7))]) H5 ?_ (fun ss hs => WX.nxt ?_ ss hs)
    · clear h; rename _ => h
      refine WX.seq (by kernel_rfl) ?_
      refine WX.region (opsOf (cfst (cfst (cfst (cfst (csnd (csnd (cfst (cfst (csnd (cfst (cfst (csnd (cfst (csnd (csnd B49)))))))))))))))) (by kernel_rfl) ?_
      refine RX.psn 5 [(26, (Value.bool (decide (v8_7 < (a1.n : Int))))), (25, (Value.bool (decide (v8_7 < (a1.n : Int))))), (24, (Value.int .i64 (a1.n : Int))), (23, (Sl3.v a1)), (22, (Value.int .i64 v8_7))] (by kernel_rfl) ?_
      rcases ite_some h with ⟨hp, h⟩ | ⟨hp, h⟩
      · refine RX.fix 26 true (decide_eq_true hp) (by kernel_rfl) ?_
        refine RX.psn 3 [(29, (Value.bool true)), (28, undef), (27, undef)] (by kernel_rfl) ?_
        refine RX.done (by kernel_rfl) ?_
        refine fun ss hs => (WX.nxt ?_ ss hs)
        refine WX.condT true rfl (by kernel_rfl) ?_
        refine WX.skip (by kernel_rfl) ?_
        cases h
        exact fun ss hs => ⟨rfl, hs.sub ((SubK.cons (by kernel_rfl) (SubK.cons (by kernel_rfl) (SubK.cons (by kernel_rfl) (SubK.cons (by kernel_rfl) (SubK.cons (by kernel_rfl) (SubK.cons (by kernel_rfl) SubK.nil))))))), rfl⟩
      · refine RX.fix 26 false (decide_eq_false hp) (by kernel_rfl) ?_
        refine RX.psn 3 [(29, (Value.bool (decide (v7_6 > 0)))), (28, (Value.bool (decide (v7_6 > 0)))), (27, (Value.int .u64 v7_6))] (by kernel_rfl) ?_
        refine RX.done (by kernel_rfl) ?_
        refine fun ss hs => (WX.nxt ?_ ss hs)
        rcases ite_some h with ⟨hp, h⟩ | ⟨hp, h⟩
        · refine WX.condT _ (decide_eq_true hp) (by kernel_rfl) ?_
          refine WX.skip (by kernel_rfl) ?_
          cases h
          exact fun ss hs => ⟨rfl, hs.sub ((SubK.cons (by kernel_rfl) (SubK.cons (by kernel_rfl) (SubK.cons (by kernel_rfl) (SubK.cons (by kernel_rfl) (SubK.cons (by kernel_rfl) (SubK.cons (by kernel_rfl) SubK.nil))))))), rfl⟩
        · refine WX.condF _ (decide_eq_false hp) (by kernel_rfl) ?_
          refine WX.exit 2 (by kernel_rfl) ?_
          exact (map_inl h).elim
    · clear hx
      refine WX.seq (by kernel_rfl) ?_
      refine WX.block 3 (by kernel_rfl) ?_
      refine WX.seq (by kernel_rfl) ?_
      refine WX.drawn (opsOf (cfst (cfst (cfst (csnd (cfst (cfst (csnd (csnd (cfst (cfst (csnd (cfst (cfst (csnd (cfst (csnd (csnd B49)))))))))))))))))) true (by kernel_rfl) (by kernel_rfl) ?_
      rcases ite_some h with ⟨hb, h⟩ | ⟨_, h⟩
      · refine DX.q (some 32) (Sl3.v s1) (by kernel_rfl) (by kernel_rfl) (by kernel_rfl) (fun ih H => by kernel_rfl) (calm_sl (belowSN_lt hb)) ?_
        refine DX.q (some 33) (Value.int .i64 v6_4) (by kernel_rfl) (by kernel_rfl) (by kernel_rfl) (fun ih H => by kernel_rfl) calm_int ?_
        refine DX.q (some 34) (Value.int .i64 v8_7) (by kernel_rfl) (by kernel_rfl) (by kernel_rfl) (fun ih H => by kernel_rfl) calm_int ?_
        refine DX.q (some 35) (Value.int .i64 (IntKind.i64.wrap (v6_4 + v8_7))) (by kernel_rfl) (by kernel_rfl) (by kernel_rfl) (fun ih H => by kernel_rfl) calm_int ?_
        obtain ⟨p8, hx, h⟩ := bind_some h
        rcases ite_some h with ⟨hb, h⟩ | ⟨_, h⟩
        · refine DX.q (some 36) (Value.pointer (some p8)) (by kernel_rfl) (by kernel_rfl) (by kernel_rfl) (fun ih H => Abs.run_idx (s := s1) (k := .i64) (t := 63) (e := 65) (x := .tmp 32) (y := .tmp 35) (by kernel_rfl) (by kernel_rfl) (by kernel_rfl) (by kernel_rfl) (by kernel_rfl) hx) (calm_ptr (belowN_lt hb)) ?_
          obtain ⟨x9, hx, h⟩ := bind_some h
          refine DX.l (some 37) (Value.int .u32 x9) (by kernel_rfl) (by kernel_rfl) (by kernel_rfl) (by kernel_rfl) (fun ih H hm => Abs.run_load (t := 65) (x := .tmp 36) (a := p8) (by kernel_rfl) (by kernel_rfl) (by kernel_rfl) ((cell_mem hm _).trans (rd_cell hx deI_inv))) calm_int ?_
          refine DX.q (some 38) (Value.int .u64 (IntKind.u64.wrap x9)) (by kernel_rfl) (by kernel_rfl) (by kernel_rfl) (fun ih H => by kernel_rfl) calm_int ?_
          rcases ite_some h with ⟨hb, h⟩ | ⟨_, h⟩
          · refine DX.q (some 39) (Sl3.v a0) (by kernel_rfl) (by kernel_rfl) (by kernel_rfl) (fun ih H => by kernel_rfl) (calm_sl (belowSN_lt hb)) ?_
            refine DX.q (some 40) (Value.int .i64 v6_4) (by kernel_rfl) (by kernel_rfl) (by kernel_rfl) (fun ih H => by kernel_rfl) calm_int ?_
            obtain ⟨p10, hx, h⟩ := bind_some h
            rcases ite_some h with ⟨hb, h⟩ | ⟨_, h⟩
            · refine DX.q (some 41) (Value.pointer (some p10)) (by kernel_rfl) (by kernel_rfl) (by kernel_rfl) (fun ih H => Abs.run_idx (s := a0) (k := .i64) (t := 63) (e := 65) (x := .tmp 39) (y := .tmp 40) (by kernel_rfl) (by kernel_rfl) (by kernel_rfl) (by kernel_rfl) (by kernel_rfl) hx) (calm_ptr (belowN_lt hb)) ?_
              obtain ⟨x11, hx, h⟩ := bind_some h
              refine DX.l (some 42) (Value.int .u32 x11) (by kernel_rfl) (by kernel_rfl) (by kernel_rfl) (by kernel_rfl) (fun ih H hm => Abs.run_load (t := 65) (x := .tmp 41) (a := p10) (by kernel_rfl) (by kernel_rfl) (by kernel_rfl) ((cell_mem hm _).trans (rd_cell hx deI_inv))) calm_int ?_
              refine DX.q (some 43) (Value.int .u64 (IntKind.u64.wrap x11)) (by kernel_rfl) (by kernel_rfl) (by kernel_rfl) (fun ih H => by kernel_rfl) calm_int ?_
              rcases ite_some h with ⟨hb, h⟩ | ⟨_, h⟩
              · refine DX.q (some 44) (Sl3.v a1) (by kernel_rfl) (by kernel_rfl) (by kernel_rfl) (fun ih H => by kernel_rfl) (calm_sl (belowSN_lt hb)) ?_
                refine DX.q (some 45) (Value.int .i64 v8_7) (by kernel_rfl) (by kernel_rfl) (by kernel_rfl) (fun ih H => by kernel_rfl) calm_int ?_
                obtain ⟨x12, hx, h⟩ := bind_some h
                refine DX.c (some 46) (v := (Value.int .u32 x12)) H5 65 #[(Sl3.v a1), (Value.int .i64 v8_7)] (by kernel_rfl) (by kernel_rfl) (by kernel_rfl) (by kernel_rfl) [] [] (by kernel_rfl) (by kernel_rfl) rfl (by kernel_rfl) (ref01_limb_ok hx) (Nat.le_refl _) (fun _ => rfl) ?_
                refine DX.q (some 47) (Value.int .u64 (IntKind.u64.wrap x12)) (by kernel_rfl) (by kernel_rfl) (by kernel_rfl) (fun ih H => by kernel_rfl) calm_int ?_
                refine DX.q (some 48) (Value.int .u64 (IntKind.u64.wrap ((IntKind.u64.wrap x11) * (IntKind.u64.wrap x12)))) (by kernel_rfl) (by kernel_rfl) (by kernel_rfl) (fun ih H => by kernel_rfl) calm_int ?_
                refine DX.q (some 49) (Value.int .u64 (IntKind.u64.wrap ((IntKind.u64.wrap x9) + (IntKind.u64.wrap ((IntKind.u64.wrap x11) * (IntKind.u64.wrap x12)))))) (by kernel_rfl) (by kernel_rfl) (by kernel_rfl) (fun ih H => by kernel_rfl) calm_int ?_
                refine DX.q (some 50) (Value.int .u64 v7_6) (by kernel_rfl) (by kernel_rfl) (by kernel_rfl) (fun ih H => by kernel_rfl) calm_int ?_
                refine DX.q (some 51) (Value.int .u64 (IntKind.u64.wrap ((IntKind.u64.wrap ((IntKind.u64.wrap x9) + (IntKind.u64.wrap ((IntKind.u64.wrap x11) * (IntKind.u64.wrap x12))))) + v7_6))) (by kernel_rfl) (by kernel_rfl) (by kernel_rfl) (fun ih H => by kernel_rfl) calm_int ?_
                refine DX.q (some 9) (Value.int .u64 (IntKind.u64.wrap ((IntKind.u64.wrap ((IntKind.u64.wrap x9) + (IntKind.u64.wrap ((IntKind.u64.wrap x11) * (IntKind.u64.wrap x12))))) + v7_6))) (by kernel_rfl) (by kernel_rfl) (by kernel_rfl) (fun ih H => by kernel_rfl) calm_int ?_
                refine DX.end_ (H' := H5) (by kernel_rfl) rfl ?_
                refine fun ss hs => (WX.nxt ?_ ss hs)
                refine WX.seq (by kernel_rfl) ?_
                refine WX.region (opsOf (cfst (csnd (cfst (cfst (csnd (cfst (cfst (csnd (csnd (cfst (cfst (csnd (cfst (cfst (csnd (cfst (csnd (csnd B49))))))))))))))))))) (by kernel_rfl) ?_
                refine RX.psn 7 [(58, (Value.int .u32 (IntKind.u32.wrap (iand .u64 (IntKind.u64.wrap ((IntKind.u64.wrap ((IntKind.u64.wrap x9) + (IntKind.u64.wrap ((IntKind.u64.wrap x11) * (IntKind.u64.wrap x12))))) + v7_6)) 65535)))), (57, (Value.int .u64 (iand .u64 (IntKind.u64.wrap ((IntKind.u64.wrap ((IntKind.u64.wrap x9) + (IntKind.u64.wrap ((IntKind.u64.wrap x11) * (IntKind.u64.wrap x12))))) + v7_6)) 65535))), (56, (Value.int .u64 (IntKind.u64.wrap ((IntKind.u64.wrap ((IntKind.u64.wrap x9) + (IntKind.u64.wrap ((IntKind.u64.wrap x11) * (IntKind.u64.wrap x12))))) + v7_6)))), (55, (Value.int .i64 (IntKind.i64.wrap (v6_4 + v8_7)))), (54, (Value.int .i64 v8_7)), (53, (Value.int .i64 v6_4)), (52, (Sl3.v s1))] (by kernel_rfl) ?_
                obtain ⟨p13, hx, h⟩ := bind_some h
                refine RX.at (some 59) (Value.pointer (some p13)) (by kernel_rfl) (by kernel_rfl) (fun ih => Abs.run_idx (s := s1) (k := .i64) (t := 63) (e := 65) (x := .tmp 52) (y := .tmp 55) (by kernel_rfl) (by kernel_rfl) (by kernel_rfl) (by kernel_rfl) (by kernel_rfl) hx) ?_
                obtain ⟨H14, hx, h⟩ := bind_some h
                refine RX.at none undef (by kernel_rfl) (by kernel_rfl) (fun ih => Abs.run_store1 (t := 65) (x := .tmp 59) (y := .tmp 58) (a := p13) (v := (Value.int .u32 (IntKind.u32.wrap (iand .u64 (IntKind.u64.wrap ((IntKind.u64.wrap ((IntKind.u64.wrap x9) + (IntKind.u64.wrap ((IntKind.u64.wrap x11) * (IntKind.u64.wrap x12))))) + v7_6)) 65535)))) (by kernel_rfl) (by kernel_rfl) (by kernel_rfl) (by kernel_rfl) (by kernel_rfl) hx) ?_
                refine RX.done (by kernel_rfl) ?_
                refine fun ss hs => (WX.nxt ?_ ss hs)
                refine WX.region (opsOf (csnd (csnd (cfst (cfst (csnd (cfst (cfst (csnd (csnd (cfst (cfst (csnd (cfst (cfst (csnd (cfst (csnd (csnd B49))))))))))))))))))) (by kernel_rfl) ?_
                refine RX.psn 3 [(7, (Value.int .u64 (ishr .u64 (IntKind.u64.wrap ((IntKind.u64.wrap ((IntKind.u64.wrap x9) + (IntKind.u64.wrap ((IntKind.u64.wrap x11) * (IntKind.u64.wrap x12))))) + v7_6)) 16))), (61, (Value.int .u64 (ishr .u64 (IntKind.u64.wrap ((IntKind.u64.wrap ((IntKind.u64.wrap x9) + (IntKind.u64.wrap ((IntKind.u64.wrap x11) * (IntKind.u64.wrap x12))))) + v7_6)) 16))), (60, (Value.int .u64 (IntKind.u64.wrap ((IntKind.u64.wrap ((IntKind.u64.wrap x9) + (IntKind.u64.wrap ((IntKind.u64.wrap x11) * (IntKind.u64.wrap x12))))) + v7_6))))] (by kernel_rfl) ?_
                refine RX.done (by kernel_rfl) ?_
                refine fun ss hs => blkN ((WX.nxt ?_ ss hs))
                refine WX.region (opsOf (csnd (csnd (cfst (cfst (csnd (csnd (cfst (cfst (csnd (cfst (cfst (csnd (cfst (csnd (csnd B49)))))))))))))))) (by kernel_rfl) ?_
                refine RX.psn 3 [(8, (Value.int .i64 (IntKind.i64.wrap (v8_7 + 1)))), (31, (Value.int .i64 (IntKind.i64.wrap (v8_7 + 1)))), (30, (Value.int .i64 v8_7))] (by kernel_rfl) ?_
                refine RX.done (by kernel_rfl) ?_
                cases h
                exact fun ss hs => lpN rfl (hs.sub ((SubK.cons (by kernel_rfl) (SubK.cons (by kernel_rfl) (SubK.cons (by kernel_rfl) (SubK.cons (by kernel_rfl) (SubK.cons (by kernel_rfl) (SubK.cons (by kernel_rfl) SubK.nil))))))))
              · cases h
            · cases h
          · cases h
        · cases h
      · cases h
  · cases h; rename _ => h
    refine WX.seq (by kernel_rfl) ?_
    refine WX.seq (by kernel_rfl) ?_
    refine WX.region (opsOf (cfst (cfst (cfst (cfst (csnd (csnd (cfst (cfst (csnd (cfst (cfst (csnd (cfst (csnd (csnd B49)))))))))))))))) (by kernel_rfl) ?_
    refine RX.psn 5 [(26, (Value.bool (decide (v8_7 < (a1.n : Int))))), (25, (Value.bool (decide (v8_7 < (a1.n : Int))))), (24, (Value.int .i64 (a1.n : Int))), (23, (Sl3.v a1)), (22, (Value.int .i64 v8_7))] (by kernel_rfl) ?_
    rcases ite_some h with ⟨hp, h⟩ | ⟨hp, h⟩
    · refine RX.fix 26 true (decide_eq_true hp) (by kernel_rfl) ?_
      refine RX.psn 3 [(29, (Value.bool true)), (28, undef), (27, undef)] (by kernel_rfl) ?_
      refine RX.done (by kernel_rfl) ?_
      refine fun ss hs => (WX.nxt ?_ ss hs)
      refine WX.condT true rfl (by kernel_rfl) ?_
      refine WX.skip (by kernel_rfl) ?_
      cases h
    · refine RX.fix 26 false (decide_eq_false hp) (by kernel_rfl) ?_
      refine RX.psn 3 [(29, (Value.bool (decide (v7_6 > 0)))), (28, (Value.bool (decide (v7_6 > 0)))), (27, (Value.int .u64 v7_6))] (by kernel_rfl) ?_
      refine RX.done (by kernel_rfl) ?_
      refine fun ss hs => (WX.nxt ?_ ss hs)
      rcases ite_some h with ⟨hp, h⟩ | ⟨hp, h⟩
      · refine WX.condT _ (decide_eq_true hp) (by kernel_rfl) ?_
        refine WX.skip (by kernel_rfl) ?_
        cases h
      · refine WX.condF _ (decide_eq_false hp) (by kernel_rfl) ?_
        refine WX.exit 2 (by kernel_rfl) ?_
        replace h := map_inr h
        cases h
        exact fun ss hs => seqE (lpB rfl (hs.sub ((SubK.cons (by kernel_rfl) (SubK.cons (by kernel_rfl) (SubK.cons (by kernel_rfl) (SubK.cons (by kernel_rfl) (SubK.cons (by kernel_rfl) (SubK.cons (by kernel_rfl) SubK.nil)))))))))

theorem ref01_MulH_b0_ok {a0 : Sl3} {a1 : Sl3} {s1 : Sl3} : ∀ s o, ref01_MulH_b0 a0 a1 s1 s = some o →
    WX Try.prog 1000 4294967296 Try.f49.ntmps (cfst (cfst (csnd (cfst (csnd (csnd B49)))))) (ref01_MulH_b0_kn a0 a1 s1 s) ((fun s => s.1) s) (lpQ (ref01_MulH_b0_kn a0 a1 s1) (fun s => s.1) 0 (fun r => RQ Try.f49 (ref01_MulH_enc r) (ref01_MulH_hp ⟨0, .nil⟩ r)) o) := by
  rintro ⟨H3, v6_4⟩ o h
  unfold ref01_MulH_b0 at h
  try dsimp only at h
  refine WX.seq (by kernel_rfl) ?_
  refine WX.seq (by kernel_rfl) ?_
  refine WX.region (opsOf (cfst (cfst (cfst (cfst (csnd (cfst (csnd (csnd B49))))))))) (by kernel_rfl) ?_
  refine RX.psn 4 [(19, (Value.bool (decide (v6_4 < (a0.n : Int))))), (18, (Value.int .i64 (a0.n : Int))), (17, (Sl3.v a0)), (16, (Value.int .i64 v6_4))] (by kernel_rfl) ?_
  refine RX.done (by kernel_rfl) ?_
  refine fun ss hs => (WX.nxt ?_ ss hs)
  rcases ite_some h with ⟨hp, h⟩ | ⟨hp, h⟩
  · refine WX.condT _ (decide_eq_true hp) (by kernel_rfl) ?_
    refine WX.skip (by kernel_rfl) ?_
    refine fun ss hs => (WX.nxt ?_ ss hs)
    refine WX.seq (by kernel_rfl) ?_
    refine WX.block 1 (by kernel_rfl) ?_
    refine WX.seq (by kernel_rfl) ?_
    refine WX.region (opsOf (cfst (cfst (cfst (csnd (cfst (cfst (csnd (cfst (csnd (csnd B49))))))))))) (by kernel_rfl) ?_
    refine RX.psn 1 [(7, (Value.int .u64 0))] (by kernel_rfl) ?_
    refine RX.done (by kernel_rfl) ?_
    refine fun ss hs => (WX.nxt ?_ ss hs)
    refine WX.seq (by kernel_rfl) ?_
    refine WX.region (opsOf (cfst (csnd (cfst (cfst (csnd (cfst (cfst (csnd (cfst (csnd (csnd B49)))))))))))) (by kernel_rfl) ?_
    refine RX.psn 1 [(8, (Value.int .i64 0))] (by kernel_rfl) ?_
    refine RX.done (by kernel_rfl) ?_
    refine fun ss hs => (WX.nxt ?_ ss hs)
    refine WX.block 2 (by kernel_rfl) ?_
    obtain ⟨o, hl, h⟩ := bind_some h
    rcases o with ⟨H15, v7_16, v8_17⟩ | r
    · dsimp only at h
      refine WX.loopI (by kernel_rfl) (ref01_MulH_b1 a0 a1 s1 v6_4) (ref01_MulH_b1_kn a0 a1 s1 v6_4) (fun s => s.1) 2 (fun r => RQ Try.f49 (ref01_MulH_enc r) (ref01_MulH_hp ⟨0, .nil⟩ r)) ref01_MulH_b1_ok hl ((SubK.cons (by kernel_rfl) (SubK.cons (by kernel_rfl) (SubK.cons (by kernel_rfl) (SubK.cons (by kernel_rfl) (SubK.cons (by kernel_rfl) (SubK.cons (by kernel_rfl) SubK.nil))))))) rfl ?_
      clear hl
      refine fun ss hs => blkE (blkN ((WX.nxt ?_ ss hs)))
      refine WX.region (opsOf (csnd (csnd (cfst (cfst (csnd (cfst (csnd (csnd B49))))))))) (by kernel_rfl) ?_
      refine RX.psn 3 [(6, (Value.int .i64 (IntKind.i64.wrap (v6_4 + 1)))), (21, (Value.int .i64 (IntKind.i64.wrap (v6_4 + 1)))), (20, (Value.int .i64 v6_4))] (by kernel_rfl) ?_
      refine RX.done (by kernel_rfl) ?_
      cases h
      exact fun ss hs => lpN rfl (hs.sub ((SubK.cons (by kernel_rfl) (SubK.cons (by kernel_rfl) (SubK.cons (by kernel_rfl) (SubK.cons (by kernel_rfl) SubK.nil))))))
    · dsimp only at h
      refine WX.loopR (by kernel_rfl) (ref01_MulH_b1 a0 a1 s1 v6_4) (ref01_MulH_b1_kn a0 a1 s1 v6_4) (fun s => s.1) 2 (fun r => RQ Try.f49 (ref01_MulH_enc r) (ref01_MulH_hp ⟨0, .nil⟩ r)) ref01_MulH_b1_ok hl ((SubK.cons (by kernel_rfl) (SubK.cons (by kernel_rfl) (SubK.cons (by kernel_rfl) (SubK.cons (by kernel_rfl) (SubK.cons (by kernel_rfl) (SubK.cons (by kernel_rfl) SubK.nil))))))) rfl ?_
      cases h
      exact fun ss H hq => blkR (blkR (seqR (lpR hq)))
  · refine WX.condF _ (decide_eq_false hp) (by kernel_rfl) ?_
    refine WX.exit 0 (by kernel_rfl) ?_
    cases h
    exact fun ss hs => seqE (lpB rfl (hs.sub ((SubK.cons (by kernel_rfl) (SubK.cons (by kernel_rfl) (SubK.cons (by kernel_rfl) (SubK.cons (by kernel_rfl) SubK.nil)))))))

theorem ref01_MulH_ok {H : AH} {a0 : Sl3} {a1 : Sl3} {r : (Sl3 × AH)} (h : ref01_MulH H a0 a1 = some r) :
    CallE Try.prog 1000 4294967296 49 #[(Sl3.v a0), (Sl3.v a1)] H (ref01_MulH_enc r) (ref01_MulH_hp H r) := by
  refine CallE.mk (args := [(Sl3.v a0), (Sl3.v a1)]) Try.func49 (B := B49) (by kernel_rfl) ?_
  unfold ref01_MulH at h
  refine WX.seq (by kernel_rfl) ?_
  refine WX.region (opsOf (cfst B49)) (by kernel_rfl) ?_
  refine RX.psn 1 [(4, (Sl3.v Sl3.nil))] (by kernel_rfl) ?_
  refine RX.done (by kernel_rfl) ?_
  refine fun ss hs => (WX.nxt ?_ ss hs)
  refine WX.seq (by kernel_rfl) ?_
  refine WX.region (opsOf (cfst (csnd B49))) (by kernel_rfl) ?_
  refine RX.psn 5 [(14, (Value.int .i64 (IntKind.i64.wrap ((a0.n : Int) + (a1.n : Int))))), (13, (Value.int .i64 (a1.n : Int))), (12, (Sl3.v a1)), (11, (Value.int .i64 (a0.n : Int))), (10, (Sl3.v a0))] (by kernel_rfl) ?_
  obtain ⟨⟨s1, H2⟩, hx, h⟩ := bind_some h
  dsimp only at h
  refine RX.at (some 15) (Sl3.v s1) (by kernel_rfl) (by kernel_rfl) (fun ih => Abs.run_mk (t := 63) (x := .tmp 14) (y := .tmp 14) (k1 := .i64) (k2 := .i64) (by kernel_rfl) (by kernel_rfl) (by kernel_rfl) (by kernel_rfl) hx) ?_
  refine RX.psn 1 [(5, (Sl3.v s1))] (by kernel_rfl) ?_
  refine RX.done (by kernel_rfl) ?_
  refine fun ss hs => (WX.nxt ?_ ss hs)
  refine WX.seq (by kernel_rfl) ?_
  refine WX.seq (by kernel_rfl) ?_
  refine WX.region (opsOf (cfst (cfst (csnd (csnd B49))))) (by kernel_rfl) ?_
  refine RX.psn 1 [(6, (Value.int .i64 0))] (by kernel_rfl) ?_
  refine RX.done (by kernel_rfl) ?_
  refine fun ss hs => (WX.nxt ?_ ss hs)
  refine WX.block 0 (by kernel_rfl) ?_
  obtain ⟨o, hl, h⟩ := bind_some h
  rcases o with ⟨H18, v6_19⟩ | r
  · dsimp only at h
    refine WX.loopI (by kernel_rfl) (ref01_MulH_b0 a0 a1 s1) (ref01_MulH_b0_kn a0 a1 s1) (fun s => s.1) 0 (fun r => RQ Try.f49 (ref01_MulH_enc r) (ref01_MulH_hp ⟨0, .nil⟩ r)) ref01_MulH_b0_ok hl ((SubK.cons (by kernel_rfl) (SubK.cons (by kernel_rfl) (SubK.cons (by kernel_rfl) (SubK.cons (by kernel_rfl) SubK.nil))))) rfl ?_
    clear hl
    refine fun ss hs => blkE ((WX.nxt ?_ ss hs))
    refine WX.seq (by kernel_rfl) ?_
    refine WX.region (opsOf (cfst (csnd (csnd (csnd B49))))) (by kernel_rfl) ?_
    refine RX.psn 1 [(62, (Sl3.v s1))] (by kernel_rfl) ?_
    obtain ⟨x20, hx, h⟩ := bind_some h
    refine RX.callAt (some 63) (v := (Sl3.v x20)) 73 #[(Sl3.v s1)] (by kernel_rfl) (by kernel_rfl) (by kernel_rfl) (ref01_trim_ok hx) ?_
    refine RX.psn 1 [(4, (Sl3.v x20))] (by kernel_rfl) ?_
    refine RX.done (by kernel_rfl) ?_
    refine fun ss hs => (WX.nxt ?_ ss hs)
    refine WX.ret (by kernel_rfl) ?_
    cases h
    exact fun ss hs => retR (rq hs (by kernel_rfl))
  · dsimp only at h
    refine WX.loopR (by kernel_rfl) (ref01_MulH_b0 a0 a1 s1) (ref01_MulH_b0_kn a0 a1 s1) (fun s => s.1) 0 (fun r => RQ Try.f49 (ref01_MulH_enc r) (ref01_MulH_hp ⟨0, .nil⟩ r)) ref01_MulH_b0_ok hl ((SubK.cons (by kernel_rfl) (SubK.cons (by kernel_rfl) (SubK.cons (by kernel_rfl) (SubK.cons (by kernel_rfl) SubK.nil))))) rfl ?_
    cases h
    exact fun ss H hq => blkR (seqR (retR hq))

end Go.Proofs.Ytoadagekdnkciaa

namespace Go.Proofs.Ytoadagekdnkciaa
open Go Go.Abs
set_option maxRecDepth 100000

noncomputable def B60 : Code := (Try.f60.body).getD .skip

def ref01_To_enc : (Sl3 × AH) → Value
  | (r0, _) => (Sl3.v r0)

def ref01_To_hp (_ : AH) : (Sl3 × AH) → AH := fun r => r.2

noncomputable def ref01_To_b0 (x1 : Sl3) : (AH × Sl3 × Int) → Option (Lp (AH × Sl3 × Int) (Sl3 × AH)) := fun (H2, v3_3, v4_4) =>
  if v4_4 < (x1.n : Int) then
    Option.bind (α := (AH × Sl3)) (
      if (Int.tmod v4_4 4) = 0 then
        Option.bind (newR 38 1 #[(Value.int .u64 0)] H2) fun (s7, H8) =>
        Option.bind (appS 4294967296 38 1 8 H8 v3_3 s7) fun (s9, H10) =>
        some (H10, s9)
      else
        some (H2, v3_3)) fun (H5, v3_6) =>
    if belowSN H5.next v3_6 = true then
      if belowSN H5.next v3_6 = true then
        Option.bind (idxA 1 v3_6 (IntKind.i64.wrap (Int.tdiv v4_4 4))) fun p11 =>
        if belowN H5.next p11 = true then
          Option.bind (rd (deI .u64) H5 p11) fun x12 =>
          if belowSN H5.next x1 = true then
            Option.bind (idxA 1 x1 v4_4) fun p13 =>
            if belowN H5.next p13 = true then
              Option.bind (rd (deI .u32) H5 p13) fun x14 =>
              if (IntKind.u64.wrap (16 * (IntKind.u64.wrap (Int.tmod v4_4 4)))) < 0 then none else
              Option.bind (idxA 1 v3_6 (IntKind.i64.wrap (Int.tdiv v4_4 4))) fun p15 =>
              if belowN H5.next p15 = true then
                Option.bind (H5.setCell 4294967296 p15 (Value.int .u64 (ior .u64 x12 (ishl .u64 (IntKind.u64.wrap x14) (IntKind.u64.wrap (16 * (IntKind.u64.wrap (Int.tmod v4_4 4)))))))) fun H16 =>
                if H5.next ≤ H16.next then
                  some (.next (H16, v3_6, (IntKind.i64.wrap (v4_4 + 1))))
                else none
              else none
            else none
          else none
        else none
      else none
    else none
  else
    some (.brk (H2, v3_3, v4_4))

def ref01_To_b0_kn (x1 : Sl3) : (AH × Sl3 × Int) → Kn := fun (H2, v3_3, v4_4) => [(3, (Sl3.v v3_3)), (4, (Value.int .i64 v4_4)), (0, (Sl3.v x1))]

noncomputable def ref01_To (H : AH) (a0 : Sl3) : Option (Sl3 × AH) :=
  Option.bind (ref01_trim H a0) fun x1 =>
  Option.bind (loopO (ref01_To_b0 x1) (H, Sl3.nil, 0)) fun o => match o with
  | .inl (H17, v3_18, v4_19) =>
    some (v3_18, H17)
  | .inr r => some r

theorem ref01_To_b0_ok {x1 : Sl3} : ∀ s o, ref01_To_b0 x1 s = some o →
    WX Try.prog 1000 4294967296 Try.f60.ntmps (cfst (cfst (csnd (cfst (csnd (csnd (csnd B60))))))) (ref01_To_b0_kn x1 s) ((fun s => s.1) s) (lpQ (ref01_To_b0_kn x1) (fun s => s.1) 0 (fun r => RQ Try.f60 (ref01_To_enc r) (ref01_To_hp ⟨0, .nil⟩ r)) o) := by
  rintro ⟨H2, v3_3, v4_4⟩ o h
  unfold ref01_To_b0 at h
  try dsimp only at h
  refine WX.seq (by kernel_rfl) ?_
  refine WX.seq (by kernel_rfl) ?_
  refine WX.region (opsOf (cfst (cfst (cfst (cfst (csnd (cfst (csnd (csnd (csnd B60)))))))))) (by kernel_rfl) ?_
  refine RX.psn 4 [(10, (Value.bool (decide (v4_4 < (x1.n : Int))))), (9, (Value.int .i64 (x1.n : Int))), (8, (Sl3.v x1)), (7, (Value.int .i64 v4_4))] (by kernel_rfl) ?_
  refine RX.done (by kernel_rfl) ?_
  refine fun ss hs => (WX.nxt ?_ ss hs)
  rcases ite_some h with ⟨hp, h⟩ | ⟨hp, h⟩
  · refine WX.condT _ (decide_eq_true hp) (by kernel_rfl) ?_
    refine WX.skip (by kernel_rfl) ?_
    refine fun ss hs => (WX.nxt ?_ ss hs)
    refine WX.seq (by kernel_rfl) ?_
    refine WX.block 1 (by kernel_rfl) ?_
    obtain ⟨⟨H5, v3_6⟩, hx, h⟩ := bind_some h
    dsimp only at h
    refine WX.seq (by kernel_rfl) ?_
    refine WX.join ([(3, (Sl3.v v3_6)), (0, (Sl3.v x1)), (4, (Value.int .i64 v4_4))]) H5 ?_ (fun ss hs => WX.nxt ?_ ss hs)
    · clear h; rename _ => h
      refine WX.seq (by kernel_rfl) ?_
      refine WX.region (opsOf (cfst (cfst (cfst (cfst (csnd (cfst (cfst (csnd (cfst (csnd (csnd (csnd B60))))))))))))) (by kernel_rfl) ?_
      refine RX.psn 3 [(15, (Value.bool (decide ((Int.tmod v4_4 4) = 0)))), (14, (Value.int .i64 (Int.tmod v4_4 4))), (13, (Value.int .i64 v4_4))] (by kernel_rfl) ?_
      refine RX.done (by kernel_rfl) ?_
      refine fun ss hs => (WX.nxt ?_ ss hs)
      rcases ite_some h with ⟨hp, h⟩ | ⟨hp, h⟩
      · refine WX.condT _ (decide_eq_true hp) (by kernel_rfl) ?_
        refine WX.region (opsOf (cfst (csnd (cfst (cfst (cfst (csnd (cfst (cfst (csnd (cfst (csnd (csnd (csnd B60)))))))))))))) (by kernel_rfl) ?_
        refine RX.psn 1 [(16, (Sl3.v v3_3))] (by kernel_rfl) ?_
        obtain ⟨⟨s7, H8⟩, hx, h⟩ := bind_some h
        dsimp only at h
        refine RX.at (some 17) (Sl3.v s7) (by kernel_rfl) (by kernel_rfl) (fun ih => Abs.run_newR (by kernel_rfl) (by kernel_rfl) hx) ?_
        obtain ⟨⟨s9, H10⟩, hx, h⟩ := bind_some h
        dsimp only at h
        refine RX.at (some 18) (Sl3.v s9) (by kernel_rfl) (by kernel_rfl) (fun ih => Abs.run_app (x := .tmp 16) (y := .tmp 17) (ts := #[24, 24]) (s := v3_3) (z := s7) (by kernel_rfl) (by kernel_rfl) (by kernel_rfl) (by kernel_rfl) hx) ?_
        refine RX.psn 1 [(3, (Sl3.v s9))] (by kernel_rfl) ?_
        refine RX.done (by kernel_rfl) ?_
        cases h
        exact fun ss hs => ⟨rfl, hs.sub ((SubK.cons (by kernel_rfl) (SubK.cons (by kernel_rfl) (SubK.cons (by kernel_rfl) SubK.nil)))), rfl⟩
      · refine WX.condF _ (decide_eq_false hp) (by kernel_rfl) ?_
        refine WX.skip (by kernel_rfl) ?_
        cases h
        exact fun ss hs => ⟨rfl, hs.sub ((SubK.cons (by kernel_rfl) (SubK.cons (by kernel_rfl) (SubK.cons (by kernel_rfl) SubK.nil)))), rfl⟩
    · clear hx
      refine WX.drawn (opsOf (csnd (cfst (cfst (csnd (cfst (cfst (csnd (cfst (csnd (csnd (csnd B60)))))))))))) false (by kernel_rfl) (by kernel_rfl) ?_
      rcases ite_some h with ⟨hb, h⟩ | ⟨_, h⟩
      · refine DX.q (some 19) (Sl3.v v3_6) (by kernel_rfl) (by kernel_rfl) (by kernel_rfl) (fun ih H => by kernel_rfl) (calm_sl (belowSN_lt hb)) ?_
        refine DX.q (some 20) (Value.int .i64 v4_4) (by kernel_rfl) (by kernel_rfl) (by kernel_rfl) (fun ih H => by kernel_rfl) calm_int ?_
        refine DX.q (some 21) (Value.int .i64 (IntKind.i64.wrap (Int.tdiv v4_4 4))) (by kernel_rfl) (by kernel_rfl) (by kernel_rfl) (fun ih H => by kernel_rfl) calm_int ?_
        rcases ite_some h with ⟨hb, h⟩ | ⟨_, h⟩
        · refine DX.q (some 22) (Sl3.v v3_6) (by kernel_rfl) (by kernel_rfl) (by kernel_rfl) (fun ih H => by kernel_rfl) (calm_sl (belowSN_lt hb)) ?_
          refine DX.q (some 23) (Value.int .i64 v4_4) (by kernel_rfl) (by kernel_rfl) (by kernel_rfl) (fun ih H => by kernel_rfl) calm_int ?_
          refine DX.q (some 24) (Value.int .i64 (IntKind.i64.wrap (Int.tdiv v4_4 4))) (by kernel_rfl) (by kernel_rfl) (by kernel_rfl) (fun ih H => by kernel_rfl) calm_int ?_
          obtain ⟨p11, hx, h⟩ := bind_some h
          rcases ite_some h with ⟨hb, h⟩ | ⟨_, h⟩
          · refine DX.q (some 25) (Value.pointer (some p11)) (by kernel_rfl) (by kernel_rfl) (by kernel_rfl) (fun ih H => Abs.run_idx (s := v3_6) (k := .i64) (t := 24) (e := 38) (x := .tmp 22) (y := .tmp 24) (by kernel_rfl) (by kernel_rfl) (by kernel_rfl) (by kernel_rfl) (by kernel_rfl) hx) (calm_ptr (belowN_lt hb)) ?_
            obtain ⟨x12, hx, h⟩ := bind_some h
            refine DX.l (some 26) (Value.int .u64 x12) (by kernel_rfl) (by kernel_rfl) (by kernel_rfl) (by kernel_rfl) (fun ih H hm => Abs.run_load (t := 38) (x := .tmp 25) (a := p11) (by kernel_rfl) (by kernel_rfl) (by kernel_rfl) ((cell_mem hm _).trans (rd_cell hx deI_inv))) calm_int ?_
            rcases ite_some h with ⟨hb, h⟩ | ⟨_, h⟩
            · refine DX.q (some 27) (Sl3.v x1) (by kernel_rfl) (by kernel_rfl) (by kernel_rfl) (fun ih H => by kernel_rfl) (calm_sl (belowSN_lt hb)) ?_
              refine DX.q (some 28) (Value.int .i64 v4_4) (by kernel_rfl) (by kernel_rfl) (by kernel_rfl) (fun ih H => by kernel_rfl) calm_int ?_
              obtain ⟨p13, hx, h⟩ := bind_some h
              rcases ite_some h with ⟨hb, h⟩ | ⟨_, h⟩
              · refine DX.q (some 29) (Value.pointer (some p13)) (by kernel_rfl) (by kernel_rfl) (by kernel_rfl) (fun ih H => Abs.run_idx (s := x1) (k := .i64) (t := 63) (e := 65) (x := .tmp 27) (y := .tmp 28) (by kernel_rfl) (by kernel_rfl) (by kernel_rfl) (by kernel_rfl) (by kernel_rfl) hx) (calm_ptr (belowN_lt hb)) ?_
                obtain ⟨x14, hx, h⟩ := bind_some h
                refine DX.l (some 30) (Value.int .u32 x14) (by kernel_rfl) (by kernel_rfl) (by kernel_rfl) (by kernel_rfl) (fun ih H hm => Abs.run_load (t := 65) (x := .tmp 29) (a := p13) (by kernel_rfl) (by kernel_rfl) (by kernel_rfl) ((cell_mem hm _).trans (rd_cell hx deI_inv))) calm_int ?_
                refine DX.q (some 31) (Value.int .u64 (IntKind.u64.wrap x14)) (by kernel_rfl) (by kernel_rfl) (by kernel_rfl) (fun ih H => by kernel_rfl) calm_int ?_
                refine DX.q (some 32) (Value.int .i64 v4_4) (by kernel_rfl) (by kernel_rfl) (by kernel_rfl) (fun ih H => by kernel_rfl) calm_int ?_
                refine DX.q (some 33) (Value.int .i64 (Int.tmod v4_4 4)) (by kernel_rfl) (by kernel_rfl) (by kernel_rfl) (fun ih H => by kernel_rfl) calm_int ?_
                refine DX.q (some 34) (Value.int .u64 (IntKind.u64.wrap (Int.tmod v4_4 4))) (by kernel_rfl) (by kernel_rfl) (by kernel_rfl) (fun ih H => by kernel_rfl) calm_int ?_
                refine DX.q (some 35) (Value.int .u64 (IntKind.u64.wrap (16 * (IntKind.u64.wrap (Int.tmod v4_4 4))))) (by kernel_rfl) (by kernel_rfl) (by kernel_rfl) (fun ih H => by kernel_rfl) calm_int ?_
                rcases ite_some h with ⟨_, h⟩ | ⟨hx, h⟩
                · cases h
                · refine DX.q (some 36) (Value.int .u64 (ishl .u64 (IntKind.u64.wrap x14) (IntKind.u64.wrap (16 * (IntKind.u64.wrap (Int.tmod v4_4 4)))))) (by kernel_rfl) (by kernel_rfl) (by kernel_rfl) (fun ih H => Abs.run_shl (t := 38) (u := 73) (x := .tmp 31) (y := .tmp 35) (k' := .u64) (by kernel_rfl) (by kernel_rfl) (by kernel_rfl) hx) calm_int ?_
                  refine DX.q (some 37) (Value.int .u64 (ior .u64 x12 (ishl .u64 (IntKind.u64.wrap x14) (IntKind.u64.wrap (16 * (IntKind.u64.wrap (Int.tmod v4_4 4))))))) (by kernel_rfl) (by kernel_rfl) (by kernel_rfl) (fun ih H => by kernel_rfl) calm_int ?_
                  obtain ⟨p15, hx, h⟩ := bind_some h
                  rcases ite_some h with ⟨hb, h⟩ | ⟨_, h⟩
                  · refine DX.q (some 38) (Value.pointer (some p15)) (by kernel_rfl) (by kernel_rfl) (by kernel_rfl) (fun ih H => Abs.run_idx (s := v3_6) (k := .i64) (t := 24) (e := 38) (x := .tmp 19) (y := .tmp 21) (by kernel_rfl) (by kernel_rfl) (by kernel_rfl) (by kernel_rfl) (by kernel_rfl) hx) (calm_ptr (belowN_lt hb)) ?_
                    obtain ⟨H16, hx, h⟩ := bind_some h
                    rcases ite_some h with ⟨hle, h⟩ | ⟨_, h⟩
                    · refine DX.w none undef H5 (by kernel_rfl) (by kernel_rfl) (by kernel_rfl) (by kernel_rfl) [] [] (by kernel_rfl) (by kernel_rfl) rfl (fun ih => Abs.run_store1 (t := 38) (x := .tmp 38) (y := .tmp 37) (a := p15) (v := (Value.int .u64 (ior .u64 x12 (ishl .u64 (IntKind.u64.wrap x14) (IntKind.u64.wrap (16 * (IntKind.u64.wrap (Int.tmod v4_4 4)))))))) (by kernel_rfl) (by kernel_rfl) (by kernel_rfl) (by kernel_rfl) (by kernel_rfl) hx) hle (fun hh => by cases hh) ?_
                      refine DX.end_ (H' := H16) (by kernel_rfl) rfl ?_
                      refine fun ss hs => blkN ((WX.nxt ?_ ss hs))
                      refine WX.region (opsOf (csnd (csnd (cfst (cfst (csnd (cfst (csnd (csnd (csnd B60)))))))))) (by kernel_rfl) ?_
                      refine RX.psn 3 [(4, (Value.int .i64 (IntKind.i64.wrap (v4_4 + 1)))), (12, (Value.int .i64 (IntKind.i64.wrap (v4_4 + 1)))), (11, (Value.int .i64 v4_4))] (by kernel_rfl) ?_
                      refine RX.done (by kernel_rfl) ?_
                      cases h
                      exact fun ss hs => lpN rfl (hs.sub ((SubK.cons (by kernel_rfl) (SubK.cons (by kernel_rfl) (SubK.cons (by kernel_rfl) SubK.nil)))))
                    · cases h
                  · cases h
              · cases h
            · cases h
          · cases h
        · cases h
      · cases h
  · refine WX.condF _ (decide_eq_false hp) (by kernel_rfl) ?_
    refine WX.exit 0 (by kernel_rfl) ?_
    cases h
    exact fun ss hs => seqE (lpB rfl (hs.sub ((SubK.cons (by kernel_rfl) (SubK.cons (by kernel_rfl) (SubK.cons (by kernel_rfl) SubK.nil))))))

theorem ref01_To_ok {H : AH} {a0 : Sl3} {r : (Sl3 × AH)} (h : ref01_To H a0 = some r) :
    CallE Try.prog 1000 4294967296 60 #[(Sl3.v a0)] H (ref01_To_enc r) (ref01_To_hp H r) := by
  refine CallE.mk (args := [(Sl3.v a0)]) Try.func60 (B := B60) (by kernel_rfl) ?_
  unfold ref01_To at h
  refine WX.seq (by kernel_rfl) ?_
  refine WX.region (opsOf (cfst B60)) (by kernel_rfl) ?_
  refine RX.psn 1 [(2, (Sl3.v Sl3.nil))] (by kernel_rfl) ?_
  refine RX.done (by kernel_rfl) ?_
  refine fun ss hs => (WX.nxt ?_ ss hs)
  refine WX.seq (by kernel_rfl) ?_
  refine WX.region (opsOf (cfst (csnd B60))) (by kernel_rfl) ?_
  refine RX.psn 1 [(5, (Sl3.v a0))] (by kernel_rfl) ?_
  obtain ⟨x1, hx, h⟩ := bind_some h
  refine RX.callAt (some 6) (v := (Sl3.v x1)) 73 #[(Sl3.v a0)] (by kernel_rfl) (by kernel_rfl) (by kernel_rfl) (ref01_trim_ok hx) ?_
  refine RX.psn 1 [(0, (Sl3.v x1))] (by kernel_rfl) ?_
  refine RX.done (by kernel_rfl) ?_
  refine fun ss hs => (WX.nxt ?_ ss hs)
  refine WX.seq (by kernel_rfl) ?_
  refine WX.region (opsOf (cfst (csnd (csnd B60)))) (by kernel_rfl) ?_
  refine RX.psn 1 [(3, (Sl3.v Sl3.nil))] (by kernel_rfl) ?_
  refine RX.done (by kernel_rfl) ?_
  refine fun ss hs => (WX.nxt ?_ ss hs)
  refine WX.seq (by kernel_rfl) ?_
  refine WX.seq (by kernel_rfl) ?_
  refine WX.region (opsOf (cfst (cfst (csnd (csnd (csnd B60)))))) (by kernel_rfl) ?_
  refine RX.psn 1 [(4, (Value.int .i64 0))] (by kernel_rfl) ?_
  refine RX.done (by kernel_rfl) ?_
  refine fun ss hs => (WX.nxt ?_ ss hs)
  refine WX.block 0 (by kernel_rfl) ?_
  obtain ⟨o, hl, h⟩ := bind_some h
  rcases o with ⟨H17, v3_18, v4_19⟩ | r
  · dsimp only at h
    refine WX.loopI (by kernel_rfl) (ref01_To_b0 x1) (ref01_To_b0_kn x1) (fun s => s.1) 0 (fun r => RQ Try.f60 (ref01_To_enc r) (ref01_To_hp ⟨0, .nil⟩ r)) ref01_To_b0_ok hl ((SubK.cons (by kernel_rfl) (SubK.cons (by kernel_rfl) (SubK.cons (by kernel_rfl) SubK.nil)))) rfl ?_
    clear hl
    refine fun ss hs => blkE ((WX.nxt ?_ ss hs))
    refine WX.seq (by kernel_rfl) ?_
    refine WX.region (opsOf (cfst (csnd (csnd (csnd (csnd B60)))))) (by kernel_rfl) ?_
    refine RX.psn 2 [(2, (Sl3.v v3_18)), (39, (Sl3.v v3_18))] (by kernel_rfl) ?_
    refine RX.done (by kernel_rfl) ?_
    refine fun ss hs => (WX.nxt ?_ ss hs)
    refine WX.ret (by kernel_rfl) ?_
    cases h
    exact fun ss hs => retR (rq hs (by kernel_rfl))
  · dsimp only at h
    refine WX.loopR (by kernel_rfl) (ref01_To_b0 x1) (ref01_To_b0_kn x1) (fun s => s.1) 0 (fun r => RQ Try.f60 (ref01_To_enc r) (ref01_To_hp ⟨0, .nil⟩ r)) ref01_To_b0_ok hl ((SubK.cons (by kernel_rfl) (SubK.cons (by kernel_rfl) (SubK.cons (by kernel_rfl) SubK.nil)))) rfl ?_
    cases h
    exact fun ss H hq => blkR (seqR (retR hq))

noncomputable def B51 : Code := (Try.f51.body).getD .skip

def ref01_result_enc : (Sl3 × Int × AH) → Value
  | (r0, r1, _) => (Value.tuple #[(Sl3.v r0), (Value.int .i64 r1)])

def ref01_result_hp (_ : AH) : (Sl3 × Int × AH) → AH := fun r => r.2.2

noncomputable def ref01_result (H : AH) (a0 : Sl3) : Option (Sl3 × Int × AH) :=
  Option.bind (ref01_Long a0) fun x1 =>
  if x1 = true then
    some (Sl3.nil, 5, H)
  else
    Option.bind (ref01_To H a0) fun (x2, H3) =>
    some (x2, 0, H3)

theorem ref01_result_ok {H : AH} {a0 : Sl3} {r : (Sl3 × Int × AH)} (h : ref01_result H a0 = some r) :
    CallE Try.prog 1000 4294967296 51 #[(Sl3.v a0)] H (ref01_result_enc r) (ref01_result_hp H r) := by
  refine CallE.mk (args := [(Sl3.v a0)]) Try.func51 (B := B51) (by kernel_rfl) ?_
  unfold ref01_result at h
  refine WX.seq (by kernel_rfl) ?_
  refine WX.region (opsOf (cfst B51)) (by kernel_rfl) ?_
  refine RX.psn 2 [(3, (Value.int .i64 0)), (2, (Sl3.v Sl3.nil))] (by kernel_rfl) ?_
  refine RX.done (by kernel_rfl) ?_
  refine fun ss hs => (WX.nxt ?_ ss hs)
  refine WX.seq (by kernel_rfl) ?_
  refine WX.seq (by kernel_rfl) ?_
  refine WX.region (opsOf (cfst (cfst (csnd B51)))) (by kernel_rfl) ?_
  refine RX.psn 1 [(4, (Sl3.v a0))] (by kernel_rfl) ?_
  obtain ⟨x1, hx, h⟩ := bind_some h
  refine RX.callAt (some 5) (v := (Value.bool x1)) 50 #[(Sl3.v a0)] (by kernel_rfl) (by kernel_rfl) (by kernel_rfl) (ref01_Long_ok hx) ?_
  refine RX.done (by kernel_rfl) ?_
  refine fun ss hs => (WX.nxt ?_ ss hs)
  rcases ite_some h with ⟨hp, h⟩ | ⟨hp, h⟩
  · refine WX.condT _ hp (by kernel_rfl) ?_
    refine WX.seq (by kernel_rfl) ?_
    refine WX.region (opsOf (cfst (cfst (csnd (cfst (csnd B51)))))) (by kernel_rfl) ?_
    refine RX.psn 2 [(3, (Value.int .i64 5)), (2, (Sl3.v Sl3.nil))] (by kernel_rfl) ?_
    refine RX.done (by kernel_rfl) ?_
    refine fun ss hs => (WX.nxt ?_ ss hs)
    refine WX.ret (by kernel_rfl) ?_
    cases h
    exact fun ss hs => seqR (retR (rq hs (by kernel_rfl)))
  · refine WX.condF _ (b_not hp) (by kernel_rfl) ?_
    refine WX.skip (by kernel_rfl) ?_
    refine fun ss hs => (WX.nxt ?_ ss hs)
    refine WX.seq (by kernel_rfl) ?_
    refine WX.region (opsOf (cfst (csnd (csnd B51)))) (by kernel_rfl) ?_
    refine RX.psn 1 [(6, (Sl3.v a0))] (by kernel_rfl) ?_
    obtain ⟨⟨x2, H3⟩, hx, h⟩ := bind_some h
    dsimp only at h
    refine RX.callAt (some 7) (v := (Sl3.v x2)) 60 #[(Sl3.v a0)] (by kernel_rfl) (by kernel_rfl) (by kernel_rfl) (ref01_To_ok hx) ?_
    refine RX.psn 2 [(3, (Value.int .i64 0)), (2, (Sl3.v x2))] (by kernel_rfl) ?_
    refine RX.done (by kernel_rfl) ?_
    refine fun ss hs => (WX.nxt ?_ ss hs)
    refine WX.ret (by kernel_rfl) ?_
    cases h
    exact fun ss hs => retR (rq hs (by kernel_rfl))

noncomputable def B33 : Code := (Try.f33.body).getD .skip

def ref01_Shl_enc : (Sl3 × Int × AH) → Value
  | (r0, r1, _) => (Value.tuple #[(Sl3.v r0), (Value.int .i64 r1)])

def ref01_Shl_hp (_ : AH) : (Sl3 × Int × AH) → AH := fun r => r.2.2

noncomputable def ref01_Shl (H : AH) (a0 : Sl3) (a1 : Int) : Option (Sl3 × Int × AH) :=
  if a1 < 0 then
    some (Sl3.nil, 1, H)
  else
    Option.bind (newR 24 1 #[(Sl3.v a0)] H) fun (s1, H2) =>
    Option.bind (ref01_long H2 s1) fun (x3, H4) =>
    if x3 = true then
      some (Sl3.nil, 5, H4)
    else
      Option.bind (ref01_From H4 a0) fun (x5, H6) =>
      if (x5.n : Int) = 0 then
        some (Sl3.nil, 0, H6)
      else
        if a1 > 262144 then
          some (Sl3.nil, 5, H6)
        else
          Option.bind (mkS 65 1 4 #[(Value.int .u32 0)] H6 (IntKind.i64.wrap (Int.tdiv a1 16)) (IntKind.i64.wrap (Int.tdiv a1 16))) fun (s7, H8) =>
          if (IntKind.u64.wrap (Int.tmod a1 16)) < 0 then none else
          Option.bind (newR 65 1 #[(Value.int .u32 (ishl .u32 1 (IntKind.u64.wrap (Int.tmod a1 16))))] H8) fun (s9, H10) =>
          Option.bind (ref01_MulH H10 x5 s9) fun (x11, H12) =>
          Option.bind (appS 4294967296 65 1 4 H12 s7 x11) fun (s13, H14) =>
          Option.bind (ref01_result H14 s13) fun (x15, x16, H17) =>
          some (x15, x16, H17)

theorem ref01_Shl_ok {H : AH} {a0 : Sl3} {a1 : Int} {r : (Sl3 × Int × AH)} (h : ref01_Shl H a0 a1 = some r) :
    CallE Try.prog 1000 4294967296 33 #[(Sl3.v a0), (Value.int .i64 a1)] H (ref01_Shl_enc r) (ref01_Shl_hp H r) := by
  refine CallE.mk (args := [(Sl3.v a0), (Value.int .i64 a1)]) Try.func33 (B := B33) (by kernel_rfl) ?_
  unfold ref01_Shl at h
  refine WX.seq (by kernel_rfl) ?_
  refine WX.region (opsOf (cfst B33)) (by kernel_rfl) ?_
  refine RX.psn 2 [(5, (Value.int .i64 0)), (4, (Sl3.v Sl3.nil))] (by kernel_rfl) ?_
  refine RX.done (by kernel_rfl) ?_
  refine fun ss hs => (WX.nxt ?_ ss hs)
  refine WX.seq (by kernel_rfl) ?_
  refine WX.seq (by kernel_rfl) ?_
  refine WX.region (opsOf (cfst (cfst (csnd B33)))) (by kernel_rfl) ?_
  refine RX.psn 2 [(9, (Value.bool (decide (a1 < 0)))), (8, (Value.int .i64 a1))] (by kernel_rfl) ?_
  refine RX.done (by kernel_rfl) ?_
  refine fun ss hs => (WX.nxt ?_ ss hs)
  rcases ite_some h with ⟨hp, h⟩ | ⟨hp, h⟩
  · refine WX.condT _ (decide_eq_true hp) (by kernel_rfl) ?_
    refine WX.seq (by kernel_rfl) ?_
    refine WX.region (opsOf (cfst (cfst (csnd (cfst (csnd B33)))))) (by kernel_rfl) ?_
    refine RX.psn 2 [(5, (Value.int .i64 1)), (4, (Sl3.v Sl3.nil))] (by kernel_rfl) ?_
    refine RX.done (by kernel_rfl) ?_
    refine fun ss hs => (WX.nxt ?_ ss hs)
    refine WX.ret (by kernel_rfl) ?_
    cases h
    exact fun ss hs => seqR (retR (rq hs (by kernel_rfl)))
  · refine WX.condF _ (decide_eq_false hp) (by kernel_rfl) ?_
    refine WX.skip (by kernel_rfl) ?_
    refine fun ss hs => (WX.nxt ?_ ss hs)
    refine WX.seq (by kernel_rfl) ?_
    refine WX.seq (by kernel_rfl) ?_
    refine WX.region (opsOf (cfst (cfst (csnd (csnd B33))))) (by kernel_rfl) ?_
    refine RX.psn 1 [(10, (Sl3.v a0))] (by kernel_rfl) ?_
    obtain ⟨⟨s1, H2⟩, hx, h⟩ := bind_some h
    dsimp only at h
    refine RX.at (some 11) (Sl3.v s1) (by kernel_rfl) (by kernel_rfl) (fun ih => Abs.run_newR (by kernel_rfl) (by kernel_rfl) hx) ?_
    obtain ⟨⟨x3, H4⟩, hx, h⟩ := bind_some h
    dsimp only at h
    refine RX.callAt (some 12) (v := (Value.bool x3)) 47 #[(Sl3.v s1)] (by kernel_rfl) (by kernel_rfl) (by kernel_rfl) (ref01_long_ok hx) ?_
    refine RX.done (by kernel_rfl) ?_
    refine fun ss hs => (WX.nxt ?_ ss hs)
    rcases ite_some h with ⟨hp, h⟩ | ⟨hp, h⟩
    · refine WX.condT _ hp (by kernel_rfl) ?_
      refine WX.seq (by kernel_rfl) ?_
      refine WX.region (opsOf (cfst (cfst (csnd (cfst (csnd (csnd B33))))))) (by kernel_rfl) ?_
      refine RX.psn 2 [(5, (Value.int .i64 5)), (4, (Sl3.v Sl3.nil))] (by kernel_rfl) ?_
      refine RX.done (by kernel_rfl) ?_
      refine fun ss hs => (WX.nxt ?_ ss hs)
      refine WX.ret (by kernel_rfl) ?_
      cases h
      exact fun ss hs => seqR (retR (rq hs (by kernel_rfl)))
    · refine WX.condF _ (b_not hp) (by kernel_rfl) ?_
      refine WX.skip (by kernel_rfl) ?_
      refine fun ss hs => (WX.nxt ?_ ss hs)
      refine WX.seq (by kernel_rfl) ?_
      refine WX.region (opsOf (cfst (csnd (csnd (csnd B33))))) (by kernel_rfl) ?_
      refine RX.psn 1 [(13, (Sl3.v a0))] (by kernel_rfl) ?_
      obtain ⟨⟨x5, H6⟩, hx, h⟩ := bind_some h
      dsimp only at h
      refine RX.callAt (some 14) (v := (Sl3.v x5)) 48 #[(Sl3.v a0)] (by kernel_rfl) (by kernel_rfl) (by kernel_rfl) (ref01_From_ok hx) ?_
      refine RX.psn 1 [(6, (Sl3.v x5))] (by kernel_rfl) ?_
      refine RX.done (by kernel_rfl) ?_
      refine fun ss hs => (WX.nxt ?_ ss hs)
      refine WX.seq (by kernel_rfl) ?_
      refine WX.seq (by kernel_rfl) ?_
      refine WX.region (opsOf (cfst (cfst (csnd (csnd (csnd (csnd B33))))))) (by kernel_rfl) ?_
      refine RX.psn 3 [(17, (Value.bool (decide ((x5.n : Int) = 0)))), (16, (Value.int .i64 (x5.n : Int))), (15, (Sl3.v x5))] (by kernel_rfl) ?_
      refine RX.done (by kernel_rfl) ?_
      refine fun ss hs => (WX.nxt ?_ ss hs)
      rcases ite_some h with ⟨hp, h⟩ | ⟨hp, h⟩
      · refine WX.condT _ (decide_eq_true hp) (by kernel_rfl) ?_
        refine WX.seq (by kernel_rfl) ?_
        refine WX.region (opsOf (cfst (cfst (csnd (cfst (csnd (csnd (csnd (csnd B33))))))))) (by kernel_rfl) ?_
        refine RX.psn 2 [(5, (Value.int .i64 0)), (4, (Sl3.v Sl3.nil))] (by kernel_rfl) ?_
        refine RX.done (by kernel_rfl) ?_
        refine fun ss hs => (WX.nxt ?_ ss hs)
        refine WX.ret (by kernel_rfl) ?_
        cases h
        exact fun ss hs => seqR (retR (rq hs (by kernel_rfl)))
      · refine WX.condF _ (decide_eq_false hp) (by kernel_rfl) ?_
        refine WX.skip (by kernel_rfl) ?_
        refine fun ss hs => (WX.nxt ?_ ss hs)
        refine WX.seq (by kernel_rfl) ?_
        refine WX.seq (by kernel_rfl) ?_
        refine WX.region (opsOf (cfst (cfst (csnd (csnd (csnd (csnd (csnd B33)))))))) (by kernel_rfl) ?_
        refine RX.psn 2 [(19, (Value.bool (decide (a1 > 262144)))), (18, (Value.int .i64 a1))] (by kernel_rfl) ?_
        refine RX.done (by kernel_rfl) ?_
        refine fun ss hs => (WX.nxt ?_ ss hs)
        rcases ite_some h with ⟨hp, h⟩ | ⟨hp, h⟩
        · refine WX.condT _ (decide_eq_true hp) (by kernel_rfl) ?_
          refine WX.seq (by kernel_rfl) ?_
          refine WX.region (opsOf (cfst (cfst (csnd (cfst (csnd (csnd (csnd (csnd (csnd B33)))))))))) (by kernel_rfl) ?_
          refine RX.psn 2 [(5, (Value.int .i64 5)), (4, (Sl3.v Sl3.nil))] (by kernel_rfl) ?_
          refine RX.done (by kernel_rfl) ?_
          refine fun ss hs => (WX.nxt ?_ ss hs)
          refine WX.ret (by kernel_rfl) ?_
          cases h
          exact fun ss hs => seqR (retR (rq hs (by kernel_rfl)))
        · refine WX.condF _ (decide_eq_false hp) (by kernel_rfl) ?_
          refine WX.skip (by kernel_rfl) ?_
          refine fun ss hs => (WX.nxt ?_ ss hs)
          refine WX.seq (by kernel_rfl) ?_
          refine WX.region (opsOf (cfst (csnd (csnd (csnd (csnd (csnd (csnd B33)))))))) (by kernel_rfl) ?_
          refine RX.psn 2 [(21, (Value.int .i64 (IntKind.i64.wrap (Int.tdiv a1 16)))), (20, (Value.int .i64 a1))] (by kernel_rfl) ?_
          obtain ⟨⟨s7, H8⟩, hx, h⟩ := bind_some h
          dsimp only at h
          refine RX.at (some 22) (Sl3.v s7) (by kernel_rfl) (by kernel_rfl) (fun ih => Abs.run_mk (t := 63) (x := .tmp 21) (y := .tmp 21) (k1 := .i64) (k2 := .i64) (by kernel_rfl) (by kernel_rfl) (by kernel_rfl) (by kernel_rfl) hx) ?_
          refine RX.psn 1 [(7, (Sl3.v s7))] (by kernel_rfl) ?_
          refine RX.done (by kernel_rfl) ?_
          refine fun ss hs => (WX.nxt ?_ ss hs)
          refine WX.seq (by kernel_rfl) ?_
          refine WX.region (opsOf (cfst (csnd (csnd (csnd (csnd (csnd (csnd (csnd B33))))))))) (by kernel_rfl) ?_
          refine RX.psn 5 [(27, (Value.int .u64 (IntKind.u64.wrap (Int.tmod a1 16)))), (26, (Value.int .i64 (Int.tmod a1 16))), (25, (Value.int .i64 a1)), (24, (Sl3.v x5)), (23, (Sl3.v s7))] (by kernel_rfl) ?_
          rcases ite_some h with ⟨_, h⟩ | ⟨hx, h⟩
          · cases h
          · refine RX.at (some 28) (Value.int .u32 (ishl .u32 1 (IntKind.u64.wrap (Int.tmod a1 16)))) (by kernel_rfl) (by kernel_rfl) (fun ih => Abs.run_shl (t := 65) (u := 73) (x := .const (Value.int .u32 1)) (y := .tmp 27) (k' := .u64) (by kernel_rfl) (by kernel_rfl) (by kernel_rfl) hx) ?_
            obtain ⟨⟨s9, H10⟩, hx, h⟩ := bind_some h
            dsimp only at h
            refine RX.at (some 29) (Sl3.v s9) (by kernel_rfl) (by kernel_rfl) (fun ih => Abs.run_newR (by kernel_rfl) (by kernel_rfl) hx) ?_
            obtain ⟨⟨x11, H12⟩, hx, h⟩ := bind_some h
            dsimp only at h
            refine RX.callAt (some 30) (v := (Sl3.v x11)) 49 #[(Sl3.v x5), (Sl3.v s9)] (by kernel_rfl) (by kernel_rfl) (by kernel_rfl) (ref01_MulH_ok hx) ?_
            obtain ⟨⟨s13, H14⟩, hx, h⟩ := bind_some h
            dsimp only at h
            refine RX.at (some 31) (Sl3.v s13) (by kernel_rfl) (by kernel_rfl) (fun ih => Abs.run_app (x := .tmp 23) (y := .tmp 30) (ts := #[63, 63]) (s := s7) (z := x11) (by kernel_rfl) (by kernel_rfl) (by kernel_rfl) (by kernel_rfl) hx) ?_
            refine RX.psn 1 [(7, (Sl3.v s13))] (by kernel_rfl) ?_
            refine RX.done (by kernel_rfl) ?_
            refine fun ss hs => (WX.nxt ?_ ss hs)
            refine WX.seq (by kernel_rfl) ?_
            refine WX.region (opsOf (cfst (csnd (csnd (csnd (csnd (csnd (csnd (csnd (csnd B33)))))))))) (by kernel_rfl) ?_
            refine RX.psn 1 [(32, (Sl3.v s13))] (by kernel_rfl) ?_
            obtain ⟨⟨x15, x16, H17⟩, hx, h⟩ := bind_some h
            dsimp only at h
            refine RX.callAt (some 33) (v := (Value.tuple #[(Sl3.v x15), (Value.int .i64 x16)])) 51 #[(Sl3.v s13)] (by kernel_rfl) (by kernel_rfl) (by kernel_rfl) (ref01_result_ok hx) ?_
            refine RX.psn 4 [(5, (Value.int .i64 x16)), (4, (Sl3.v x15)), (35, (Value.int .i64 x16)), (34, (Sl3.v x15))] (by kernel_rfl) ?_
            refine RX.done (by kernel_rfl) ?_
            refine fun ss hs => (WX.nxt ?_ ss hs)
            refine WX.ret (by kernel_rfl) ?_
            cases h
            exact fun ss hs => retR (rq hs (by kernel_rfl))

noncomputable def B35 : Code := (Try.f35.body).getD .skip

def ref01_Shr_enc : (Sl3 × Int × AH) → Value
  | (r0, r1, _) => (Value.tuple #[(Sl3.v r0), (Value.int .i64 r1)])

def ref01_Shr_hp (_ : AH) : (Sl3 × Int × AH) → AH := fun r => r.2.2

noncomputable def ref01_Shr_b0 (a1 : Int) (x5 : Sl3) : (AH × Sl3 × Int) → Option (Lp (AH × Sl3 × Int) (Sl3 × Int × AH)) := fun (H7, v7_8, v8_9) =>
  if v8_9 < (x5.n : Int) then
    if belowSN H7.next x5 = true then
      Option.bind (idxA 1 x5 v8_9) fun p10 =>
      if belowN H7.next p10 = true then
        Option.bind (rd (deI .u32) H7 p10) fun x11 =>
        if belowSN H7.next x5 = true then
          Option.bind (ref01_limb H7 x5 (IntKind.i64.wrap (v8_9 + 1))) fun x12 =>
          if (IntKind.u64.wrap (Int.tmod a1 16)) < 0 then none else
          Option.bind (newR 65 1 #[(Value.int .u32 (iand .u32 (ishr .u32 (ior .u32 x11 (ishl .u32 x12 16)) (IntKind.u64.wrap (Int.tmod a1 16))) 65535))] H7) fun (s13, H14) =>
          Option.bind (appS 4294967296 65 1 4 H14 v7_8 s13) fun (s15, H16) =>
          some (.next (H16, s15, (IntKind.i64.wrap (v8_9 + 1))))
        else none
      else none
    else none
  else
    some (.brk (H7, v7_8, v8_9))

def ref01_Shr_b0_kn (a1 : Int) (x5 : Sl3) : (AH × Sl3 × Int) → Kn := fun (H7, v7_8, v8_9) => [(7, (Sl3.v v7_8)), (8, (Value.int .i64 v8_9)), (1, (Value.int .i64 a1)), (6, (Sl3.v x5))]

noncomputable def ref01_Shr (H : AH) (a0 : Sl3) (a1 : Int) : Option (Sl3 × Int × AH) :=
  if a1 < 0 then
    some (Sl3.nil, 1, H)
  else
    Option.bind (newR 24 1 #[(Sl3.v a0)] H) fun (s1, H2) =>
    Option.bind (ref01_long H2 s1) fun (x3, H4) =>
    if x3 = true then
      some (Sl3.nil, 5, H4)
    else
      Option.bind (ref01_From H4 a0) fun (x5, H6) =>
      if (IntKind.i64.wrap (Int.tdiv a1 16)) ≥ (x5.n : Int) then
        some (Sl3.nil, 0, H6)
      else
        Option.bind (loopO (ref01_Shr_b0 a1 x5) (H6, Sl3.nil, (IntKind.i64.wrap (Int.tdiv a1 16)))) fun o => match o with
        | .inl (H17, v7_18, v8_19) =>
          Option.bind (ref01_To H17 v7_18) fun (x20, H21) =>
          some (x20, 0, H21)
        | .inr r => some r

theorem ref01_Shr_b0_ok {a1 : Int} {x5 : Sl3} : ∀ s o, ref01_Shr_b0 a1 x5 s = some o →
    WX Try.prog 1000 4294967296 Try.f35.ntmps (cfst (cfst (csnd (cfst (csnd (csnd (csnd (csnd (csnd (csnd B35)))))))))) (ref01_Shr_b0_kn a1 x5 s) ((fun s => s.1) s) (lpQ (ref01_Shr_b0_kn a1 x5) (fun s => s.1) 0 (fun r => RQ Try.f35 (ref01_Shr_enc r) (ref01_Shr_hp ⟨0, .nil⟩ r)) o) := by
  rintro ⟨H7, v7_8, v8_9⟩ o h
  unfold ref01_Shr_b0 at h
  try dsimp only at h
  refine WX.seq (by kernel_rfl) ?_
  refine WX.seq (by kernel_rfl) ?_
  refine WX.region (opsOf (cfst (cfst (cfst (cfst (csnd (cfst (csnd (csnd (csnd (csnd (csnd (csnd B35))))))))))))) (by kernel_rfl) ?_
  refine RX.psn 4 [(27, (Value.bool (decide (v8_9 < (x5.n : Int))))), (26, (Value.int .i64 (x5.n : Int))), (25, (Sl3.v x5)), (24, (Value.int .i64 v8_9))] (by kernel_rfl) ?_
  refine RX.done (by kernel_rfl) ?_
  refine fun ss hs => (WX.nxt ?_ ss hs)
  rcases ite_some h with ⟨hp, h⟩ | ⟨hp, h⟩
  · refine WX.condT _ (decide_eq_true hp) (by kernel_rfl) ?_
    refine WX.skip (by kernel_rfl) ?_
    refine fun ss hs => (WX.nxt ?_ ss hs)
    refine WX.seq (by kernel_rfl) ?_
    refine WX.block 1 (by kernel_rfl) ?_
    refine WX.seq (by kernel_rfl) ?_
    refine WX.drawn (opsOf (cfst (cfst (cfst (csnd (cfst (cfst (csnd (cfst (csnd (csnd (csnd (csnd (csnd (csnd B35))))))))))))))) true (by kernel_rfl) (by kernel_rfl) ?_
    rcases ite_some h with ⟨hb, h⟩ | ⟨_, h⟩
    · refine DX.q (some 30) (Sl3.v x5) (by kernel_rfl) (by kernel_rfl) (by kernel_rfl) (fun ih H => by kernel_rfl) (calm_sl (belowSN_lt hb)) ?_
      refine DX.q (some 31) (Value.int .i64 v8_9) (by kernel_rfl) (by kernel_rfl) (by kernel_rfl) (fun ih H => by kernel_rfl) calm_int ?_
      obtain ⟨p10, hx, h⟩ := bind_some h
      rcases ite_some h with ⟨hb, h⟩ | ⟨_, h⟩
      · refine DX.q (some 32) (Value.pointer (some p10)) (by kernel_rfl) (by kernel_rfl) (by kernel_rfl) (fun ih H => Abs.run_idx (s := x5) (k := .i64) (t := 63) (e := 65) (x := .tmp 30) (y := .tmp 31) (by kernel_rfl) (by kernel_rfl) (by kernel_rfl) (by kernel_rfl) (by kernel_rfl) hx) (calm_ptr (belowN_lt hb)) ?_
        obtain ⟨x11, hx, h⟩ := bind_some h
        refine DX.l (some 33) (Value.int .u32 x11) (by kernel_rfl) (by kernel_rfl) (by kernel_rfl) (by kernel_rfl) (fun ih H hm => Abs.run_load (t := 65) (x := .tmp 32) (a := p10) (by kernel_rfl) (by kernel_rfl) (by kernel_rfl) ((cell_mem hm _).trans (rd_cell hx deI_inv))) calm_int ?_
        rcases ite_some h with ⟨hb, h⟩ | ⟨_, h⟩
        · refine DX.q (some 34) (Sl3.v x5) (by kernel_rfl) (by kernel_rfl) (by kernel_rfl) (fun ih H => by kernel_rfl) (calm_sl (belowSN_lt hb)) ?_
          refine DX.q (some 35) (Value.int .i64 v8_9) (by kernel_rfl) (by kernel_rfl) (by kernel_rfl) (fun ih H => by kernel_rfl) calm_int ?_
          refine DX.q (some 36) (Value.int .i64 (IntKind.i64.wrap (v8_9 + 1))) (by kernel_rfl) (by kernel_rfl) (by kernel_rfl) (fun ih H => by kernel_rfl) calm_int ?_
          obtain ⟨x12, hx, h⟩ := bind_some h
          refine DX.c (some 37) (v := (Value.int .u32 x12)) H7 65 #[(Sl3.v x5), (Value.int .i64 (IntKind.i64.wrap (v8_9 + 1)))] (by kernel_rfl) (by kernel_rfl) (by kernel_rfl) (by kernel_rfl) [] [] (by kernel_rfl) (by kernel_rfl) rfl (by kernel_rfl) (ref01_limb_ok hx) (Nat.le_refl _) (fun _ => rfl) ?_
          refine DX.q (some 38) (Value.int .u32 (ishl .u32 x12 16)) (by kernel_rfl) (by kernel_rfl) (by kernel_rfl) (fun ih H => by kernel_rfl) calm_int ?_
          refine DX.q (some 39) (Value.int .u32 (ior .u32 x11 (ishl .u32 x12 16))) (by kernel_rfl) (by kernel_rfl) (by kernel_rfl) (fun ih H => by kernel_rfl) calm_int ?_
          refine DX.q (some 9) (Value.int .u32 (ior .u32 x11 (ishl .u32 x12 16))) (by kernel_rfl) (by kernel_rfl) (by kernel_rfl) (fun ih H => by kernel_rfl) calm_int ?_
          refine DX.end_ (H' := H7) (by kernel_rfl) rfl ?_
          refine fun ss hs => (WX.nxt ?_ ss hs)
          refine WX.region (opsOf (csnd (cfst (cfst (csnd (cfst (cfst (csnd (cfst (csnd (csnd (csnd (csnd (csnd (csnd B35))))))))))))))) (by kernel_rfl) ?_
          refine RX.psn 5 [(44, (Value.int .u64 (IntKind.u64.wrap (Int.tmod a1 16)))), (43, (Value.int .i64 (Int.tmod a1 16))), (42, (Value.int .i64 a1)), (41, (Value.int .u32 (ior .u32 x11 (ishl .u32 x12 16)))), (40, (Sl3.v v7_8))] (by kernel_rfl) ?_
          rcases ite_some h with ⟨_, h⟩ | ⟨hx, h⟩
          · cases h
          · refine RX.at (some 45) (Value.int .u32 (ishr .u32 (ior .u32 x11 (ishl .u32 x12 16)) (IntKind.u64.wrap (Int.tmod a1 16)))) (by kernel_rfl) (by kernel_rfl) (fun ih => Abs.run_shr (t := 65) (u := 73) (x := .tmp 41) (y := .tmp 44) (k' := .u64) (by kernel_rfl) (by kernel_rfl) (by kernel_rfl) hx) ?_
            refine RX.psn 1 [(46, (Value.int .u32 (iand .u32 (ishr .u32 (ior .u32 x11 (ishl .u32 x12 16)) (IntKind.u64.wrap (Int.tmod a1 16))) 65535)))] (by kernel_rfl) ?_
            obtain ⟨⟨s13, H14⟩, hx, h⟩ := bind_some h
            dsimp only at h
            refine RX.at (some 47) (Sl3.v s13) (by kernel_rfl) (by kernel_rfl) (fun ih => Abs.run_newR (by kernel_rfl) (by kernel_rfl) hx) ?_
            obtain ⟨⟨s15, H16⟩, hx, h⟩ := bind_some h
            dsimp only at h
            refine RX.at (some 48) (Sl3.v s15) (by kernel_rfl) (by kernel_rfl) (fun ih => Abs.run_app (x := .tmp 40) (y := .tmp 47) (ts := #[63, 63]) (s := v7_8) (z := s13) (by kernel_rfl) (by kernel_rfl) (by kernel_rfl) (by kernel_rfl) hx) ?_
            refine RX.psn 1 [(7, (Sl3.v s15))] (by kernel_rfl) ?_
            refine RX.done (by kernel_rfl) ?_
            refine fun ss hs => blkN ((WX.nxt ?_ ss hs))
            refine WX.region (opsOf (csnd (csnd (cfst (cfst (csnd (cfst (csnd (csnd (csnd (csnd (csnd (csnd B35))))))))))))) (by kernel_rfl) ?_
            refine RX.psn 3 [(8, (Value.int .i64 (IntKind.i64.wrap (v8_9 + 1)))), (29, (Value.int .i64 (IntKind.i64.wrap (v8_9 + 1)))), (28, (Value.int .i64 v8_9))] (by kernel_rfl) ?_
            refine RX.done (by kernel_rfl) ?_
            cases h
            exact fun ss hs => lpN rfl (hs.sub ((SubK.cons (by kernel_rfl) (SubK.cons (by kernel_rfl) (SubK.cons (by kernel_rfl) (SubK.cons (by kernel_rfl) SubK.nil))))))
        · cases h
      · cases h
    · cases h
  · refine WX.condF _ (decide_eq_false hp) (by kernel_rfl) ?_
    refine WX.exit 0 (by kernel_rfl) ?_
    cases h
    exact fun ss hs => seqE (lpB rfl (hs.sub ((SubK.cons (by kernel_rfl) (SubK.cons (by kernel_rfl) (SubK.cons (by kernel_rfl) (SubK.cons (by kernel_rfl) SubK.nil)))))))

theorem ref01_Shr_ok {H : AH} {a0 : Sl3} {a1 : Int} {r : (Sl3 × Int × AH)} (h : ref01_Shr H a0 a1 = some r) :
    CallE Try.prog 1000 4294967296 35 #[(Sl3.v a0), (Value.int .i64 a1)] H (ref01_Shr_enc r) (ref01_Shr_hp H r) := by
  refine CallE.mk (args := [(Sl3.v a0), (Value.int .i64 a1)]) Try.func35 (B := B35) (by kernel_rfl) ?_
  unfold ref01_Shr at h
  refine WX.seq (by kernel_rfl) ?_
  refine WX.region (opsOf (cfst B35)) (by kernel_rfl) ?_
  refine RX.psn 2 [(5, (Value.int .i64 0)), (4, (Sl3.v Sl3.nil))] (by kernel_rfl) ?_
  refine RX.done (by kernel_rfl) ?_
  refine fun ss hs => (WX.nxt ?_ ss hs)
  refine WX.seq (by kernel_rfl) ?_
  refine WX.seq (by kernel_rfl) ?_
  refine WX.region (opsOf (cfst (cfst (csnd B35)))) (by kernel_rfl) ?_
  refine RX.psn 2 [(11, (Value.bool (decide (a1 < 0)))), (10, (Value.int .i64 a1))] (by kernel_rfl) ?_
  refine RX.done (by kernel_rfl) ?_
  refine fun ss hs => (WX.nxt ?_ ss hs)
  rcases ite_some h with ⟨hp, h⟩ | ⟨hp, h⟩
  · refine WX.condT _ (decide_eq_true hp) (by kernel_rfl) ?_
    refine WX.seq (by kernel_rfl) ?_
    refine WX.region (opsOf (cfst (cfst (csnd (cfst (csnd B35)))))) (by kernel_rfl) ?_
    refine RX.psn 2 [(5, (Value.int .i64 1)), (4, (Sl3.v Sl3.nil))] (by kernel_rfl) ?_
    refine RX.done (by kernel_rfl) ?_
    refine fun ss hs => (WX.nxt ?_ ss hs)
    refine WX.ret (by kernel_rfl) ?_
    cases h
    exact fun ss hs => seqR (retR (rq hs (by kernel_rfl)))
  · refine WX.condF _ (decide_eq_false hp) (by kernel_rfl) ?_
    refine WX.skip (by kernel_rfl) ?_
    refine fun ss hs => (WX.nxt ?_ ss hs)
    refine WX.seq (by kernel_rfl) ?_
    refine WX.seq (by kernel_rfl) ?_
    refine WX.region (opsOf (cfst (cfst (csnd (csnd B35))))) (by kernel_rfl) ?_
    refine RX.psn 1 [(12, (Sl3.v a0))] (by kernel_rfl) ?_
    obtain ⟨⟨s1, H2⟩, hx, h⟩ := bind_some h
    dsimp only at h
    refine RX.at (some 13) (Sl3.v s1) (by kernel_rfl) (by kernel_rfl) (fun ih => Abs.run_newR (by kernel_rfl) (by kernel_rfl) hx) ?_
    obtain ⟨⟨x3, H4⟩, hx, h⟩ := bind_some h
    dsimp only at h
    refine RX.callAt (some 14) (v := (Value.bool x3)) 47 #[(Sl3.v s1)] (by kernel_rfl) (by kernel_rfl) (by kernel_rfl) (ref01_long_ok hx) ?_
    refine RX.done (by kernel_rfl) ?_
    refine fun ss hs => (WX.nxt ?_ ss hs)
    rcases ite_some h with ⟨hp, h⟩ | ⟨hp, h⟩
    · refine WX.condT _ hp (by kernel_rfl) ?_
      refine WX.seq (by kernel_rfl) ?_
      refine WX.region (opsOf (cfst (cfst (csnd (cfst (csnd (csnd B35))))))) (by kernel_rfl) ?_
      refine RX.psn 2 [(5, (Value.int .i64 5)), (4, (Sl3.v Sl3.nil))] (by kernel_rfl) ?_
      refine RX.done (by kernel_rfl) ?_
      refine fun ss hs => (WX.nxt ?_ ss hs)
      refine WX.ret (by kernel_rfl) ?_
      cases h
      exact fun ss hs => seqR (retR (rq hs (by kernel_rfl)))
    · refine WX.condF _ (b_not hp) (by kernel_rfl) ?_
      refine WX.skip (by kernel_rfl) ?_
      refine fun ss hs => (WX.nxt ?_ ss hs)
      refine WX.seq (by kernel_rfl) ?_
      refine WX.region (opsOf (cfst (csnd (csnd (csnd B35))))) (by kernel_rfl) ?_
      refine RX.psn 1 [(15, (Sl3.v a0))] (by kernel_rfl) ?_
      obtain ⟨⟨x5, H6⟩, hx, h⟩ := bind_some h
      dsimp only at h
      refine RX.callAt (some 16) (v := (Sl3.v x5)) 48 #[(Sl3.v a0)] (by kernel_rfl) (by kernel_rfl) (by kernel_rfl) (ref01_From_ok hx) ?_
      refine RX.psn 1 [(6, (Sl3.v x5))] (by kernel_rfl) ?_
      refine RX.done (by kernel_rfl) ?_
      refine fun ss hs => (WX.nxt ?_ ss hs)
      refine WX.seq (by kernel_rfl) ?_
      refine WX.seq (by kernel_rfl) ?_
      refine WX.region (opsOf (cfst (cfst (csnd (csnd (csnd (csnd B35))))))) (by kernel_rfl) ?_
      refine RX.psn 5 [(21, (Value.bool (decide ((IntKind.i64.wrap (Int.tdiv a1 16)) ≥ (x5.n : Int))))), (20, (Value.int .i64 (x5.n : Int))), (19, (Sl3.v x5)), (18, (Value.int .i64 (IntKind.i64.wrap (Int.tdiv a1 16)))), (17, (Value.int .i64 a1))] (by kernel_rfl) ?_
      refine RX.done (by kernel_rfl) ?_
      refine fun ss hs => (WX.nxt ?_ ss hs)
      rcases ite_some h with ⟨hp, h⟩ | ⟨hp, h⟩
      · refine WX.condT _ (decide_eq_true hp) (by kernel_rfl) ?_
        refine WX.seq (by kernel_rfl) ?_
        refine WX.region (opsOf (cfst (cfst (csnd (cfst (csnd (csnd (csnd (csnd B35))))))))) (by kernel_rfl) ?_
        refine RX.psn 2 [(5, (Value.int .i64 0)), (4, (Sl3.v Sl3.nil))] (by kernel_rfl) ?_
        refine RX.done (by kernel_rfl) ?_
        refine fun ss hs => (WX.nxt ?_ ss hs)
        refine WX.ret (by kernel_rfl) ?_
        cases h
        exact fun ss hs => seqR (retR (rq hs (by kernel_rfl)))
      · refine WX.condF _ (decide_eq_false hp) (by kernel_rfl) ?_
        refine WX.skip (by kernel_rfl) ?_
        refine fun ss hs => (WX.nxt ?_ ss hs)
        refine WX.seq (by kernel_rfl) ?_
        refine WX.region (opsOf (cfst (csnd (csnd (csnd (csnd (csnd B35))))))) (by kernel_rfl) ?_
        refine RX.psn 1 [(7, (Sl3.v Sl3.nil))] (by kernel_rfl) ?_
        refine RX.done (by kernel_rfl) ?_
        refine fun ss hs => (WX.nxt ?_ ss hs)
        refine WX.seq (by kernel_rfl) ?_
        refine WX.seq (by kernel_rfl) ?_
        refine WX.region (opsOf (cfst (cfst (csnd (csnd (csnd (csnd (csnd (csnd B35))))))))) (by kernel_rfl) ?_
        refine RX.psn 3 [(8, (Value.int .i64 (IntKind.i64.wrap (Int.tdiv a1 16)))), (23, (Value.int .i64 (IntKind.i64.wrap (Int.tdiv a1 16)))), (22, (Value.int .i64 a1))] (by kernel_rfl) ?_
        refine RX.done (by kernel_rfl) ?_
        refine fun ss hs => (WX.nxt ?_ ss hs)
        refine WX.block 0 (by kernel_rfl) ?_
        obtain ⟨o, hl, h⟩ := bind_some h
        rcases o with ⟨H17, v7_18, v8_19⟩ | r
        · dsimp only at h
          refine WX.loopI (by kernel_rfl) (ref01_Shr_b0 a1 x5) (ref01_Shr_b0_kn a1 x5) (fun s => s.1) 0 (fun r => RQ Try.f35 (ref01_Shr_enc r) (ref01_Shr_hp ⟨0, .nil⟩ r)) ref01_Shr_b0_ok hl ((SubK.cons (by kernel_rfl) (SubK.cons (by kernel_rfl) (SubK.cons (by kernel_rfl) (SubK.cons (by kernel_rfl) SubK.nil))))) rfl ?_
          clear hl
          refine fun ss hs => blkE ((WX.nxt ?_ ss hs))
          refine WX.seq (by kernel_rfl) ?_
          refine WX.region (opsOf (cfst (csnd (csnd (csnd (csnd (csnd (csnd (csnd B35))))))))) (by kernel_rfl) ?_
          refine RX.psn 1 [(49, (Sl3.v v7_18))] (by kernel_rfl) ?_
          obtain ⟨⟨x20, H21⟩, hx, h⟩ := bind_some h
          dsimp only at h
          refine RX.callAt (some 50) (v := (Sl3.v x20)) 60 #[(Sl3.v v7_18)] (by kernel_rfl) (by kernel_rfl) (by kernel_rfl) (ref01_To_ok hx) ?_
          refine RX.psn 2 [(5, (Value.int .i64 0)), (4, (Sl3.v x20))] (by kernel_rfl) ?_
          refine RX.done (by kernel_rfl) ?_
          refine fun ss hs => (WX.nxt ?_ ss hs)
          refine WX.ret (by kernel_rfl) ?_
          cases h
          exact fun ss hs => retR (rq hs (by kernel_rfl))
        · dsimp only at h
          refine WX.loopR (by kernel_rfl) (ref01_Shr_b0 a1 x5) (ref01_Shr_b0_kn a1 x5) (fun s => s.1) 0 (fun r => RQ Try.f35 (ref01_Shr_enc r) (ref01_Shr_hp ⟨0, .nil⟩ r)) ref01_Shr_b0_ok hl ((SubK.cons (by kernel_rfl) (SubK.cons (by kernel_rfl) (SubK.cons (by kernel_rfl) (SubK.cons (by kernel_rfl) SubK.nil))))) rfl ?_
          cases h
          exact fun ss H hq => blkR (seqR (retR hq))

noncomputable def B7 : Code := (Try.f7.body).getD .skip

def law01_NatShifts_enc : (Bool × AH) → Value
  | (r0, _) => (Value.bool r0)

def law01_NatShifts_hp (_ : AH) : (Bool × AH) → AH := fun r => r.2

noncomputable def law01_NatShifts (H : AH) (a0 : Sl3) (a1 : Int) : Option (Bool × AH) :=
  Option.bind (nat_Shl H a0 a1) fun (x1, x2, H3) =>
  Option.bind (ref01_Shl H3 a0 a1) fun (x4, x5, H6) =>
  Option.bind (nat_Shr H6 a0 a1) fun (x7, x8, H9) =>
  Option.bind (ref01_Shr H9 a0 a1) fun (x10, x11, H12) =>
  Option.bind (ref01_Same H12 x1 x4) fun x13 =>
  if x13 = true then
    if x2 = x5 then
      Option.bind (ref01_Same H12 x7 x10) fun x14 =>
      if x14 = true then
        if x8 = x11 then
          Option.bind (law01_alive H12) fun (x15, H16) =>
          some (x15, H16)
        else
          some (false, H12)
      else
        some (false, H12)
    else
      some (false, H12)
  else
    some (false, H12)

theorem law01_NatShifts_ok {H : AH} {a0 : Sl3} {a1 : Int} {r : (Bool × AH)} (h : law01_NatShifts H a0 a1 = some r) :
    CallE Try.prog 1000 4294967296 7 #[(Sl3.v a0), (Value.int .i64 a1)] H (law01_NatShifts_enc r) (law01_NatShifts_hp H r) := by
  refine CallE.mk (args := [(Sl3.v a0), (Value.int .i64 a1)]) Try.func7 (B := B7) (by kernel_rfl) ?_
  unfold law01_NatShifts at h
  refine WX.seq (by kernel_rfl) ?_
  refine WX.region (opsOf (cfst B7)) (by kernel_rfl) ?_
  refine RX.psn 1 [(4, (Value.bool false))] (by kernel_rfl) ?_
  refine RX.done (by kernel_rfl) ?_
  refine fun ss hs => (WX.nxt ?_ ss hs)
  refine WX.seq (by kernel_rfl) ?_
  refine WX.region (opsOf (cfst (csnd B7))) (by kernel_rfl) ?_
  refine RX.psn 2 [(15, (Value.int .i64 a1)), (14, (Sl3.v a0))] (by kernel_rfl) ?_
  obtain ⟨⟨x1, x2, H3⟩, hx, h⟩ := bind_some h
  dsimp only at h
  refine RX.callAt (some 16) (v := (Value.tuple #[(Sl3.v x1), (Value.int .i64 x2)])) 32 #[(Sl3.v a0), (Value.int .i64 a1)] (by kernel_rfl) (by kernel_rfl) (by kernel_rfl) (nat_Shl_ok hx) ?_
  refine RX.psn 5 [(6, (Value.int .i64 x2)), (5, (Sl3.v x1)), (18, (Value.int .i64 x2)), (17, (Sl3.v x1)), (13, (Value.tuple #[(Sl3.v x1), (Value.int .i64 x2)]))] (by kernel_rfl) ?_
  refine RX.done (by kernel_rfl) ?_
  refine fun ss hs => (WX.nxt ?_ ss hs)
  refine WX.seq (by kernel_rfl) ?_
  refine WX.region (opsOf (cfst (csnd (csnd B7)))) (by kernel_rfl) ?_
  refine RX.psn 2 [(21, (Value.int .i64 a1)), (20, (Sl3.v a0))] (by kernel_rfl) ?_
  obtain ⟨⟨x4, x5, H6⟩, hx, h⟩ := bind_some h
  dsimp only at h
  refine RX.callAt (some 22) (v := (Value.tuple #[(Sl3.v x4), (Value.int .i64 x5)])) 33 #[(Sl3.v a0), (Value.int .i64 a1)] (by kernel_rfl) (by kernel_rfl) (by kernel_rfl) (ref01_Shl_ok hx) ?_
  refine RX.psn 5 [(8, (Value.int .i64 x5)), (7, (Sl3.v x4)), (24, (Value.int .i64 x5)), (23, (Sl3.v x4)), (19, (Value.tuple #[(Sl3.v x4), (Value.int .i64 x5)]))] (by kernel_rfl) ?_
  refine RX.done (by kernel_rfl) ?_
  refine fun ss hs => (WX.nxt ?_ ss hs)
  refine WX.seq (by kernel_rfl) ?_
  refine WX.region (opsOf (cfst (csnd (csnd (csnd B7))))) (by kernel_rfl) ?_
  refine RX.psn 2 [(27, (Value.int .i64 a1)), (26, (Sl3.v a0))] (by kernel_rfl) ?_
  obtain ⟨⟨x7, x8, H9⟩, hx, h⟩ := bind_some h
  dsimp only at h
  refine RX.callAt (some 28) (v := (Value.tuple #[(Sl3.v x7), (Value.int .i64 x8)])) 34 #[(Sl3.v a0), (Value.int .i64 a1)] (by kernel_rfl) (by kernel_rfl) (by kernel_rfl) (nat_Shr_ok hx) ?_
  refine RX.psn 5 [(10, (Value.int .i64 x8)), (9, (Sl3.v x7)), (30, (Value.int .i64 x8)), (29, (Sl3.v x7)), (25, (Value.tuple #[(Sl3.v x7), (Value.int .i64 x8)]))] (by kernel_rfl) ?_
  refine RX.done (by kernel_rfl) ?_
  refine fun ss hs => (WX.nxt ?_ ss hs)
  refine WX.seq (by kernel_rfl) ?_
  refine WX.region (opsOf (cfst (csnd (csnd (csnd (csnd B7)))))) (by kernel_rfl) ?_
  refine RX.psn 2 [(33, (Value.int .i64 a1)), (32, (Sl3.v a0))] (by kernel_rfl) ?_
  obtain ⟨⟨x10, x11, H12⟩, hx, h⟩ := bind_some h
  dsimp only at h
  refine RX.callAt (some 34) (v := (Value.tuple #[(Sl3.v x10), (Value.int .i64 x11)])) 35 #[(Sl3.v a0), (Value.int .i64 a1)] (by kernel_rfl) (by kernel_rfl) (by kernel_rfl) (ref01_Shr_ok hx) ?_
  refine RX.psn 5 [(12, (Value.int .i64 x11)), (11, (Sl3.v x10)), (36, (Value.int .i64 x11)), (35, (Sl3.v x10)), (31, (Value.tuple #[(Sl3.v x10), (Value.int .i64 x11)]))] (by kernel_rfl) ?_
  refine RX.done (by kernel_rfl) ?_
  refine fun ss hs => (WX.nxt ?_ ss hs)
  refine WX.seq (by kernel_rfl) ?_
  refine WX.region (opsOf (cfst (csnd (csnd (csnd (csnd (csnd B7))))))) (by kernel_rfl) ?_
  refine RX.psn 2 [(38, (Sl3.v x4)), (37, (Sl3.v x1))] (by kernel_rfl) ?_
  obtain ⟨x13, hx, h⟩ := bind_some h
  refine RX.callAt (some 39) (v := (Value.bool x13)) 16 #[(Sl3.v x1), (Sl3.v x4)] (by kernel_rfl) (by kernel_rfl) (by kernel_rfl) (ref01_Same_ok hx) ?_
  refine RX.psn 1 [(40, (Value.bool x13))] (by kernel_rfl) ?_
  rcases ite_some h with ⟨hp, h⟩ | ⟨hp, h⟩
  · refine RX.fix 40 true hp (by kernel_rfl) ?_
    refine RX.psn 5 [(45, (Value.bool (decide (x2 = x5)))), (44, (Value.bool (decide (x2 = x5)))), (43, (Value.bool (decide (x2 = x5)))), (42, (Value.int .i64 x5)), (41, (Value.int .i64 x2))] (by kernel_rfl) ?_
    rcases ite_some h with ⟨hp, h⟩ | ⟨hp, h⟩
    · refine RX.fix 45 true (decide_eq_true hp) (by kernel_rfl) ?_
      refine RX.psn 2 [(47, (Sl3.v x10)), (46, (Sl3.v x7))] (by kernel_rfl) ?_
      obtain ⟨x14, hx, h⟩ := bind_some h
      refine RX.callAt (some 48) (v := (Value.bool x14)) 16 #[(Sl3.v x7), (Sl3.v x10)] (by kernel_rfl) (by kernel_rfl) (by kernel_rfl) (ref01_Same_ok hx) ?_
      refine RX.psn 2 [(50, (Value.bool x14)), (49, (Value.bool x14))] (by kernel_rfl) ?_
      rcases ite_some h with ⟨hp, h⟩ | ⟨hp, h⟩
      · refine RX.fix 50 true hp (by kernel_rfl) ?_
        refine RX.psn 5 [(55, (Value.bool (decide (x8 = x11)))), (54, (Value.bool (decide (x8 = x11)))), (53, (Value.bool (decide (x8 = x11)))), (52, (Value.int .i64 x11)), (51, (Value.int .i64 x8))] (by kernel_rfl) ?_
        rcases ite_some h with ⟨hp, h⟩ | ⟨hp, h⟩
        · refine RX.fix 55 true (decide_eq_true hp) (by kernel_rfl) ?_
          obtain ⟨⟨x15, H16⟩, hx, h⟩ := bind_some h
          dsimp only at h
          refine RX.callAt (some 56) (v := (Value.bool x15)) 17 #[] (by kernel_rfl) (by kernel_rfl) (by kernel_rfl) (law01_alive_ok hx) ?_
          refine RX.psn 2 [(4, (Value.bool x15)), (57, (Value.bool x15))] (by kernel_rfl) ?_
          refine RX.done (by kernel_rfl) ?_
          refine fun ss hs => (WX.nxt ?_ ss hs)
          refine WX.ret (by kernel_rfl) ?_
          cases h
          exact fun ss hs => retR (rq hs (by kernel_rfl))
        · refine RX.fix 55 false (decide_eq_false hp) (by kernel_rfl) ?_
          refine RX.psn 3 [(4, (Value.bool false)), (57, (Value.bool false)), (56, undef)] (by kernel_rfl) ?_
          refine RX.done (by kernel_rfl) ?_
          refine fun ss hs => (WX.nxt ?_ ss hs)
          refine WX.ret (by kernel_rfl) ?_
          cases h
          exact fun ss hs => retR (rq hs (by kernel_rfl))
      · refine RX.fix 50 false (b_not hp) (by kernel_rfl) ?_
        refine RX.psn 8 [(4, (Value.bool false)), (57, (Value.bool false)), (56, undef), (55, (Value.bool false)), (54, (Value.bool false)), (53, undef), (52, undef), (51, undef)] (by kernel_rfl) ?_
        refine RX.done (by kernel_rfl) ?_
        refine fun ss hs => (WX.nxt ?_ ss hs)
        refine WX.ret (by kernel_rfl) ?_
        cases h
        exact fun ss hs => retR (rq hs (by kernel_rfl))
    · refine RX.fix 45 false (decide_eq_false hp) (by kernel_rfl) ?_
      refine RX.psn 13 [(4, (Value.bool false)), (57, (Value.bool false)), (56, undef), (55, (Value.bool false)), (54, (Value.bool false)), (53, undef), (52, undef), (51, undef), (50, (Value.bool false)), (49, (Value.bool false)), (48, undef), (47, undef), (46, undef)] (by kernel_rfl) ?_
      refine RX.done (by kernel_rfl) ?_
      refine fun ss hs => (WX.nxt ?_ ss hs)
      refine WX.ret (by kernel_rfl) ?_
      cases h
      exact fun ss hs => retR (rq hs (by kernel_rfl))
  · refine RX.fix 40 false (b_not hp) (by kernel_rfl) ?_
    refine RX.psn 18 [(4, (Value.bool false)), (57, (Value.bool false)), (56, undef), (55, (Value.bool false)), (54, (Value.bool false)), (53, undef), (52, undef), (51, undef), (50, (Value.bool false)), (49, (Value.bool false)), (48, undef), (47, undef), (46, undef), (45, (Value.bool false)), (44, (Value.bool false)), (43, undef), (42, undef), (41, undef)] (by kernel_rfl) ?_
    refine RX.done (by kernel_rfl) ?_
    refine fun ss hs => (WX.nxt ?_ ss hs)
    refine WX.ret (by kernel_rfl) ?_
    cases h
    exact fun ss hs => retR (rq hs (by kernel_rfl))

end Go.Proofs.Ytoadagekdnkciaa
