/- Functions of the program as Lean functions over the abstract heap, and that the interpreter comes to them (printed by a program of this project's own), part 3. No condition. -/
import Derived.Test.YtoadagekdnkciaaSubsG2
namespace Go.Proofs.Ytoadagekdnkciaa
open Go Go.Abs
set_option maxRecDepth 100000

noncomputable def B19 : Code := (Try.f19.body).getD .skip

def ref01_Text_enc : (ByteArray × Int × AH) → Value
  | (r0, r1, _) => (Value.tuple #[(Value.string r0), (Value.int .i64 r1)])

def ref01_Text_hp (_ : AH) : (ByteArray × Int × AH) → AH := fun r => r.2.2

noncomputable def ref01_Text (H : AH) (a0 : Sl3) (a1 : Int) : Option (ByteArray × Int × AH) :=
  Option.bind (ref01_based a1) fun x1 =>
  if x1 = true then
    Option.bind (newR 24 1 #[(Sl3.v a0)] H) fun (s2, H3) =>
    Option.bind (ref01_long H3 s2) fun (x4, H5) =>
    if x4 = true then
      some ((⟨#[]⟩ : ByteArray), 5, H5)
    else
      Option.bind (ref01_From H5 a0) fun (x6, H7) =>
      Option.bind (ref01_TextH H7 x6 (IntKind.u32.wrap a1)) fun (x8, H9) =>
      some (x8, 0, H9)
  else
    some ((⟨#[]⟩ : ByteArray), 12, H)

theorem ref01_Text_ok {H : AH} {a0 : Sl3} {a1 : Int} {r : (ByteArray × Int × AH)} (h : ref01_Text H a0 a1 = some r) :
    CallE Try.prog 1000 4294967296 19 #[(Sl3.v a0), (Value.int .i64 a1)] H (ref01_Text_enc r) (ref01_Text_hp H r) := by
  refine CallE.mk (args := [(Sl3.v a0), (Value.int .i64 a1)]) Try.func19 (B := B19) (by kernel_rfl) ?_
  unfold ref01_Text at h
  refine WX.seq (by kernel_rfl) ?_
  refine WX.region (opsOf (cfst B19)) (by kernel_rfl) ?_
  refine RX.psn 2 [(5, (Value.int .i64 0)), (4, (Value.string (⟨#[]⟩ : ByteArray)))] (by kernel_rfl) ?_
  refine RX.done (by kernel_rfl) ?_
  refine fun ss hs => (WX.nxt ?_ ss hs)
  refine WX.seq (by kernel_rfl) ?_
  refine WX.seq (by kernel_rfl) ?_
  refine WX.region (opsOf (cfst (cfst (csnd B19)))) (by kernel_rfl) ?_
  refine RX.psn 1 [(6, (Value.int .i64 a1))] (by kernel_rfl) ?_
  obtain ⟨x1, hx, h⟩ := bind_some h
  refine RX.callAt (some 7) (v := (Value.bool x1)) 56 #[(Value.int .i64 a1)] (by kernel_rfl) (by kernel_rfl) (by kernel_rfl) (ref01_based_ok hx) ?_
  refine RX.psn 1 [(8, (Value.bool (!x1)))] (by kernel_rfl) ?_
  refine RX.done (by kernel_rfl) ?_
  refine fun ss hs => (WX.nxt ?_ ss hs)
  rcases ite_some h with ⟨hp, h⟩ | ⟨hp, h⟩
  · refine WX.condF _ (nb_not hp) (by kernel_rfl) ?_
    refine WX.skip (by kernel_rfl) ?_
    refine fun ss hs => (WX.nxt ?_ ss hs)
    refine WX.seq (by kernel_rfl) ?_
    refine WX.seq (by kernel_rfl) ?_
    refine WX.region (opsOf (cfst (cfst (csnd (csnd B19))))) (by kernel_rfl) ?_
    refine RX.psn 1 [(9, (Sl3.v a0))] (by kernel_rfl) ?_
    obtain ⟨⟨s2, H3⟩, hx, h⟩ := bind_some h
    dsimp only at h
    refine RX.at (some 10) (Sl3.v s2) (by kernel_rfl) (by kernel_rfl) (fun ih => Abs.run_newR (by kernel_rfl) (by kernel_rfl) hx) ?_
    obtain ⟨⟨x4, H5⟩, hx, h⟩ := bind_some h
    dsimp only at h
    refine RX.callAt (some 11) (v := (Value.bool x4)) 47 #[(Sl3.v s2)] (by kernel_rfl) (by kernel_rfl) (by kernel_rfl) (ref01_long_ok hx) ?_
    refine RX.done (by kernel_rfl) ?_
    refine fun ss hs => (WX.nxt ?_ ss hs)
    rcases ite_some h with ⟨hp, h⟩ | ⟨hp, h⟩
    · refine WX.condT _ hp (by kernel_rfl) ?_
      refine WX.seq (by kernel_rfl) ?_
      refine WX.region (opsOf (cfst (cfst (csnd (cfst (csnd (csnd B19))))))) (by kernel_rfl) ?_
      refine RX.psn 2 [(5, (Value.int .i64 5)), (4, (Value.string (⟨#[]⟩ : ByteArray)))] (by kernel_rfl) ?_
      refine RX.done (by kernel_rfl) ?_
      refine fun ss hs => (WX.nxt ?_ ss hs)
      refine WX.ret (by kernel_rfl) ?_
      cases h
      exact fun ss hs => seqR (retR (rq hs (by kernel_rfl)))
    · refine WX.condF _ (b_not hp) (by kernel_rfl) ?_
      refine WX.skip (by kernel_rfl) ?_
      refine fun ss hs => (WX.nxt ?_ ss hs)
      refine WX.seq (by kernel_rfl) ?_
      refine WX.region (opsOf (cfst (csnd (csnd (csnd B19))))) (by kernel_rfl) ?_
      refine RX.psn 1 [(12, (Sl3.v a0))] (by kernel_rfl) ?_
      obtain ⟨⟨x6, H7⟩, hx, h⟩ := bind_some h
      dsimp only at h
      refine RX.callAt (some 13) (v := (Sl3.v x6)) 48 #[(Sl3.v a0)] (by kernel_rfl) (by kernel_rfl) (by kernel_rfl) (ref01_From_ok hx) ?_
      refine RX.psn 2 [(15, (Value.int .u32 (IntKind.u32.wrap a1))), (14, (Value.int .i64 a1))] (by kernel_rfl) ?_
      obtain ⟨⟨x8, H9⟩, hx, h⟩ := bind_some h
      dsimp only at h
      refine RX.callAt (some 16) (v := (Value.string x8)) 57 #[(Sl3.v x6), (Value.int .u32 (IntKind.u32.wrap a1))] (by kernel_rfl) (by kernel_rfl) (by kernel_rfl) (ref01_TextH_ok hx) ?_
      refine RX.psn 2 [(5, (Value.int .i64 0)), (4, (Value.string x8))] (by kernel_rfl) ?_
      refine RX.done (by kernel_rfl) ?_
      refine fun ss hs => (WX.nxt ?_ ss hs)
      refine WX.ret (by kernel_rfl) ?_
      cases h
      exact fun ss hs => retR (rq hs (by kernel_rfl))
  · refine WX.condT _ (nb_not' hp) (by kernel_rfl) ?_
    refine WX.seq (by kernel_rfl) ?_
    refine WX.region (opsOf (cfst (cfst (csnd (cfst (csnd B19)))))) (by kernel_rfl) ?_
    refine RX.psn 2 [(5, (Value.int .i64 12)), (4, (Value.string (⟨#[]⟩ : ByteArray)))] (by kernel_rfl) ?_
    refine RX.done (by kernel_rfl) ?_
    refine fun ss hs => (WX.nxt ?_ ss hs)
    refine WX.ret (by kernel_rfl) ?_
    cases h
    exact fun ss hs => seqR (retR (rq hs (by kernel_rfl)))

noncomputable def B4 : Code := (Try.f4.body).getD .skip

def law01_NatTexts_enc : (Bool × AH) → Value
  | (r0, _) => (Value.bool r0)

def law01_NatTexts_hp (_ : AH) : (Bool × AH) → AH := fun r => r.2

noncomputable def law01_NatTexts (H : AH) (a0 : Sl3) (a1 : Int) : Option (Bool × AH) :=
  Option.bind (nat_Text H a0 a1) fun (x1, x2, H3) =>
  Option.bind (ref01_Text H3 a0 a1) fun (x4, x5, H6) =>
  if (x1.toList == x4.toList) = true then
    if x2 = x5 then
      Option.bind (law01_alive H6) fun (x7, H8) =>
      some (x7, H8)
    else
      some (false, H6)
  else
    some (false, H6)

theorem law01_NatTexts_ok {H : AH} {a0 : Sl3} {a1 : Int} {r : (Bool × AH)} (h : law01_NatTexts H a0 a1 = some r) :
    CallE Try.prog 1000 4294967296 4 #[(Sl3.v a0), (Value.int .i64 a1)] H (law01_NatTexts_enc r) (law01_NatTexts_hp H r) := by
  refine CallE.mk (args := [(Sl3.v a0), (Value.int .i64 a1)]) Try.func4 (B := B4) (by kernel_rfl) ?_
  unfold law01_NatTexts at h
  refine WX.seq (by kernel_rfl) ?_
  refine WX.region (opsOf (cfst B4)) (by kernel_rfl) ?_
  refine RX.psn 1 [(4, (Value.bool false))] (by kernel_rfl) ?_
  refine RX.done (by kernel_rfl) ?_
  refine fun ss hs => (WX.nxt ?_ ss hs)
  refine WX.seq (by kernel_rfl) ?_
  refine WX.region (opsOf (cfst (csnd B4))) (by kernel_rfl) ?_
  refine RX.psn 2 [(11, (Value.int .i64 a1)), (10, (Sl3.v a0))] (by kernel_rfl) ?_
  obtain ⟨⟨x1, x2, H3⟩, hx, h⟩ := bind_some h
  dsimp only at h
  refine RX.callAt (some 12) (v := (Value.tuple #[(Value.string x1), (Value.int .i64 x2)])) 18 #[(Sl3.v a0), (Value.int .i64 a1)] (by kernel_rfl) (by kernel_rfl) (by kernel_rfl) (nat_Text_ok hx) ?_
  refine RX.psn 5 [(6, (Value.int .i64 x2)), (5, (Value.string x1)), (14, (Value.int .i64 x2)), (13, (Value.string x1)), (9, (Value.tuple #[(Value.string x1), (Value.int .i64 x2)]))] (by kernel_rfl) ?_
  refine RX.done (by kernel_rfl) ?_
  refine fun ss hs => (WX.nxt ?_ ss hs)
  refine WX.seq (by kernel_rfl) ?_
  refine WX.region (opsOf (cfst (csnd (csnd B4)))) (by kernel_rfl) ?_
  refine RX.psn 2 [(17, (Value.int .i64 a1)), (16, (Sl3.v a0))] (by kernel_rfl) ?_
  obtain ⟨⟨x4, x5, H6⟩, hx, h⟩ := bind_some h
  dsimp only at h
  refine RX.callAt (some 18) (v := (Value.tuple #[(Value.string x4), (Value.int .i64 x5)])) 19 #[(Sl3.v a0), (Value.int .i64 a1)] (by kernel_rfl) (by kernel_rfl) (by kernel_rfl) (ref01_Text_ok hx) ?_
  refine RX.psn 5 [(8, (Value.int .i64 x5)), (7, (Value.string x4)), (20, (Value.int .i64 x5)), (19, (Value.string x4)), (15, (Value.tuple #[(Value.string x4), (Value.int .i64 x5)]))] (by kernel_rfl) ?_
  refine RX.done (by kernel_rfl) ?_
  refine fun ss hs => (WX.nxt ?_ ss hs)
  refine WX.seq (by kernel_rfl) ?_
  refine WX.region (opsOf (cfst (csnd (csnd (csnd B4))))) (by kernel_rfl) ?_
  refine RX.psn 4 [(24, (Value.bool (x1.toList == x4.toList))), (23, (Value.bool (x1.toList == x4.toList))), (22, (Value.string x4)), (21, (Value.string x1))] (by kernel_rfl) ?_
  rcases ite_some h with ⟨hp, h⟩ | ⟨hp, h⟩
  · refine RX.fix 24 true hp (by kernel_rfl) ?_
    refine RX.psn 5 [(29, (Value.bool (decide (x2 = x5)))), (28, (Value.bool (decide (x2 = x5)))), (27, (Value.bool (decide (x2 = x5)))), (26, (Value.int .i64 x5)), (25, (Value.int .i64 x2))] (by kernel_rfl) ?_
    rcases ite_some h with ⟨hp, h⟩ | ⟨hp, h⟩
    · refine RX.fix 29 true (decide_eq_true hp) (by kernel_rfl) ?_
      obtain ⟨⟨x7, H8⟩, hx, h⟩ := bind_some h
      dsimp only at h
      refine RX.callAt (some 30) (v := (Value.bool x7)) 17 #[] (by kernel_rfl) (by kernel_rfl) (by kernel_rfl) (law01_alive_ok hx) ?_
      refine RX.psn 2 [(4, (Value.bool x7)), (31, (Value.bool x7))] (by kernel_rfl) ?_
      refine RX.done (by kernel_rfl) ?_
      refine fun ss hs => (WX.nxt ?_ ss hs)
      refine WX.ret (by kernel_rfl) ?_
      cases h
      exact fun ss hs => retR (rq hs (by kernel_rfl))
    · refine RX.fix 29 false (decide_eq_false hp) (by kernel_rfl) ?_
      refine RX.psn 3 [(4, (Value.bool false)), (31, (Value.bool false)), (30, undef)] (by kernel_rfl) ?_
      refine RX.done (by kernel_rfl) ?_
      refine fun ss hs => (WX.nxt ?_ ss hs)
      refine WX.ret (by kernel_rfl) ?_
      cases h
      exact fun ss hs => retR (rq hs (by kernel_rfl))
  · refine RX.fix 24 false (b_not hp) (by kernel_rfl) ?_
    refine RX.psn 8 [(4, (Value.bool false)), (31, (Value.bool false)), (30, undef), (29, (Value.bool false)), (28, (Value.bool false)), (27, undef), (26, undef), (25, undef)] (by kernel_rfl) ?_
    refine RX.done (by kernel_rfl) ?_
    refine fun ss hs => (WX.nxt ?_ ss hs)
    refine WX.ret (by kernel_rfl) ?_
    cases h
    exact fun ss hs => retR (rq hs (by kernel_rfl))

end Go.Proofs.Ytoadagekdnkciaa
