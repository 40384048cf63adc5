/- Functions of the program as Lean functions over the abstract heap, and that the interpreter comes to them (printed by a program of this project's own), part 1. No condition. -/
import Derived.Test.YtoadagekdnkciaaQuosEng3
import Derived.Test.YtoadagekdnkciaaChecked
namespace Go.Proofs.Ytoadagekdnkciaa
open Go Go.Abs
set_option maxRecDepth 100000

noncomputable def B62 : Code := (Try.f62.body).getD .skip

def bits_Len64_enc : Int → Value
  | r0 => (Value.int .i64 r0)

def bits_Len64_hp (H : AH) : Int → AH := fun _ => H

noncomputable def bits_Len64 (a0 : Int) : Option Int :=
  Option.bind (α := (Int × Int)) (
    if a0 ≥ 4294967296 then
      some ((ishr .u64 a0 32), 32)
    else
      some (a0, 0)) fun (v0_1, v2_2) =>
  Option.bind (α := (Int × Int)) (
    if v0_1 ≥ 65536 then
      some ((ishr .u64 v0_1 16), (IntKind.i64.wrap (v2_2 + 16)))
    else
      some (v0_1, v2_2)) fun (v0_3, v2_4) =>
  Option.bind (α := (Int × Int)) (
    if v0_3 ≥ 256 then
      some ((ishr .u64 v0_3 8), (IntKind.i64.wrap (v2_4 + 8)))
    else
      some (v0_3, v2_4)) fun (v0_5, v2_6) =>
  Option.bind (bytA (⟨#[0, 1, 2, 2, 3, 3, 3, 3, 4, 4, 4, 4, 4, 4, 4, 4, 5, 5, 5, 5, 5, 5, 5, 5, 5, 5, 5, 5, 5, 5, 5, 5, 6, 6, 6, 6, 6, 6, 6, 6, 6, 6, 6, 6, 6, 6, 6, 6, 6, 6, 6, 6, 6, 6, 6, 6, 6, 6, 6, 6, 6, 6, 6, 6, 7, 7, 7, 7, 7, 7, 7, 7, 7, 7, 7, 7, 7, 7, 7, 7, 7, 7, 7, 7, 7, 7, 7, 7, 7, 7, 7, 7, 7, 7, 7, 7, 7, 7, 7, 7, 7, 7, 7, 7, 7, 7, 7, 7, 7, 7, 7, 7, 7, 7, 7, 7, 7, 7, 7, 7, 7, 7, 7, 7, 7, 7, 7, 7, 8, 8, 8, 8, 8, 8, 8, 8, 8, 8, 8, 8, 8, 8, 8, 8, 8, 8, 8, 8, 8, 8, 8, 8, 8, 8, 8, 8, 8, 8, 8, 8, 8, 8, 8, 8, 8, 8, 8, 8, 8, 8, 8, 8, 8, 8, 8, 8, 8, 8, 8, 8, 8, 8, 8, 8, 8, 8, 8, 8, 8, 8, 8, 8, 8, 8, 8, 8, 8, 8, 8, 8, 8, 8, 8, 8, 8, 8, 8, 8, 8, 8, 8, 8, 8, 8, 8, 8, 8, 8, 8, 8, 8, 8, 8, 8, 8, 8, 8, 8, 8, 8, 8, 8, 8, 8, 8, 8, 8, 8, 8, 8, 8, 8, 8, 8, 8, 8, 8, 8, 8, 8, 8, 8, 8, 8, 8, 8]⟩ : ByteArray) (IntKind.u8.wrap v0_5)) fun x7 =>
  some (IntKind.i64.wrap (v2_6 + (IntKind.i64.wrap x7)))

theorem bits_Len64_ok {H : AH} {a0 : Int} {r : Int} (h : bits_Len64 a0 = some r) :
    CallE Try.prog 1000 4294967296 62 #[(Value.int .u64 a0)] H (bits_Len64_enc r) (bits_Len64_hp H r) := by
  refine CallE.mk (args := [(Value.int .u64 a0)]) Try.func62 (B := B62) (by kernel_rfl) ?_
  unfold bits_Len64 at h
  refine WX.seq (by kernel_rfl) ?_
  refine WX.region (opsOf (cfst B62)) (by kernel_rfl) ?_
  refine RX.psn 1 [(2, (Value.int .i64 0))] (by kernel_rfl) ?_
  refine RX.done (by kernel_rfl) ?_
  refine fun ss hs => (WX.nxt ?_ ss hs)
  obtain ⟨⟨v0_1, v2_2⟩, hx, h⟩ := bind_some h
  dsimp only at h
  refine WX.seq (by kernel_rfl) ?_
  refine WX.join ([(0, (Value.int .u64 v0_1)), (2, (Value.int .i64 v2_2))]) H ?_ (fun ss hs => WX.nxt ?_ ss hs)
  · clear h; rename _ => h
    refine WX.seq (by kernel_rfl) ?_
    refine WX.region (opsOf (cfst (cfst (csnd B62)))) (by kernel_rfl) ?_
    refine RX.psn 2 [(4, (Value.bool (decide (a0 ≥ 4294967296)))), (3, (Value.int .u64 a0))] (by kernel_rfl) ?_
    refine RX.done (by kernel_rfl) ?_
    refine fun ss hs => (WX.nxt ?_ ss hs)
    rcases ite_some h with ⟨hp, h⟩ | ⟨hp, h⟩
    · refine WX.condT _ (decide_eq_true hp) (by kernel_rfl) ?_
      refine WX.seq (by kernel_rfl) ?_
      refine WX.region (opsOf (cfst (cfst (csnd (cfst (csnd B62)))))) (by kernel_rfl) ?_
      refine RX.psn 3 [(0, (Value.int .u64 (ishr .u64 a0 32))), (6, (Value.int .u64 (ishr .u64 a0 32))), (5, (Value.int .u64 a0))] (by kernel_rfl) ?_
      refine RX.done (by kernel_rfl) ?_
      refine fun ss hs => (WX.nxt ?_ ss hs)
      refine WX.region (opsOf (csnd (cfst (csnd (cfst (csnd B62)))))) (by kernel_rfl) ?_
      refine RX.psn 1 [(2, (Value.int .i64 32))] (by kernel_rfl) ?_
      refine RX.done (by kernel_rfl) ?_
      cases h
      exact fun ss hs => ⟨rfl, hs.sub ((SubK.cons (by kernel_rfl) (SubK.cons (by kernel_rfl) SubK.nil))), rfl⟩
    · refine WX.condF _ (decide_eq_false hp) (by kernel_rfl) ?_
      refine WX.skip (by kernel_rfl) ?_
      cases h
      exact fun ss hs => ⟨rfl, hs.sub ((SubK.cons (by kernel_rfl) (SubK.cons (by kernel_rfl) SubK.nil))), rfl⟩
  · clear hx
    obtain ⟨⟨v0_3, v2_4⟩, hx, h⟩ := bind_some h
    dsimp only at h
    refine WX.seq (by kernel_rfl) ?_
    refine WX.join ([(0, (Value.int .u64 v0_3)), (2, (Value.int .i64 v2_4))]) H ?_ (fun ss hs => WX.nxt ?_ ss hs)
    · clear h; rename _ => h
      refine WX.seq (by kernel_rfl) ?_
      refine WX.region (opsOf (cfst (cfst (csnd (csnd B62))))) (by kernel_rfl) ?_
      refine RX.psn 2 [(8, (Value.bool (decide (v0_1 ≥ 65536)))), (7, (Value.int .u64 v0_1))] (by kernel_rfl) ?_
      refine RX.done (by kernel_rfl) ?_
      refine fun ss hs => (WX.nxt ?_ ss hs)
      rcases ite_some h with ⟨hp, h⟩ | ⟨hp, h⟩
      · refine WX.condT _ (decide_eq_true hp) (by kernel_rfl) ?_
        refine WX.seq (by kernel_rfl) ?_
        refine WX.region (opsOf (cfst (cfst (csnd (cfst (csnd (csnd B62))))))) (by kernel_rfl) ?_
        refine RX.psn 3 [(0, (Value.int .u64 (ishr .u64 v0_1 16))), (10, (Value.int .u64 (ishr .u64 v0_1 16))), (9, (Value.int .u64 v0_1))] (by kernel_rfl) ?_
        refine RX.done (by kernel_rfl) ?_
        refine fun ss hs => (WX.nxt ?_ ss hs)
        refine WX.region (opsOf (csnd (cfst (csnd (cfst (csnd (csnd B62))))))) (by kernel_rfl) ?_
        refine RX.psn 3 [(2, (Value.int .i64 (IntKind.i64.wrap (v2_2 + 16)))), (12, (Value.int .i64 (IntKind.i64.wrap (v2_2 + 16)))), (11, (Value.int .i64 v2_2))] (by kernel_rfl) ?_
        refine RX.done (by kernel_rfl) ?_
        cases h
        exact fun ss hs => ⟨rfl, hs.sub ((SubK.cons (by kernel_rfl) (SubK.cons (by kernel_rfl) SubK.nil))), rfl⟩
      · refine WX.condF _ (decide_eq_false hp) (by kernel_rfl) ?_
        refine WX.skip (by kernel_rfl) ?_
        cases h
        exact fun ss hs => ⟨rfl, hs.sub ((SubK.cons (by kernel_rfl) (SubK.cons (by kernel_rfl) SubK.nil))), rfl⟩
    · clear hx
      obtain ⟨⟨v0_5, v2_6⟩, hx, h⟩ := bind_some h
      dsimp only at h
      refine WX.seq (by kernel_rfl) ?_
      refine WX.join ([(0, (Value.int .u64 v0_5)), (2, (Value.int .i64 v2_6))]) H ?_ (fun ss hs => WX.nxt ?_ ss hs)
      · clear h; rename _ => h
        refine WX.seq (by kernel_rfl) ?_
        refine WX.region (opsOf (cfst (cfst (csnd (csnd (csnd B62)))))) (by kernel_rfl) ?_
        refine RX.psn 2 [(14, (Value.bool (decide (v0_3 ≥ 256)))), (13, (Value.int .u64 v0_3))] (by kernel_rfl) ?_
        refine RX.done (by kernel_rfl) ?_
        refine fun ss hs => (WX.nxt ?_ ss hs)
        rcases ite_some h with ⟨hp, h⟩ | ⟨hp, h⟩
        · refine WX.condT _ (decide_eq_true hp) (by kernel_rfl) ?_
          refine WX.seq (by kernel_rfl) ?_
          refine WX.region (opsOf (cfst (cfst (csnd (cfst (csnd (csnd (csnd B62)))))))) (by kernel_rfl) ?_
          refine RX.psn 3 [(0, (Value.int .u64 (ishr .u64 v0_3 8))), (16, (Value.int .u64 (ishr .u64 v0_3 8))), (15, (Value.int .u64 v0_3))] (by kernel_rfl) ?_
          refine RX.done (by kernel_rfl) ?_
          refine fun ss hs => (WX.nxt ?_ ss hs)
          refine WX.region (opsOf (csnd (cfst (csnd (cfst (csnd (csnd (csnd B62)))))))) (by kernel_rfl) ?_
          refine RX.psn 3 [(2, (Value.int .i64 (IntKind.i64.wrap (v2_4 + 8)))), (18, (Value.int .i64 (IntKind.i64.wrap (v2_4 + 8)))), (17, (Value.int .i64 v2_4))] (by kernel_rfl) ?_
          refine RX.done (by kernel_rfl) ?_
          cases h
          exact fun ss hs => ⟨rfl, hs.sub ((SubK.cons (by kernel_rfl) (SubK.cons (by kernel_rfl) SubK.nil))), rfl⟩
        · refine WX.condF _ (decide_eq_false hp) (by kernel_rfl) ?_
          refine WX.skip (by kernel_rfl) ?_
          cases h
          exact fun ss hs => ⟨rfl, hs.sub ((SubK.cons (by kernel_rfl) (SubK.cons (by kernel_rfl) SubK.nil))), rfl⟩
      · clear hx
        refine WX.seq (by kernel_rfl) ?_
        refine WX.region (opsOf (cfst (csnd (csnd (csnd (csnd B62)))))) (by kernel_rfl) ?_
        refine RX.psn 3 [(21, (Value.int .u8 (IntKind.u8.wrap v0_5))), (20, (Value.int .u64 v0_5)), (19, (Value.int .i64 v2_6))] (by kernel_rfl) ?_
        obtain ⟨x7, hx, h⟩ := bind_some h
        refine RX.at (some 22) (Value.int .u8 x7) (by kernel_rfl) (by kernel_rfl) (fun ih => Abs.run_byt (t := 9) (x := .const (Value.string (⟨#[0, 1, 2, 2, 3, 3, 3, 3, 4, 4, 4, 4, 4, 4, 4, 4, 5, 5, 5, 5, 5, 5, 5, 5, 5, 5, 5, 5, 5, 5, 5, 5, 6, 6, 6, 6, 6, 6, 6, 6, 6, 6, 6, 6, 6, 6, 6, 6, 6, 6, 6, 6, 6, 6, 6, 6, 6, 6, 6, 6, 6, 6, 6, 6, 7, 7, 7, 7, 7, 7, 7, 7, 7, 7, 7, 7, 7, 7, 7, 7, 7, 7, 7, 7, 7, 7, 7, 7, 7, 7, 7, 7, 7, 7, 7, 7, 7, 7, 7, 7, 7, 7, 7, 7, 7, 7, 7, 7, 7, 7, 7, 7, 7, 7, 7, 7, 7, 7, 7, 7, 7, 7, 7, 7, 7, 7, 7, 7, 8, 8, 8, 8, 8, 8, 8, 8, 8, 8, 8, 8, 8, 8, 8, 8, 8, 8, 8, 8, 8, 8, 8, 8, 8, 8, 8, 8, 8, 8, 8, 8, 8, 8, 8, 8, 8, 8, 8, 8, 8, 8, 8, 8, 8, 8, 8, 8, 8, 8, 8, 8, 8, 8, 8, 8, 8, 8, 8, 8, 8, 8, 8, 8, 8, 8, 8, 8, 8, 8, 8, 8, 8, 8, 8, 8, 8, 8, 8, 8, 8, 8, 8, 8, 8, 8, 8, 8, 8, 8, 8, 8, 8, 8, 8, 8, 8, 8, 8, 8, 8, 8, 8, 8, 8, 8, 8, 8, 8, 8, 8, 8, 8, 8, 8, 8, 8, 8, 8, 8, 8, 8, 8, 8, 8, 8, 8, 8]⟩ : ByteArray))) (y := .tmp 21) (s := (⟨#[0, 1, 2, 2, 3, 3, 3, 3, 4, 4, 4, 4, 4, 4, 4, 4, 5, 5, 5, 5, 5, 5, 5, 5, 5, 5, 5, 5, 5, 5, 5, 5, 6, 6, 6, 6, 6, 6, 6, 6, 6, 6, 6, 6, 6, 6, 6, 6, 6, 6, 6, 6, 6, 6, 6, 6, 6, 6, 6, 6, 6, 6, 6, 6, 7, 7, 7, 7, 7, 7, 7, 7, 7, 7, 7, 7, 7, 7, 7, 7, 7, 7, 7, 7, 7, 7, 7, 7, 7, 7, 7, 7, 7, 7, 7, 7, 7, 7, 7, 7, 7, 7, 7, 7, 7, 7, 7, 7, 7, 7, 7, 7, 7, 7, 7, 7, 7, 7, 7, 7, 7, 7, 7, 7, 7, 7, 7, 7, 8, 8, 8, 8, 8, 8, 8, 8, 8, 8, 8, 8, 8, 8, 8, 8, 8, 8, 8, 8, 8, 8, 8, 8, 8, 8, 8, 8, 8, 8, 8, 8, 8, 8, 8, 8, 8, 8, 8, 8, 8, 8, 8, 8, 8, 8, 8, 8, 8, 8, 8, 8, 8, 8, 8, 8, 8, 8, 8, 8, 8, 8, 8, 8, 8, 8, 8, 8, 8, 8, 8, 8, 8, 8, 8, 8, 8, 8, 8, 8, 8, 8, 8, 8, 8, 8, 8, 8, 8, 8, 8, 8, 8, 8, 8, 8, 8, 8, 8, 8, 8, 8, 8, 8, 8, 8, 8, 8, 8, 8, 8, 8, 8, 8, 8, 8, 8, 8, 8, 8, 8, 8, 8, 8, 8, 8, 8, 8]⟩ : ByteArray)) (k := .u8) (i := (IntKind.u8.wrap v0_5)) (by kernel_rfl) (by kernel_rfl) (by kernel_rfl) (by kernel_rfl) hx) ?_
        refine RX.psn 3 [(2, (Value.int .i64 (IntKind.i64.wrap (v2_6 + (IntKind.i64.wrap x7))))), (24, (Value.int .i64 (IntKind.i64.wrap (v2_6 + (IntKind.i64.wrap x7))))), (23, (Value.int .i64 (IntKind.i64.wrap x7)))] (by kernel_rfl) ?_
        refine RX.done (by kernel_rfl) ?_
        refine fun ss hs => (WX.nxt ?_ ss hs)
        refine WX.ret (by kernel_rfl) ?_
        cases h
        exact fun ss hs => retR (rq hs (by kernel_rfl))

noncomputable def B78 : Code := (Try.f78.body).getD .skip

def bits_LeadingZeros64_enc : Int → Value
  | r0 => (Value.int .i64 r0)

def bits_LeadingZeros64_hp (H : AH) : Int → AH := fun _ => H

noncomputable def bits_LeadingZeros64 (a0 : Int) : Option Int :=
  Option.bind (bits_Len64 a0) fun x1 =>
  some (IntKind.i64.wrap (64 - x1))

theorem bits_LeadingZeros64_ok {H : AH} {a0 : Int} {r : Int} (h : bits_LeadingZeros64 a0 = some r) :
    CallE Try.prog 1000 4294967296 78 #[(Value.int .u64 a0)] H (bits_LeadingZeros64_enc r) (bits_LeadingZeros64_hp H r) := by
  refine CallE.mk (args := [(Value.int .u64 a0)]) Try.func78 (B := B78) (by kernel_rfl) ?_
  unfold bits_LeadingZeros64 at h
  refine WX.seq (by kernel_rfl) ?_
  refine WX.region (opsOf (cfst B78)) (by kernel_rfl) ?_
  refine RX.psn 1 [(2, (Value.int .i64 0))] (by kernel_rfl) ?_
  refine RX.done (by kernel_rfl) ?_
  refine fun ss hs => (WX.nxt ?_ ss hs)
  refine WX.seq (by kernel_rfl) ?_
  refine WX.region (opsOf (cfst (csnd B78))) (by kernel_rfl) ?_
  refine RX.psn 1 [(3, (Value.int .u64 a0))] (by kernel_rfl) ?_
  obtain ⟨x1, hx, h⟩ := bind_some h
  refine RX.callAt (some 4) (v := (Value.int .i64 x1)) 62 #[(Value.int .u64 a0)] (by kernel_rfl) (by kernel_rfl) (by kernel_rfl) (bits_Len64_ok hx) ?_
  refine RX.psn 2 [(2, (Value.int .i64 (IntKind.i64.wrap (64 - x1)))), (5, (Value.int .i64 (IntKind.i64.wrap (64 - x1))))] (by kernel_rfl) ?_
  refine RX.done (by kernel_rfl) ?_
  refine fun ss hs => (WX.nxt ?_ ss hs)
  refine WX.ret (by kernel_rfl) ?_
  cases h
  exact fun ss hs => retR (rq hs (by kernel_rfl))

end Go.Proofs.Ytoadagekdnkciaa

namespace Go.Proofs.Ytoadagekdnkciaa
open Go Go.Abs
set_option maxRecDepth 100000

noncomputable def B75 : Code := (Try.f75.body).getD .skip

def bits_Div64_enc : (Int × Int) → Value
  | (r0, r1) => (Value.tuple #[(Value.int .u64 r0), (Value.int .u64 r1)])

def bits_Div64_hp (H : AH) : (Int × Int) → AH := fun _ => H

noncomputable def bits_Div64_b0 (H : AH) (a0 : Int) (a1 : Int) (a2 : Int) (x1 : Int) : (Int × Int) → Option (Lp (Int × Int) (Int × Int)) := fun (v15_2, v16_3) =>
  Option.bind (α := Unit ⊕ (Lp (Int × Int) (Int × Int))) (
    if v15_2 ≥ 4294967296 then
      some (.inl ())
    else
      if (IntKind.u64.wrap (v15_2 * (iand .u64 (ishl .u64 a2 (IntKind.u64.wrap x1)) 4294967295))) > (IntKind.u64.wrap ((IntKind.u64.wrap (4294967296 * v16_3)) + (ishr .u64 (ishl .u64 a1 (IntKind.u64.wrap x1)) 32))) then
        some (.inl ())
      else
        ((some (.brk (v15_2, v16_3))).map .inr)) fun o => match o with
  | .inl _ =>
    if (IntKind.u64.wrap (v16_3 + (ishr .u64 (ishl .u64 a2 (IntKind.u64.wrap x1)) 32))) ≥ 4294967296 then
      some (.brk ((IntKind.u64.wrap (v15_2 - 1)), (IntKind.u64.wrap (v16_3 + (ishr .u64 (ishl .u64 a2 (IntKind.u64.wrap x1)) 32)))))
    else
      some (.next ((IntKind.u64.wrap (v15_2 - 1)), (IntKind.u64.wrap (v16_3 + (ishr .u64 (ishl .u64 a2 (IntKind.u64.wrap x1)) 32)))))
  | .inr r => some r

def bits_Div64_b0_kn (H : AH) (a0 : Int) (a1 : Int) (a2 : Int) (x1 : Int) : (Int × Int) → Kn := fun (v15_2, v16_3) => [(15, (Value.int .u64 v15_2)), (16, (Value.int .u64 v16_3)), (2, (Value.int .u64 (ishl .u64 a2 (IntKind.u64.wrap x1)))), (8, (Value.int .u64 (IntKind.u64.wrap x1))), (9, (Value.int .u64 (ishr .u64 (ishl .u64 a2 (IntKind.u64.wrap x1)) 32))), (10, (Value.int .u64 (iand .u64 (ishl .u64 a2 (IntKind.u64.wrap x1)) 4294967295))), (11, (Value.int .u64 (ior .u64 (ishl .u64 a0 (IntKind.u64.wrap x1)) (ishr .u64 a1 (IntKind.u64.wrap (64 - (IntKind.u64.wrap x1))))))), (13, (Value.int .u64 (ishr .u64 (ishl .u64 a1 (IntKind.u64.wrap x1)) 32))), (14, (Value.int .u64 (iand .u64 (ishl .u64 a1 (IntKind.u64.wrap x1)) 4294967295)))]

noncomputable def bits_Div64_b1 (H : AH) (a0 : Int) (a1 : Int) (a2 : Int) (x1 : Int) (v15_4 : Int) : (Int × Int) → Option (Lp (Int × Int) (Int × Int)) := fun (v16_6, v18_7) =>
  Option.bind (α := Unit ⊕ (Lp (Int × Int) (Int × Int))) (
    if v18_7 ≥ 4294967296 then
      some (.inl ())
    else
      if (IntKind.u64.wrap (v18_7 * (iand .u64 (ishl .u64 a2 (IntKind.u64.wrap x1)) 4294967295))) > (IntKind.u64.wrap ((IntKind.u64.wrap (4294967296 * v16_6)) + (iand .u64 (ishl .u64 a1 (IntKind.u64.wrap x1)) 4294967295))) then
        some (.inl ())
      else
        ((some (.brk (v16_6, v18_7))).map .inr)) fun o => match o with
  | .inl _ =>
    if (IntKind.u64.wrap (v16_6 + (ishr .u64 (ishl .u64 a2 (IntKind.u64.wrap x1)) 32))) ≥ 4294967296 then
      some (.brk ((IntKind.u64.wrap (v16_6 + (ishr .u64 (ishl .u64 a2 (IntKind.u64.wrap x1)) 32))), (IntKind.u64.wrap (v18_7 - 1))))
    else
      some (.next ((IntKind.u64.wrap (v16_6 + (ishr .u64 (ishl .u64 a2 (IntKind.u64.wrap x1)) 32))), (IntKind.u64.wrap (v18_7 - 1))))
  | .inr r => some r

def bits_Div64_b1_kn (H : AH) (a0 : Int) (a1 : Int) (a2 : Int) (x1 : Int) (v15_4 : Int) : (Int × Int) → Kn := fun (v16_6, v18_7) => [(16, (Value.int .u64 v16_6)), (18, (Value.int .u64 v18_7)), (2, (Value.int .u64 (ishl .u64 a2 (IntKind.u64.wrap x1)))), (8, (Value.int .u64 (IntKind.u64.wrap x1))), (9, (Value.int .u64 (ishr .u64 (ishl .u64 a2 (IntKind.u64.wrap x1)) 32))), (10, (Value.int .u64 (iand .u64 (ishl .u64 a2 (IntKind.u64.wrap x1)) 4294967295))), (14, (Value.int .u64 (iand .u64 (ishl .u64 a1 (IntKind.u64.wrap x1)) 4294967295))), (15, (Value.int .u64 v15_4)), (17, (Value.int .u64 (IntKind.u64.wrap ((IntKind.u64.wrap ((IntKind.u64.wrap ((ior .u64 (ishl .u64 a0 (IntKind.u64.wrap x1)) (ishr .u64 a1 (IntKind.u64.wrap (64 - (IntKind.u64.wrap x1))))) * 4294967296)) + (ishr .u64 (ishl .u64 a1 (IntKind.u64.wrap x1)) 32))) - (IntKind.u64.wrap (v15_4 * (ishl .u64 a2 (IntKind.u64.wrap x1))))))))]

noncomputable def bits_Div64 (H : AH) (a0 : Int) (a1 : Int) (a2 : Int) : Option (Int × Int) :=
  if a2 = 0 then
    none
  else
    if a2 ≤ a0 then
      none
    else
      if a0 = 0 then
        if a2 = 0 then none else
        if a2 = 0 then none else
        some ((IntKind.u64.wrap (Int.tdiv a1 a2)), (Int.tmod a1 a2))
      else
        Option.bind (bits_LeadingZeros64 a2) fun x1 =>
        if (IntKind.u64.wrap x1) < 0 then none else
        if (IntKind.u64.wrap x1) < 0 then none else
        if (IntKind.u64.wrap (64 - (IntKind.u64.wrap x1))) < 0 then none else
        if (IntKind.u64.wrap x1) < 0 then none else
        if (ishr .u64 (ishl .u64 a2 (IntKind.u64.wrap x1)) 32) = 0 then none else
        Option.bind (loopO (bits_Div64_b0 H a0 a1 a2 x1) ((IntKind.u64.wrap (Int.tdiv (ior .u64 (ishl .u64 a0 (IntKind.u64.wrap x1)) (ishr .u64 a1 (IntKind.u64.wrap (64 - (IntKind.u64.wrap x1))))) (ishr .u64 (ishl .u64 a2 (IntKind.u64.wrap x1)) 32))), (IntKind.u64.wrap ((ior .u64 (ishl .u64 a0 (IntKind.u64.wrap x1)) (ishr .u64 a1 (IntKind.u64.wrap (64 - (IntKind.u64.wrap x1))))) - (IntKind.u64.wrap ((IntKind.u64.wrap (Int.tdiv (ior .u64 (ishl .u64 a0 (IntKind.u64.wrap x1)) (ishr .u64 a1 (IntKind.u64.wrap (64 - (IntKind.u64.wrap x1))))) (ishr .u64 (ishl .u64 a2 (IntKind.u64.wrap x1)) 32))) * (ishr .u64 (ishl .u64 a2 (IntKind.u64.wrap x1)) 32))))))) fun o => match o with
        | .inl (v15_4, v16_5) =>
          if (ishr .u64 (ishl .u64 a2 (IntKind.u64.wrap x1)) 32) = 0 then none else
          Option.bind (loopO (bits_Div64_b1 H a0 a1 a2 x1 v15_4) ((IntKind.u64.wrap ((IntKind.u64.wrap ((IntKind.u64.wrap ((IntKind.u64.wrap ((ior .u64 (ishl .u64 a0 (IntKind.u64.wrap x1)) (ishr .u64 a1 (IntKind.u64.wrap (64 - (IntKind.u64.wrap x1))))) * 4294967296)) + (ishr .u64 (ishl .u64 a1 (IntKind.u64.wrap x1)) 32))) - (IntKind.u64.wrap (v15_4 * (ishl .u64 a2 (IntKind.u64.wrap x1)))))) - (IntKind.u64.wrap ((IntKind.u64.wrap (Int.tdiv (IntKind.u64.wrap ((IntKind.u64.wrap ((IntKind.u64.wrap ((ior .u64 (ishl .u64 a0 (IntKind.u64.wrap x1)) (ishr .u64 a1 (IntKind.u64.wrap (64 - (IntKind.u64.wrap x1))))) * 4294967296)) + (ishr .u64 (ishl .u64 a1 (IntKind.u64.wrap x1)) 32))) - (IntKind.u64.wrap (v15_4 * (ishl .u64 a2 (IntKind.u64.wrap x1)))))) (ishr .u64 (ishl .u64 a2 (IntKind.u64.wrap x1)) 32))) * (ishr .u64 (ishl .u64 a2 (IntKind.u64.wrap x1)) 32))))), (IntKind.u64.wrap (Int.tdiv (IntKind.u64.wrap ((IntKind.u64.wrap ((IntKind.u64.wrap ((ior .u64 (ishl .u64 a0 (IntKind.u64.wrap x1)) (ishr .u64 a1 (IntKind.u64.wrap (64 - (IntKind.u64.wrap x1))))) * 4294967296)) + (ishr .u64 (ishl .u64 a1 (IntKind.u64.wrap x1)) 32))) - (IntKind.u64.wrap (v15_4 * (ishl .u64 a2 (IntKind.u64.wrap x1)))))) (ishr .u64 (ishl .u64 a2 (IntKind.u64.wrap x1)) 32))))) fun o => match o with
          | .inl (v16_8, v18_9) =>
            if (IntKind.u64.wrap x1) < 0 then none else
            some ((IntKind.u64.wrap ((IntKind.u64.wrap (v15_4 * 4294967296)) + v18_9)), (ishr .u64 (IntKind.u64.wrap ((IntKind.u64.wrap ((IntKind.u64.wrap ((IntKind.u64.wrap ((IntKind.u64.wrap ((IntKind.u64.wrap ((ior .u64 (ishl .u64 a0 (IntKind.u64.wrap x1)) (ishr .u64 a1 (IntKind.u64.wrap (64 - (IntKind.u64.wrap x1))))) * 4294967296)) + (ishr .u64 (ishl .u64 a1 (IntKind.u64.wrap x1)) 32))) - (IntKind.u64.wrap (v15_4 * (ishl .u64 a2 (IntKind.u64.wrap x1)))))) * 4294967296)) + (iand .u64 (ishl .u64 a1 (IntKind.u64.wrap x1)) 4294967295))) - (IntKind.u64.wrap (v18_9 * (ishl .u64 a2 (IntKind.u64.wrap x1)))))) (IntKind.u64.wrap x1)))
          | .inr r => some r
        | .inr r => some r

theorem bits_Div64_b0_ok {H : AH} {a0 : Int} {a1 : Int} {a2 : Int} {x1 : Int} : ∀ s o, bits_Div64_b0 H a0 a1 a2 x1 s = some o →
    WX Try.prog 1000 4294967296 Try.f75.ntmps (cfst (cfst (cfst (csnd (csnd (csnd (csnd (csnd (csnd (csnd (csnd (csnd (csnd (csnd (csnd (csnd (csnd B75))))))))))))))))) (bits_Div64_b0_kn H a0 a1 a2 x1 s) ((fun _ => H) s) (lpQ (bits_Div64_b0_kn H a0 a1 a2 x1) (fun _ => H) 0 (fun r => RQ Try.f75 (bits_Div64_enc r) (bits_Div64_hp H r)) o) := by
  rintro ⟨v15_2, v16_3⟩ o h
  unfold bits_Div64_b0 at h
  try dsimp only at h
  obtain ⟨o, hx, h⟩ := bind_some h
  rcases o with _ | ro
  · dsimp only at h
    refine WX.seq (by kernel_rfl) ?_
    refine WX.join ([(2, (Value.int .u64 (ishl .u64 a2 (IntKind.u64.wrap x1)))), (8, (Value.int .u64 (IntKind.u64.wrap x1))), (9, (Value.int .u64 (ishr .u64 (ishl .u64 a2 (IntKind.u64.wrap x1)) 32))), (10, (Value.int .u64 (iand .u64 (ishl .u64 a2 (IntKind.u64.wrap x1)) 4294967295))), (11, (Value.int .u64 (ior .u64 (ishl .u64 a0 (IntKind.u64.wrap x1)) (ishr .u64 a1 (IntKind.u64.wrap (64 - (IntKind.u64.wrap x1))))))), (13, (Value.int .u64 (ishr .u64 (ishl .u64 a1 (IntKind.u64.wrap x1)) 32))), (14, (Value.int .u64 (iand .u64 (ishl .u64 a1 (IntKind.u64.wrap x1)) 4294967295))), (15, (Value.int .u64 v15_2)), (16, (Value.int .u64 v16_3))]) H ?_ (fun ss hs => WX.nxt ?_ ss hs)
    · clear h; rename _ => h
      refine WX.seq (by kernel_rfl) ?_
      refine WX.region (opsOf (cfst (cfst (cfst (cfst (cfst (csnd (csnd (csnd (csnd (csnd (csnd (csnd (csnd (csnd (csnd (csnd (csnd (csnd (csnd B75)))))))))))))))))))) (by kernel_rfl) ?_
      refine RX.psn 3 [(69, (Value.bool (decide (v15_2 ≥ 4294967296)))), (68, (Value.bool (decide (v15_2 ≥ 4294967296)))), (67, (Value.int .u64 v15_2))] (by kernel_rfl) ?_
      rcases ite_some h with ⟨hp, h⟩ | ⟨hp, h⟩
      · refine RX.fix 69 true (decide_eq_true hp) (by kernel_rfl) ?_
        refine RX.psn 9 [(78, (Value.bool true)), (77, undef), (76, undef), (75, undef), (74, undef), (73, undef), (72, undef), (71, undef), (70, undef)] (by kernel_rfl) ?_
        refine RX.done (by kernel_rfl) ?_
        refine fun ss hs => (WX.nxt ?_ ss hs)
        refine WX.condT true rfl (by kernel_rfl) ?_
        refine WX.skip (by kernel_rfl) ?_
        cases h
        exact fun ss hs => ⟨rfl, hs.sub ((SubK.cons (by kernel_rfl) (SubK.cons (by kernel_rfl) (SubK.cons (by kernel_rfl) (SubK.cons (by kernel_rfl) (SubK.cons (by kernel_rfl) (SubK.cons (by kernel_rfl) (SubK.cons (by kernel_rfl) (SubK.cons (by kernel_rfl) (SubK.cons (by kernel_rfl) SubK.nil)))))))))), rfl⟩
      · refine RX.fix 69 false (decide_eq_false hp) (by kernel_rfl) ?_
        refine RX.psn 9 [(78, (Value.bool (decide ((IntKind.u64.wrap (v15_2 * (iand .u64 (ishl .u64 a2 (IntKind.u64.wrap x1)) 4294967295))) > (IntKind.u64.wrap ((IntKind.u64.wrap (4294967296 * v16_3)) + (ishr .u64 (ishl .u64 a1 (IntKind.u64.wrap x1)) 32))))))), (77, (Value.bool (decide ((IntKind.u64.wrap (v15_2 * (iand .u64 (ishl .u64 a2 (IntKind.u64.wrap x1)) 4294967295))) > (IntKind.u64.wrap ((IntKind.u64.wrap (4294967296 * v16_3)) + (ishr .u64 (ishl .u64 a1 (IntKind.u64.wrap x1)) 32))))))), (76, (Value.int .u64 (IntKind.u64.wrap ((IntKind.u64.wrap (4294967296 * v16_3)) + (ishr .u64 (ishl .u64 a1 (IntKind.u64.wrap x1)) 32))))), (75, (Value.int .u64 (ishr .u64 (ishl .u64 a1 (IntKind.u64.wrap x1)) 32))), (74, (Value.int .u64 (IntKind.u64.wrap (4294967296 * v16_3)))), (73, (Value.int .u64 v16_3)), (72, (Value.int .u64 (IntKind.u64.wrap (v15_2 * (iand .u64 (ishl .u64 a2 (IntKind.u64.wrap x1)) 4294967295))))), (71, (Value.int .u64 (iand .u64 (ishl .u64 a2 (IntKind.u64.wrap x1)) 4294967295))), (70, (Value.int .u64 v15_2))] (by kernel_rfl) ?_
        refine RX.done (by kernel_rfl) ?_
        refine fun ss hs => (WX.nxt ?_ ss hs)
        rcases ite_some h with ⟨hp, h⟩ | ⟨hp, h⟩
        · refine WX.condT _ (decide_eq_true hp) (by kernel_rfl) ?_
          refine WX.skip (by kernel_rfl) ?_
          cases h
          exact fun ss hs => ⟨rfl, hs.sub ((SubK.cons (by kernel_rfl) (SubK.cons (by kernel_rfl) (SubK.cons (by kernel_rfl) (SubK.cons (by kernel_rfl) (SubK.cons (by kernel_rfl) (SubK.cons (by kernel_rfl) (SubK.cons (by kernel_rfl) (SubK.cons (by kernel_rfl) (SubK.cons (by kernel_rfl) SubK.nil)))))))))), rfl⟩
        · refine WX.condF _ (decide_eq_false hp) (by kernel_rfl) ?_
          refine WX.exit 0 (by kernel_rfl) ?_
          exact (map_inl h).elim
    · clear hx
      refine WX.block 1 (by kernel_rfl) ?_
      refine WX.seq (by kernel_rfl) ?_
      refine WX.region (opsOf (cfst (cfst (csnd (cfst (cfst (cfst (csnd (csnd (csnd (csnd (csnd (csnd (csnd (csnd (csnd (csnd (csnd (csnd (csnd (csnd B75))))))))))))))))))))) (by kernel_rfl) ?_
      refine RX.psn 3 [(15, (Value.int .u64 (IntKind.u64.wrap (v15_2 - 1)))), (80, (Value.int .u64 (IntKind.u64.wrap (v15_2 - 1)))), (79, (Value.int .u64 v15_2))] (by kernel_rfl) ?_
      refine RX.done (by kernel_rfl) ?_
      refine fun ss hs => (WX.nxt ?_ ss hs)
      refine WX.seq (by kernel_rfl) ?_
      refine WX.region (opsOf (cfst (csnd (cfst (csnd (cfst (cfst (cfst (csnd (csnd (csnd (csnd (csnd (csnd (csnd (csnd (csnd (csnd (csnd (csnd (csnd (csnd B75)))))))))))))))))))))) (by kernel_rfl) ?_
      refine RX.psn 4 [(16, (Value.int .u64 (IntKind.u64.wrap (v16_3 + (ishr .u64 (ishl .u64 a2 (IntKind.u64.wrap x1)) 32))))), (83, (Value.int .u64 (IntKind.u64.wrap (v16_3 + (ishr .u64 (ishl .u64 a2 (IntKind.u64.wrap x1)) 32))))), (82, (Value.int .u64 (ishr .u64 (ishl .u64 a2 (IntKind.u64.wrap x1)) 32))), (81, (Value.int .u64 v16_3))] (by kernel_rfl) ?_
      refine RX.done (by kernel_rfl) ?_
      refine fun ss hs => (WX.nxt ?_ ss hs)
      refine WX.seq (by kernel_rfl) ?_
      refine WX.region (opsOf (cfst (csnd (csnd (cfst (csnd (cfst (cfst (cfst (csnd (csnd (csnd (csnd (csnd (csnd (csnd (csnd (csnd (csnd (csnd (csnd (csnd (csnd B75))))))))))))))))))))))) (by kernel_rfl) ?_
      refine RX.psn 2 [(85, (Value.bool (decide ((IntKind.u64.wrap (v16_3 + (ishr .u64 (ishl .u64 a2 (IntKind.u64.wrap x1)) 32))) ≥ 4294967296)))), (84, (Value.int .u64 (IntKind.u64.wrap (v16_3 + (ishr .u64 (ishl .u64 a2 (IntKind.u64.wrap x1)) 32)))))] (by kernel_rfl) ?_
      refine RX.done (by kernel_rfl) ?_
      refine fun ss hs => (WX.nxt ?_ ss hs)
      rcases ite_some h with ⟨hp, h⟩ | ⟨hp, h⟩
      · refine WX.condT _ (decide_eq_true hp) (by kernel_rfl) ?_
        refine WX.exit 0 (by kernel_rfl) ?_
        cases h
        exact fun ss hs => blkX (by kernel_rfl) (lpB rfl (hs.sub ((SubK.cons (by kernel_rfl) (SubK.cons (by kernel_rfl) (SubK.cons (by kernel_rfl) (SubK.cons (by kernel_rfl) (SubK.cons (by kernel_rfl) (SubK.cons (by kernel_rfl) (SubK.cons (by kernel_rfl) (SubK.cons (by kernel_rfl) (SubK.cons (by kernel_rfl) SubK.nil))))))))))))
      · refine WX.condF _ (decide_eq_false hp) (by kernel_rfl) ?_
        refine WX.skip (by kernel_rfl) ?_
        cases h
        exact fun ss hs => blkN (lpN rfl (hs.sub ((SubK.cons (by kernel_rfl) (SubK.cons (by kernel_rfl) (SubK.cons (by kernel_rfl) (SubK.cons (by kernel_rfl) (SubK.cons (by kernel_rfl) (SubK.cons (by kernel_rfl) (SubK.cons (by kernel_rfl) (SubK.cons (by kernel_rfl) (SubK.cons (by kernel_rfl) SubK.nil))))))))))))
  · cases h; rename _ => h
    refine WX.seq (by kernel_rfl) ?_
    refine WX.seq (by kernel_rfl) ?_
    refine WX.region (opsOf (cfst (cfst (cfst (cfst (cfst (csnd (csnd (csnd (csnd (csnd (csnd (csnd (csnd (csnd (csnd (csnd (csnd (csnd (csnd B75)))))))))))))))))))) (by kernel_rfl) ?_
    refine RX.psn 3 [(69, (Value.bool (decide (v15_2 ≥ 4294967296)))), (68, (Value.bool (decide (v15_2 ≥ 4294967296)))), (67, (Value.int .u64 v15_2))] (by kernel_rfl) ?_
    rcases ite_some h with ⟨hp, h⟩ | ⟨hp, h⟩
    · refine RX.fix 69 true (decide_eq_true hp) (by kernel_rfl) ?_
      refine RX.psn 9 [(78, (Value.bool true)), (77, undef), (76, undef), (75, undef), (74, undef), (73, undef), (72, undef), (71, undef), (70, undef)] (by kernel_rfl) ?_
      refine RX.done (by kernel_rfl) ?_
      refine fun ss hs => (WX.nxt ?_ ss hs)
      refine WX.condT true rfl (by kernel_rfl) ?_
      refine WX.skip (by kernel_rfl) ?_
      cases h
    · refine RX.fix 69 false (decide_eq_false hp) (by kernel_rfl) ?_
      refine RX.psn 9 [(78, (Value.bool (decide ((IntKind.u64.wrap (v15_2 * (iand .u64 (ishl .u64 a2 (IntKind.u64.wrap x1)) 4294967295))) > (IntKind.u64.wrap ((IntKind.u64.wrap (4294967296 * v16_3)) + (ishr .u64 (ishl .u64 a1 (IntKind.u64.wrap x1)) 32))))))), (77, (Value.bool (decide ((IntKind.u64.wrap (v15_2 * (iand .u64 (ishl .u64 a2 (IntKind.u64.wrap x1)) 4294967295))) > (IntKind.u64.wrap ((IntKind.u64.wrap (4294967296 * v16_3)) + (ishr .u64 (ishl .u64 a1 (IntKind.u64.wrap x1)) 32))))))), (76, (Value.int .u64 (IntKind.u64.wrap ((IntKind.u64.wrap (4294967296 * v16_3)) + (ishr .u64 (ishl .u64 a1 (IntKind.u64.wrap x1)) 32))))), (75, (Value.int .u64 (ishr .u64 (ishl .u64 a1 (IntKind.u64.wrap x1)) 32))), (74, (Value.int .u64 (IntKind.u64.wrap (4294967296 * v16_3)))), (73, (Value.int .u64 v16_3)), (72, (Value.int .u64 (IntKind.u64.wrap (v15_2 * (iand .u64 (ishl .u64 a2 (IntKind.u64.wrap x1)) 4294967295))))), (71, (Value.int .u64 (iand .u64 (ishl .u64 a2 (IntKind.u64.wrap x1)) 4294967295))), (70, (Value.int .u64 v15_2))] (by kernel_rfl) ?_
      refine RX.done (by kernel_rfl) ?_
      refine fun ss hs => (WX.nxt ?_ ss hs)
      rcases ite_some h with ⟨hp, h⟩ | ⟨hp, h⟩
      · refine WX.condT _ (decide_eq_true hp) (by kernel_rfl) ?_
        refine WX.skip (by kernel_rfl) ?_
        cases h
      · refine WX.condF _ (decide_eq_false hp) (by kernel_rfl) ?_
        refine WX.exit 0 (by kernel_rfl) ?_
        replace h := map_inr h
        cases h
        exact fun ss hs => seqE (lpB rfl (hs.sub ((SubK.cons (by kernel_rfl) (SubK.cons (by kernel_rfl) (SubK.cons (by kernel_rfl) (SubK.cons (by kernel_rfl) (SubK.cons (by kernel_rfl) (SubK.cons (by kernel_rfl) (SubK.cons (by kernel_rfl) (SubK.cons (by kernel_rfl) (SubK.cons (by kernel_rfl) SubK.nil))))))))))))

theorem bits_Div64_b1_ok {H : AH} {a0 : Int} {a1 : Int} {a2 : Int} {x1 : Int} {v15_4 : Int} : ∀ s o, bits_Div64_b1 H a0 a1 a2 x1 v15_4 s = some o →
    WX Try.prog 1000 4294967296 Try.f75.ntmps (cfst (cfst (cfst (csnd (csnd (csnd (csnd (csnd (csnd (csnd (csnd (csnd (csnd (csnd (csnd (csnd (csnd (csnd (csnd (csnd (csnd B75))))))))))))))))))))) (bits_Div64_b1_kn H a0 a1 a2 x1 v15_4 s) ((fun _ => H) s) (lpQ (bits_Div64_b1_kn H a0 a1 a2 x1 v15_4) (fun _ => H) 2 (fun r => RQ Try.f75 (bits_Div64_enc r) (bits_Div64_hp H r)) o) := by
  rintro ⟨v16_6, v18_7⟩ o h
  unfold bits_Div64_b1 at h
  try dsimp only at h
  obtain ⟨o, hx, h⟩ := bind_some h
  rcases o with _ | ro
  · dsimp only at h
    refine WX.seq (by kernel_rfl) ?_
    refine WX.join ([(2, (Value.int .u64 (ishl .u64 a2 (IntKind.u64.wrap x1)))), (8, (Value.int .u64 (IntKind.u64.wrap x1))), (9, (Value.int .u64 (ishr .u64 (ishl .u64 a2 (IntKind.u64.wrap x1)) 32))), (10, (Value.int .u64 (iand .u64 (ishl .u64 a2 (IntKind.u64.wrap x1)) 4294967295))), (14, (Value.int .u64 (iand .u64 (ishl .u64 a1 (IntKind.u64.wrap x1)) 4294967295))), (15, (Value.int .u64 v15_4)), (16, (Value.int .u64 v16_6)), (17, (Value.int .u64 (IntKind.u64.wrap ((IntKind.u64.wrap ((IntKind.u64.wrap ((ior .u64 (ishl .u64 a0 (IntKind.u64.wrap x1)) (ishr .u64 a1 (IntKind.u64.wrap (64 - (IntKind.u64.wrap x1))))) * 4294967296)) + (ishr .u64 (ishl .u64 a1 (IntKind.u64.wrap x1)) 32))) - (IntKind.u64.wrap (v15_4 * (ishl .u64 a2 (IntKind.u64.wrap x1)))))))), (18, (Value.int .u64 v18_7))]) H ?_ (fun ss hs => WX.nxt ?_ ss hs)
    · clear h; rename _ => h
      refine WX.seq (by kernel_rfl) ?_
      refine WX.region (opsOf (cfst (cfst (cfst (cfst (cfst (csnd (csnd (csnd (csnd (csnd (csnd (csnd (csnd (csnd (csnd (csnd (csnd (csnd (csnd (csnd (csnd (csnd (csnd B75)))))))))))))))))))))))) (by kernel_rfl) ?_
      refine RX.psn 3 [(104, (Value.bool (decide (v18_7 ≥ 4294967296)))), (103, (Value.bool (decide (v18_7 ≥ 4294967296)))), (102, (Value.int .u64 v18_7))] (by kernel_rfl) ?_
      rcases ite_some h with ⟨hp, h⟩ | ⟨hp, h⟩
      · refine RX.fix 104 true (decide_eq_true hp) (by kernel_rfl) ?_
        refine RX.psn 9 [(113, (Value.bool true)), (112, undef), (111, undef), (110, undef), (109, undef), (108, undef), (107, undef), (106, undef), (105, undef)] (by kernel_rfl) ?_
        refine RX.done (by kernel_rfl) ?_
        refine fun ss hs => (WX.nxt ?_ ss hs)
        refine WX.condT true rfl (by kernel_rfl) ?_
        refine WX.skip (by kernel_rfl) ?_
        cases h
        exact fun ss hs => ⟨rfl, hs.sub ((SubK.cons (by kernel_rfl) (SubK.cons (by kernel_rfl) (SubK.cons (by kernel_rfl) (SubK.cons (by kernel_rfl) (SubK.cons (by kernel_rfl) (SubK.cons (by kernel_rfl) (SubK.cons (by kernel_rfl) (SubK.cons (by kernel_rfl) (SubK.cons (by kernel_rfl) SubK.nil)))))))))), rfl⟩
      · refine RX.fix 104 false (decide_eq_false hp) (by kernel_rfl) ?_
        refine RX.psn 9 [(113, (Value.bool (decide ((IntKind.u64.wrap (v18_7 * (iand .u64 (ishl .u64 a2 (IntKind.u64.wrap x1)) 4294967295))) > (IntKind.u64.wrap ((IntKind.u64.wrap (4294967296 * v16_6)) + (iand .u64 (ishl .u64 a1 (IntKind.u64.wrap x1)) 4294967295))))))), (112, (Value.bool (decide ((IntKind.u64.wrap (v18_7 * (iand .u64 (ishl .u64 a2 (IntKind.u64.wrap x1)) 4294967295))) > (IntKind.u64.wrap ((IntKind.u64.wrap (4294967296 * v16_6)) + (iand .u64 (ishl .u64 a1 (IntKind.u64.wrap x1)) 4294967295))))))), (111, (Value.int .u64 (IntKind.u64.wrap ((IntKind.u64.wrap (4294967296 * v16_6)) + (iand .u64 (ishl .u64 a1 (IntKind.u64.wrap x1)) 4294967295))))), (110, (Value.int .u64 (iand .u64 (ishl .u64 a1 (IntKind.u64.wrap x1)) 4294967295))), (109, (Value.int .u64 (IntKind.u64.wrap (4294967296 * v16_6)))), (108, (Value.int .u64 v16_6)), (107, (Value.int .u64 (IntKind.u64.wrap (v18_7 * (iand .u64 (ishl .u64 a2 (IntKind.u64.wrap x1)) 4294967295))))), (106, (Value.int .u64 (iand .u64 (ishl .u64 a2 (IntKind.u64.wrap x1)) 4294967295))), (105, (Value.int .u64 v18_7))] (by kernel_rfl) ?_
        refine RX.done (by kernel_rfl) ?_
        refine fun ss hs => (WX.nxt ?_ ss hs)
        rcases ite_some h with ⟨hp, h⟩ | ⟨hp, h⟩
        · refine WX.condT _ (decide_eq_true hp) (by kernel_rfl) ?_
          refine WX.skip (by kernel_rfl) ?_
          cases h
          exact fun ss hs => ⟨rfl, hs.sub ((SubK.cons (by kernel_rfl) (SubK.cons (by kernel_rfl) (SubK.cons (by kernel_rfl) (SubK.cons (by kernel_rfl) (SubK.cons (by kernel_rfl) (SubK.cons (by kernel_rfl) (SubK.cons (by kernel_rfl) (SubK.cons (by kernel_rfl) (SubK.cons (by kernel_rfl) SubK.nil)))))))))), rfl⟩
        · refine WX.condF _ (decide_eq_false hp) (by kernel_rfl) ?_
          refine WX.exit 2 (by kernel_rfl) ?_
          exact (map_inl h).elim
    · clear hx
      refine WX.block 3 (by kernel_rfl) ?_
      refine WX.seq (by kernel_rfl) ?_
      refine WX.region (opsOf (cfst (cfst (csnd (cfst (cfst (cfst (csnd (csnd (csnd (csnd (csnd (csnd (csnd (csnd (csnd (csnd (csnd (csnd (csnd (csnd (csnd (csnd (csnd (csnd B75))))))))))))))))))))))))) (by kernel_rfl) ?_
      refine RX.psn 3 [(18, (Value.int .u64 (IntKind.u64.wrap (v18_7 - 1)))), (115, (Value.int .u64 (IntKind.u64.wrap (v18_7 - 1)))), (114, (Value.int .u64 v18_7))] (by kernel_rfl) ?_
      refine RX.done (by kernel_rfl) ?_
      refine fun ss hs => (WX.nxt ?_ ss hs)
      refine WX.seq (by kernel_rfl) ?_
      refine WX.region (opsOf (cfst (csnd (cfst (csnd (cfst (cfst (cfst (csnd (csnd (csnd (csnd (csnd (csnd (csnd (csnd (csnd (csnd (csnd (csnd (csnd (csnd (csnd (csnd (csnd (csnd B75)))))))))))))))))))))))))) (by kernel_rfl) ?_
      refine RX.psn 4 [(16, (Value.int .u64 (IntKind.u64.wrap (v16_6 + (ishr .u64 (ishl .u64 a2 (IntKind.u64.wrap x1)) 32))))), (118, (Value.int .u64 (IntKind.u64.wrap (v16_6 + (ishr .u64 (ishl .u64 a2 (IntKind.u64.wrap x1)) 32))))), (117, (Value.int .u64 (ishr .u64 (ishl .u64 a2 (IntKind.u64.wrap x1)) 32))), (116, (Value.int .u64 v16_6))] (by kernel_rfl) ?_
      refine RX.done (by kernel_rfl) ?_
      refine fun ss hs => (WX.nxt ?_ ss hs)
      refine WX.seq (by kernel_rfl) ?_
      refine WX.region (opsOf (cfst (csnd (csnd (cfst (csnd (cfst (cfst (cfst (csnd (csnd (csnd (csnd (csnd (csnd (csnd (csnd (csnd (csnd (csnd (csnd (csnd (csnd (csnd (csnd (csnd (csnd B75))))))))))))))))))))))))))) (by kernel_rfl) ?_
      refine RX.psn 2 [(120, (Value.bool (decide ((IntKind.u64.wrap (v16_6 + (ishr .u64 (ishl .u64 a2 (IntKind.u64.wrap x1)) 32))) ≥ 4294967296)))), (119, (Value.int .u64 (IntKind.u64.wrap (v16_6 + (ishr .u64 (ishl .u64 a2 (IntKind.u64.wrap x1)) 32)))))] (by kernel_rfl) ?_
      refine RX.done (by kernel_rfl) ?_
      refine fun ss hs => (WX.nxt ?_ ss hs)
      rcases ite_some h with ⟨hp, h⟩ | ⟨hp, h⟩
      · refine WX.condT _ (decide_eq_true hp) (by kernel_rfl) ?_
        refine WX.exit 2 (by kernel_rfl) ?_
        cases h
        exact fun ss hs => blkX (by kernel_rfl) (lpB rfl (hs.sub ((SubK.cons (by kernel_rfl) (SubK.cons (by kernel_rfl) (SubK.cons (by kernel_rfl) (SubK.cons (by kernel_rfl) (SubK.cons (by kernel_rfl) (SubK.cons (by kernel_rfl) (SubK.cons (by kernel_rfl) (SubK.cons (by kernel_rfl) (SubK.cons (by kernel_rfl) SubK.nil))))))))))))
      · refine WX.condF _ (decide_eq_false hp) (by kernel_rfl) ?_
        refine WX.skip (by kernel_rfl) ?_
        cases h
        exact fun ss hs => blkN (lpN rfl (hs.sub ((SubK.cons (by kernel_rfl) (SubK.cons (by kernel_rfl) (SubK.cons (by kernel_rfl) (SubK.cons (by kernel_rfl) (SubK.cons (by kernel_rfl) (SubK.cons (by kernel_rfl) (SubK.cons (by kernel_rfl) (SubK.cons (by kernel_rfl) (SubK.cons (by kernel_rfl) SubK.nil))))))))))))
  · cases h; rename _ => h
    refine WX.seq (by kernel_rfl) ?_
    refine WX.seq (by kernel_rfl) ?_
    refine WX.region (opsOf (cfst (cfst (cfst (cfst (cfst (csnd (csnd (csnd (csnd (csnd (csnd (csnd (csnd (csnd (csnd (csnd (csnd (csnd (csnd (csnd (csnd (csnd (csnd B75)))))))))))))))))))))))) (by kernel_rfl) ?_
    refine RX.psn 3 [(104, (Value.bool (decide (v18_7 ≥ 4294967296)))), (103, (Value.bool (decide (v18_7 ≥ 4294967296)))), (102, (Value.int .u64 v18_7))] (by kernel_rfl) ?_
    rcases ite_some h with ⟨hp, h⟩ | ⟨hp, h⟩
    · refine RX.fix 104 true (decide_eq_true hp) (by kernel_rfl) ?_
      refine RX.psn 9 [(113, (Value.bool true)), (112, undef), (111, undef), (110, undef), (109, undef), (108, undef), (107, undef), (106, undef), (105, undef)] (by kernel_rfl) ?_
      refine RX.done (by kernel_rfl) ?_
      refine fun ss hs => (WX.nxt ?_ ss hs)
      refine WX.condT true rfl (by kernel_rfl) ?_
      refine WX.skip (by kernel_rfl) ?_
      cases h
    · refine RX.fix 104 false (decide_eq_false hp) (by kernel_rfl) ?_
      refine RX.psn 9 [(113, (Value.bool (decide ((IntKind.u64.wrap (v18_7 * (iand .u64 (ishl .u64 a2 (IntKind.u64.wrap x1)) 4294967295))) > (IntKind.u64.wrap ((IntKind.u64.wrap (4294967296 * v16_6)) + (iand .u64 (ishl .u64 a1 (IntKind.u64.wrap x1)) 4294967295))))))), (112, (Value.bool (decide ((IntKind.u64.wrap (v18_7 * (iand .u64 (ishl .u64 a2 (IntKind.u64.wrap x1)) 4294967295))) > (IntKind.u64.wrap ((IntKind.u64.wrap (4294967296 * v16_6)) + (iand .u64 (ishl .u64 a1 (IntKind.u64.wrap x1)) 4294967295))))))), (111, (Value.int .u64 (IntKind.u64.wrap ((IntKind.u64.wrap (4294967296 * v16_6)) + (iand .u64 (ishl .u64 a1 (IntKind.u64.wrap x1)) 4294967295))))), (110, (Value.int .u64 (iand .u64 (ishl .u64 a1 (IntKind.u64.wrap x1)) 4294967295))), (109, (Value.int .u64 (IntKind.u64.wrap (4294967296 * v16_6)))), (108, (Value.int .u64 v16_6)), (107, (Value.int .u64 (IntKind.u64.wrap (v18_7 * (iand .u64 (ishl .u64 a2 (IntKind.u64.wrap x1)) 4294967295))))), (106, (Value.int .u64 (iand .u64 (ishl .u64 a2 (IntKind.u64.wrap x1)) 4294967295))), (105, (Value.int .u64 v18_7))] (by kernel_rfl) ?_
      refine RX.done (by kernel_rfl) ?_
      refine fun ss hs => (WX.nxt ?_ ss hs)
      rcases ite_some h with ⟨hp, h⟩ | ⟨hp, h⟩
      · refine WX.condT _ (decide_eq_true hp) (by kernel_rfl) ?_
        refine WX.skip (by kernel_rfl) ?_
        cases h
      · refine WX.condF _ (decide_eq_false hp) (by kernel_rfl) ?_
        refine WX.exit 2 (by kernel_rfl) ?_
        replace h := map_inr h
        cases h
        exact fun ss hs => seqE (lpB rfl (hs.sub ((SubK.cons (by kernel_rfl) (SubK.cons (by kernel_rfl) (SubK.cons (by kernel_rfl) (SubK.cons (by kernel_rfl) (SubK.cons (by kernel_rfl) (SubK.cons (by kernel_rfl) (SubK.cons (by kernel_rfl) (SubK.cons (by kernel_rfl) (SubK.cons (by kernel_rfl) SubK.nil))))))))))))

theorem bits_Div64_ok {H : AH} {a0 : Int} {a1 : Int} {a2 : Int} {r : (Int × Int)} (h : bits_Div64 H a0 a1 a2 = some r) :
    CallE Try.prog 1000 4294967296 75 #[(Value.int .u64 a0), (Value.int .u64 a1), (Value.int .u64 a2)] H (bits_Div64_enc r) (bits_Div64_hp H r) := by
  refine CallE.mk (args := [(Value.int .u64 a0), (Value.int .u64 a1), (Value.int .u64 a2)]) Try.func75 (B := B75) (by kernel_rfl) ?_
  unfold bits_Div64 at h
  refine WX.seq (by kernel_rfl) ?_
  refine WX.region (opsOf (cfst B75)) (by kernel_rfl) ?_
  refine RX.psn 2 [(7, (Value.int .u64 0)), (6, (Value.int .u64 0))] (by kernel_rfl) ?_
  refine RX.done (by kernel_rfl) ?_
  refine fun ss hs => (WX.nxt ?_ ss hs)
  refine WX.seq (by kernel_rfl) ?_
  refine WX.seq (by kernel_rfl) ?_
  refine WX.region (opsOf (cfst (cfst (csnd B75)))) (by kernel_rfl) ?_
  refine RX.psn 2 [(20, (Value.bool (decide (a2 = 0)))), (19, (Value.int .u64 a2))] (by kernel_rfl) ?_
  refine RX.done (by kernel_rfl) ?_
  refine fun ss hs => (WX.nxt ?_ ss hs)
  rcases ite_some h with ⟨hp, h⟩ | ⟨hp, h⟩
  · refine WX.condT _ (decide_eq_true hp) (by kernel_rfl) ?_
    refine WX.region (opsOf (cfst (csnd (cfst (csnd B75))))) (by kernel_rfl) ?_
    cases h
  · refine WX.condF _ (decide_eq_false hp) (by kernel_rfl) ?_
    refine WX.skip (by kernel_rfl) ?_
    refine fun ss hs => (WX.nxt ?_ ss hs)
    refine WX.seq (by kernel_rfl) ?_
    refine WX.seq (by kernel_rfl) ?_
    refine WX.region (opsOf (cfst (cfst (csnd (csnd B75))))) (by kernel_rfl) ?_
    refine RX.psn 3 [(24, (Value.bool (decide (a2 ≤ a0)))), (23, (Value.int .u64 a0)), (22, (Value.int .u64 a2))] (by kernel_rfl) ?_
    refine RX.done (by kernel_rfl) ?_
    refine fun ss hs => (WX.nxt ?_ ss hs)
    rcases ite_some h with ⟨hp, h⟩ | ⟨hp, h⟩
    · refine WX.condT _ (decide_eq_true hp) (by kernel_rfl) ?_
      refine WX.region (opsOf (cfst (csnd (cfst (csnd (csnd B75)))))) (by kernel_rfl) ?_
      cases h
    · refine WX.condF _ (decide_eq_false hp) (by kernel_rfl) ?_
      refine WX.skip (by kernel_rfl) ?_
      refine fun ss hs => (WX.nxt ?_ ss hs)
      refine WX.seq (by kernel_rfl) ?_
      refine WX.seq (by kernel_rfl) ?_
      refine WX.region (opsOf (cfst (cfst (csnd (csnd (csnd B75)))))) (by kernel_rfl) ?_
      refine RX.psn 2 [(27, (Value.bool (decide (a0 = 0)))), (26, (Value.int .u64 a0))] (by kernel_rfl) ?_
      refine RX.done (by kernel_rfl) ?_
      refine fun ss hs => (WX.nxt ?_ ss hs)
      rcases ite_some h with ⟨hp, h⟩ | ⟨hp, h⟩
      · refine WX.condT _ (decide_eq_true hp) (by kernel_rfl) ?_
        refine WX.seq (by kernel_rfl) ?_
        refine WX.quiet (opsOf (cfst (cfst (csnd (cfst (csnd (csnd (csnd B75)))))))) (by kernel_rfl) (by kernel_rfl) ?_
        refine QX.at (some 28) (Value.int .u64 a1) (by kernel_rfl) (by kernel_rfl) (by kernel_rfl) (fun ih => by kernel_rfl) calm_int ?_
        refine QX.at (some 29) (Value.int .u64 a2) (by kernel_rfl) (by kernel_rfl) (by kernel_rfl) (fun ih => by kernel_rfl) calm_int ?_
        rcases ite_some h with ⟨_, h⟩ | ⟨hx, h⟩
        · cases h
        · refine QX.at (some 30) (Value.int .u64 (IntKind.u64.wrap (Int.tdiv a1 a2))) (by kernel_rfl) (by kernel_rfl) (by kernel_rfl) (fun ih => Abs.run_quo (t := 38) (u := 38) (x := .tmp 28) (y := .tmp 29) (by kernel_rfl) (by kernel_rfl) (by kernel_rfl) hx) calm_int ?_
          refine QX.at (some 31) (Value.int .u64 a1) (by kernel_rfl) (by kernel_rfl) (by kernel_rfl) (fun ih => by kernel_rfl) calm_int ?_
          refine QX.at (some 32) (Value.int .u64 a2) (by kernel_rfl) (by kernel_rfl) (by kernel_rfl) (fun ih => by kernel_rfl) calm_int ?_
          rcases ite_some h with ⟨_, h⟩ | ⟨hx, h⟩
          · cases h
          · refine QX.at (some 33) (Value.int .u64 (Int.tmod a1 a2)) (by kernel_rfl) (by kernel_rfl) (by kernel_rfl) (fun ih => Abs.run_rem (t := 38) (u := 38) (x := .tmp 31) (y := .tmp 32) (by kernel_rfl) (by kernel_rfl) (by kernel_rfl) hx) calm_int ?_
            refine QX.at (some 6) (Value.int .u64 (IntKind.u64.wrap (Int.tdiv a1 a2))) (by kernel_rfl) (by kernel_rfl) (by kernel_rfl) (fun ih => by kernel_rfl) calm_int ?_
            refine QX.at (some 7) (Value.int .u64 (Int.tmod a1 a2)) (by kernel_rfl) (by kernel_rfl) (by kernel_rfl) (fun ih => by kernel_rfl) calm_int ?_
            refine QX.done (by kernel_rfl) ?_
            refine fun ss hs => (WX.nxt ?_ ss hs)
            refine WX.ret (by kernel_rfl) ?_
            cases h
            exact fun ss hs => seqR (retR (rq hs (by kernel_rfl)))
      · refine WX.condF _ (decide_eq_false hp) (by kernel_rfl) ?_
        refine WX.skip (by kernel_rfl) ?_
        refine fun ss hs => (WX.nxt ?_ ss hs)
        refine WX.seq (by kernel_rfl) ?_
        refine WX.region (opsOf (cfst (csnd (csnd (csnd (csnd B75)))))) (by kernel_rfl) ?_
        refine RX.psn 1 [(34, (Value.int .u64 a2))] (by kernel_rfl) ?_
        obtain ⟨x1, hx, h⟩ := bind_some h
        refine RX.callAt (some 35) (v := (Value.int .i64 x1)) 78 #[(Value.int .u64 a2)] (by kernel_rfl) (by kernel_rfl) (by kernel_rfl) (bits_LeadingZeros64_ok hx) ?_
        refine RX.psn 2 [(8, (Value.int .u64 (IntKind.u64.wrap x1))), (36, (Value.int .u64 (IntKind.u64.wrap x1)))] (by kernel_rfl) ?_
        refine RX.done (by kernel_rfl) ?_
        refine fun ss hs => (WX.nxt ?_ ss hs)
        refine WX.seq (by kernel_rfl) ?_
        refine WX.region (opsOf (cfst (csnd (csnd (csnd (csnd (csnd B75))))))) (by kernel_rfl) ?_
        refine RX.psn 2 [(38, (Value.int .u64 (IntKind.u64.wrap x1))), (37, (Value.int .u64 a2))] (by kernel_rfl) ?_
        rcases ite_some h with ⟨_, h⟩ | ⟨hx, h⟩
        · cases h
        · refine RX.at (some 39) (Value.int .u64 (ishl .u64 a2 (IntKind.u64.wrap x1))) (by kernel_rfl) (by kernel_rfl) (fun ih => Abs.run_shl (t := 38) (u := 73) (x := .tmp 37) (y := .tmp 38) (k' := .u64) (by kernel_rfl) (by kernel_rfl) (by kernel_rfl) hx) ?_
          refine RX.psn 1 [(2, (Value.int .u64 (ishl .u64 a2 (IntKind.u64.wrap x1))))] (by kernel_rfl) ?_
          refine RX.done (by kernel_rfl) ?_
          refine fun ss hs => (WX.nxt ?_ ss hs)
          refine WX.seq (by kernel_rfl) ?_
          refine WX.region (opsOf (cfst (csnd (csnd (csnd (csnd (csnd (csnd B75)))))))) (by kernel_rfl) ?_
          refine RX.psn 3 [(9, (Value.int .u64 (ishr .u64 (ishl .u64 a2 (IntKind.u64.wrap x1)) 32))), (41, (Value.int .u64 (ishr .u64 (ishl .u64 a2 (IntKind.u64.wrap x1)) 32))), (40, (Value.int .u64 (ishl .u64 a2 (IntKind.u64.wrap x1))))] (by kernel_rfl) ?_
          refine RX.done (by kernel_rfl) ?_
          refine fun ss hs => (WX.nxt ?_ ss hs)
          refine WX.seq (by kernel_rfl) ?_
          refine WX.region (opsOf (cfst (csnd (csnd (csnd (csnd (csnd (csnd (csnd B75))))))))) (by kernel_rfl) ?_
          refine RX.psn 3 [(10, (Value.int .u64 (iand .u64 (ishl .u64 a2 (IntKind.u64.wrap x1)) 4294967295))), (43, (Value.int .u64 (iand .u64 (ishl .u64 a2 (IntKind.u64.wrap x1)) 4294967295))), (42, (Value.int .u64 (ishl .u64 a2 (IntKind.u64.wrap x1))))] (by kernel_rfl) ?_
          refine RX.done (by kernel_rfl) ?_
          refine fun ss hs => (WX.nxt ?_ ss hs)
          refine WX.seq (by kernel_rfl) ?_
          refine WX.region (opsOf (cfst (csnd (csnd (csnd (csnd (csnd (csnd (csnd (csnd B75)))))))))) (by kernel_rfl) ?_
          refine RX.psn 2 [(45, (Value.int .u64 (IntKind.u64.wrap x1))), (44, (Value.int .u64 a0))] (by kernel_rfl) ?_
          rcases ite_some h with ⟨_, h⟩ | ⟨hx, h⟩
          · cases h
          · refine RX.at (some 46) (Value.int .u64 (ishl .u64 a0 (IntKind.u64.wrap x1))) (by kernel_rfl) (by kernel_rfl) (fun ih => Abs.run_shl (t := 38) (u := 73) (x := .tmp 44) (y := .tmp 45) (k' := .u64) (by kernel_rfl) (by kernel_rfl) (by kernel_rfl) hx) ?_
            refine RX.psn 3 [(49, (Value.int .u64 (IntKind.u64.wrap (64 - (IntKind.u64.wrap x1))))), (48, (Value.int .u64 (IntKind.u64.wrap x1))), (47, (Value.int .u64 a1))] (by kernel_rfl) ?_
            rcases ite_some h with ⟨_, h⟩ | ⟨hx, h⟩
            · cases h
            · refine RX.at (some 50) (Value.int .u64 (ishr .u64 a1 (IntKind.u64.wrap (64 - (IntKind.u64.wrap x1))))) (by kernel_rfl) (by kernel_rfl) (fun ih => Abs.run_shr (t := 38) (u := 73) (x := .tmp 47) (y := .tmp 49) (k' := .u64) (by kernel_rfl) (by kernel_rfl) (by kernel_rfl) hx) ?_
              refine RX.psn 2 [(11, (Value.int .u64 (ior .u64 (ishl .u64 a0 (IntKind.u64.wrap x1)) (ishr .u64 a1 (IntKind.u64.wrap (64 - (IntKind.u64.wrap x1))))))), (51, (Value.int .u64 (ior .u64 (ishl .u64 a0 (IntKind.u64.wrap x1)) (ishr .u64 a1 (IntKind.u64.wrap (64 - (IntKind.u64.wrap x1)))))))] (by kernel_rfl) ?_
              refine RX.done (by kernel_rfl) ?_
              refine fun ss hs => (WX.nxt ?_ ss hs)
              refine WX.seq (by kernel_rfl) ?_
              refine WX.region (opsOf (cfst (csnd (csnd (csnd (csnd (csnd (csnd (csnd (csnd (csnd B75))))))))))) (by kernel_rfl) ?_
              refine RX.psn 2 [(53, (Value.int .u64 (IntKind.u64.wrap x1))), (52, (Value.int .u64 a1))] (by kernel_rfl) ?_
              rcases ite_some h with ⟨_, h⟩ | ⟨hx, h⟩
              · cases h
              · refine RX.at (some 54) (Value.int .u64 (ishl .u64 a1 (IntKind.u64.wrap x1))) (by kernel_rfl) (by kernel_rfl) (fun ih => Abs.run_shl (t := 38) (u := 73) (x := .tmp 52) (y := .tmp 53) (k' := .u64) (by kernel_rfl) (by kernel_rfl) (by kernel_rfl) hx) ?_
                refine RX.psn 1 [(12, (Value.int .u64 (ishl .u64 a1 (IntKind.u64.wrap x1))))] (by kernel_rfl) ?_
                refine RX.done (by kernel_rfl) ?_
                refine fun ss hs => (WX.nxt ?_ ss hs)
                refine WX.seq (by kernel_rfl) ?_
                refine WX.region (opsOf (cfst (csnd (csnd (csnd (csnd (csnd (csnd (csnd (csnd (csnd (csnd B75)))))))))))) (by kernel_rfl) ?_
                refine RX.psn 3 [(13, (Value.int .u64 (ishr .u64 (ishl .u64 a1 (IntKind.u64.wrap x1)) 32))), (56, (Value.int .u64 (ishr .u64 (ishl .u64 a1 (IntKind.u64.wrap x1)) 32))), (55, (Value.int .u64 (ishl .u64 a1 (IntKind.u64.wrap x1))))] (by kernel_rfl) ?_
                refine RX.done (by kernel_rfl) ?_
                refine fun ss hs => (WX.nxt ?_ ss hs)
                refine WX.seq (by kernel_rfl) ?_
                refine WX.region (opsOf (cfst (csnd (csnd (csnd (csnd (csnd (csnd (csnd (csnd (csnd (csnd (csnd B75))))))))))))) (by kernel_rfl) ?_
                refine RX.psn 3 [(14, (Value.int .u64 (iand .u64 (ishl .u64 a1 (IntKind.u64.wrap x1)) 4294967295))), (58, (Value.int .u64 (iand .u64 (ishl .u64 a1 (IntKind.u64.wrap x1)) 4294967295))), (57, (Value.int .u64 (ishl .u64 a1 (IntKind.u64.wrap x1))))] (by kernel_rfl) ?_
                refine RX.done (by kernel_rfl) ?_
                refine fun ss hs => (WX.nxt ?_ ss hs)
                refine WX.seq (by kernel_rfl) ?_
                refine WX.region (opsOf (cfst (csnd (csnd (csnd (csnd (csnd (csnd (csnd (csnd (csnd (csnd (csnd (csnd B75)))))))))))))) (by kernel_rfl) ?_
                refine RX.psn 2 [(60, (Value.int .u64 (ishr .u64 (ishl .u64 a2 (IntKind.u64.wrap x1)) 32))), (59, (Value.int .u64 (ior .u64 (ishl .u64 a0 (IntKind.u64.wrap x1)) (ishr .u64 a1 (IntKind.u64.wrap (64 - (IntKind.u64.wrap x1)))))))] (by kernel_rfl) ?_
                rcases ite_some h with ⟨_, h⟩ | ⟨hx, h⟩
                · cases h
                · refine RX.at (some 61) (Value.int .u64 (IntKind.u64.wrap (Int.tdiv (ior .u64 (ishl .u64 a0 (IntKind.u64.wrap x1)) (ishr .u64 a1 (IntKind.u64.wrap (64 - (IntKind.u64.wrap x1))))) (ishr .u64 (ishl .u64 a2 (IntKind.u64.wrap x1)) 32)))) (by kernel_rfl) (by kernel_rfl) (fun ih => Abs.run_quo (t := 38) (u := 38) (x := .tmp 59) (y := .tmp 60) (by kernel_rfl) (by kernel_rfl) (by kernel_rfl) hx) ?_
                  refine RX.psn 1 [(15, (Value.int .u64 (IntKind.u64.wrap (Int.tdiv (ior .u64 (ishl .u64 a0 (IntKind.u64.wrap x1)) (ishr .u64 a1 (IntKind.u64.wrap (64 - (IntKind.u64.wrap x1))))) (ishr .u64 (ishl .u64 a2 (IntKind.u64.wrap x1)) 32)))))] (by kernel_rfl) ?_
                  refine RX.done (by kernel_rfl) ?_
                  refine fun ss hs => (WX.nxt ?_ ss hs)
                  refine WX.seq (by kernel_rfl) ?_
                  refine WX.region (opsOf (cfst (csnd (csnd (csnd (csnd (csnd (csnd (csnd (csnd (csnd (csnd (csnd (csnd (csnd B75))))))))))))))) (by kernel_rfl) ?_
                  refine RX.psn 6 [(16, (Value.int .u64 (IntKind.u64.wrap ((ior .u64 (ishl .u64 a0 (IntKind.u64.wrap x1)) (ishr .u64 a1 (IntKind.u64.wrap (64 - (IntKind.u64.wrap x1))))) - (IntKind.u64.wrap ((IntKind.u64.wrap (Int.tdiv (ior .u64 (ishl .u64 a0 (IntKind.u64.wrap x1)) (ishr .u64 a1 (IntKind.u64.wrap (64 - (IntKind.u64.wrap x1))))) (ishr .u64 (ishl .u64 a2 (IntKind.u64.wrap x1)) 32))) * (ishr .u64 (ishl .u64 a2 (IntKind.u64.wrap x1)) 32))))))), (66, (Value.int .u64 (IntKind.u64.wrap ((ior .u64 (ishl .u64 a0 (IntKind.u64.wrap x1)) (ishr .u64 a1 (IntKind.u64.wrap (64 - (IntKind.u64.wrap x1))))) - (IntKind.u64.wrap ((IntKind.u64.wrap (Int.tdiv (ior .u64 (ishl .u64 a0 (IntKind.u64.wrap x1)) (ishr .u64 a1 (IntKind.u64.wrap (64 - (IntKind.u64.wrap x1))))) (ishr .u64 (ishl .u64 a2 (IntKind.u64.wrap x1)) 32))) * (ishr .u64 (ishl .u64 a2 (IntKind.u64.wrap x1)) 32))))))), (65, (Value.int .u64 (IntKind.u64.wrap ((IntKind.u64.wrap (Int.tdiv (ior .u64 (ishl .u64 a0 (IntKind.u64.wrap x1)) (ishr .u64 a1 (IntKind.u64.wrap (64 - (IntKind.u64.wrap x1))))) (ishr .u64 (ishl .u64 a2 (IntKind.u64.wrap x1)) 32))) * (ishr .u64 (ishl .u64 a2 (IntKind.u64.wrap x1)) 32))))), (64, (Value.int .u64 (ishr .u64 (ishl .u64 a2 (IntKind.u64.wrap x1)) 32))), (63, (Value.int .u64 (IntKind.u64.wrap (Int.tdiv (ior .u64 (ishl .u64 a0 (IntKind.u64.wrap x1)) (ishr .u64 a1 (IntKind.u64.wrap (64 - (IntKind.u64.wrap x1))))) (ishr .u64 (ishl .u64 a2 (IntKind.u64.wrap x1)) 32))))), (62, (Value.int .u64 (ior .u64 (ishl .u64 a0 (IntKind.u64.wrap x1)) (ishr .u64 a1 (IntKind.u64.wrap (64 - (IntKind.u64.wrap x1)))))))] (by kernel_rfl) ?_
                  refine RX.done (by kernel_rfl) ?_
                  refine fun ss hs => (WX.nxt ?_ ss hs)
                  refine WX.seq (by kernel_rfl) ?_
                  refine WX.block 0 (by kernel_rfl) ?_
                  obtain ⟨o, hl, h⟩ := bind_some h
                  rcases o with ⟨v15_4, v16_5⟩ | r
                  · dsimp only at h
                    refine WX.loopI (by kernel_rfl) (bits_Div64_b0 H a0 a1 a2 x1) (bits_Div64_b0_kn H a0 a1 a2 x1) (fun _ => H) 0 (fun r => RQ Try.f75 (bits_Div64_enc r) (bits_Div64_hp H r)) bits_Div64_b0_ok hl ((SubK.cons (by kernel_rfl) (SubK.cons (by kernel_rfl) (SubK.cons (by kernel_rfl) (SubK.cons (by kernel_rfl) (SubK.cons (by kernel_rfl) (SubK.cons (by kernel_rfl) (SubK.cons (by kernel_rfl) (SubK.cons (by kernel_rfl) (SubK.cons (by kernel_rfl) SubK.nil)))))))))) rfl ?_
                    clear hl
                    refine fun ss hs => blkE ((WX.nxt ?_ ss hs))
                    refine WX.seq (by kernel_rfl) ?_
                    refine WX.region (opsOf (cfst (csnd (csnd (csnd (csnd (csnd (csnd (csnd (csnd (csnd (csnd (csnd (csnd (csnd (csnd (csnd B75))))))))))))))))) (by kernel_rfl) ?_
                    refine RX.psn 9 [(17, (Value.int .u64 (IntKind.u64.wrap ((IntKind.u64.wrap ((IntKind.u64.wrap ((ior .u64 (ishl .u64 a0 (IntKind.u64.wrap x1)) (ishr .u64 a1 (IntKind.u64.wrap (64 - (IntKind.u64.wrap x1))))) * 4294967296)) + (ishr .u64 (ishl .u64 a1 (IntKind.u64.wrap x1)) 32))) - (IntKind.u64.wrap (v15_4 * (ishl .u64 a2 (IntKind.u64.wrap x1)))))))), (93, (Value.int .u64 (IntKind.u64.wrap ((IntKind.u64.wrap ((IntKind.u64.wrap ((ior .u64 (ishl .u64 a0 (IntKind.u64.wrap x1)) (ishr .u64 a1 (IntKind.u64.wrap (64 - (IntKind.u64.wrap x1))))) * 4294967296)) + (ishr .u64 (ishl .u64 a1 (IntKind.u64.wrap x1)) 32))) - (IntKind.u64.wrap (v15_4 * (ishl .u64 a2 (IntKind.u64.wrap x1)))))))), (92, (Value.int .u64 (IntKind.u64.wrap (v15_4 * (ishl .u64 a2 (IntKind.u64.wrap x1)))))), (91, (Value.int .u64 (ishl .u64 a2 (IntKind.u64.wrap x1)))), (90, (Value.int .u64 v15_4)), (89, (Value.int .u64 (IntKind.u64.wrap ((IntKind.u64.wrap ((ior .u64 (ishl .u64 a0 (IntKind.u64.wrap x1)) (ishr .u64 a1 (IntKind.u64.wrap (64 - (IntKind.u64.wrap x1))))) * 4294967296)) + (ishr .u64 (ishl .u64 a1 (IntKind.u64.wrap x1)) 32))))), (88, (Value.int .u64 (ishr .u64 (ishl .u64 a1 (IntKind.u64.wrap x1)) 32))), (87, (Value.int .u64 (IntKind.u64.wrap ((ior .u64 (ishl .u64 a0 (IntKind.u64.wrap x1)) (ishr .u64 a1 (IntKind.u64.wrap (64 - (IntKind.u64.wrap x1))))) * 4294967296)))), (86, (Value.int .u64 (ior .u64 (ishl .u64 a0 (IntKind.u64.wrap x1)) (ishr .u64 a1 (IntKind.u64.wrap (64 - (IntKind.u64.wrap x1)))))))] (by kernel_rfl) ?_
                    refine RX.done (by kernel_rfl) ?_
                    refine fun ss hs => (WX.nxt ?_ ss hs)
                    refine WX.seq (by kernel_rfl) ?_
                    refine WX.region (opsOf (cfst (csnd (csnd (csnd (csnd (csnd (csnd (csnd (csnd (csnd (csnd (csnd (csnd (csnd (csnd (csnd (csnd B75)))))))))))))))))) (by kernel_rfl) ?_
                    refine RX.psn 2 [(95, (Value.int .u64 (ishr .u64 (ishl .u64 a2 (IntKind.u64.wrap x1)) 32))), (94, (Value.int .u64 (IntKind.u64.wrap ((IntKind.u64.wrap ((IntKind.u64.wrap ((ior .u64 (ishl .u64 a0 (IntKind.u64.wrap x1)) (ishr .u64 a1 (IntKind.u64.wrap (64 - (IntKind.u64.wrap x1))))) * 4294967296)) + (ishr .u64 (ishl .u64 a1 (IntKind.u64.wrap x1)) 32))) - (IntKind.u64.wrap (v15_4 * (ishl .u64 a2 (IntKind.u64.wrap x1))))))))] (by kernel_rfl) ?_
                    rcases ite_some h with ⟨_, h⟩ | ⟨hx, h⟩
                    · cases h
                    · refine RX.at (some 96) (Value.int .u64 (IntKind.u64.wrap (Int.tdiv (IntKind.u64.wrap ((IntKind.u64.wrap ((IntKind.u64.wrap ((ior .u64 (ishl .u64 a0 (IntKind.u64.wrap x1)) (ishr .u64 a1 (IntKind.u64.wrap (64 - (IntKind.u64.wrap x1))))) * 4294967296)) + (ishr .u64 (ishl .u64 a1 (IntKind.u64.wrap x1)) 32))) - (IntKind.u64.wrap (v15_4 * (ishl .u64 a2 (IntKind.u64.wrap x1)))))) (ishr .u64 (ishl .u64 a2 (IntKind.u64.wrap x1)) 32)))) (by kernel_rfl) (by kernel_rfl) (fun ih => Abs.run_quo (t := 38) (u := 38) (x := .tmp 94) (y := .tmp 95) (by kernel_rfl) (by kernel_rfl) (by kernel_rfl) hx) ?_
                      refine RX.psn 1 [(18, (Value.int .u64 (IntKind.u64.wrap (Int.tdiv (IntKind.u64.wrap ((IntKind.u64.wrap ((IntKind.u64.wrap ((ior .u64 (ishl .u64 a0 (IntKind.u64.wrap x1)) (ishr .u64 a1 (IntKind.u64.wrap (64 - (IntKind.u64.wrap x1))))) * 4294967296)) + (ishr .u64 (ishl .u64 a1 (IntKind.u64.wrap x1)) 32))) - (IntKind.u64.wrap (v15_4 * (ishl .u64 a2 (IntKind.u64.wrap x1)))))) (ishr .u64 (ishl .u64 a2 (IntKind.u64.wrap x1)) 32)))))] (by kernel_rfl) ?_
                      refine RX.done (by kernel_rfl) ?_
                      refine fun ss hs => (WX.nxt ?_ ss hs)
                      refine WX.seq (by kernel_rfl) ?_
                      refine WX.region (opsOf (cfst (csnd (csnd (csnd (csnd (csnd (csnd (csnd (csnd (csnd (csnd (csnd (csnd (csnd (csnd (csnd (csnd (csnd B75))))))))))))))))))) (by kernel_rfl) ?_
                      refine RX.psn 6 [(16, (Value.int .u64 (IntKind.u64.wrap ((IntKind.u64.wrap ((IntKind.u64.wrap ((IntKind.u64.wrap ((ior .u64 (ishl .u64 a0 (IntKind.u64.wrap x1)) (ishr .u64 a1 (IntKind.u64.wrap (64 - (IntKind.u64.wrap x1))))) * 4294967296)) + (ishr .u64 (ishl .u64 a1 (IntKind.u64.wrap x1)) 32))) - (IntKind.u64.wrap (v15_4 * (ishl .u64 a2 (IntKind.u64.wrap x1)))))) - (IntKind.u64.wrap ((IntKind.u64.wrap (Int.tdiv (IntKind.u64.wrap ((IntKind.u64.wrap ((IntKind.u64.wrap ((ior .u64 (ishl .u64 a0 (IntKind.u64.wrap x1)) (ishr .u64 a1 (IntKind.u64.wrap (64 - (IntKind.u64.wrap x1))))) * 4294967296)) + (ishr .u64 (ishl .u64 a1 (IntKind.u64.wrap x1)) 32))) - (IntKind.u64.wrap (v15_4 * (ishl .u64 a2 (IntKind.u64.wrap x1)))))) (ishr .u64 (ishl .u64 a2 (IntKind.u64.wrap x1)) 32))) * (ishr .u64 (ishl .u64 a2 (IntKind.u64.wrap x1)) 32))))))), (101, (Value.int .u64 (IntKind.u64.wrap ((IntKind.u64.wrap ((IntKind.u64.wrap ((IntKind.u64.wrap ((ior .u64 (ishl .u64 a0 (IntKind.u64.wrap x1)) (ishr .u64 a1 (IntKind.u64.wrap (64 - (IntKind.u64.wrap x1))))) * 4294967296)) + (ishr .u64 (ishl .u64 a1 (IntKind.u64.wrap x1)) 32))) - (IntKind.u64.wrap (v15_4 * (ishl .u64 a2 (IntKind.u64.wrap x1)))))) - (IntKind.u64.wrap ((IntKind.u64.wrap (Int.tdiv (IntKind.u64.wrap ((IntKind.u64.wrap ((IntKind.u64.wrap ((ior .u64 (ishl .u64 a0 (IntKind.u64.wrap x1)) (ishr .u64 a1 (IntKind.u64.wrap (64 - (IntKind.u64.wrap x1))))) * 4294967296)) + (ishr .u64 (ishl .u64 a1 (IntKind.u64.wrap x1)) 32))) - (IntKind.u64.wrap (v15_4 * (ishl .u64 a2 (IntKind.u64.wrap x1)))))) (ishr .u64 (ishl .u64 a2 (IntKind.u64.wrap x1)) 32))) * (ishr .u64 (ishl .u64 a2 (IntKind.u64.wrap x1)) 32))))))), (100, (Value.int .u64 (IntKind.u64.wrap ((IntKind.u64.wrap (Int.tdiv (IntKind.u64.wrap ((IntKind.u64.wrap ((IntKind.u64.wrap ((ior .u64 (ishl .u64 a0 (IntKind.u64.wrap x1)) (ishr .u64 a1 (IntKind.u64.wrap (64 - (IntKind.u64.wrap x1))))) * 4294967296)) + (ishr .u64 (ishl .u64 a1 (IntKind.u64.wrap x1)) 32))) - (IntKind.u64.wrap (v15_4 * (ishl .u64 a2 (IntKind.u64.wrap x1)))))) (ishr .u64 (ishl .u64 a2 (IntKind.u64.wrap x1)) 32))) * (ishr .u64 (ishl .u64 a2 (IntKind.u64.wrap x1)) 32))))), (99, (Value.int .u64 (ishr .u64 (ishl .u64 a2 (IntKind.u64.wrap x1)) 32))), (98, (Value.int .u64 (IntKind.u64.wrap (Int.tdiv (IntKind.u64.wrap ((IntKind.u64.wrap ((IntKind.u64.wrap ((ior .u64 (ishl .u64 a0 (IntKind.u64.wrap x1)) (ishr .u64 a1 (IntKind.u64.wrap (64 - (IntKind.u64.wrap x1))))) * 4294967296)) + (ishr .u64 (ishl .u64 a1 (IntKind.u64.wrap x1)) 32))) - (IntKind.u64.wrap (v15_4 * (ishl .u64 a2 (IntKind.u64.wrap x1)))))) (ishr .u64 (ishl .u64 a2 (IntKind.u64.wrap x1)) 32))))), (97, (Value.int .u64 (IntKind.u64.wrap ((IntKind.u64.wrap ((IntKind.u64.wrap ((ior .u64 (ishl .u64 a0 (IntKind.u64.wrap x1)) (ishr .u64 a1 (IntKind.u64.wrap (64 - (IntKind.u64.wrap x1))))) * 4294967296)) + (ishr .u64 (ishl .u64 a1 (IntKind.u64.wrap x1)) 32))) - (IntKind.u64.wrap (v15_4 * (ishl .u64 a2 (IntKind.u64.wrap x1))))))))] (by kernel_rfl) ?_
                      refine RX.done (by kernel_rfl) ?_
                      refine fun ss hs => (WX.nxt ?_ ss hs)
                      refine WX.seq (by kernel_rfl) ?_
                      refine WX.block 2 (by kernel_rfl) ?_
                      obtain ⟨o, hl, h⟩ := bind_some h
                      rcases o with ⟨v16_8, v18_9⟩ | r
                      · dsimp only at h
                        refine WX.loopI (by kernel_rfl) (bits_Div64_b1 H a0 a1 a2 x1 v15_4) (bits_Div64_b1_kn H a0 a1 a2 x1 v15_4) (fun _ => H) 2 (fun r => RQ Try.f75 (bits_Div64_enc r) (bits_Div64_hp H r)) bits_Div64_b1_ok hl ((SubK.cons (by kernel_rfl) (SubK.cons (by kernel_rfl) (SubK.cons (by kernel_rfl) (SubK.cons (by kernel_rfl) (SubK.cons (by kernel_rfl) (SubK.cons (by kernel_rfl) (SubK.cons (by kernel_rfl) (SubK.cons (by kernel_rfl) (SubK.cons (by kernel_rfl) SubK.nil)))))))))) rfl ?_
                        clear hl
                        refine fun ss hs => blkE ((WX.nxt ?_ ss hs))
                        refine WX.seq (by kernel_rfl) ?_
                        refine WX.region (opsOf (cfst (csnd (csnd (csnd (csnd (csnd (csnd (csnd (csnd (csnd (csnd (csnd (csnd (csnd (csnd (csnd (csnd (csnd (csnd (csnd B75))))))))))))))))))))) (by kernel_rfl) ?_
                        refine RX.psn 13 [(133, (Value.int .u64 (IntKind.u64.wrap x1))), (132, (Value.int .u64 (IntKind.u64.wrap ((IntKind.u64.wrap ((IntKind.u64.wrap ((IntKind.u64.wrap ((IntKind.u64.wrap ((IntKind.u64.wrap ((ior .u64 (ishl .u64 a0 (IntKind.u64.wrap x1)) (ishr .u64 a1 (IntKind.u64.wrap (64 - (IntKind.u64.wrap x1))))) * 4294967296)) + (ishr .u64 (ishl .u64 a1 (IntKind.u64.wrap x1)) 32))) - (IntKind.u64.wrap (v15_4 * (ishl .u64 a2 (IntKind.u64.wrap x1)))))) * 4294967296)) + (iand .u64 (ishl .u64 a1 (IntKind.u64.wrap x1)) 4294967295))) - (IntKind.u64.wrap (v18_9 * (ishl .u64 a2 (IntKind.u64.wrap x1)))))))), (131, (Value.int .u64 (IntKind.u64.wrap (v18_9 * (ishl .u64 a2 (IntKind.u64.wrap x1)))))), (130, (Value.int .u64 (ishl .u64 a2 (IntKind.u64.wrap x1)))), (129, (Value.int .u64 v18_9)), (128, (Value.int .u64 (IntKind.u64.wrap ((IntKind.u64.wrap ((IntKind.u64.wrap ((IntKind.u64.wrap ((IntKind.u64.wrap ((ior .u64 (ishl .u64 a0 (IntKind.u64.wrap x1)) (ishr .u64 a1 (IntKind.u64.wrap (64 - (IntKind.u64.wrap x1))))) * 4294967296)) + (ishr .u64 (ishl .u64 a1 (IntKind.u64.wrap x1)) 32))) - (IntKind.u64.wrap (v15_4 * (ishl .u64 a2 (IntKind.u64.wrap x1)))))) * 4294967296)) + (iand .u64 (ishl .u64 a1 (IntKind.u64.wrap x1)) 4294967295))))), (127, (Value.int .u64 (iand .u64 (ishl .u64 a1 (IntKind.u64.wrap x1)) 4294967295))), (126, (Value.int .u64 (IntKind.u64.wrap ((IntKind.u64.wrap ((IntKind.u64.wrap ((IntKind.u64.wrap ((ior .u64 (ishl .u64 a0 (IntKind.u64.wrap x1)) (ishr .u64 a1 (IntKind.u64.wrap (64 - (IntKind.u64.wrap x1))))) * 4294967296)) + (ishr .u64 (ishl .u64 a1 (IntKind.u64.wrap x1)) 32))) - (IntKind.u64.wrap (v15_4 * (ishl .u64 a2 (IntKind.u64.wrap x1)))))) * 4294967296)))), (125, (Value.int .u64 (IntKind.u64.wrap ((IntKind.u64.wrap ((IntKind.u64.wrap ((ior .u64 (ishl .u64 a0 (IntKind.u64.wrap x1)) (ishr .u64 a1 (IntKind.u64.wrap (64 - (IntKind.u64.wrap x1))))) * 4294967296)) + (ishr .u64 (ishl .u64 a1 (IntKind.u64.wrap x1)) 32))) - (IntKind.u64.wrap (v15_4 * (ishl .u64 a2 (IntKind.u64.wrap x1)))))))), (124, (Value.int .u64 (IntKind.u64.wrap ((IntKind.u64.wrap (v15_4 * 4294967296)) + v18_9)))), (123, (Value.int .u64 v18_9)), (122, (Value.int .u64 (IntKind.u64.wrap (v15_4 * 4294967296)))), (121, (Value.int .u64 v15_4))] (by kernel_rfl) ?_
                        rcases ite_some h with ⟨_, h⟩ | ⟨hx, h⟩
                        · cases h
                        · refine RX.at (some 134) (Value.int .u64 (ishr .u64 (IntKind.u64.wrap ((IntKind.u64.wrap ((IntKind.u64.wrap ((IntKind.u64.wrap ((IntKind.u64.wrap ((IntKind.u64.wrap ((ior .u64 (ishl .u64 a0 (IntKind.u64.wrap x1)) (ishr .u64 a1 (IntKind.u64.wrap (64 - (IntKind.u64.wrap x1))))) * 4294967296)) + (ishr .u64 (ishl .u64 a1 (IntKind.u64.wrap x1)) 32))) - (IntKind.u64.wrap (v15_4 * (ishl .u64 a2 (IntKind.u64.wrap x1)))))) * 4294967296)) + (iand .u64 (ishl .u64 a1 (IntKind.u64.wrap x1)) 4294967295))) - (IntKind.u64.wrap (v18_9 * (ishl .u64 a2 (IntKind.u64.wrap x1)))))) (IntKind.u64.wrap x1))) (by kernel_rfl) (by kernel_rfl) (fun ih => Abs.run_shr (t := 38) (u := 73) (x := .tmp 132) (y := .tmp 133) (k' := .u64) (by kernel_rfl) (by kernel_rfl) (by kernel_rfl) hx) ?_
                          refine RX.psn 2 [(7, (Value.int .u64 (ishr .u64 (IntKind.u64.wrap ((IntKind.u64.wrap ((IntKind.u64.wrap ((IntKind.u64.wrap ((IntKind.u64.wrap ((IntKind.u64.wrap ((ior .u64 (ishl .u64 a0 (IntKind.u64.wrap x1)) (ishr .u64 a1 (IntKind.u64.wrap (64 - (IntKind.u64.wrap x1))))) * 4294967296)) + (ishr .u64 (ishl .u64 a1 (IntKind.u64.wrap x1)) 32))) - (IntKind.u64.wrap (v15_4 * (ishl .u64 a2 (IntKind.u64.wrap x1)))))) * 4294967296)) + (iand .u64 (ishl .u64 a1 (IntKind.u64.wrap x1)) 4294967295))) - (IntKind.u64.wrap (v18_9 * (ishl .u64 a2 (IntKind.u64.wrap x1)))))) (IntKind.u64.wrap x1)))), (6, (Value.int .u64 (IntKind.u64.wrap ((IntKind.u64.wrap (v15_4 * 4294967296)) + v18_9))))] (by kernel_rfl) ?_
                          refine RX.done (by kernel_rfl) ?_
                          refine fun ss hs => (WX.nxt ?_ ss hs)
                          refine WX.ret (by kernel_rfl) ?_
                          cases h
                          exact fun ss hs => retR (rq hs (by kernel_rfl))
                      · dsimp only at h
                        refine WX.loopR (by kernel_rfl) (bits_Div64_b1 H a0 a1 a2 x1 v15_4) (bits_Div64_b1_kn H a0 a1 a2 x1 v15_4) (fun _ => H) 2 (fun r => RQ Try.f75 (bits_Div64_enc r) (bits_Div64_hp H r)) bits_Div64_b1_ok hl ((SubK.cons (by kernel_rfl) (SubK.cons (by kernel_rfl) (SubK.cons (by kernel_rfl) (SubK.cons (by kernel_rfl) (SubK.cons (by kernel_rfl) (SubK.cons (by kernel_rfl) (SubK.cons (by kernel_rfl) (SubK.cons (by kernel_rfl) (SubK.cons (by kernel_rfl) SubK.nil)))))))))) rfl ?_
                        cases h
                        exact fun ss H hq => blkR (seqR (retR hq))
                  · dsimp only at h
                    refine WX.loopR (by kernel_rfl) (bits_Div64_b0 H a0 a1 a2 x1) (bits_Div64_b0_kn H a0 a1 a2 x1) (fun _ => H) 0 (fun r => RQ Try.f75 (bits_Div64_enc r) (bits_Div64_hp H r)) bits_Div64_b0_ok hl ((SubK.cons (by kernel_rfl) (SubK.cons (by kernel_rfl) (SubK.cons (by kernel_rfl) (SubK.cons (by kernel_rfl) (SubK.cons (by kernel_rfl) (SubK.cons (by kernel_rfl) (SubK.cons (by kernel_rfl) (SubK.cons (by kernel_rfl) (SubK.cons (by kernel_rfl) SubK.nil)))))))))) rfl ?_
                    cases h
                    exact fun ss H hq => blkR (seqR (retR hq))

noncomputable def B54 : Code := (Try.f54.body).getD .skip

def bits_Len_enc : Int → Value
  | r0 => (Value.int .i64 r0)

def bits_Len_hp (H : AH) : Int → AH := fun _ => H

noncomputable def bits_Len (a0 : Int) : Option Int :=
  Option.bind (bits_Len64 a0) fun x1 =>
  some x1

theorem bits_Len_ok {H : AH} {a0 : Int} {r : Int} (h : bits_Len a0 = some r) :
    CallE Try.prog 1000 4294967296 54 #[(Value.int .u64 a0)] H (bits_Len_enc r) (bits_Len_hp H r) := by
  refine CallE.mk (args := [(Value.int .u64 a0)]) Try.func54 (B := B54) (by kernel_rfl) ?_
  unfold bits_Len at h
  refine WX.seq (by kernel_rfl) ?_
  refine WX.region (opsOf (cfst B54)) (by kernel_rfl) ?_
  refine RX.psn 1 [(2, (Value.int .i64 0))] (by kernel_rfl) ?_
  refine RX.done (by kernel_rfl) ?_
  refine fun ss hs => (WX.nxt ?_ ss hs)
  refine WX.seq (by kernel_rfl) ?_
  refine WX.condF false rfl (by kernel_rfl) ?_
  refine WX.skip (by kernel_rfl) ?_
  refine fun ss hs => (WX.nxt ?_ ss hs)
  refine WX.seq (by kernel_rfl) ?_
  refine WX.region (opsOf (cfst (csnd (csnd B54)))) (by kernel_rfl) ?_
  refine RX.psn 1 [(6, (Value.int .u64 a0))] (by kernel_rfl) ?_
  obtain ⟨x1, hx, h⟩ := bind_some h
  refine RX.callAt (some 7) (v := (Value.int .i64 x1)) 62 #[(Value.int .u64 a0)] (by kernel_rfl) (by kernel_rfl) (by kernel_rfl) (bits_Len64_ok hx) ?_
  refine RX.psn 1 [(2, (Value.int .i64 x1))] (by kernel_rfl) ?_
  refine RX.done (by kernel_rfl) ?_
  refine fun ss hs => (WX.nxt ?_ ss hs)
  refine WX.ret (by kernel_rfl) ?_
  cases h
  exact fun ss hs => retR (rq hs (by kernel_rfl))

end Go.Proofs.Ytoadagekdnkciaa

namespace Go.Proofs.Ytoadagekdnkciaa
open Go Go.Abs
set_option maxRecDepth 100000

noncomputable def B71 : Code := (Try.f71.body).getD .skip

def bits_Mul64_enc : (Int × Int) → Value
  | (r0, r1) => (Value.tuple #[(Value.int .u64 r0), (Value.int .u64 r1)])

def bits_Mul64_hp (H : AH) : (Int × Int) → AH := fun _ => H

noncomputable def bits_Mul64 (a0 : Int) (a1 : Int) : Option (Int × Int) :=
  some ((IntKind.u64.wrap ((IntKind.u64.wrap ((IntKind.u64.wrap ((ishr .u64 a0 32) * (ishr .u64 a1 32))) + (ishr .u64 (IntKind.u64.wrap ((IntKind.u64.wrap ((ishr .u64 a0 32) * (iand .u64 a1 4294967295))) + (ishr .u64 (IntKind.u64.wrap ((iand .u64 a0 4294967295) * (iand .u64 a1 4294967295))) 32))) 32))) + (ishr .u64 (IntKind.u64.wrap ((iand .u64 (IntKind.u64.wrap ((IntKind.u64.wrap ((ishr .u64 a0 32) * (iand .u64 a1 4294967295))) + (ishr .u64 (IntKind.u64.wrap ((iand .u64 a0 4294967295) * (iand .u64 a1 4294967295))) 32))) 4294967295) + (IntKind.u64.wrap ((iand .u64 a0 4294967295) * (ishr .u64 a1 32))))) 32))), (IntKind.u64.wrap (a0 * a1)))

theorem bits_Mul64_ok {H : AH} {a0 : Int} {a1 : Int} {r : (Int × Int)} (h : bits_Mul64 a0 a1 = some r) :
    CallE Try.prog 1000 4294967296 71 #[(Value.int .u64 a0), (Value.int .u64 a1)] H (bits_Mul64_enc r) (bits_Mul64_hp H r) := by
  refine CallE.mk (args := [(Value.int .u64 a0), (Value.int .u64 a1)]) Try.func71 (B := B71) (by kernel_rfl) ?_
  unfold bits_Mul64 at h
  refine WX.seq (by kernel_rfl) ?_
  refine WX.region (opsOf (cfst B71)) (by kernel_rfl) ?_
  refine RX.psn 2 [(5, (Value.int .u64 0)), (4, (Value.int .u64 0))] (by kernel_rfl) ?_
  refine RX.done (by kernel_rfl) ?_
  refine fun ss hs => (WX.nxt ?_ ss hs)
  refine WX.seq (by kernel_rfl) ?_
  refine WX.region (opsOf (cfst (csnd B71))) (by kernel_rfl) ?_
  refine RX.psn 3 [(6, (Value.int .u64 (iand .u64 a0 4294967295))), (15, (Value.int .u64 (iand .u64 a0 4294967295))), (14, (Value.int .u64 a0))] (by kernel_rfl) ?_
  refine RX.done (by kernel_rfl) ?_
  refine fun ss hs => (WX.nxt ?_ ss hs)
  refine WX.seq (by kernel_rfl) ?_
  refine WX.region (opsOf (cfst (csnd (csnd B71)))) (by kernel_rfl) ?_
  refine RX.psn 3 [(7, (Value.int .u64 (ishr .u64 a0 32))), (17, (Value.int .u64 (ishr .u64 a0 32))), (16, (Value.int .u64 a0))] (by kernel_rfl) ?_
  refine RX.done (by kernel_rfl) ?_
  refine fun ss hs => (WX.nxt ?_ ss hs)
  refine WX.seq (by kernel_rfl) ?_
  refine WX.region (opsOf (cfst (csnd (csnd (csnd B71))))) (by kernel_rfl) ?_
  refine RX.psn 3 [(8, (Value.int .u64 (iand .u64 a1 4294967295))), (19, (Value.int .u64 (iand .u64 a1 4294967295))), (18, (Value.int .u64 a1))] (by kernel_rfl) ?_
  refine RX.done (by kernel_rfl) ?_
  refine fun ss hs => (WX.nxt ?_ ss hs)
  refine WX.seq (by kernel_rfl) ?_
  refine WX.region (opsOf (cfst (csnd (csnd (csnd (csnd B71)))))) (by kernel_rfl) ?_
  refine RX.psn 3 [(9, (Value.int .u64 (ishr .u64 a1 32))), (21, (Value.int .u64 (ishr .u64 a1 32))), (20, (Value.int .u64 a1))] (by kernel_rfl) ?_
  refine RX.done (by kernel_rfl) ?_
  refine fun ss hs => (WX.nxt ?_ ss hs)
  refine WX.seq (by kernel_rfl) ?_
  refine WX.region (opsOf (cfst (csnd (csnd (csnd (csnd (csnd B71))))))) (by kernel_rfl) ?_
  refine RX.psn 4 [(10, (Value.int .u64 (IntKind.u64.wrap ((iand .u64 a0 4294967295) * (iand .u64 a1 4294967295))))), (24, (Value.int .u64 (IntKind.u64.wrap ((iand .u64 a0 4294967295) * (iand .u64 a1 4294967295))))), (23, (Value.int .u64 (iand .u64 a1 4294967295))), (22, (Value.int .u64 (iand .u64 a0 4294967295)))] (by kernel_rfl) ?_
  refine RX.done (by kernel_rfl) ?_
  refine fun ss hs => (WX.nxt ?_ ss hs)
  refine WX.seq (by kernel_rfl) ?_
  refine WX.region (opsOf (cfst (csnd (csnd (csnd (csnd (csnd (csnd B71)))))))) (by kernel_rfl) ?_
  refine RX.psn 7 [(11, (Value.int .u64 (IntKind.u64.wrap ((IntKind.u64.wrap ((ishr .u64 a0 32) * (iand .u64 a1 4294967295))) + (ishr .u64 (IntKind.u64.wrap ((iand .u64 a0 4294967295) * (iand .u64 a1 4294967295))) 32))))), (30, (Value.int .u64 (IntKind.u64.wrap ((IntKind.u64.wrap ((ishr .u64 a0 32) * (iand .u64 a1 4294967295))) + (ishr .u64 (IntKind.u64.wrap ((iand .u64 a0 4294967295) * (iand .u64 a1 4294967295))) 32))))), (29, (Value.int .u64 (ishr .u64 (IntKind.u64.wrap ((iand .u64 a0 4294967295) * (iand .u64 a1 4294967295))) 32))), (28, (Value.int .u64 (IntKind.u64.wrap ((iand .u64 a0 4294967295) * (iand .u64 a1 4294967295))))), (27, (Value.int .u64 (IntKind.u64.wrap ((ishr .u64 a0 32) * (iand .u64 a1 4294967295))))), (26, (Value.int .u64 (iand .u64 a1 4294967295))), (25, (Value.int .u64 (ishr .u64 a0 32)))] (by kernel_rfl) ?_
  refine RX.done (by kernel_rfl) ?_
  refine fun ss hs => (WX.nxt ?_ ss hs)
  refine WX.seq (by kernel_rfl) ?_
  refine WX.region (opsOf (cfst (csnd (csnd (csnd (csnd (csnd (csnd (csnd B71))))))))) (by kernel_rfl) ?_
  refine RX.psn 3 [(12, (Value.int .u64 (iand .u64 (IntKind.u64.wrap ((IntKind.u64.wrap ((ishr .u64 a0 32) * (iand .u64 a1 4294967295))) + (ishr .u64 (IntKind.u64.wrap ((iand .u64 a0 4294967295) * (iand .u64 a1 4294967295))) 32))) 4294967295))), (32, (Value.int .u64 (iand .u64 (IntKind.u64.wrap ((IntKind.u64.wrap ((ishr .u64 a0 32) * (iand .u64 a1 4294967295))) + (ishr .u64 (IntKind.u64.wrap ((iand .u64 a0 4294967295) * (iand .u64 a1 4294967295))) 32))) 4294967295))), (31, (Value.int .u64 (IntKind.u64.wrap ((IntKind.u64.wrap ((ishr .u64 a0 32) * (iand .u64 a1 4294967295))) + (ishr .u64 (IntKind.u64.wrap ((iand .u64 a0 4294967295) * (iand .u64 a1 4294967295))) 32)))))] (by kernel_rfl) ?_
  refine RX.done (by kernel_rfl) ?_
  refine fun ss hs => (WX.nxt ?_ ss hs)
  refine WX.seq (by kernel_rfl) ?_
  refine WX.region (opsOf (cfst (csnd (csnd (csnd (csnd (csnd (csnd (csnd (csnd B71)))))))))) (by kernel_rfl) ?_
  refine RX.psn 3 [(13, (Value.int .u64 (ishr .u64 (IntKind.u64.wrap ((IntKind.u64.wrap ((ishr .u64 a0 32) * (iand .u64 a1 4294967295))) + (ishr .u64 (IntKind.u64.wrap ((iand .u64 a0 4294967295) * (iand .u64 a1 4294967295))) 32))) 32))), (34, (Value.int .u64 (ishr .u64 (IntKind.u64.wrap ((IntKind.u64.wrap ((ishr .u64 a0 32) * (iand .u64 a1 4294967295))) + (ishr .u64 (IntKind.u64.wrap ((iand .u64 a0 4294967295) * (iand .u64 a1 4294967295))) 32))) 32))), (33, (Value.int .u64 (IntKind.u64.wrap ((IntKind.u64.wrap ((ishr .u64 a0 32) * (iand .u64 a1 4294967295))) + (ishr .u64 (IntKind.u64.wrap ((iand .u64 a0 4294967295) * (iand .u64 a1 4294967295))) 32)))))] (by kernel_rfl) ?_
  refine RX.done (by kernel_rfl) ?_
  refine fun ss hs => (WX.nxt ?_ ss hs)
  refine WX.seq (by kernel_rfl) ?_
  refine WX.region (opsOf (cfst (csnd (csnd (csnd (csnd (csnd (csnd (csnd (csnd (csnd B71))))))))))) (by kernel_rfl) ?_
  refine RX.psn 6 [(12, (Value.int .u64 (IntKind.u64.wrap ((iand .u64 (IntKind.u64.wrap ((IntKind.u64.wrap ((ishr .u64 a0 32) * (iand .u64 a1 4294967295))) + (ishr .u64 (IntKind.u64.wrap ((iand .u64 a0 4294967295) * (iand .u64 a1 4294967295))) 32))) 4294967295) + (IntKind.u64.wrap ((iand .u64 a0 4294967295) * (ishr .u64 a1 32))))))), (39, (Value.int .u64 (IntKind.u64.wrap ((iand .u64 (IntKind.u64.wrap ((IntKind.u64.wrap ((ishr .u64 a0 32) * (iand .u64 a1 4294967295))) + (ishr .u64 (IntKind.u64.wrap ((iand .u64 a0 4294967295) * (iand .u64 a1 4294967295))) 32))) 4294967295) + (IntKind.u64.wrap ((iand .u64 a0 4294967295) * (ishr .u64 a1 32))))))), (38, (Value.int .u64 (IntKind.u64.wrap ((iand .u64 a0 4294967295) * (ishr .u64 a1 32))))), (37, (Value.int .u64 (ishr .u64 a1 32))), (36, (Value.int .u64 (iand .u64 a0 4294967295))), (35, (Value.int .u64 (iand .u64 (IntKind.u64.wrap ((IntKind.u64.wrap ((ishr .u64 a0 32) * (iand .u64 a1 4294967295))) + (ishr .u64 (IntKind.u64.wrap ((iand .u64 a0 4294967295) * (iand .u64 a1 4294967295))) 32))) 4294967295)))] (by kernel_rfl) ?_
  refine RX.done (by kernel_rfl) ?_
  refine fun ss hs => (WX.nxt ?_ ss hs)
  refine WX.seq (by kernel_rfl) ?_
  refine WX.region (opsOf (cfst (csnd (csnd (csnd (csnd (csnd (csnd (csnd (csnd (csnd (csnd B71)))))))))))) (by kernel_rfl) ?_
  refine RX.psn 9 [(4, (Value.int .u64 (IntKind.u64.wrap ((IntKind.u64.wrap ((IntKind.u64.wrap ((ishr .u64 a0 32) * (ishr .u64 a1 32))) + (ishr .u64 (IntKind.u64.wrap ((IntKind.u64.wrap ((ishr .u64 a0 32) * (iand .u64 a1 4294967295))) + (ishr .u64 (IntKind.u64.wrap ((iand .u64 a0 4294967295) * (iand .u64 a1 4294967295))) 32))) 32))) + (ishr .u64 (IntKind.u64.wrap ((iand .u64 (IntKind.u64.wrap ((IntKind.u64.wrap ((ishr .u64 a0 32) * (iand .u64 a1 4294967295))) + (ishr .u64 (IntKind.u64.wrap ((iand .u64 a0 4294967295) * (iand .u64 a1 4294967295))) 32))) 4294967295) + (IntKind.u64.wrap ((iand .u64 a0 4294967295) * (ishr .u64 a1 32))))) 32))))), (47, (Value.int .u64 (IntKind.u64.wrap ((IntKind.u64.wrap ((IntKind.u64.wrap ((ishr .u64 a0 32) * (ishr .u64 a1 32))) + (ishr .u64 (IntKind.u64.wrap ((IntKind.u64.wrap ((ishr .u64 a0 32) * (iand .u64 a1 4294967295))) + (ishr .u64 (IntKind.u64.wrap ((iand .u64 a0 4294967295) * (iand .u64 a1 4294967295))) 32))) 32))) + (ishr .u64 (IntKind.u64.wrap ((iand .u64 (IntKind.u64.wrap ((IntKind.u64.wrap ((ishr .u64 a0 32) * (iand .u64 a1 4294967295))) + (ishr .u64 (IntKind.u64.wrap ((iand .u64 a0 4294967295) * (iand .u64 a1 4294967295))) 32))) 4294967295) + (IntKind.u64.wrap ((iand .u64 a0 4294967295) * (ishr .u64 a1 32))))) 32))))), (46, (Value.int .u64 (ishr .u64 (IntKind.u64.wrap ((iand .u64 (IntKind.u64.wrap ((IntKind.u64.wrap ((ishr .u64 a0 32) * (iand .u64 a1 4294967295))) + (ishr .u64 (IntKind.u64.wrap ((iand .u64 a0 4294967295) * (iand .u64 a1 4294967295))) 32))) 4294967295) + (IntKind.u64.wrap ((iand .u64 a0 4294967295) * (ishr .u64 a1 32))))) 32))), (45, (Value.int .u64 (IntKind.u64.wrap ((iand .u64 (IntKind.u64.wrap ((IntKind.u64.wrap ((ishr .u64 a0 32) * (iand .u64 a1 4294967295))) + (ishr .u64 (IntKind.u64.wrap ((iand .u64 a0 4294967295) * (iand .u64 a1 4294967295))) 32))) 4294967295) + (IntKind.u64.wrap ((iand .u64 a0 4294967295) * (ishr .u64 a1 32))))))), (44, (Value.int .u64 (IntKind.u64.wrap ((IntKind.u64.wrap ((ishr .u64 a0 32) * (ishr .u64 a1 32))) + (ishr .u64 (IntKind.u64.wrap ((IntKind.u64.wrap ((ishr .u64 a0 32) * (iand .u64 a1 4294967295))) + (ishr .u64 (IntKind.u64.wrap ((iand .u64 a0 4294967295) * (iand .u64 a1 4294967295))) 32))) 32))))), (43, (Value.int .u64 (ishr .u64 (IntKind.u64.wrap ((IntKind.u64.wrap ((ishr .u64 a0 32) * (iand .u64 a1 4294967295))) + (ishr .u64 (IntKind.u64.wrap ((iand .u64 a0 4294967295) * (iand .u64 a1 4294967295))) 32))) 32))), (42, (Value.int .u64 (IntKind.u64.wrap ((ishr .u64 a0 32) * (ishr .u64 a1 32))))), (41, (Value.int .u64 (ishr .u64 a1 32))), (40, (Value.int .u64 (ishr .u64 a0 32)))] (by kernel_rfl) ?_
  refine RX.done (by kernel_rfl) ?_
  refine fun ss hs => (WX.nxt ?_ ss hs)
  refine WX.seq (by kernel_rfl) ?_
  refine WX.region (opsOf (cfst (csnd (csnd (csnd (csnd (csnd (csnd (csnd (csnd (csnd (csnd (csnd B71))))))))))))) (by kernel_rfl) ?_
  refine RX.psn 4 [(5, (Value.int .u64 (IntKind.u64.wrap (a0 * a1)))), (50, (Value.int .u64 (IntKind.u64.wrap (a0 * a1)))), (49, (Value.int .u64 a1)), (48, (Value.int .u64 a0))] (by kernel_rfl) ?_
  refine RX.done (by kernel_rfl) ?_
  refine fun ss hs => (WX.nxt ?_ ss hs)
  refine WX.ret (by kernel_rfl) ?_
  cases h
  exact fun ss hs => retR (rq hs (by kernel_rfl))

noncomputable def B74 : Code := (Try.f74.body).getD .skip

def slices_Clone_enc : (Sl3 × AH) → Value
  | (r0, _) => (Sl3.v r0)

def slices_Clone_hp (_ : AH) : (Sl3 × AH) → AH := fun r => r.2

noncomputable def slices_Clone (H : AH) (a0 : Sl3) : Option (Sl3 × AH) :=
  if (isNilS a0) = true then
    some (Sl3.nil, H)
  else
    Option.bind (newR 38 0 #[] H) fun (s1, H2) =>
    Option.bind (appS 4294967296 38 1 8 H2 s1 a0) fun (s3, H4) =>
    some (s3, H4)

theorem slices_Clone_ok {H : AH} {a0 : Sl3} {r : (Sl3 × AH)} (h : slices_Clone H a0 = some r) :
    CallE Try.prog 1000 4294967296 74 #[(Sl3.v a0)] H (slices_Clone_enc r) (slices_Clone_hp H r) := by
  refine CallE.mk (args := [(Sl3.v a0)]) Try.func74 (B := B74) (by kernel_rfl) ?_
  unfold slices_Clone at h
  refine WX.seq (by kernel_rfl) ?_
  refine WX.region (opsOf (cfst B74)) (by kernel_rfl) ?_
  refine RX.psn 1 [(2, (Sl3.v Sl3.nil))] (by kernel_rfl) ?_
  refine RX.done (by kernel_rfl) ?_
  refine fun ss hs => (WX.nxt ?_ ss hs)
  refine WX.seq (by kernel_rfl) ?_
  refine WX.seq (by kernel_rfl) ?_
  refine WX.region (opsOf (cfst (cfst (csnd B74)))) (by kernel_rfl) ?_
  refine RX.psn 1 [(3, (Sl3.v a0))] (by kernel_rfl) ?_
  refine RX.at (some 4) (Value.bool (isNilS a0)) (by kernel_rfl) (by kernel_rfl) (fun ih => run_nil_eql (t := 24) (e := 38) (u := 24) (x := .tmp 3) (y := .const (Sl3.v Sl3.nil)) (s := a0) (by kernel_rfl) (by kernel_rfl) (by kernel_rfl) (by kernel_rfl)) ?_
  refine RX.done (by kernel_rfl) ?_
  refine fun ss hs => (WX.nxt ?_ ss hs)
  rcases ite_some h with ⟨hp, h⟩ | ⟨hp, h⟩
  · refine WX.condT _ hp (by kernel_rfl) ?_
    refine WX.seq (by kernel_rfl) ?_
    refine WX.region (opsOf (cfst (cfst (csnd (cfst (csnd B74)))))) (by kernel_rfl) ?_
    refine RX.psn 1 [(2, (Sl3.v Sl3.nil))] (by kernel_rfl) ?_
    refine RX.done (by kernel_rfl) ?_
    refine fun ss hs => (WX.nxt ?_ ss hs)
    refine WX.ret (by kernel_rfl) ?_
    cases h
    exact fun ss hs => seqR (retR (rq hs (by kernel_rfl)))
  · refine WX.condF _ (b_not hp) (by kernel_rfl) ?_
    refine WX.skip (by kernel_rfl) ?_
    refine fun ss hs => (WX.nxt ?_ ss hs)
    refine WX.seq (by kernel_rfl) ?_
    refine WX.region (opsOf (cfst (csnd (csnd B74)))) (by kernel_rfl) ?_
    obtain ⟨⟨s1, H2⟩, hx, h⟩ := bind_some h
    dsimp only at h
    refine RX.at (some 5) (Sl3.v s1) (by kernel_rfl) (by kernel_rfl) (fun ih => Abs.run_newR (by kernel_rfl) (by kernel_rfl) hx) ?_
    refine RX.psn 1 [(6, (Sl3.v a0))] (by kernel_rfl) ?_
    obtain ⟨⟨s3, H4⟩, hx, h⟩ := bind_some h
    dsimp only at h
    refine RX.at (some 7) (Sl3.v s3) (by kernel_rfl) (by kernel_rfl) (fun ih => Abs.run_app (x := .tmp 5) (y := .tmp 6) (ts := #[24, 24]) (s := s1) (z := a0) (by kernel_rfl) (by kernel_rfl) (by kernel_rfl) (by kernel_rfl) hx) ?_
    refine RX.psn 1 [(2, (Sl3.v s3))] (by kernel_rfl) ?_
    refine RX.done (by kernel_rfl) ?_
    refine fun ss hs => (WX.nxt ?_ ss hs)
    refine WX.ret (by kernel_rfl) ?_
    cases h
    exact fun ss hs => retR (rq hs (by kernel_rfl))

noncomputable def B55 : Code := (Try.f55.body).getD .skip

def slices_Reverse_enc : AH → Value
  | _ => (Value.tuple #[])

def slices_Reverse_hp (_ : AH) : AH → AH := fun r => r

noncomputable def slices_Reverse_b0 (a0 : Sl3) : (AH × Int × Int) → Option (Lp (AH × Int × Int) AH) := fun (H1, v2_2, v3_3) =>
  if v2_2 < v3_3 then
    if belowSN H1.next a0 = true then
      if belowSN H1.next a0 = true then
        if belowSN H1.next a0 = true then
          Option.bind (idxA 1 a0 v3_3) fun p4 =>
          if belowN H1.next p4 = true then
            Option.bind (rd (deI .u8) H1 p4) fun x5 =>
            if belowSN H1.next a0 = true then
              Option.bind (idxA 1 a0 v2_2) fun p6 =>
              if belowN H1.next p6 = true then
                Option.bind (rd (deI .u8) H1 p6) fun x7 =>
                Option.bind (idxA 1 a0 v2_2) fun p8 =>
                if belowN H1.next p8 = true then
                  Option.bind (H1.setCell 4294967296 p8 (Value.int .u8 x5)) fun H9 =>
                  if H1.next ≤ H9.next then
                    Option.bind (idxA 1 a0 v3_3) fun p10 =>
                    if belowN H9.next p10 = true then
                      Option.bind (H9.setCell 4294967296 p10 (Value.int .u8 x7)) fun H11 =>
                      if H9.next ≤ H11.next then
                        some (.next (H11, (IntKind.i64.wrap (v2_2 + 1)), (IntKind.i64.wrap (v3_3 - 1))))
                      else none
                    else none
                  else none
                else none
              else none
            else none
          else none
        else none
      else none
    else none
  else
    some (.brk (H1, v2_2, v3_3))

def slices_Reverse_b0_kn (a0 : Sl3) : (AH × Int × Int) → Kn := fun (H1, v2_2, v3_3) => [(2, (Value.int .i64 v2_2)), (3, (Value.int .i64 v3_3)), (0, (Sl3.v a0))]

noncomputable def slices_Reverse (H : AH) (a0 : Sl3) : Option AH :=
  Option.bind (loopO (slices_Reverse_b0 a0) (H, 0, (IntKind.i64.wrap ((a0.n : Int) - 1)))) fun o => match o with
  | .inl (H12, v2_13, v3_14) =>
    some H12
  | .inr r => some r

theorem slices_Reverse_b0_ok {a0 : Sl3} : ∀ s o, slices_Reverse_b0 a0 s = some o →
    WX Try.prog 1000 4294967296 Try.f55.ntmps (cfst (cfst (csnd B55))) (slices_Reverse_b0_kn a0 s) ((fun s => s.1) s) (lpQ (slices_Reverse_b0_kn a0) (fun s => s.1) 0 (fun r => RQ Try.f55 (slices_Reverse_enc r) (slices_Reverse_hp ⟨0, .nil⟩ r)) o) := by
  rintro ⟨H1, v2_2, v3_3⟩ o h
  unfold slices_Reverse_b0 at h
  try dsimp only at h
  refine WX.seq (by kernel_rfl) ?_
  refine WX.seq (by kernel_rfl) ?_
  refine WX.region (opsOf (cfst (cfst (cfst (cfst (csnd B55)))))) (by kernel_rfl) ?_
  refine RX.psn 3 [(9, (Value.bool (decide (v2_2 < v3_3)))), (8, (Value.int .i64 v3_3)), (7, (Value.int .i64 v2_2))] (by kernel_rfl) ?_
  refine RX.done (by kernel_rfl) ?_
  refine fun ss hs => (WX.nxt ?_ ss hs)
  rcases ite_some h with ⟨hp, h⟩ | ⟨hp, h⟩
  · refine WX.condT _ (decide_eq_true hp) (by kernel_rfl) ?_
    refine WX.skip (by kernel_rfl) ?_
    refine fun ss hs => (WX.nxt ?_ ss hs)
    refine WX.seq (by kernel_rfl) ?_
    refine WX.block 1 (by kernel_rfl) ?_
    refine WX.drawn (opsOf (cfst (cfst (csnd (cfst (cfst (csnd B55))))))) false (by kernel_rfl) (by kernel_rfl) ?_
    rcases ite_some h with ⟨hb, h⟩ | ⟨_, h⟩
    · refine DX.q (some 14) (Sl3.v a0) (by kernel_rfl) (by kernel_rfl) (by kernel_rfl) (fun ih H => by kernel_rfl) (calm_sl (belowSN_lt hb)) ?_
      refine DX.q (some 15) (Value.int .i64 v2_2) (by kernel_rfl) (by kernel_rfl) (by kernel_rfl) (fun ih H => by kernel_rfl) calm_int ?_
      rcases ite_some h with ⟨hb, h⟩ | ⟨_, h⟩
      · refine DX.q (some 16) (Sl3.v a0) (by kernel_rfl) (by kernel_rfl) (by kernel_rfl) (fun ih H => by kernel_rfl) (calm_sl (belowSN_lt hb)) ?_
        refine DX.q (some 17) (Value.int .i64 v3_3) (by kernel_rfl) (by kernel_rfl) (by kernel_rfl) (fun ih H => by kernel_rfl) calm_int ?_
        rcases ite_some h with ⟨hb, h⟩ | ⟨_, h⟩
        · refine DX.q (some 18) (Sl3.v a0) (by kernel_rfl) (by kernel_rfl) (by kernel_rfl) (fun ih H => by kernel_rfl) (calm_sl (belowSN_lt hb)) ?_
          refine DX.q (some 19) (Value.int .i64 v3_3) (by kernel_rfl) (by kernel_rfl) (by kernel_rfl) (fun ih H => by kernel_rfl) calm_int ?_
          obtain ⟨p4, hx, h⟩ := bind_some h
          rcases ite_some h with ⟨hb, h⟩ | ⟨_, h⟩
          · refine DX.q (some 20) (Value.pointer (some p4)) (by kernel_rfl) (by kernel_rfl) (by kernel_rfl) (fun ih H => Abs.run_idx (s := a0) (k := .i64) (t := 69) (e := 5) (x := .tmp 18) (y := .tmp 19) (by kernel_rfl) (by kernel_rfl) (by kernel_rfl) (by kernel_rfl) (by kernel_rfl) hx) (calm_ptr (belowN_lt hb)) ?_
            obtain ⟨x5, hx, h⟩ := bind_some h
            refine DX.l (some 21) (Value.int .u8 x5) (by kernel_rfl) (by kernel_rfl) (by kernel_rfl) (by kernel_rfl) (fun ih H hm => Abs.run_load (t := 5) (x := .tmp 20) (a := p4) (by kernel_rfl) (by kernel_rfl) (by kernel_rfl) ((cell_mem hm _).trans (rd_cell hx deI_inv))) calm_int ?_
            rcases ite_some h with ⟨hb, h⟩ | ⟨_, h⟩
            · refine DX.q (some 22) (Sl3.v a0) (by kernel_rfl) (by kernel_rfl) (by kernel_rfl) (fun ih H => by kernel_rfl) (calm_sl (belowSN_lt hb)) ?_
              refine DX.q (some 23) (Value.int .i64 v2_2) (by kernel_rfl) (by kernel_rfl) (by kernel_rfl) (fun ih H => by kernel_rfl) calm_int ?_
              obtain ⟨p6, hx, h⟩ := bind_some h
              rcases ite_some h with ⟨hb, h⟩ | ⟨_, h⟩
              · refine DX.q (some 24) (Value.pointer (some p6)) (by kernel_rfl) (by kernel_rfl) (by kernel_rfl) (fun ih H => Abs.run_idx (s := a0) (k := .i64) (t := 69) (e := 5) (x := .tmp 22) (y := .tmp 23) (by kernel_rfl) (by kernel_rfl) (by kernel_rfl) (by kernel_rfl) (by kernel_rfl) hx) (calm_ptr (belowN_lt hb)) ?_
                obtain ⟨x7, hx, h⟩ := bind_some h
                refine DX.l (some 25) (Value.int .u8 x7) (by kernel_rfl) (by kernel_rfl) (by kernel_rfl) (by kernel_rfl) (fun ih H hm => Abs.run_load (t := 5) (x := .tmp 24) (a := p6) (by kernel_rfl) (by kernel_rfl) (by kernel_rfl) ((cell_mem hm _).trans (rd_cell hx deI_inv))) calm_int ?_
                obtain ⟨p8, hx, h⟩ := bind_some h
                rcases ite_some h with ⟨hb, h⟩ | ⟨_, h⟩
                · refine DX.q (some 26) (Value.pointer (some p8)) (by kernel_rfl) (by kernel_rfl) (by kernel_rfl) (fun ih H => Abs.run_idx (s := a0) (k := .i64) (t := 69) (e := 5) (x := .tmp 14) (y := .tmp 15) (by kernel_rfl) (by kernel_rfl) (by kernel_rfl) (by kernel_rfl) (by kernel_rfl) hx) (calm_ptr (belowN_lt hb)) ?_
                  obtain ⟨H9, hx, h⟩ := bind_some h
                  rcases ite_some h with ⟨hle, h⟩ | ⟨_, h⟩
                  · refine DX.w none undef H1 (by kernel_rfl) (by kernel_rfl) (by kernel_rfl) (by kernel_rfl) [] [] (by kernel_rfl) (by kernel_rfl) rfl (fun ih => Abs.run_store1 (t := 5) (x := .tmp 26) (y := .tmp 21) (a := p8) (v := (Value.int .u8 x5)) (by kernel_rfl) (by kernel_rfl) (by kernel_rfl) (by kernel_rfl) (by kernel_rfl) hx) hle (fun hh => by cases hh) ?_
                    obtain ⟨p10, hx, h⟩ := bind_some h
                    rcases ite_some h with ⟨hb, h⟩ | ⟨_, h⟩
                    · refine DX.q (some 27) (Value.pointer (some p10)) (by kernel_rfl) (by kernel_rfl) (by kernel_rfl) (fun ih H => Abs.run_idx (s := a0) (k := .i64) (t := 69) (e := 5) (x := .tmp 16) (y := .tmp 17) (by kernel_rfl) (by kernel_rfl) (by kernel_rfl) (by kernel_rfl) (by kernel_rfl) hx) (calm_ptr (belowN_lt hb)) ?_
                      obtain ⟨H11, hx, h⟩ := bind_some h
                      rcases ite_some h with ⟨hle, h⟩ | ⟨_, h⟩
                      · refine DX.w none undef H9 (by kernel_rfl) (by kernel_rfl) (by kernel_rfl) (by kernel_rfl) [] [] (by kernel_rfl) (by kernel_rfl) rfl (fun ih => Abs.run_store1 (t := 5) (x := .tmp 27) (y := .tmp 25) (a := p10) (v := (Value.int .u8 x7)) (by kernel_rfl) (by kernel_rfl) (by kernel_rfl) (by kernel_rfl) (by kernel_rfl) hx) hle (fun hh => by cases hh) ?_
                        refine DX.end_ (H' := H11) (by kernel_rfl) rfl ?_
                        refine fun ss hs => blkN ((WX.nxt ?_ ss hs))
                        refine WX.region (opsOf (csnd (csnd (cfst (cfst (csnd B55)))))) (by kernel_rfl) ?_
                        refine RX.psn 6 [(3, (Value.int .i64 (IntKind.i64.wrap (v3_3 - 1)))), (2, (Value.int .i64 (IntKind.i64.wrap (v2_2 + 1)))), (13, (Value.int .i64 (IntKind.i64.wrap (v3_3 - 1)))), (12, (Value.int .i64 v3_3)), (11, (Value.int .i64 (IntKind.i64.wrap (v2_2 + 1)))), (10, (Value.int .i64 v2_2))] (by kernel_rfl) ?_
                        refine RX.done (by kernel_rfl) ?_
                        cases h
                        exact fun ss hs => lpN rfl (hs.sub ((SubK.cons (by kernel_rfl) (SubK.cons (by kernel_rfl) (SubK.cons (by kernel_rfl) SubK.nil)))))
                      · cases h
                    · cases h
                  · cases h
                · cases h
              · cases h
            · cases h
          · cases h
        · cases h
      · cases h
    · cases h
  · refine WX.condF _ (decide_eq_false hp) (by kernel_rfl) ?_
    refine WX.exit 0 (by kernel_rfl) ?_
    cases h
    exact fun ss hs => seqE (lpB rfl (hs.sub ((SubK.cons (by kernel_rfl) (SubK.cons (by kernel_rfl) (SubK.cons (by kernel_rfl) SubK.nil))))))

theorem slices_Reverse_ok {H : AH} {a0 : Sl3} {r : AH} (h : slices_Reverse H a0 = some r) :
    CallE Try.prog 1000 4294967296 55 #[(Sl3.v a0)] H (slices_Reverse_enc r) (slices_Reverse_hp H r) := by
  refine CallE.mk (args := [(Sl3.v a0)]) Try.func55 (B := B55) (by kernel_rfl) ?_
  unfold slices_Reverse at h
  refine WX.seq (by kernel_rfl) ?_
  refine WX.region (opsOf (cfst B55)) (by kernel_rfl) ?_
  refine RX.psn 5 [(3, (Value.int .i64 (IntKind.i64.wrap ((a0.n : Int) - 1)))), (2, (Value.int .i64 0)), (6, (Value.int .i64 (IntKind.i64.wrap ((a0.n : Int) - 1)))), (5, (Value.int .i64 (a0.n : Int))), (4, (Sl3.v a0))] (by kernel_rfl) ?_
  refine RX.done (by kernel_rfl) ?_
  refine fun ss hs => (WX.nxt ?_ ss hs)
  refine WX.block 0 (by kernel_rfl) ?_
  obtain ⟨o, hl, h⟩ := bind_some h
  rcases o with ⟨H12, v2_13, v3_14⟩ | r
  · dsimp only at h
    refine WX.loopI (by kernel_rfl) (slices_Reverse_b0 a0) (slices_Reverse_b0_kn a0) (fun s => s.1) 0 (fun r => RQ Try.f55 (slices_Reverse_enc r) (slices_Reverse_hp ⟨0, .nil⟩ r)) slices_Reverse_b0_ok hl ((SubK.cons (by kernel_rfl) (SubK.cons (by kernel_rfl) (SubK.cons (by kernel_rfl) SubK.nil)))) rfl ?_
    clear hl
    cases h
    exact fun ss hs => blkE (retN (rq hs (by kernel_rfl)))
  · dsimp only at h
    refine WX.loopR (by kernel_rfl) (slices_Reverse_b0 a0) (slices_Reverse_b0_kn a0) (fun s => s.1) 0 (fun r => RQ Try.f55 (slices_Reverse_enc r) (slices_Reverse_hp ⟨0, .nil⟩ r)) slices_Reverse_b0_ok hl ((SubK.cons (by kernel_rfl) (SubK.cons (by kernel_rfl) (SubK.cons (by kernel_rfl) SubK.nil)))) rfl ?_
    cases h
    exact fun ss H hq => blkR (retR hq)

noncomputable def B44 : Code := (Try.f44.body).getD .skip

def nat_trim_enc : Sl3 → Value
  | r0 => (Sl3.v r0)

def nat_trim_hp (H : AH) : Sl3 → AH := fun _ => H

noncomputable def nat_trim_b0 (H : AH) (a0 : Sl3) : Int → Option (Lp Int Sl3) := fun v3_1 =>
  if v3_1 > 0 then
    Option.bind (idxA 1 a0 (IntKind.i64.wrap (v3_1 - 1))) fun p2 =>
    Option.bind (rd (deI .u64) H p2) fun x3 =>
    if x3 = 0 then
      some (.next (IntKind.i64.wrap (v3_1 - 1)))
    else
      some (.brk v3_1)
  else
    some (.brk v3_1)

def nat_trim_b0_kn (H : AH) (a0 : Sl3) : Int → Kn := fun v3_1 => [(3, (Value.int .i64 v3_1)), (0, (Sl3.v a0))]

noncomputable def nat_trim (H : AH) (a0 : Sl3) : Option Sl3 :=
  Option.bind (loopO (nat_trim_b0 H a0) (a0.n : Int)) fun o => match o with
  | .inl v3_4 =>
    Option.bind (slc 1 H a0 none (some v3_4) (some v3_4)) fun s5 =>
    some s5
  | .inr r => some r

theorem nat_trim_b0_ok {H : AH} {a0 : Sl3} : ∀ s o, nat_trim_b0 H a0 s = some o →
    WX Try.prog 1000 4294967296 Try.f44.ntmps (cfst (cfst (cfst (csnd (csnd B44))))) (nat_trim_b0_kn H a0 s) ((fun _ => H) s) (lpQ (nat_trim_b0_kn H a0) (fun _ => H) 0 (fun r => RQ Try.f44 (nat_trim_enc r) (nat_trim_hp H r)) o) := by
  rintro v3_1 o h
  unfold nat_trim_b0 at h
  try dsimp only at h
  refine WX.seq (by kernel_rfl) ?_
  refine WX.seq (by kernel_rfl) ?_
  refine WX.region (opsOf (cfst (cfst (cfst (cfst (cfst (csnd (csnd B44)))))))) (by kernel_rfl) ?_
  refine RX.psn 3 [(8, (Value.bool (decide (v3_1 > 0)))), (7, (Value.bool (decide (v3_1 > 0)))), (6, (Value.int .i64 v3_1))] (by kernel_rfl) ?_
  rcases ite_some h with ⟨hp, h⟩ | ⟨hp, h⟩
  · refine RX.fix 8 true (decide_eq_true hp) (by kernel_rfl) ?_
    refine RX.psn 3 [(11, (Value.int .i64 (IntKind.i64.wrap (v3_1 - 1)))), (10, (Value.int .i64 v3_1)), (9, (Sl3.v a0))] (by kernel_rfl) ?_
    obtain ⟨p2, hx, h⟩ := bind_some h
    refine RX.at (some 12) (Value.pointer (some p2)) (by kernel_rfl) (by kernel_rfl) (fun ih => Abs.run_idx (s := a0) (k := .i64) (t := 24) (e := 38) (x := .tmp 9) (y := .tmp 11) (by kernel_rfl) (by kernel_rfl) (by kernel_rfl) (by kernel_rfl) (by kernel_rfl) hx) ?_
    obtain ⟨x3, hx, h⟩ := bind_some h
    refine RX.at (some 13) (Value.int .u64 x3) (by kernel_rfl) (by kernel_rfl) (fun ih => Abs.run_load (t := 38) (x := .tmp 12) (a := p2) (by kernel_rfl) (by kernel_rfl) (by kernel_rfl) (rd_cell hx deI_inv)) ?_
    refine RX.psn 2 [(15, (Value.bool (decide (x3 = 0)))), (14, (Value.bool (decide (x3 = 0))))] (by kernel_rfl) ?_
    refine RX.done (by kernel_rfl) ?_
    refine fun ss hs => (WX.nxt ?_ ss hs)
    rcases ite_some h with ⟨hp, h⟩ | ⟨hp, h⟩
    · refine WX.condT _ (decide_eq_true hp) (by kernel_rfl) ?_
      refine WX.skip (by kernel_rfl) ?_
      refine fun ss hs => (WX.nxt ?_ ss hs)
      refine WX.block 1 (by kernel_rfl) ?_
      refine WX.region (opsOf (cfst (csnd (cfst (cfst (cfst (csnd (csnd B44)))))))) (by kernel_rfl) ?_
      refine RX.psn 3 [(3, (Value.int .i64 (IntKind.i64.wrap (v3_1 - 1)))), (17, (Value.int .i64 (IntKind.i64.wrap (v3_1 - 1)))), (16, (Value.int .i64 v3_1))] (by kernel_rfl) ?_
      refine RX.done (by kernel_rfl) ?_
      cases h
      exact fun ss hs => blkN (lpN rfl (hs.sub ((SubK.cons (by kernel_rfl) (SubK.cons (by kernel_rfl) SubK.nil)))))
    · refine WX.condF _ (decide_eq_false hp) (by kernel_rfl) ?_
      refine WX.exit 0 (by kernel_rfl) ?_
      cases h
      exact fun ss hs => seqE (lpB rfl (hs.sub ((SubK.cons (by kernel_rfl) (SubK.cons (by kernel_rfl) SubK.nil)))))
  · refine RX.fix 8 false (decide_eq_false hp) (by kernel_rfl) ?_
    refine RX.psn 7 [(15, (Value.bool false)), (14, undef), (13, undef), (12, undef), (11, undef), (10, undef), (9, undef)] (by kernel_rfl) ?_
    refine RX.done (by kernel_rfl) ?_
    refine fun ss hs => (WX.nxt ?_ ss hs)
    refine WX.condF false rfl (by kernel_rfl) ?_
    refine WX.exit 0 (by kernel_rfl) ?_
    cases h
    exact fun ss hs => seqE (lpB rfl (hs.sub ((SubK.cons (by kernel_rfl) (SubK.cons (by kernel_rfl) SubK.nil)))))

theorem nat_trim_ok {H : AH} {a0 : Sl3} {r : Sl3} (h : nat_trim H a0 = some r) :
    CallE Try.prog 1000 4294967296 44 #[(Sl3.v a0)] H (nat_trim_enc r) (nat_trim_hp H r) := by
  refine CallE.mk (args := [(Sl3.v a0)]) Try.func44 (B := B44) (by kernel_rfl) ?_
  unfold nat_trim at h
  refine WX.seq (by kernel_rfl) ?_
  refine WX.region (opsOf (cfst B44)) (by kernel_rfl) ?_
  refine RX.psn 1 [(2, (Sl3.v Sl3.nil))] (by kernel_rfl) ?_
  refine RX.done (by kernel_rfl) ?_
  refine fun ss hs => (WX.nxt ?_ ss hs)
  refine WX.seq (by kernel_rfl) ?_
  refine WX.region (opsOf (cfst (csnd B44))) (by kernel_rfl) ?_
  refine RX.psn 3 [(3, (Value.int .i64 (a0.n : Int))), (5, (Value.int .i64 (a0.n : Int))), (4, (Sl3.v a0))] (by kernel_rfl) ?_
  refine RX.done (by kernel_rfl) ?_
  refine fun ss hs => (WX.nxt ?_ ss hs)
  refine WX.seq (by kernel_rfl) ?_
  refine WX.block 0 (by kernel_rfl) ?_
  obtain ⟨o, hl, h⟩ := bind_some h
  rcases o with v3_4 | r
  · dsimp only at h
    refine WX.loopI (by kernel_rfl) (nat_trim_b0 H a0) (nat_trim_b0_kn H a0) (fun _ => H) 0 (fun r => RQ Try.f44 (nat_trim_enc r) (nat_trim_hp H r)) nat_trim_b0_ok hl ((SubK.cons (by kernel_rfl) (SubK.cons (by kernel_rfl) SubK.nil))) rfl ?_
    clear hl
    refine fun ss hs => blkE ((WX.nxt ?_ ss hs))
    refine WX.seq (by kernel_rfl) ?_
    refine WX.region (opsOf (cfst (csnd (csnd (csnd B44))))) (by kernel_rfl) ?_
    refine RX.psn 3 [(20, (Value.int .i64 v3_4)), (19, (Value.int .i64 v3_4)), (18, (Sl3.v a0))] (by kernel_rfl) ?_
    obtain ⟨s5, hx, h⟩ := bind_some h
    refine RX.at (some 21) (Sl3.v s5) (by kernel_rfl) (by kernel_rfl) (fun ih => Abs.run_slice (t := 24) (e := 38) (x := .tmp 18) (lo := none) (hi := (some (.tmp 19))) (mx := (some (.tmp 20))) (s := a0) (k1 := .i64) (k2 := .i64) (k3 := .i64) (by kernel_rfl) (by kernel_rfl) (by kernel_rfl) (by kernel_rfl) (by kernel_rfl) (by kernel_rfl) (by kernel_rfl) hx) ?_
    refine RX.psn 1 [(2, (Sl3.v s5))] (by kernel_rfl) ?_
    refine RX.done (by kernel_rfl) ?_
    refine fun ss hs => (WX.nxt ?_ ss hs)
    refine WX.ret (by kernel_rfl) ?_
    cases h
    exact fun ss hs => retR (rq hs (by kernel_rfl))
  · dsimp only at h
    refine WX.loopR (by kernel_rfl) (nat_trim_b0 H a0) (nat_trim_b0_kn H a0) (fun _ => H) 0 (fun r => RQ Try.f44 (nat_trim_enc r) (nat_trim_hp H r)) nat_trim_b0_ok hl ((SubK.cons (by kernel_rfl) (SubK.cons (by kernel_rfl) SubK.nil))) rfl ?_
    cases h
    exact fun ss H hq => blkR (seqR (retR hq))

noncomputable def B26 : Code := (Try.f26.body).getD .skip

def nat_Cmp_enc : Int → Value
  | r0 => (Value.int .i64 r0)

def nat_Cmp_hp (H : AH) : Int → AH := fun _ => H

noncomputable def nat_Cmp_b0 (H : AH) (x1 : Sl3) (x2 : Sl3) : Int → Option (Lp Int Int) := fun v5_3 =>
  if v5_3 ≥ 0 then
    if belowS H x1 = true then
      Option.bind (idxA 1 x1 v5_3) fun p4 =>
      if below H p4 = true then
        Option.bind (rd (deI .u64) H p4) fun x5 =>
        if belowS H x2 = true then
          Option.bind (idxA 1 x2 v5_3) fun p6 =>
          if below H p6 = true then
            Option.bind (rd (deI .u64) H p6) fun x7 =>
            if x5 < x7 then
              some (.ret (-1))
            else
              if belowS H x1 = true then
                Option.bind (idxA 1 x1 v5_3) fun p8 =>
                if below H p8 = true then
                  Option.bind (rd (deI .u64) H p8) fun x9 =>
                  if belowS H x2 = true then
                    Option.bind (idxA 1 x2 v5_3) fun p10 =>
                    if below H p10 = true then
                      Option.bind (rd (deI .u64) H p10) fun x11 =>
                      if x9 > x11 then
                        some (.ret 1)
                      else
                        some (.next (IntKind.i64.wrap (v5_3 - 1)))
                    else none
                  else none
                else none
              else none
          else none
        else none
      else none
    else none
  else
    some (.brk v5_3)

def nat_Cmp_b0_kn (H : AH) (x1 : Sl3) (x2 : Sl3) : Int → Kn := fun v5_3 => [(5, (Value.int .i64 v5_3)), (0, (Sl3.v x1)), (1, (Sl3.v x2))]

noncomputable def nat_Cmp (H : AH) (a0 : Sl3) (a1 : Sl3) : Option Int :=
  Option.bind (nat_trim H a0) fun x1 =>
  Option.bind (nat_trim H a1) fun x2 =>
  if (x1.n : Int) = (x2.n : Int) then
    Option.bind (loopO (nat_Cmp_b0 H x1 x2) (IntKind.i64.wrap ((x1.n : Int) - 1))) fun o => match o with
    | .inl v5_12 =>
      some 0
    | .inr r => some r
  else
    if (x1.n : Int) < (x2.n : Int) then
      some (-1)
    else
      some 1

theorem nat_Cmp_b0_ok {H : AH} {x1 : Sl3} {x2 : Sl3} : ∀ s o, nat_Cmp_b0 H x1 x2 s = some o →
    WX Try.prog 1000 4294967296 Try.f26.ntmps (cfst (cfst (csnd (cfst (csnd (csnd (csnd B26))))))) (nat_Cmp_b0_kn H x1 x2 s) ((fun _ => H) s) (lpQ (nat_Cmp_b0_kn H x1 x2) (fun _ => H) 0 (fun r => RQ Try.f26 (nat_Cmp_enc r) (nat_Cmp_hp H r)) o) := by
  rintro v5_3 o h
  unfold nat_Cmp_b0 at h
  try dsimp only at h
  refine WX.seq (by kernel_rfl) ?_
  refine WX.seq (by kernel_rfl) ?_
  refine WX.region (opsOf (cfst (cfst (cfst (cfst (csnd (cfst (csnd (csnd (csnd B26)))))))))) (by kernel_rfl) ?_
  refine RX.psn 2 [(24, (Value.bool (decide (v5_3 ≥ 0)))), (23, (Value.int .i64 v5_3))] (by kernel_rfl) ?_
  refine RX.done (by kernel_rfl) ?_
  refine fun ss hs => (WX.nxt ?_ ss hs)
  rcases ite_some h with ⟨hp, h⟩ | ⟨hp, h⟩
  · refine WX.condT _ (decide_eq_true hp) (by kernel_rfl) ?_
    refine WX.skip (by kernel_rfl) ?_
    refine fun ss hs => (WX.nxt ?_ ss hs)
    refine WX.seq (by kernel_rfl) ?_
    refine WX.block 1 (by kernel_rfl) ?_
    refine WX.seq (by kernel_rfl) ?_
    refine WX.seq (by kernel_rfl) ?_
    refine WX.quiet (opsOf (cfst (cfst (cfst (cfst (csnd (cfst (cfst (csnd (cfst (csnd (csnd (csnd B26))))))))))))) (by kernel_rfl) (by kernel_rfl) ?_
    rcases ite_some h with ⟨hb, h⟩ | ⟨_, h⟩
    · refine QX.at (some 27) (Sl3.v x1) (by kernel_rfl) (by kernel_rfl) (by kernel_rfl) (fun ih => by kernel_rfl) (calm_sl (belowS_lt hb)) ?_
      refine QX.at (some 28) (Value.int .i64 v5_3) (by kernel_rfl) (by kernel_rfl) (by kernel_rfl) (fun ih => by kernel_rfl) calm_int ?_
      obtain ⟨p4, hx, h⟩ := bind_some h
      rcases ite_some h with ⟨hb, h⟩ | ⟨_, h⟩
      · refine QX.at (some 29) (Value.pointer (some p4)) (by kernel_rfl) (by kernel_rfl) (by kernel_rfl) (fun ih => Abs.run_idx (s := x1) (k := .i64) (t := 24) (e := 38) (x := .tmp 27) (y := .tmp 28) (by kernel_rfl) (by kernel_rfl) (by kernel_rfl) (by kernel_rfl) (by kernel_rfl) hx) (calm_ptr (below_lt hb)) ?_
        obtain ⟨x5, hx, h⟩ := bind_some h
        refine QX.at (some 30) (Value.int .u64 x5) (by kernel_rfl) (by kernel_rfl) (by kernel_rfl) (fun ih => Abs.run_load (t := 38) (x := .tmp 29) (a := p4) (by kernel_rfl) (by kernel_rfl) (by kernel_rfl) (rd_cell hx deI_inv)) calm_int ?_
        rcases ite_some h with ⟨hb, h⟩ | ⟨_, h⟩
        · refine QX.at (some 31) (Sl3.v x2) (by kernel_rfl) (by kernel_rfl) (by kernel_rfl) (fun ih => by kernel_rfl) (calm_sl (belowS_lt hb)) ?_
          refine QX.at (some 32) (Value.int .i64 v5_3) (by kernel_rfl) (by kernel_rfl) (by kernel_rfl) (fun ih => by kernel_rfl) calm_int ?_
          obtain ⟨p6, hx, h⟩ := bind_some h
          rcases ite_some h with ⟨hb, h⟩ | ⟨_, h⟩
          · refine QX.at (some 33) (Value.pointer (some p6)) (by kernel_rfl) (by kernel_rfl) (by kernel_rfl) (fun ih => Abs.run_idx (s := x2) (k := .i64) (t := 24) (e := 38) (x := .tmp 31) (y := .tmp 32) (by kernel_rfl) (by kernel_rfl) (by kernel_rfl) (by kernel_rfl) (by kernel_rfl) hx) (calm_ptr (below_lt hb)) ?_
            obtain ⟨x7, hx, h⟩ := bind_some h
            refine QX.at (some 34) (Value.int .u64 x7) (by kernel_rfl) (by kernel_rfl) (by kernel_rfl) (fun ih => Abs.run_load (t := 38) (x := .tmp 33) (a := p6) (by kernel_rfl) (by kernel_rfl) (by kernel_rfl) (rd_cell hx deI_inv)) calm_int ?_
            refine QX.at (some 35) (Value.bool (decide (x5 < x7))) (by kernel_rfl) (by kernel_rfl) (by kernel_rfl) (fun ih => by kernel_rfl) calm_bool ?_
            refine QX.done (by kernel_rfl) ?_
            refine fun ss hs => (WX.nxt ?_ ss hs)
            rcases ite_some h with ⟨hp, h⟩ | ⟨hp, h⟩
            · refine WX.condT _ (decide_eq_true hp) (by kernel_rfl) ?_
              refine WX.seq (by kernel_rfl) ?_
              refine WX.region (opsOf (cfst (cfst (csnd (cfst (cfst (cfst (csnd (cfst (cfst (csnd (cfst (csnd (csnd (csnd B26))))))))))))))) (by kernel_rfl) ?_
              refine RX.psn 1 [(4, (Value.int .i64 (-1)))] (by kernel_rfl) ?_
              refine RX.done (by kernel_rfl) ?_
              refine fun ss hs => (WX.nxt ?_ ss hs)
              refine WX.ret (by kernel_rfl) ?_
              cases h
              exact fun ss hs => seqR (blkR (seqR (lpR (rq hs (by kernel_rfl)))))
            · refine WX.condF _ (decide_eq_false hp) (by kernel_rfl) ?_
              refine WX.skip (by kernel_rfl) ?_
              refine fun ss hs => (WX.nxt ?_ ss hs)
              refine WX.seq (by kernel_rfl) ?_
              refine WX.quiet (opsOf (cfst (csnd (cfst (cfst (csnd (cfst (cfst (csnd (cfst (csnd (csnd (csnd B26))))))))))))) (by kernel_rfl) (by kernel_rfl) ?_
              rcases ite_some h with ⟨hb, h⟩ | ⟨_, h⟩
              · refine QX.at (some 36) (Sl3.v x1) (by kernel_rfl) (by kernel_rfl) (by kernel_rfl) (fun ih => by kernel_rfl) (calm_sl (belowS_lt hb)) ?_
                refine QX.at (some 37) (Value.int .i64 v5_3) (by kernel_rfl) (by kernel_rfl) (by kernel_rfl) (fun ih => by kernel_rfl) calm_int ?_
                obtain ⟨p8, hx, h⟩ := bind_some h
                rcases ite_some h with ⟨hb, h⟩ | ⟨_, h⟩
                · refine QX.at (some 38) (Value.pointer (some p8)) (by kernel_rfl) (by kernel_rfl) (by kernel_rfl) (fun ih => Abs.run_idx (s := x1) (k := .i64) (t := 24) (e := 38) (x := .tmp 36) (y := .tmp 37) (by kernel_rfl) (by kernel_rfl) (by kernel_rfl) (by kernel_rfl) (by kernel_rfl) hx) (calm_ptr (below_lt hb)) ?_
                  obtain ⟨x9, hx, h⟩ := bind_some h
                  refine QX.at (some 39) (Value.int .u64 x9) (by kernel_rfl) (by kernel_rfl) (by kernel_rfl) (fun ih => Abs.run_load (t := 38) (x := .tmp 38) (a := p8) (by kernel_rfl) (by kernel_rfl) (by kernel_rfl) (rd_cell hx deI_inv)) calm_int ?_
                  rcases ite_some h with ⟨hb, h⟩ | ⟨_, h⟩
                  · refine QX.at (some 40) (Sl3.v x2) (by kernel_rfl) (by kernel_rfl) (by kernel_rfl) (fun ih => by kernel_rfl) (calm_sl (belowS_lt hb)) ?_
                    refine QX.at (some 41) (Value.int .i64 v5_3) (by kernel_rfl) (by kernel_rfl) (by kernel_rfl) (fun ih => by kernel_rfl) calm_int ?_
                    obtain ⟨p10, hx, h⟩ := bind_some h
                    rcases ite_some h with ⟨hb, h⟩ | ⟨_, h⟩
                    · refine QX.at (some 42) (Value.pointer (some p10)) (by kernel_rfl) (by kernel_rfl) (by kernel_rfl) (fun ih => Abs.run_idx (s := x2) (k := .i64) (t := 24) (e := 38) (x := .tmp 40) (y := .tmp 41) (by kernel_rfl) (by kernel_rfl) (by kernel_rfl) (by kernel_rfl) (by kernel_rfl) hx) (calm_ptr (below_lt hb)) ?_
                      obtain ⟨x11, hx, h⟩ := bind_some h
                      refine QX.at (some 43) (Value.int .u64 x11) (by kernel_rfl) (by kernel_rfl) (by kernel_rfl) (fun ih => Abs.run_load (t := 38) (x := .tmp 42) (a := p10) (by kernel_rfl) (by kernel_rfl) (by kernel_rfl) (rd_cell hx deI_inv)) calm_int ?_
                      refine QX.at (some 44) (Value.bool (decide (x9 > x11))) (by kernel_rfl) (by kernel_rfl) (by kernel_rfl) (fun ih => by kernel_rfl) calm_bool ?_
                      refine QX.done (by kernel_rfl) ?_
                      refine fun ss hs => (WX.nxt ?_ ss hs)
                      rcases ite_some h with ⟨hp, h⟩ | ⟨hp, h⟩
                      · refine WX.condT _ (decide_eq_true hp) (by kernel_rfl) ?_
                        refine WX.seq (by kernel_rfl) ?_
                        refine WX.region (opsOf (cfst (cfst (csnd (csnd (cfst (cfst (csnd (cfst (cfst (csnd (cfst (csnd (csnd (csnd B26))))))))))))))) (by kernel_rfl) ?_
                        refine RX.psn 1 [(4, (Value.int .i64 1))] (by kernel_rfl) ?_
                        refine RX.done (by kernel_rfl) ?_
                        refine fun ss hs => (WX.nxt ?_ ss hs)
                        refine WX.ret (by kernel_rfl) ?_
                        cases h
                        exact fun ss hs => blkR (seqR (lpR (rq hs (by kernel_rfl))))
                      · refine WX.condF _ (decide_eq_false hp) (by kernel_rfl) ?_
                        refine WX.skip (by kernel_rfl) ?_
                        refine fun ss hs => blkN ((WX.nxt ?_ ss hs))
                        refine WX.region (opsOf (csnd (csnd (cfst (cfst (csnd (cfst (csnd (csnd (csnd B26)))))))))) (by kernel_rfl) ?_
                        refine RX.psn 3 [(5, (Value.int .i64 (IntKind.i64.wrap (v5_3 - 1)))), (26, (Value.int .i64 (IntKind.i64.wrap (v5_3 - 1)))), (25, (Value.int .i64 v5_3))] (by kernel_rfl) ?_
                        refine RX.done (by kernel_rfl) ?_
                        cases h
                        exact fun ss hs => lpN rfl (hs.sub ((SubK.cons (by kernel_rfl) (SubK.cons (by kernel_rfl) (SubK.cons (by kernel_rfl) SubK.nil)))))
                    · cases h
                  · cases h
                · cases h
              · cases h
          · cases h
        · cases h
      · cases h
    · cases h
  · refine WX.condF _ (decide_eq_false hp) (by kernel_rfl) ?_
    refine WX.exit 0 (by kernel_rfl) ?_
    cases h
    exact fun ss hs => seqE (lpB rfl (hs.sub ((SubK.cons (by kernel_rfl) (SubK.cons (by kernel_rfl) (SubK.cons (by kernel_rfl) SubK.nil))))))

theorem nat_Cmp_ok {H : AH} {a0 : Sl3} {a1 : Sl3} {r : Int} (h : nat_Cmp H a0 a1 = some r) :
    CallE Try.prog 1000 4294967296 26 #[(Sl3.v a0), (Sl3.v a1)] H (nat_Cmp_enc r) (nat_Cmp_hp H r) := by
  refine CallE.mk (args := [(Sl3.v a0), (Sl3.v a1)]) Try.func26 (B := B26) (by kernel_rfl) ?_
  unfold nat_Cmp at h
  refine WX.seq (by kernel_rfl) ?_
  refine WX.region (opsOf (cfst B26)) (by kernel_rfl) ?_
  refine RX.psn 1 [(4, (Value.int .i64 0))] (by kernel_rfl) ?_
  refine RX.done (by kernel_rfl) ?_
  refine fun ss hs => (WX.nxt ?_ ss hs)
  refine WX.seq (by kernel_rfl) ?_
  refine WX.region (opsOf (cfst (csnd B26))) (by kernel_rfl) ?_
  refine RX.psn 1 [(6, (Sl3.v a0))] (by kernel_rfl) ?_
  obtain ⟨x1, hx, h⟩ := bind_some h
  refine RX.callAt (some 7) (v := (Sl3.v x1)) 44 #[(Sl3.v a0)] (by kernel_rfl) (by kernel_rfl) (by kernel_rfl) (nat_trim_ok hx) ?_
  refine RX.psn 1 [(8, (Sl3.v a1))] (by kernel_rfl) ?_
  obtain ⟨x2, hx, h⟩ := bind_some h
  refine RX.callAt (some 9) (v := (Sl3.v x2)) 44 #[(Sl3.v a1)] (by kernel_rfl) (by kernel_rfl) (by kernel_rfl) (nat_trim_ok hx) ?_
  refine RX.psn 2 [(1, (Sl3.v x2)), (0, (Sl3.v x1))] (by kernel_rfl) ?_
  refine RX.done (by kernel_rfl) ?_
  refine fun ss hs => (WX.nxt ?_ ss hs)
  refine WX.seq (by kernel_rfl) ?_
  refine WX.seq (by kernel_rfl) ?_
  refine WX.region (opsOf (cfst (cfst (csnd (csnd B26))))) (by kernel_rfl) ?_
  refine RX.psn 5 [(14, (Value.bool (!decide ((x1.n : Int) = (x2.n : Int))))), (13, (Value.int .i64 (x2.n : Int))), (12, (Sl3.v x2)), (11, (Value.int .i64 (x1.n : Int))), (10, (Sl3.v x1))] (by kernel_rfl) ?_
  refine RX.done (by kernel_rfl) ?_
  refine fun ss hs => (WX.nxt ?_ ss hs)
  rcases ite_some h with ⟨hp, h⟩ | ⟨hp, h⟩
  · refine WX.condF _ (dec_not hp) (by kernel_rfl) ?_
    refine WX.skip (by kernel_rfl) ?_
    refine fun ss hs => (WX.nxt ?_ ss hs)
    refine WX.seq (by kernel_rfl) ?_
    refine WX.seq (by kernel_rfl) ?_
    refine WX.region (opsOf (cfst (cfst (csnd (csnd (csnd B26)))))) (by kernel_rfl) ?_
    refine RX.psn 4 [(5, (Value.int .i64 (IntKind.i64.wrap ((x1.n : Int) - 1)))), (22, (Value.int .i64 (IntKind.i64.wrap ((x1.n : Int) - 1)))), (21, (Value.int .i64 (x1.n : Int))), (20, (Sl3.v x1))] (by kernel_rfl) ?_
    refine RX.done (by kernel_rfl) ?_
    refine fun ss hs => (WX.nxt ?_ ss hs)
    refine WX.block 0 (by kernel_rfl) ?_
    obtain ⟨o, hl, h⟩ := bind_some h
    rcases o with v5_12 | r
    · dsimp only at h
      refine WX.loopI (by kernel_rfl) (nat_Cmp_b0 H x1 x2) (nat_Cmp_b0_kn H x1 x2) (fun _ => H) 0 (fun r => RQ Try.f26 (nat_Cmp_enc r) (nat_Cmp_hp H r)) nat_Cmp_b0_ok hl ((SubK.cons (by kernel_rfl) (SubK.cons (by kernel_rfl) (SubK.cons (by kernel_rfl) SubK.nil)))) rfl ?_
      clear hl
      refine fun ss hs => blkE ((WX.nxt ?_ ss hs))
      refine WX.seq (by kernel_rfl) ?_
      refine WX.region (opsOf (cfst (csnd (csnd (csnd (csnd B26)))))) (by kernel_rfl) ?_
      refine RX.psn 1 [(4, (Value.int .i64 0))] (by kernel_rfl) ?_
      refine RX.done (by kernel_rfl) ?_
      refine fun ss hs => (WX.nxt ?_ ss hs)
      refine WX.ret (by kernel_rfl) ?_
      cases h
      exact fun ss hs => retR (rq hs (by kernel_rfl))
    · dsimp only at h
      refine WX.loopR (by kernel_rfl) (nat_Cmp_b0 H x1 x2) (nat_Cmp_b0_kn H x1 x2) (fun _ => H) 0 (fun r => RQ Try.f26 (nat_Cmp_enc r) (nat_Cmp_hp H r)) nat_Cmp_b0_ok hl ((SubK.cons (by kernel_rfl) (SubK.cons (by kernel_rfl) (SubK.cons (by kernel_rfl) SubK.nil)))) rfl ?_
      cases h
      exact fun ss H hq => blkR (seqR (retR hq))
  · refine WX.condT _ (dec_not' hp) (by kernel_rfl) ?_
    refine WX.seq (by kernel_rfl) ?_
    refine WX.seq (by kernel_rfl) ?_
    refine WX.region (opsOf (cfst (cfst (cfst (csnd (cfst (csnd (csnd B26)))))))) (by kernel_rfl) ?_
    refine RX.psn 5 [(19, (Value.bool (decide ((x1.n : Int) < (x2.n : Int))))), (18, (Value.int .i64 (x2.n : Int))), (17, (Sl3.v x2)), (16, (Value.int .i64 (x1.n : Int))), (15, (Sl3.v x1))] (by kernel_rfl) ?_
    refine RX.done (by kernel_rfl) ?_
    refine fun ss hs => (WX.nxt ?_ ss hs)
    rcases ite_some h with ⟨hp, h⟩ | ⟨hp, h⟩
    · refine WX.condT _ (decide_eq_true hp) (by kernel_rfl) ?_
      refine WX.seq (by kernel_rfl) ?_
      refine WX.region (opsOf (cfst (cfst (csnd (cfst (cfst (csnd (cfst (csnd (csnd B26)))))))))) (by kernel_rfl) ?_
      refine RX.psn 1 [(4, (Value.int .i64 (-1)))] (by kernel_rfl) ?_
      refine RX.done (by kernel_rfl) ?_
      refine fun ss hs => (WX.nxt ?_ ss hs)
      refine WX.ret (by kernel_rfl) ?_
      cases h
      exact fun ss hs => seqR (seqR (retR (rq hs (by kernel_rfl))))
    · refine WX.condF _ (decide_eq_false hp) (by kernel_rfl) ?_
      refine WX.skip (by kernel_rfl) ?_
      refine fun ss hs => (WX.nxt ?_ ss hs)
      refine WX.seq (by kernel_rfl) ?_
      refine WX.region (opsOf (cfst (csnd (cfst (csnd (cfst (csnd (csnd B26)))))))) (by kernel_rfl) ?_
      refine RX.psn 1 [(4, (Value.int .i64 1))] (by kernel_rfl) ?_
      refine RX.done (by kernel_rfl) ?_
      refine fun ss hs => (WX.nxt ?_ ss hs)
      refine WX.ret (by kernel_rfl) ?_
      cases h
      exact fun ss hs => seqR (retR (rq hs (by kernel_rfl)))

noncomputable def B41 : Code := (Try.f41.body).getD .skip

def nat_long_enc : Bool → Value
  | r0 => (Value.bool r0)

def nat_long_hp (H : AH) : Bool → AH := fun _ => H

noncomputable def nat_long_b0 (H : AH) (a0 : Sl3) : Int → Option (Lp Int Bool) := fun v7_1 =>
  if v7_1 < (a0.n : Int) then
    Option.bind (idxA 1 a0 v7_1) fun p2 =>
    Option.bind (rd deSl H p2) fun x3 =>
    Option.bind (nat_trim H x3) fun x4 =>
    if (x4.n : Int) > 4096 then
      some (.ret true)
    else
      some (.next (IntKind.i64.wrap (v7_1 + 1)))
  else
    some (.brk v7_1)

def nat_long_b0_kn (H : AH) (a0 : Sl3) : Int → Kn := fun v7_1 => [(7, (Value.int .i64 v7_1)), (5, (Sl3.v a0)), (6, (Value.int .i64 (a0.n : Int)))]

noncomputable def nat_long (H : AH) (a0 : Sl3) : Option Bool :=
  Option.bind (loopO (nat_long_b0 H a0) 0) fun o => match o with
  | .inl v7_5 =>
    some false
  | .inr r => some r

theorem nat_long_b0_ok {H : AH} {a0 : Sl3} : ∀ s o, nat_long_b0 H a0 s = some o →
    WX Try.prog 1000 4294967296 Try.f41.ntmps (cfst (cfst (csnd (cfst (csnd B41))))) (nat_long_b0_kn H a0 s) ((fun _ => H) s) (lpQ (nat_long_b0_kn H a0) (fun _ => H) 0 (fun r => RQ Try.f41 (nat_long_enc r) (nat_long_hp H r)) o) := by
  rintro v7_1 o h
  unfold nat_long_b0 at h
  try dsimp only at h
  refine WX.seq (by kernel_rfl) ?_
  refine WX.region (opsOf (cfst (cfst (cfst (csnd (cfst (csnd B41))))))) (by kernel_rfl) ?_
  refine RX.psn 1 [(8, (Value.bool (decide (v7_1 < (a0.n : Int)))))] (by kernel_rfl) ?_
  refine RX.done (by kernel_rfl) ?_
  refine fun ss hs => (WX.nxt ?_ ss hs)
  refine WX.seq (by kernel_rfl) ?_
  rcases ite_some h with ⟨hp, h⟩ | ⟨hp, h⟩
  · refine WX.condT _ (decide_eq_true hp) (by kernel_rfl) ?_
    refine WX.skip (by kernel_rfl) ?_
    refine fun ss hs => (WX.nxt ?_ ss hs)
    refine WX.seq (by kernel_rfl) ?_
    refine WX.block 1 (by kernel_rfl) ?_
    refine WX.seq (by kernel_rfl) ?_
    refine WX.region (opsOf (cfst (cfst (cfst (csnd (csnd (cfst (cfst (csnd (cfst (csnd B41))))))))))) (by kernel_rfl) ?_
    obtain ⟨p2, hx, h⟩ := bind_some h
    refine RX.at (some 9) (Value.pointer (some p2)) (by kernel_rfl) (by kernel_rfl) (fun ih => Abs.run_idx (s := a0) (k := .i64) (t := 22) (e := 24) (x := .tmp 5) (y := .tmp 7) (by kernel_rfl) (by kernel_rfl) (by kernel_rfl) (by kernel_rfl) (by kernel_rfl) hx) ?_
    obtain ⟨x3, hx, h⟩ := bind_some h
    refine RX.at (some 10) (Sl3.v x3) (by kernel_rfl) (by kernel_rfl) (fun ih => Abs.run_load (t := 24) (x := .tmp 9) (a := p2) (by kernel_rfl) (by kernel_rfl) (by kernel_rfl) (rd_cell hx deSl_inv)) ?_
    refine RX.psn 1 [(4, (Sl3.v x3))] (by kernel_rfl) ?_
    refine RX.done (by kernel_rfl) ?_
    refine fun ss hs => (WX.nxt ?_ ss hs)
    refine WX.seq (by kernel_rfl) ?_
    refine WX.region (opsOf (cfst (csnd (cfst (cfst (csnd (csnd (cfst (cfst (csnd (cfst (csnd B41)))))))))))) (by kernel_rfl) ?_
    refine RX.psn 1 [(11, (Sl3.v x3))] (by kernel_rfl) ?_
    obtain ⟨x4, hx, h⟩ := bind_some h
    refine RX.callAt (some 12) (v := (Sl3.v x4)) 44 #[(Sl3.v x3)] (by kernel_rfl) (by kernel_rfl) (by kernel_rfl) (nat_trim_ok hx) ?_
    refine RX.psn 2 [(14, (Value.bool (decide ((x4.n : Int) > 4096)))), (13, (Value.int .i64 (x4.n : Int)))] (by kernel_rfl) ?_
    refine RX.done (by kernel_rfl) ?_
    refine fun ss hs => (WX.nxt ?_ ss hs)
    rcases ite_some h with ⟨hp, h⟩ | ⟨hp, h⟩
    · refine WX.condT _ (decide_eq_true hp) (by kernel_rfl) ?_
      refine WX.seq (by kernel_rfl) ?_
      refine WX.region (opsOf (cfst (cfst (csnd (csnd (cfst (cfst (csnd (csnd (cfst (cfst (csnd (cfst (csnd B41)))))))))))))) (by kernel_rfl) ?_
      refine RX.psn 1 [(2, (Value.bool true))] (by kernel_rfl) ?_
      refine RX.done (by kernel_rfl) ?_
      refine fun ss hs => (WX.nxt ?_ ss hs)
      refine WX.ret (by kernel_rfl) ?_
      cases h
      exact fun ss hs => blkR (seqR (lpR (rq hs (by kernel_rfl))))
    · refine WX.condF _ (decide_eq_false hp) (by kernel_rfl) ?_
      refine WX.skip (by kernel_rfl) ?_
      refine fun ss hs => blkN ((WX.nxt ?_ ss hs))
      refine WX.region (opsOf (csnd (csnd (csnd (cfst (cfst (csnd (cfst (csnd B41))))))))) (by kernel_rfl) ?_
      refine RX.psn 2 [(7, (Value.int .i64 (IntKind.i64.wrap (v7_1 + 1)))), (15, (Value.int .i64 (IntKind.i64.wrap (v7_1 + 1))))] (by kernel_rfl) ?_
      refine RX.done (by kernel_rfl) ?_
      cases h
      exact fun ss hs => lpN rfl (hs.sub ((SubK.cons (by kernel_rfl) (SubK.cons (by kernel_rfl) (SubK.cons (by kernel_rfl) SubK.nil)))))
  · refine WX.condF _ (decide_eq_false hp) (by kernel_rfl) ?_
    refine WX.exit 0 (by kernel_rfl) ?_
    cases h
    exact fun ss hs => seqE (lpB rfl (hs.sub ((SubK.cons (by kernel_rfl) (SubK.cons (by kernel_rfl) (SubK.cons (by kernel_rfl) SubK.nil))))))

theorem nat_long_ok {H : AH} {a0 : Sl3} {r : Bool} (h : nat_long H a0 = some r) :
    CallE Try.prog 1000 4294967296 41 #[(Sl3.v a0)] H (nat_long_enc r) (nat_long_hp H r) := by
  refine CallE.mk (args := [(Sl3.v a0)]) Try.func41 (B := B41) (by kernel_rfl) ?_
  unfold nat_long at h
  refine WX.seq (by kernel_rfl) ?_
  refine WX.region (opsOf (cfst B41)) (by kernel_rfl) ?_
  refine RX.psn 1 [(2, (Value.bool false))] (by kernel_rfl) ?_
  refine RX.done (by kernel_rfl) ?_
  refine fun ss hs => (WX.nxt ?_ ss hs)
  refine WX.seq (by kernel_rfl) ?_
  refine WX.seq (by kernel_rfl) ?_
  refine WX.region (opsOf (cfst (cfst (csnd B41)))) (by kernel_rfl) ?_
  refine RX.psn 3 [(7, (Value.int .i64 0)), (6, (Value.int .i64 (a0.n : Int))), (5, (Sl3.v a0))] (by kernel_rfl) ?_
  refine RX.done (by kernel_rfl) ?_
  refine fun ss hs => (WX.nxt ?_ ss hs)
  refine WX.block 0 (by kernel_rfl) ?_
  obtain ⟨o, hl, h⟩ := bind_some h
  rcases o with v7_5 | r
  · dsimp only at h
    refine WX.loopI (by kernel_rfl) (nat_long_b0 H a0) (nat_long_b0_kn H a0) (fun _ => H) 0 (fun r => RQ Try.f41 (nat_long_enc r) (nat_long_hp H r)) nat_long_b0_ok hl ((SubK.cons (by kernel_rfl) (SubK.cons (by kernel_rfl) (SubK.cons (by kernel_rfl) SubK.nil)))) rfl ?_
    clear hl
    refine fun ss hs => blkE ((WX.nxt ?_ ss hs))
    refine WX.seq (by kernel_rfl) ?_
    refine WX.region (opsOf (cfst (csnd (csnd B41)))) (by kernel_rfl) ?_
    refine RX.psn 1 [(2, (Value.bool false))] (by kernel_rfl) ?_
    refine RX.done (by kernel_rfl) ?_
    refine fun ss hs => (WX.nxt ?_ ss hs)
    refine WX.ret (by kernel_rfl) ?_
    cases h
    exact fun ss hs => retR (rq hs (by kernel_rfl))
  · dsimp only at h
    refine WX.loopR (by kernel_rfl) (nat_long_b0 H a0) (nat_long_b0_kn H a0) (fun _ => H) 0 (fun r => RQ Try.f41 (nat_long_enc r) (nat_long_hp H r)) nat_long_b0_ok hl ((SubK.cons (by kernel_rfl) (SubK.cons (by kernel_rfl) (SubK.cons (by kernel_rfl) SubK.nil)))) rfl ?_
    cases h
    exact fun ss H hq => blkR (seqR (retR hq))

noncomputable def B43 : Code := (Try.f43.body).getD .skip

def nat_Mul_1_enc : Bool → Value
  | r0 => (Value.bool r0)

def nat_Mul_1_hp (H : AH) : Bool → AH := fun _ => H

noncomputable def nat_Mul_1 (H : AH) (a0 : Sl3) : Option Bool :=
  Option.bind (nat_trim H a0) fun x1 =>
  some (decide ((x1.n : Int) = 0))

theorem nat_Mul_1_ok {H : AH} {a0 : Sl3} {r : Bool} (h : nat_Mul_1 H a0 = some r) :
    CallE Try.prog 1000 4294967296 43 #[(Sl3.v a0)] H (nat_Mul_1_enc r) (nat_Mul_1_hp H r) := by
  refine CallE.mk (args := [(Sl3.v a0)]) Try.func43 (B := B43) (by kernel_rfl) ?_
  unfold nat_Mul_1 at h
  refine WX.seq (by kernel_rfl) ?_
  refine WX.region (opsOf (cfst B43)) (by kernel_rfl) ?_
  refine RX.psn 1 [(2, (Value.bool false))] (by kernel_rfl) ?_
  refine RX.done (by kernel_rfl) ?_
  refine fun ss hs => (WX.nxt ?_ ss hs)
  refine WX.seq (by kernel_rfl) ?_
  refine WX.region (opsOf (cfst (csnd B43))) (by kernel_rfl) ?_
  refine RX.psn 1 [(3, (Sl3.v a0))] (by kernel_rfl) ?_
  obtain ⟨x1, hx, h⟩ := bind_some h
  refine RX.callAt (some 4) (v := (Sl3.v x1)) 44 #[(Sl3.v a0)] (by kernel_rfl) (by kernel_rfl) (by kernel_rfl) (nat_trim_ok hx) ?_
  refine RX.psn 3 [(2, (Value.bool (decide ((x1.n : Int) = 0)))), (6, (Value.bool (decide ((x1.n : Int) = 0)))), (5, (Value.int .i64 (x1.n : Int)))] (by kernel_rfl) ?_
  refine RX.done (by kernel_rfl) ?_
  refine fun ss hs => (WX.nxt ?_ ss hs)
  refine WX.ret (by kernel_rfl) ?_
  cases h
  exact fun ss hs => retR (rq hs (by kernel_rfl))

end Go.Proofs.Ytoadagekdnkciaa

namespace Go.Proofs.Ytoadagekdnkciaa
open Go Go.Abs
set_option maxRecDepth 100000

noncomputable def B70 : Code := (Try.f70.body).getD .skip

def slices_IndexFunc__43_enc : Int → Value
  | r0 => (Value.int .i64 r0)

def slices_IndexFunc__43_hp (H : AH) : Int → AH := fun _ => H

noncomputable def slices_IndexFunc__43_b0 (H : AH) (a0 : Sl3) : Int → Option (Lp Int Int) := fun v8_1 =>
  if v8_1 < (a0.n : Int) then
    Option.bind (idxA 1 a0 v8_1) fun p2 =>
    Option.bind (rd deSl H p2) fun x3 =>
    Option.bind (nat_Mul_1 H x3) fun x4 =>
    if x4 = true then
      some (.ret v8_1)
    else
      some (.next (IntKind.i64.wrap (v8_1 + 1)))
  else
    some (.brk v8_1)

def slices_IndexFunc__43_b0_kn (H : AH) (a0 : Sl3) : Int → Kn := fun v8_1 => [(8, (Value.int .i64 v8_1)), (0, (Sl3.v a0)), (1, (Value.func (.func 43) #[] #[])), (7, (Value.int .i64 (a0.n : Int)))]

noncomputable def slices_IndexFunc__43 (H : AH) (a0 : Sl3) : Option Int :=
  Option.bind (loopO (slices_IndexFunc__43_b0 H a0) 0) fun o => match o with
  | .inl v8_5 =>
    some (-1)
  | .inr r => some r

theorem slices_IndexFunc__43_b0_ok {H : AH} {a0 : Sl3} : ∀ s o, slices_IndexFunc__43_b0 H a0 s = some o →
    WX Try.prog 1000 4294967296 Try.f70.ntmps (cfst (cfst (csnd (cfst (csnd B70))))) (slices_IndexFunc__43_b0_kn H a0 s) ((fun _ => H) s) (lpQ (slices_IndexFunc__43_b0_kn H a0) (fun _ => H) 0 (fun r => RQ Try.f70 (slices_IndexFunc__43_enc r) (slices_IndexFunc__43_hp H r)) o) := by
  rintro v8_1 o h
  unfold slices_IndexFunc__43_b0 at h
  try dsimp only at h
  refine WX.seq (by kernel_rfl) ?_
  refine WX.region (opsOf (cfst (cfst (cfst (csnd (cfst (csnd B70))))))) (by kernel_rfl) ?_
  refine RX.psn 1 [(9, (Value.bool (decide (v8_1 < (a0.n : Int)))))] (by kernel_rfl) ?_
  refine RX.done (by kernel_rfl) ?_
  refine fun ss hs => (WX.nxt ?_ ss hs)
  refine WX.seq (by kernel_rfl) ?_
  rcases ite_some h with ⟨hp, h⟩ | ⟨hp, h⟩
  · refine WX.condT _ (decide_eq_true hp) (by kernel_rfl) ?_
    refine WX.skip (by kernel_rfl) ?_
    refine fun ss hs => (WX.nxt ?_ ss hs)
    refine WX.seq (by kernel_rfl) ?_
    refine WX.block 1 (by kernel_rfl) ?_
    refine WX.seq (by kernel_rfl) ?_
    refine WX.region (opsOf (cfst (cfst (cfst (csnd (csnd (cfst (cfst (csnd (cfst (csnd B70))))))))))) (by kernel_rfl) ?_
    refine RX.psn 2 [(5, (Value.int .i64 v8_1)), (10, (Value.int .i64 v8_1))] (by kernel_rfl) ?_
    refine RX.done (by kernel_rfl) ?_
    refine fun ss hs => (WX.nxt ?_ ss hs)
    refine WX.seq (by kernel_rfl) ?_
    refine WX.region (opsOf (cfst (csnd (cfst (cfst (csnd (csnd (cfst (cfst (csnd (cfst (csnd B70)))))))))))) (by kernel_rfl) ?_
    refine RX.psn 3 [(13, (Value.int .i64 v8_1)), (12, (Sl3.v a0)), (11, (Value.func (.func 43) #[] #[]))] (by kernel_rfl) ?_
    obtain ⟨p2, hx, h⟩ := bind_some h
    refine RX.at (some 14) (Value.pointer (some p2)) (by kernel_rfl) (by kernel_rfl) (fun ih => Abs.run_idx (s := a0) (k := .i64) (t := 22) (e := 24) (x := .tmp 12) (y := .tmp 13) (by kernel_rfl) (by kernel_rfl) (by kernel_rfl) (by kernel_rfl) (by kernel_rfl) hx) ?_
    obtain ⟨x3, hx, h⟩ := bind_some h
    refine RX.at (some 15) (Sl3.v x3) (by kernel_rfl) (by kernel_rfl) (fun ih => Abs.run_load (t := 24) (x := .tmp 14) (a := p2) (by kernel_rfl) (by kernel_rfl) (by kernel_rfl) (rd_cell hx deSl_inv)) ?_
    obtain ⟨x4, hx, h⟩ := bind_some h
    refine RX.callAt (some 16) (v := (Value.bool x4)) 43 #[(Sl3.v x3)] (by kernel_rfl) (by kernel_rfl) (by kernel_rfl) (nat_Mul_1_ok hx) ?_
    refine RX.done (by kernel_rfl) ?_
    refine fun ss hs => (WX.nxt ?_ ss hs)
    rcases ite_some h with ⟨hp, h⟩ | ⟨hp, h⟩
    · refine WX.condT _ hp (by kernel_rfl) ?_
      refine WX.seq (by kernel_rfl) ?_
      refine WX.region (opsOf (cfst (cfst (csnd (csnd (cfst (cfst (csnd (csnd (cfst (cfst (csnd (cfst (csnd B70)))))))))))))) (by kernel_rfl) ?_
      refine RX.psn 2 [(4, (Value.int .i64 v8_1)), (17, (Value.int .i64 v8_1))] (by kernel_rfl) ?_
      refine RX.done (by kernel_rfl) ?_
      refine fun ss hs => (WX.nxt ?_ ss hs)
      refine WX.ret (by kernel_rfl) ?_
      cases h
      exact fun ss hs => blkR (seqR (lpR (rq hs (by kernel_rfl))))
    · refine WX.condF _ (b_not hp) (by kernel_rfl) ?_
      refine WX.skip (by kernel_rfl) ?_
      refine fun ss hs => blkN ((WX.nxt ?_ ss hs))
      refine WX.region (opsOf (csnd (csnd (csnd (cfst (cfst (csnd (cfst (csnd B70))))))))) (by kernel_rfl) ?_
      refine RX.psn 2 [(8, (Value.int .i64 (IntKind.i64.wrap (v8_1 + 1)))), (18, (Value.int .i64 (IntKind.i64.wrap (v8_1 + 1))))] (by kernel_rfl) ?_
      refine RX.done (by kernel_rfl) ?_
      cases h
      exact fun ss hs => lpN rfl (hs.sub ((SubK.cons (by kernel_rfl) (SubK.cons (by kernel_rfl) (SubK.cons (by kernel_rfl) (SubK.cons (by kernel_rfl) SubK.nil))))))
  · refine WX.condF _ (decide_eq_false hp) (by kernel_rfl) ?_
    refine WX.exit 0 (by kernel_rfl) ?_
    cases h
    exact fun ss hs => seqE (lpB rfl (hs.sub ((SubK.cons (by kernel_rfl) (SubK.cons (by kernel_rfl) (SubK.cons (by kernel_rfl) (SubK.cons (by kernel_rfl) SubK.nil)))))))

theorem slices_IndexFunc__43_ok {H : AH} {a0 : Sl3} {r : Int} (h : slices_IndexFunc__43 H a0 = some r) :
    CallE Try.prog 1000 4294967296 70 #[(Sl3.v a0), (Value.func (.func 43) #[] #[])] H (slices_IndexFunc__43_enc r) (slices_IndexFunc__43_hp H r) := by
  refine CallE.mk (args := [(Sl3.v a0), (Value.func (.func 43) #[] #[])]) Try.func70 (B := B70) (by kernel_rfl) ?_
  unfold slices_IndexFunc__43 at h
  refine WX.seq (by kernel_rfl) ?_
  refine WX.region (opsOf (cfst B70)) (by kernel_rfl) ?_
  refine RX.psn 1 [(4, (Value.int .i64 0))] (by kernel_rfl) ?_
  refine RX.done (by kernel_rfl) ?_
  refine fun ss hs => (WX.nxt ?_ ss hs)
  refine WX.seq (by kernel_rfl) ?_
  refine WX.seq (by kernel_rfl) ?_
  refine WX.region (opsOf (cfst (cfst (csnd B70)))) (by kernel_rfl) ?_
  refine RX.psn 3 [(8, (Value.int .i64 0)), (7, (Value.int .i64 (a0.n : Int))), (6, (Sl3.v a0))] (by kernel_rfl) ?_
  refine RX.done (by kernel_rfl) ?_
  refine fun ss hs => (WX.nxt ?_ ss hs)
  refine WX.block 0 (by kernel_rfl) ?_
  obtain ⟨o, hl, h⟩ := bind_some h
  rcases o with v8_5 | r
  · dsimp only at h
    refine WX.loopI (by kernel_rfl) (slices_IndexFunc__43_b0 H a0) (slices_IndexFunc__43_b0_kn H a0) (fun _ => H) 0 (fun r => RQ Try.f70 (slices_IndexFunc__43_enc r) (slices_IndexFunc__43_hp H r)) slices_IndexFunc__43_b0_ok hl ((SubK.cons (by kernel_rfl) (SubK.cons (by kernel_rfl) (SubK.cons (by kernel_rfl) (SubK.cons (by kernel_rfl) SubK.nil))))) rfl ?_
    clear hl
    refine fun ss hs => blkE ((WX.nxt ?_ ss hs))
    refine WX.seq (by kernel_rfl) ?_
    refine WX.region (opsOf (cfst (csnd (csnd B70)))) (by kernel_rfl) ?_
    refine RX.psn 1 [(4, (Value.int .i64 (-1)))] (by kernel_rfl) ?_
    refine RX.done (by kernel_rfl) ?_
    refine fun ss hs => (WX.nxt ?_ ss hs)
    refine WX.ret (by kernel_rfl) ?_
    cases h
    exact fun ss hs => retR (rq hs (by kernel_rfl))
  · dsimp only at h
    refine WX.loopR (by kernel_rfl) (slices_IndexFunc__43_b0 H a0) (slices_IndexFunc__43_b0_kn H a0) (fun _ => H) 0 (fun r => RQ Try.f70 (slices_IndexFunc__43_enc r) (slices_IndexFunc__43_hp H r)) slices_IndexFunc__43_b0_ok hl ((SubK.cons (by kernel_rfl) (SubK.cons (by kernel_rfl) (SubK.cons (by kernel_rfl) (SubK.cons (by kernel_rfl) SubK.nil))))) rfl ?_
    cases h
    exact fun ss H hq => blkR (seqR (retR hq))

noncomputable def B42 : Code := (Try.f42.body).getD .skip

def slices_ContainsFunc__43_enc : Bool → Value
  | r0 => (Value.bool r0)

def slices_ContainsFunc__43_hp (H : AH) : Bool → AH := fun _ => H

noncomputable def slices_ContainsFunc__43 (H : AH) (a0 : Sl3) : Option Bool :=
  Option.bind (slices_IndexFunc__43 H a0) fun x1 =>
  some (decide (x1 ≥ 0))

theorem slices_ContainsFunc__43_ok {H : AH} {a0 : Sl3} {r : Bool} (h : slices_ContainsFunc__43 H a0 = some r) :
    CallE Try.prog 1000 4294967296 42 #[(Sl3.v a0), (Value.func (.func 43) #[] #[])] H (slices_ContainsFunc__43_enc r) (slices_ContainsFunc__43_hp H r) := by
  refine CallE.mk (args := [(Sl3.v a0), (Value.func (.func 43) #[] #[])]) Try.func42 (B := B42) (by kernel_rfl) ?_
  unfold slices_ContainsFunc__43 at h
  refine WX.seq (by kernel_rfl) ?_
  refine WX.region (opsOf (cfst B42)) (by kernel_rfl) ?_
  refine RX.psn 1 [(4, (Value.bool false))] (by kernel_rfl) ?_
  refine RX.done (by kernel_rfl) ?_
  refine fun ss hs => (WX.nxt ?_ ss hs)
  refine WX.seq (by kernel_rfl) ?_
  refine WX.region (opsOf (cfst (csnd B42))) (by kernel_rfl) ?_
  refine RX.psn 2 [(6, (Value.func (.func 43) #[] #[])), (5, (Sl3.v a0))] (by kernel_rfl) ?_
  obtain ⟨x1, hx, h⟩ := bind_some h
  refine RX.callAt (some 7) (v := (Value.int .i64 x1)) 70 #[(Sl3.v a0), (Value.func (.func 43) #[] #[])] (by kernel_rfl) (by kernel_rfl) (by kernel_rfl) (slices_IndexFunc__43_ok hx) ?_
  refine RX.psn 2 [(4, (Value.bool (decide (x1 ≥ 0)))), (8, (Value.bool (decide (x1 ≥ 0))))] (by kernel_rfl) ?_
  refine RX.done (by kernel_rfl) ?_
  refine fun ss hs => (WX.nxt ?_ ss hs)
  refine WX.ret (by kernel_rfl) ?_
  cases h
  exact fun ss hs => retR (rq hs (by kernel_rfl))

theorem ext72_ok {H : AH} {x y c a b : Int} (h : add64 x y c = some (a, b)) : CallE Try.prog 1000 4294967296 72 #[Value.int .u64 x, Value.int .u64 y, Value.int .u64 c] H (Value.tuple #[Value.int .u64 a, Value.int .u64 b]) H := by
  unfold add64 at h
  rcases ite_some h with ⟨hc, h⟩ | ⟨_, h⟩
  · cases h
    rcases hc with rfl | rfl
    · exact extern_call Try.func72 (by kernel_rfl) (by kernel_rfl) (by kernel_rfl) (by kernel_rfl)
    · exact extern_call Try.func72 (by kernel_rfl) (by kernel_rfl) (by kernel_rfl) (by kernel_rfl)
  · cases h

noncomputable def B45 : Code := (Try.f45.body).getD .skip

def nat_mul_enc : (Sl3 × AH) → Value
  | (r0, _) => (Sl3.v r0)

def nat_mul_hp (_ : AH) : (Sl3 × AH) → AH := fun r => r.2

noncomputable def nat_mul_b1 (a0 : Sl3) (a1 : Sl3) (s1 : Sl3) (v22_4 : Int) (x6 : Int) : (AH × Int × Int) → Option (Lp (AH × Int × Int) (Sl3 × AH)) := fun (H7, v8_8, v29_9) =>
  if v29_9 < (a1.n : Int) then
    Option.bind (idxA 1 a1 v29_9) fun p10 =>
    Option.bind (rd (deI .u64) H7 p10) fun x11 =>
    Option.bind (bits_Mul64 x6 x11) fun (x12, x13) =>
    Option.bind (idxA 1 s1 (IntKind.i64.wrap (v22_4 + v29_9))) fun p14 =>
    Option.bind (rd (deI .u64) H7 p14) fun x15 =>
    Option.bind (add64 x13 x15 0) fun (x16, x17) =>
    Option.bind (add64 x16 v8_8 0) fun (x18, x19) =>
    Option.bind (idxA 1 s1 (IntKind.i64.wrap (v22_4 + v29_9))) fun p20 =>
    Option.bind (H7.setCell 4294967296 p20 (Value.int .u64 x18)) fun H21 =>
    some (.next (H21, (IntKind.u64.wrap ((IntKind.u64.wrap (x12 + x17)) + x19)), (IntKind.i64.wrap (v29_9 + 1))))
  else
    some (.brk (H7, v8_8, v29_9))

def nat_mul_b1_kn (a0 : Sl3) (a1 : Sl3) (s1 : Sl3) (v22_4 : Int) (x6 : Int) : (AH × Int × Int) → Kn := fun (H7, v8_8, v29_9) => [(8, (Value.int .u64 v8_8)), (29, (Value.int .i64 v29_9)), (1, (Sl3.v a1)), (5, (Sl3.v s1)), (6, (Value.int .i64 v22_4)), (7, (Value.int .u64 x6)), (20, (Sl3.v a0)), (21, (Value.int .i64 (a0.n : Int))), (22, (Value.int .i64 v22_4)), (27, (Sl3.v a1)), (28, (Value.int .i64 (a1.n : Int)))]

noncomputable def nat_mul_b0 (a0 : Sl3) (a1 : Sl3) (s1 : Sl3) : (AH × Int) → Option (Lp (AH × Int) (Sl3 × AH)) := fun (H3, v22_4) =>
  if v22_4 < (a0.n : Int) then
    Option.bind (idxA 1 a0 v22_4) fun p5 =>
    Option.bind (rd (deI .u64) H3 p5) fun x6 =>
    Option.bind (loopO (nat_mul_b1 a0 a1 s1 v22_4 x6) (H3, 0, 0)) fun o => match o with
    | .inl (H22, v8_23, v29_24) =>
      Option.bind (idxA 1 s1 (IntKind.i64.wrap (v22_4 + (a1.n : Int)))) fun p25 =>
      Option.bind (H22.setCell 4294967296 p25 (Value.int .u64 v8_23)) fun H26 =>
      some (.next (H26, (IntKind.i64.wrap (v22_4 + 1))))
    | .inr r => some (.ret r)
  else
    some (.brk (H3, v22_4))

def nat_mul_b0_kn (a0 : Sl3) (a1 : Sl3) (s1 : Sl3) : (AH × Int) → Kn := fun (H3, v22_4) => [(22, (Value.int .i64 v22_4)), (1, (Sl3.v a1)), (5, (Sl3.v s1)), (20, (Sl3.v a0)), (21, (Value.int .i64 (a0.n : Int)))]

noncomputable def nat_mul (H : AH) (a0 : Sl3) (a1 : Sl3) : Option (Sl3 × AH) :=
  Option.bind (mkS 38 1 8 #[(Value.int .u64 0)] H (IntKind.i64.wrap ((a0.n : Int) + (a1.n : Int))) (IntKind.i64.wrap ((a0.n : Int) + (a1.n : Int)))) fun (s1, H2) =>
  Option.bind (loopO (nat_mul_b0 a0 a1 s1) (H2, 0)) fun o => match o with
  | .inl (H27, v22_28) =>
    Option.bind (nat_trim H27 s1) fun x29 =>
    some (x29, H27)
  | .inr r => some r

theorem nat_mul_b1_ok {a0 : Sl3} {a1 : Sl3} {s1 : Sl3} {v22_4 : Int} {x6 : Int} : ∀ s o, nat_mul_b1 a0 a1 s1 v22_4 x6 s = some o →
    WX Try.prog 1000 4294967296 Try.f45.ntmps (cfst (cfst (csnd (cfst (csnd (csnd (cfst (cfst (csnd (csnd (cfst (cfst (csnd (cfst (csnd (csnd B45)))))))))))))))) (nat_mul_b1_kn a0 a1 s1 v22_4 x6 s) ((fun s => s.1) s) (lpQ (nat_mul_b1_kn a0 a1 s1 v22_4 x6) (fun s => s.1) 2 (fun r => RQ Try.f45 (nat_mul_enc r) (nat_mul_hp ⟨0, .nil⟩ r)) o) := by
  rintro ⟨H7, v8_8, v29_9⟩ o h
  unfold nat_mul_b1 at h
  try dsimp only at h
  refine WX.seq (by kernel_rfl) ?_
  refine WX.region (opsOf (cfst (cfst (cfst (csnd (cfst (csnd (csnd (cfst (cfst (csnd (csnd (cfst (cfst (csnd (cfst (csnd (csnd B45)))))))))))))))))) (by kernel_rfl) ?_
  refine RX.psn 1 [(30, (Value.bool (decide (v29_9 < (a1.n : Int)))))] (by kernel_rfl) ?_
  refine RX.done (by kernel_rfl) ?_
  refine fun ss hs => (WX.nxt ?_ ss hs)
  refine WX.seq (by kernel_rfl) ?_
  rcases ite_some h with ⟨hp, h⟩ | ⟨hp, h⟩
  · refine WX.condT _ (decide_eq_true hp) (by kernel_rfl) ?_
    refine WX.skip (by kernel_rfl) ?_
    refine fun ss hs => (WX.nxt ?_ ss hs)
    refine WX.seq (by kernel_rfl) ?_
    refine WX.block 3 (by kernel_rfl) ?_
    refine WX.seq (by kernel_rfl) ?_
    refine WX.region (opsOf (cfst (cfst (cfst (csnd (csnd (cfst (cfst (csnd (cfst (csnd (csnd (cfst (cfst (csnd (csnd (cfst (cfst (csnd (cfst (csnd (csnd B45)))))))))))))))))))))) (by kernel_rfl) ?_
    refine RX.psn 1 [(31, (Value.int .i64 v29_9))] (by kernel_rfl) ?_
    obtain ⟨p10, hx, h⟩ := bind_some h
    refine RX.at (some 32) (Value.pointer (some p10)) (by kernel_rfl) (by kernel_rfl) (fun ih => Abs.run_idx (s := a1) (k := .i64) (t := 24) (e := 38) (x := .tmp 27) (y := .tmp 29) (by kernel_rfl) (by kernel_rfl) (by kernel_rfl) (by kernel_rfl) (by kernel_rfl) hx) ?_
    obtain ⟨x11, hx, h⟩ := bind_some h
    refine RX.at (some 33) (Value.int .u64 x11) (by kernel_rfl) (by kernel_rfl) (fun ih => Abs.run_load (t := 38) (x := .tmp 32) (a := p10) (by kernel_rfl) (by kernel_rfl) (by kernel_rfl) (rd_cell hx deI_inv)) ?_
    refine RX.psn 2 [(10, (Value.int .u64 x11)), (9, (Value.int .i64 v29_9))] (by kernel_rfl) ?_
    refine RX.done (by kernel_rfl) ?_
    refine fun ss hs => (WX.nxt ?_ ss hs)
    refine WX.seq (by kernel_rfl) ?_
    refine WX.region (opsOf (cfst (csnd (cfst (cfst (csnd (csnd (cfst (cfst (csnd (cfst (csnd (csnd (cfst (cfst (csnd (csnd (cfst (cfst (csnd (cfst (csnd (csnd B45))))))))))))))))))))))) (by kernel_rfl) ?_
    refine RX.psn 2 [(36, (Value.int .u64 x11)), (35, (Value.int .u64 x6))] (by kernel_rfl) ?_
    obtain ⟨⟨x12, x13⟩, hx, h⟩ := bind_some h
    dsimp only at h
    refine RX.callAt (some 37) (v := (Value.tuple #[(Value.int .u64 x12), (Value.int .u64 x13)])) 71 #[(Value.int .u64 x6), (Value.int .u64 x11)] (by kernel_rfl) (by kernel_rfl) (by kernel_rfl) (bits_Mul64_ok hx) ?_
    refine RX.psn 5 [(12, (Value.int .u64 x13)), (11, (Value.int .u64 x12)), (39, (Value.int .u64 x13)), (38, (Value.int .u64 x12)), (34, (Value.tuple #[(Value.int .u64 x12), (Value.int .u64 x13)]))] (by kernel_rfl) ?_
    refine RX.done (by kernel_rfl) ?_
    refine fun ss hs => (WX.nxt ?_ ss hs)
    refine WX.seq (by kernel_rfl) ?_
    refine WX.region (opsOf (cfst (csnd (csnd (cfst (cfst (csnd (csnd (cfst (cfst (csnd (cfst (csnd (csnd (cfst (cfst (csnd (csnd (cfst (cfst (csnd (cfst (csnd (csnd B45)))))))))))))))))))))))) (by kernel_rfl) ?_
    refine RX.psn 1 [(13, (Value.int .u64 0))] (by kernel_rfl) ?_
    refine RX.done (by kernel_rfl) ?_
    refine fun ss hs => (WX.nxt ?_ ss hs)
    refine WX.seq (by kernel_rfl) ?_
    refine WX.region (opsOf (cfst (csnd (csnd (csnd (cfst (cfst (csnd (csnd (cfst (cfst (csnd (cfst (csnd (csnd (cfst (cfst (csnd (csnd (cfst (cfst (csnd (cfst (csnd (csnd B45))))))))))))))))))))))))) (by kernel_rfl) ?_
    refine RX.psn 5 [(45, (Value.int .i64 (IntKind.i64.wrap (v22_4 + v29_9)))), (44, (Value.int .i64 v29_9)), (43, (Value.int .i64 v22_4)), (42, (Sl3.v s1)), (41, (Value.int .u64 x13))] (by kernel_rfl) ?_
    obtain ⟨p14, hx, h⟩ := bind_some h
    refine RX.at (some 46) (Value.pointer (some p14)) (by kernel_rfl) (by kernel_rfl) (fun ih => Abs.run_idx (s := s1) (k := .i64) (t := 24) (e := 38) (x := .tmp 42) (y := .tmp 45) (by kernel_rfl) (by kernel_rfl) (by kernel_rfl) (by kernel_rfl) (by kernel_rfl) hx) ?_
    obtain ⟨x15, hx, h⟩ := bind_some h
    refine RX.at (some 47) (Value.int .u64 x15) (by kernel_rfl) (by kernel_rfl) (fun ih => Abs.run_load (t := 38) (x := .tmp 46) (a := p14) (by kernel_rfl) (by kernel_rfl) (by kernel_rfl) (rd_cell hx deI_inv)) ?_
    obtain ⟨⟨x16, x17⟩, hx, h⟩ := bind_some h
    dsimp only at h
    refine RX.callAt (some 48) (v := (Value.tuple #[(Value.int .u64 x16), (Value.int .u64 x17)])) 72 #[(Value.int .u64 x13), (Value.int .u64 x15), (Value.int .u64 0)] (by kernel_rfl) (by kernel_rfl) (by kernel_rfl) (ext72_ok hx) ?_
    refine RX.psn 5 [(13, (Value.int .u64 x17)), (12, (Value.int .u64 x16)), (50, (Value.int .u64 x17)), (49, (Value.int .u64 x16)), (40, (Value.tuple #[(Value.int .u64 x16), (Value.int .u64 x17)]))] (by kernel_rfl) ?_
    refine RX.done (by kernel_rfl) ?_
    refine fun ss hs => (WX.nxt ?_ ss hs)
    refine WX.seq (by kernel_rfl) ?_
    refine WX.region (opsOf (cfst (csnd (csnd (csnd (csnd (cfst (cfst (csnd (csnd (cfst (cfst (csnd (cfst (csnd (csnd (cfst (cfst (csnd (csnd (cfst (cfst (csnd (cfst (csnd (csnd B45)))))))))))))))))))))))))) (by kernel_rfl) ?_
    refine RX.psn 4 [(11, (Value.int .u64 (IntKind.u64.wrap (x12 + x17)))), (53, (Value.int .u64 (IntKind.u64.wrap (x12 + x17)))), (52, (Value.int .u64 x17)), (51, (Value.int .u64 x12))] (by kernel_rfl) ?_
    refine RX.done (by kernel_rfl) ?_
    refine fun ss hs => (WX.nxt ?_ ss hs)
    refine WX.seq (by kernel_rfl) ?_
    refine WX.region (opsOf (cfst (csnd (csnd (csnd (csnd (csnd (cfst (cfst (csnd (csnd (cfst (cfst (csnd (cfst (csnd (csnd (cfst (cfst (csnd (csnd (cfst (cfst (csnd (cfst (csnd (csnd B45))))))))))))))))))))))))))) (by kernel_rfl) ?_
    refine RX.psn 2 [(56, (Value.int .u64 v8_8)), (55, (Value.int .u64 x16))] (by kernel_rfl) ?_
    obtain ⟨⟨x18, x19⟩, hx, h⟩ := bind_some h
    dsimp only at h
    refine RX.callAt (some 57) (v := (Value.tuple #[(Value.int .u64 x18), (Value.int .u64 x19)])) 72 #[(Value.int .u64 x16), (Value.int .u64 v8_8), (Value.int .u64 0)] (by kernel_rfl) (by kernel_rfl) (by kernel_rfl) (ext72_ok hx) ?_
    refine RX.psn 5 [(13, (Value.int .u64 x19)), (12, (Value.int .u64 x18)), (59, (Value.int .u64 x19)), (58, (Value.int .u64 x18)), (54, (Value.tuple #[(Value.int .u64 x18), (Value.int .u64 x19)]))] (by kernel_rfl) ?_
    refine RX.done (by kernel_rfl) ?_
    refine fun ss hs => (WX.nxt ?_ ss hs)
    refine WX.seq (by kernel_rfl) ?_
    refine WX.region (opsOf (cfst (csnd (csnd (csnd (csnd (csnd (csnd (cfst (cfst (csnd (csnd (cfst (cfst (csnd (cfst (csnd (csnd (cfst (cfst (csnd (csnd (cfst (cfst (csnd (cfst (csnd (csnd B45)))))))))))))))))))))))))))) (by kernel_rfl) ?_
    refine RX.psn 4 [(11, (Value.int .u64 (IntKind.u64.wrap ((IntKind.u64.wrap (x12 + x17)) + x19)))), (62, (Value.int .u64 (IntKind.u64.wrap ((IntKind.u64.wrap (x12 + x17)) + x19)))), (61, (Value.int .u64 x19)), (60, (Value.int .u64 (IntKind.u64.wrap (x12 + x17))))] (by kernel_rfl) ?_
    refine RX.done (by kernel_rfl) ?_
    refine fun ss hs => (WX.nxt ?_ ss hs)
    refine WX.region (opsOf (csnd (csnd (csnd (csnd (csnd (csnd (csnd (cfst (cfst (csnd (csnd (cfst (cfst (csnd (cfst (csnd (csnd (cfst (cfst (csnd (csnd (cfst (cfst (csnd (cfst (csnd (csnd B45)))))))))))))))))))))))))))) (by kernel_rfl) ?_
    refine RX.psn 6 [(68, (Value.int .u64 (IntKind.u64.wrap ((IntKind.u64.wrap (x12 + x17)) + x19)))), (67, (Value.int .u64 x18)), (66, (Value.int .i64 (IntKind.i64.wrap (v22_4 + v29_9)))), (65, (Value.int .i64 v29_9)), (64, (Value.int .i64 v22_4)), (63, (Sl3.v s1))] (by kernel_rfl) ?_
    obtain ⟨p20, hx, h⟩ := bind_some h
    refine RX.at (some 69) (Value.pointer (some p20)) (by kernel_rfl) (by kernel_rfl) (fun ih => Abs.run_idx (s := s1) (k := .i64) (t := 24) (e := 38) (x := .tmp 63) (y := .tmp 66) (by kernel_rfl) (by kernel_rfl) (by kernel_rfl) (by kernel_rfl) (by kernel_rfl) hx) ?_
    obtain ⟨H21, hx, h⟩ := bind_some h
    refine RX.at none undef (by kernel_rfl) (by kernel_rfl) (fun ih => Abs.run_store1 (t := 38) (x := .tmp 69) (y := .tmp 67) (a := p20) (v := (Value.int .u64 x18)) (by kernel_rfl) (by kernel_rfl) (by kernel_rfl) (by kernel_rfl) (by kernel_rfl) hx) ?_
    refine RX.psn 1 [(8, (Value.int .u64 (IntKind.u64.wrap ((IntKind.u64.wrap (x12 + x17)) + x19))))] (by kernel_rfl) ?_
    refine RX.done (by kernel_rfl) ?_
    refine fun ss hs => blkN ((WX.nxt ?_ ss hs))
    refine WX.region (opsOf (csnd (csnd (csnd (cfst (cfst (csnd (cfst (csnd (csnd (cfst (cfst (csnd (csnd (cfst (cfst (csnd (cfst (csnd (csnd B45)))))))))))))))))))) (by kernel_rfl) ?_
    refine RX.psn 2 [(29, (Value.int .i64 (IntKind.i64.wrap (v29_9 + 1)))), (70, (Value.int .i64 (IntKind.i64.wrap (v29_9 + 1))))] (by kernel_rfl) ?_
    refine RX.done (by kernel_rfl) ?_
    cases h
    exact fun ss hs => lpN rfl (hs.sub ((SubK.cons (by kernel_rfl) (SubK.cons (by kernel_rfl) (SubK.cons (by kernel_rfl) (SubK.cons (by kernel_rfl) (SubK.cons (by kernel_rfl) (SubK.cons (by kernel_rfl) (SubK.cons (by kernel_rfl) (SubK.cons (by kernel_rfl) (SubK.cons (by kernel_rfl) (SubK.cons (by kernel_rfl) (SubK.cons (by kernel_rfl) SubK.nil)))))))))))))
  · refine WX.condF _ (decide_eq_false hp) (by kernel_rfl) ?_
    refine WX.exit 2 (by kernel_rfl) ?_
    cases h
    exact fun ss hs => seqE (lpB rfl (hs.sub ((SubK.cons (by kernel_rfl) (SubK.cons (by kernel_rfl) (SubK.cons (by kernel_rfl) (SubK.cons (by kernel_rfl) (SubK.cons (by kernel_rfl) (SubK.cons (by kernel_rfl) (SubK.cons (by kernel_rfl) (SubK.cons (by kernel_rfl) (SubK.cons (by kernel_rfl) (SubK.cons (by kernel_rfl) (SubK.cons (by kernel_rfl) SubK.nil))))))))))))))

theorem nat_mul_b0_ok {a0 : Sl3} {a1 : Sl3} {s1 : Sl3} : ∀ s o, nat_mul_b0 a0 a1 s1 s = some o →
    WX Try.prog 1000 4294967296 Try.f45.ntmps (cfst (cfst (csnd (cfst (csnd (csnd B45)))))) (nat_mul_b0_kn a0 a1 s1 s) ((fun s => s.1) s) (lpQ (nat_mul_b0_kn a0 a1 s1) (fun s => s.1) 0 (fun r => RQ Try.f45 (nat_mul_enc r) (nat_mul_hp ⟨0, .nil⟩ r)) o) := by
  rintro ⟨H3, v22_4⟩ o h
  unfold nat_mul_b0 at h
  try dsimp only at h
  refine WX.seq (by kernel_rfl) ?_
  refine WX.region (opsOf (cfst (cfst (cfst (csnd (cfst (csnd (csnd B45)))))))) (by kernel_rfl) ?_
  refine RX.psn 1 [(23, (Value.bool (decide (v22_4 < (a0.n : Int)))))] (by kernel_rfl) ?_
  refine RX.done (by kernel_rfl) ?_
  refine fun ss hs => (WX.nxt ?_ ss hs)
  refine WX.seq (by kernel_rfl) ?_
  rcases ite_some h with ⟨hp, h⟩ | ⟨hp, h⟩
  · refine WX.condT _ (decide_eq_true hp) (by kernel_rfl) ?_
    refine WX.skip (by kernel_rfl) ?_
    refine fun ss hs => (WX.nxt ?_ ss hs)
    refine WX.seq (by kernel_rfl) ?_
    refine WX.block 1 (by kernel_rfl) ?_
    refine WX.seq (by kernel_rfl) ?_
    refine WX.region (opsOf (cfst (cfst (cfst (csnd (csnd (cfst (cfst (csnd (cfst (csnd (csnd B45)))))))))))) (by kernel_rfl) ?_
    refine RX.psn 1 [(24, (Value.int .i64 v22_4))] (by kernel_rfl) ?_
    obtain ⟨p5, hx, h⟩ := bind_some h
    refine RX.at (some 25) (Value.pointer (some p5)) (by kernel_rfl) (by kernel_rfl) (fun ih => Abs.run_idx (s := a0) (k := .i64) (t := 24) (e := 38) (x := .tmp 20) (y := .tmp 22) (by kernel_rfl) (by kernel_rfl) (by kernel_rfl) (by kernel_rfl) (by kernel_rfl) hx) ?_
    obtain ⟨x6, hx, h⟩ := bind_some h
    refine RX.at (some 26) (Value.int .u64 x6) (by kernel_rfl) (by kernel_rfl) (fun ih => Abs.run_load (t := 38) (x := .tmp 25) (a := p5) (by kernel_rfl) (by kernel_rfl) (by kernel_rfl) (rd_cell hx deI_inv)) ?_
    refine RX.psn 2 [(7, (Value.int .u64 x6)), (6, (Value.int .i64 v22_4))] (by kernel_rfl) ?_
    refine RX.done (by kernel_rfl) ?_
    refine fun ss hs => (WX.nxt ?_ ss hs)
    refine WX.seq (by kernel_rfl) ?_
    refine WX.region (opsOf (cfst (csnd (cfst (cfst (csnd (csnd (cfst (cfst (csnd (cfst (csnd (csnd B45))))))))))))) (by kernel_rfl) ?_
    refine RX.psn 1 [(8, (Value.int .u64 0))] (by kernel_rfl) ?_
    refine RX.done (by kernel_rfl) ?_
    refine fun ss hs => (WX.nxt ?_ ss hs)
    refine WX.seq (by kernel_rfl) ?_
    refine WX.seq (by kernel_rfl) ?_
    refine WX.region (opsOf (cfst (cfst (csnd (csnd (cfst (cfst (csnd (csnd (cfst (cfst (csnd (cfst (csnd (csnd B45))))))))))))))) (by kernel_rfl) ?_
    refine RX.psn 3 [(29, (Value.int .i64 0)), (28, (Value.int .i64 (a1.n : Int))), (27, (Sl3.v a1))] (by kernel_rfl) ?_
    refine RX.done (by kernel_rfl) ?_
    refine fun ss hs => (WX.nxt ?_ ss hs)
    refine WX.block 2 (by kernel_rfl) ?_
    obtain ⟨o, hl, h⟩ := bind_some h
    rcases o with ⟨H22, v8_23, v29_24⟩ | r
    · dsimp only at h
      refine WX.loopI (by kernel_rfl) (nat_mul_b1 a0 a1 s1 v22_4 x6) (nat_mul_b1_kn a0 a1 s1 v22_4 x6) (fun s => s.1) 2 (fun r => RQ Try.f45 (nat_mul_enc r) (nat_mul_hp ⟨0, .nil⟩ r)) nat_mul_b1_ok hl ((SubK.cons (by kernel_rfl) (SubK.cons (by kernel_rfl) (SubK.cons (by kernel_rfl) (SubK.cons (by kernel_rfl) (SubK.cons (by kernel_rfl) (SubK.cons (by kernel_rfl) (SubK.cons (by kernel_rfl) (SubK.cons (by kernel_rfl) (SubK.cons (by kernel_rfl) (SubK.cons (by kernel_rfl) (SubK.cons (by kernel_rfl) SubK.nil)))))))))))) rfl ?_
      clear hl
      refine fun ss hs => blkE ((WX.nxt ?_ ss hs))
      refine WX.region (opsOf (csnd (csnd (csnd (cfst (cfst (csnd (csnd (cfst (cfst (csnd (cfst (csnd (csnd B45)))))))))))))) (by kernel_rfl) ?_
      refine RX.psn 6 [(76, (Value.int .u64 v8_23)), (75, (Value.int .i64 (IntKind.i64.wrap (v22_4 + (a1.n : Int))))), (74, (Value.int .i64 (a1.n : Int))), (73, (Sl3.v a1)), (72, (Value.int .i64 v22_4)), (71, (Sl3.v s1))] (by kernel_rfl) ?_
      obtain ⟨p25, hx, h⟩ := bind_some h
      refine RX.at (some 77) (Value.pointer (some p25)) (by kernel_rfl) (by kernel_rfl) (fun ih => Abs.run_idx (s := s1) (k := .i64) (t := 24) (e := 38) (x := .tmp 71) (y := .tmp 75) (by kernel_rfl) (by kernel_rfl) (by kernel_rfl) (by kernel_rfl) (by kernel_rfl) hx) ?_
      obtain ⟨H26, hx, h⟩ := bind_some h
      refine RX.at none undef (by kernel_rfl) (by kernel_rfl) (fun ih => Abs.run_store1 (t := 38) (x := .tmp 77) (y := .tmp 76) (a := p25) (v := (Value.int .u64 v8_23)) (by kernel_rfl) (by kernel_rfl) (by kernel_rfl) (by kernel_rfl) (by kernel_rfl) hx) ?_
      refine RX.done (by kernel_rfl) ?_
      refine fun ss hs => blkN ((WX.nxt ?_ ss hs))
      refine WX.region (opsOf (csnd (csnd (csnd (cfst (cfst (csnd (cfst (csnd (csnd B45)))))))))) (by kernel_rfl) ?_
      refine RX.psn 2 [(22, (Value.int .i64 (IntKind.i64.wrap (v22_4 + 1)))), (78, (Value.int .i64 (IntKind.i64.wrap (v22_4 + 1))))] (by kernel_rfl) ?_
      refine RX.done (by kernel_rfl) ?_
      cases h
      exact fun ss hs => lpN rfl (hs.sub ((SubK.cons (by kernel_rfl) (SubK.cons (by kernel_rfl) (SubK.cons (by kernel_rfl) (SubK.cons (by kernel_rfl) (SubK.cons (by kernel_rfl) SubK.nil)))))))
    · dsimp only at h
      refine WX.loopR (by kernel_rfl) (nat_mul_b1 a0 a1 s1 v22_4 x6) (nat_mul_b1_kn a0 a1 s1 v22_4 x6) (fun s => s.1) 2 (fun r => RQ Try.f45 (nat_mul_enc r) (nat_mul_hp ⟨0, .nil⟩ r)) nat_mul_b1_ok hl ((SubK.cons (by kernel_rfl) (SubK.cons (by kernel_rfl) (SubK.cons (by kernel_rfl) (SubK.cons (by kernel_rfl) (SubK.cons (by kernel_rfl) (SubK.cons (by kernel_rfl) (SubK.cons (by kernel_rfl) (SubK.cons (by kernel_rfl) (SubK.cons (by kernel_rfl) (SubK.cons (by kernel_rfl) (SubK.cons (by kernel_rfl) SubK.nil)))))))))))) rfl ?_
      cases h
      exact fun ss H hq => blkR (seqR (blkR (seqR (lpR hq))))
  · refine WX.condF _ (decide_eq_false hp) (by kernel_rfl) ?_
    refine WX.exit 0 (by kernel_rfl) ?_
    cases h
    exact fun ss hs => seqE (lpB rfl (hs.sub ((SubK.cons (by kernel_rfl) (SubK.cons (by kernel_rfl) (SubK.cons (by kernel_rfl) (SubK.cons (by kernel_rfl) (SubK.cons (by kernel_rfl) SubK.nil))))))))

theorem nat_mul_ok {H : AH} {a0 : Sl3} {a1 : Sl3} {r : (Sl3 × AH)} (h : nat_mul H a0 a1 = some r) :
    CallE Try.prog 1000 4294967296 45 #[(Sl3.v a0), (Sl3.v a1)] H (nat_mul_enc r) (nat_mul_hp H r) := by
  refine CallE.mk (args := [(Sl3.v a0), (Sl3.v a1)]) Try.func45 (B := B45) (by kernel_rfl) ?_
  unfold nat_mul at h
  refine WX.seq (by kernel_rfl) ?_
  refine WX.region (opsOf (cfst B45)) (by kernel_rfl) ?_
  refine RX.psn 1 [(4, (Sl3.v Sl3.nil))] (by kernel_rfl) ?_
  refine RX.done (by kernel_rfl) ?_
  refine fun ss hs => (WX.nxt ?_ ss hs)
  refine WX.seq (by kernel_rfl) ?_
  refine WX.region (opsOf (cfst (csnd B45))) (by kernel_rfl) ?_
  refine RX.psn 5 [(18, (Value.int .i64 (IntKind.i64.wrap ((a0.n : Int) + (a1.n : Int))))), (17, (Value.int .i64 (a1.n : Int))), (16, (Sl3.v a1)), (15, (Value.int .i64 (a0.n : Int))), (14, (Sl3.v a0))] (by kernel_rfl) ?_
  obtain ⟨⟨s1, H2⟩, hx, h⟩ := bind_some h
  dsimp only at h
  refine RX.at (some 19) (Sl3.v s1) (by kernel_rfl) (by kernel_rfl) (fun ih => Abs.run_mk (t := 24) (x := .tmp 18) (y := .tmp 18) (k1 := .i64) (k2 := .i64) (by kernel_rfl) (by kernel_rfl) (by kernel_rfl) (by kernel_rfl) hx) ?_
  refine RX.psn 1 [(5, (Sl3.v s1))] (by kernel_rfl) ?_
  refine RX.done (by kernel_rfl) ?_
  refine fun ss hs => (WX.nxt ?_ ss hs)
  refine WX.seq (by kernel_rfl) ?_
  refine WX.seq (by kernel_rfl) ?_
  refine WX.region (opsOf (cfst (cfst (csnd (csnd B45))))) (by kernel_rfl) ?_
  refine RX.psn 3 [(22, (Value.int .i64 0)), (21, (Value.int .i64 (a0.n : Int))), (20, (Sl3.v a0))] (by kernel_rfl) ?_
  refine RX.done (by kernel_rfl) ?_
  refine fun ss hs => (WX.nxt ?_ ss hs)
  refine WX.block 0 (by kernel_rfl) ?_
  obtain ⟨o, hl, h⟩ := bind_some h
  rcases o with ⟨H27, v22_28⟩ | r
  · dsimp only at h
    refine WX.loopI (by kernel_rfl) (nat_mul_b0 a0 a1 s1) (nat_mul_b0_kn a0 a1 s1) (fun s => s.1) 0 (fun r => RQ Try.f45 (nat_mul_enc r) (nat_mul_hp ⟨0, .nil⟩ r)) nat_mul_b0_ok hl ((SubK.cons (by kernel_rfl) (SubK.cons (by kernel_rfl) (SubK.cons (by kernel_rfl) (SubK.cons (by kernel_rfl) (SubK.cons (by kernel_rfl) SubK.nil)))))) rfl ?_
    clear hl
    refine fun ss hs => blkE ((WX.nxt ?_ ss hs))
    refine WX.seq (by kernel_rfl) ?_
    refine WX.region (opsOf (cfst (csnd (csnd (csnd B45))))) (by kernel_rfl) ?_
    refine RX.psn 1 [(79, (Sl3.v s1))] (by kernel_rfl) ?_
    obtain ⟨x29, hx, h⟩ := bind_some h
    refine RX.callAt (some 80) (v := (Sl3.v x29)) 44 #[(Sl3.v s1)] (by kernel_rfl) (by kernel_rfl) (by kernel_rfl) (nat_trim_ok hx) ?_
    refine RX.psn 1 [(4, (Sl3.v x29))] (by kernel_rfl) ?_
    refine RX.done (by kernel_rfl) ?_
    refine fun ss hs => (WX.nxt ?_ ss hs)
    refine WX.ret (by kernel_rfl) ?_
    cases h
    exact fun ss hs => retR (rq hs (by kernel_rfl))
  · dsimp only at h
    refine WX.loopR (by kernel_rfl) (nat_mul_b0 a0 a1 s1) (nat_mul_b0_kn a0 a1 s1) (fun s => s.1) 0 (fun r => RQ Try.f45 (nat_mul_enc r) (nat_mul_hp ⟨0, .nil⟩ r)) nat_mul_b0_ok hl ((SubK.cons (by kernel_rfl) (SubK.cons (by kernel_rfl) (SubK.cons (by kernel_rfl) (SubK.cons (by kernel_rfl) (SubK.cons (by kernel_rfl) SubK.nil)))))) rfl ?_
    cases h
    exact fun ss H hq => blkR (seqR (retR hq))

noncomputable def B52 : Code := (Try.f52.body).getD .skip

def nat_own_enc : (Sl3 × AH) → Value
  | (r0, _) => (Sl3.v r0)

def nat_own_hp (_ : AH) : (Sl3 × AH) → AH := fun r => r.2

noncomputable def nat_own (H : AH) (a0 : Sl3) : Option (Sl3 × AH) :=
  Option.bind (nat_trim H a0) fun x1 =>
  if (x1.n : Int) = 0 then
    some (Sl3.nil, H)
  else
    Option.bind (slices_Clone H x1) fun (x2, H3) =>
    some (x2, H3)

theorem nat_own_ok {H : AH} {a0 : Sl3} {r : (Sl3 × AH)} (h : nat_own H a0 = some r) :
    CallE Try.prog 1000 4294967296 52 #[(Sl3.v a0)] H (nat_own_enc r) (nat_own_hp H r) := by
  refine CallE.mk (args := [(Sl3.v a0)]) Try.func52 (B := B52) (by kernel_rfl) ?_
  unfold nat_own at h
  refine WX.seq (by kernel_rfl) ?_
  refine WX.region (opsOf (cfst B52)) (by kernel_rfl) ?_
  refine RX.psn 1 [(2, (Sl3.v Sl3.nil))] (by kernel_rfl) ?_
  refine RX.done (by kernel_rfl) ?_
  refine fun ss hs => (WX.nxt ?_ ss hs)
  refine WX.seq (by kernel_rfl) ?_
  refine WX.region (opsOf (cfst (csnd B52))) (by kernel_rfl) ?_
  refine RX.psn 1 [(3, (Sl3.v a0))] (by kernel_rfl) ?_
  obtain ⟨x1, hx, h⟩ := bind_some h
  refine RX.callAt (some 4) (v := (Sl3.v x1)) 44 #[(Sl3.v a0)] (by kernel_rfl) (by kernel_rfl) (by kernel_rfl) (nat_trim_ok hx) ?_
  refine RX.psn 1 [(0, (Sl3.v x1))] (by kernel_rfl) ?_
  refine RX.done (by kernel_rfl) ?_
  refine fun ss hs => (WX.nxt ?_ ss hs)
  refine WX.seq (by kernel_rfl) ?_
  refine WX.seq (by kernel_rfl) ?_
  refine WX.region (opsOf (cfst (cfst (csnd (csnd B52))))) (by kernel_rfl) ?_
  refine RX.psn 3 [(7, (Value.bool (decide ((x1.n : Int) = 0)))), (6, (Value.int .i64 (x1.n : Int))), (5, (Sl3.v x1))] (by kernel_rfl) ?_
  refine RX.done (by kernel_rfl) ?_
  refine fun ss hs => (WX.nxt ?_ ss hs)
  rcases ite_some h with ⟨hp, h⟩ | ⟨hp, h⟩
  · refine WX.condT _ (decide_eq_true hp) (by kernel_rfl) ?_
    refine WX.seq (by kernel_rfl) ?_
    refine WX.region (opsOf (cfst (cfst (csnd (cfst (csnd (csnd B52))))))) (by kernel_rfl) ?_
    refine RX.psn 1 [(2, (Sl3.v Sl3.nil))] (by kernel_rfl) ?_
    refine RX.done (by kernel_rfl) ?_
    refine fun ss hs => (WX.nxt ?_ ss hs)
    refine WX.ret (by kernel_rfl) ?_
    cases h
    exact fun ss hs => seqR (retR (rq hs (by kernel_rfl)))
  · refine WX.condF _ (decide_eq_false hp) (by kernel_rfl) ?_
    refine WX.skip (by kernel_rfl) ?_
    refine fun ss hs => (WX.nxt ?_ ss hs)
    refine WX.seq (by kernel_rfl) ?_
    refine WX.region (opsOf (cfst (csnd (csnd (csnd B52))))) (by kernel_rfl) ?_
    refine RX.psn 1 [(8, (Sl3.v x1))] (by kernel_rfl) ?_
    obtain ⟨⟨x2, H3⟩, hx, h⟩ := bind_some h
    dsimp only at h
    refine RX.callAt (some 9) (v := (Sl3.v x2)) 74 #[(Sl3.v x1)] (by kernel_rfl) (by kernel_rfl) (by kernel_rfl) (slices_Clone_ok hx) ?_
    refine RX.psn 1 [(2, (Sl3.v x2))] (by kernel_rfl) ?_
    refine RX.done (by kernel_rfl) ?_
    refine fun ss hs => (WX.nxt ?_ ss hs)
    refine WX.ret (by kernel_rfl) ?_
    cases h
    exact fun ss hs => retR (rq hs (by kernel_rfl))

noncomputable def B46 : Code := (Try.f46.body).getD .skip

def nat_out_enc : (Sl3 × Int × AH) → Value
  | (r0, r1, _) => (Value.tuple #[(Sl3.v r0), (Value.int .i64 r1)])

def nat_out_hp (_ : AH) : (Sl3 × Int × AH) → AH := fun r => r.2.2

noncomputable def nat_out (H : AH) (a0 : Sl3) : Option (Sl3 × Int × AH) :=
  Option.bind (newR 24 1 #[(Sl3.v a0)] H) fun (s1, H2) =>
  Option.bind (nat_long H2 s1) fun x3 =>
  if x3 = true then
    some (Sl3.nil, 5, H2)
  else
    Option.bind (nat_own H2 a0) fun (x4, H5) =>
    some (x4, 0, H5)

theorem nat_out_ok {H : AH} {a0 : Sl3} {r : (Sl3 × Int × AH)} (h : nat_out H a0 = some r) :
    CallE Try.prog 1000 4294967296 46 #[(Sl3.v a0)] H (nat_out_enc r) (nat_out_hp H r) := by
  refine CallE.mk (args := [(Sl3.v a0)]) Try.func46 (B := B46) (by kernel_rfl) ?_
  unfold nat_out at h
  refine WX.seq (by kernel_rfl) ?_
  refine WX.region (opsOf (cfst B46)) (by kernel_rfl) ?_
  refine RX.psn 2 [(3, (Value.int .i64 0)), (2, (Sl3.v Sl3.nil))] (by kernel_rfl) ?_
  refine RX.done (by kernel_rfl) ?_
  refine fun ss hs => (WX.nxt ?_ ss hs)
  refine WX.seq (by kernel_rfl) ?_
  refine WX.seq (by kernel_rfl) ?_
  refine WX.region (opsOf (cfst (cfst (csnd B46)))) (by kernel_rfl) ?_
  refine RX.psn 1 [(4, (Sl3.v a0))] (by kernel_rfl) ?_
  obtain ⟨⟨s1, H2⟩, hx, h⟩ := bind_some h
  dsimp only at h
  refine RX.at (some 5) (Sl3.v s1) (by kernel_rfl) (by kernel_rfl) (fun ih => Abs.run_newR (by kernel_rfl) (by kernel_rfl) hx) ?_
  obtain ⟨x3, hx, h⟩ := bind_some h
  refine RX.callAt (some 6) (v := (Value.bool x3)) 41 #[(Sl3.v s1)] (by kernel_rfl) (by kernel_rfl) (by kernel_rfl) (nat_long_ok hx) ?_
  refine RX.done (by kernel_rfl) ?_
  refine fun ss hs => (WX.nxt ?_ ss hs)
  rcases ite_some h with ⟨hp, h⟩ | ⟨hp, h⟩
  · refine WX.condT _ hp (by kernel_rfl) ?_
    refine WX.seq (by kernel_rfl) ?_
    refine WX.region (opsOf (cfst (cfst (csnd (cfst (csnd B46)))))) (by kernel_rfl) ?_
    refine RX.psn 2 [(3, (Value.int .i64 5)), (2, (Sl3.v Sl3.nil))] (by kernel_rfl) ?_
    refine RX.done (by kernel_rfl) ?_
    refine fun ss hs => (WX.nxt ?_ ss hs)
    refine WX.ret (by kernel_rfl) ?_
    cases h
    exact fun ss hs => seqR (retR (rq hs (by kernel_rfl)))
  · refine WX.condF _ (b_not hp) (by kernel_rfl) ?_
    refine WX.skip (by kernel_rfl) ?_
    refine fun ss hs => (WX.nxt ?_ ss hs)
    refine WX.seq (by kernel_rfl) ?_
    refine WX.region (opsOf (cfst (csnd (csnd B46)))) (by kernel_rfl) ?_
    refine RX.psn 1 [(7, (Sl3.v a0))] (by kernel_rfl) ?_
    obtain ⟨⟨x4, H5⟩, hx, h⟩ := bind_some h
    dsimp only at h
    refine RX.callAt (some 8) (v := (Sl3.v x4)) 52 #[(Sl3.v a0)] (by kernel_rfl) (by kernel_rfl) (by kernel_rfl) (nat_own_ok hx) ?_
    refine RX.psn 2 [(3, (Value.int .i64 0)), (2, (Sl3.v x4))] (by kernel_rfl) ?_
    refine RX.done (by kernel_rfl) ?_
    refine fun ss hs => (WX.nxt ?_ ss hs)
    refine WX.ret (by kernel_rfl) ?_
    cases h
    exact fun ss hs => retR (rq hs (by kernel_rfl))

noncomputable def B14 : Code := (Try.f14.body).getD .skip

def nat_Mul_enc : (Sl3 × Int × AH) → Value
  | (r0, r1, _) => (Value.tuple #[(Sl3.v r0), (Value.int .i64 r1)])

def nat_Mul_hp (_ : AH) : (Sl3 × Int × AH) → AH := fun r => r.2.2

noncomputable def nat_Mul_b0 (a0 : Sl3) : (AH × Sl3 × Int) → Option (Lp (AH × Sl3 × Int) (Sl3 × Int × AH)) := fun (H5, v4_6, v14_7) =>
  if v14_7 < (a0.n : Int) then
    Option.bind (idxA 1 a0 v14_7) fun p8 =>
    Option.bind (rd deSl H5 p8) fun x9 =>
    Option.bind (nat_trim H5 x9) fun x10 =>
    Option.bind (nat_mul H5 v4_6 x10) fun (x11, H12) =>
    Option.bind (newR 24 1 #[(Sl3.v x11)] H12) fun (s13, H14) =>
    Option.bind (nat_long H14 s13) fun x15 =>
    if x15 = true then
      some (.ret (Sl3.nil, 5, H14))
    else
      some (.next (H14, x11, (IntKind.i64.wrap (v14_7 + 1))))
  else
    some (.brk (H5, v4_6, v14_7))

def nat_Mul_b0_kn (a0 : Sl3) : (AH × Sl3 × Int) → Kn := fun (H5, v4_6, v14_7) => [(4, (Sl3.v v4_6)), (14, (Value.int .i64 v14_7)), (12, (Sl3.v a0)), (13, (Value.int .i64 (a0.n : Int)))]

noncomputable def nat_Mul (H : AH) (a0 : Sl3) : Option (Sl3 × Int × AH) :=
  Option.bind (nat_long H a0) fun x1 =>
  if x1 = true then
    some (Sl3.nil, 5, H)
  else
    Option.bind (slices_ContainsFunc__43 H a0) fun x2 =>
    if x2 = true then
      some (Sl3.nil, 0, H)
    else
      Option.bind (newR 38 1 #[(Value.int .u64 1)] H) fun (s3, H4) =>
      Option.bind (loopO (nat_Mul_b0 a0) (H4, s3, 0)) fun o => match o with
      | .inl (H16, v4_17, v14_18) =>
        Option.bind (nat_out H16 v4_17) fun (x19, x20, H21) =>
        some (x19, x20, H21)
      | .inr r => some r

theorem nat_Mul_b0_ok {a0 : Sl3} : ∀ s o, nat_Mul_b0 a0 s = some o →
    WX Try.prog 1000 4294967296 Try.f14.ntmps (cfst (cfst (csnd (cfst (csnd (csnd (csnd (csnd B14)))))))) (nat_Mul_b0_kn a0 s) ((fun s => s.1) s) (lpQ (nat_Mul_b0_kn a0) (fun s => s.1) 0 (fun r => RQ Try.f14 (nat_Mul_enc r) (nat_Mul_hp ⟨0, .nil⟩ r)) o) := by
  rintro ⟨H5, v4_6, v14_7⟩ o h
  unfold nat_Mul_b0 at h
  try dsimp only at h
  refine WX.seq (by kernel_rfl) ?_
  refine WX.region (opsOf (cfst (cfst (cfst (csnd (cfst (csnd (csnd (csnd (csnd B14)))))))))) (by kernel_rfl) ?_
  refine RX.psn 1 [(15, (Value.bool (decide (v14_7 < (a0.n : Int)))))] (by kernel_rfl) ?_
  refine RX.done (by kernel_rfl) ?_
  refine fun ss hs => (WX.nxt ?_ ss hs)
  refine WX.seq (by kernel_rfl) ?_
  rcases ite_some h with ⟨hp, h⟩ | ⟨hp, h⟩
  · refine WX.condT _ (decide_eq_true hp) (by kernel_rfl) ?_
    refine WX.skip (by kernel_rfl) ?_
    refine fun ss hs => (WX.nxt ?_ ss hs)
    refine WX.seq (by kernel_rfl) ?_
    refine WX.block 1 (by kernel_rfl) ?_
    refine WX.seq (by kernel_rfl) ?_
    refine WX.region (opsOf (cfst (cfst (cfst (csnd (csnd (cfst (cfst (csnd (cfst (csnd (csnd (csnd (csnd B14)))))))))))))) (by kernel_rfl) ?_
    obtain ⟨p8, hx, h⟩ := bind_some h
    refine RX.at (some 16) (Value.pointer (some p8)) (by kernel_rfl) (by kernel_rfl) (fun ih => Abs.run_idx (s := a0) (k := .i64) (t := 22) (e := 24) (x := .tmp 12) (y := .tmp 14) (by kernel_rfl) (by kernel_rfl) (by kernel_rfl) (by kernel_rfl) (by kernel_rfl) hx) ?_
    obtain ⟨x9, hx, h⟩ := bind_some h
    refine RX.at (some 17) (Sl3.v x9) (by kernel_rfl) (by kernel_rfl) (fun ih => Abs.run_load (t := 24) (x := .tmp 16) (a := p8) (by kernel_rfl) (by kernel_rfl) (by kernel_rfl) (rd_cell hx deSl_inv)) ?_
    refine RX.psn 1 [(6, (Sl3.v x9))] (by kernel_rfl) ?_
    refine RX.done (by kernel_rfl) ?_
    refine fun ss hs => (WX.nxt ?_ ss hs)
    refine WX.seq (by kernel_rfl) ?_
    refine WX.region (opsOf (cfst (csnd (cfst (cfst (csnd (csnd (cfst (cfst (csnd (cfst (csnd (csnd (csnd (csnd B14))))))))))))))) (by kernel_rfl) ?_
    refine RX.psn 2 [(19, (Sl3.v x9)), (18, (Sl3.v v4_6))] (by kernel_rfl) ?_
    obtain ⟨x10, hx, h⟩ := bind_some h
    refine RX.callAt (some 20) (v := (Sl3.v x10)) 44 #[(Sl3.v x9)] (by kernel_rfl) (by kernel_rfl) (by kernel_rfl) (nat_trim_ok hx) ?_
    obtain ⟨⟨x11, H12⟩, hx, h⟩ := bind_some h
    dsimp only at h
    refine RX.callAt (some 21) (v := (Sl3.v x11)) 45 #[(Sl3.v v4_6), (Sl3.v x10)] (by kernel_rfl) (by kernel_rfl) (by kernel_rfl) (nat_mul_ok hx) ?_
    refine RX.psn 1 [(4, (Sl3.v x11))] (by kernel_rfl) ?_
    refine RX.done (by kernel_rfl) ?_
    refine fun ss hs => (WX.nxt ?_ ss hs)
    refine WX.seq (by kernel_rfl) ?_
    refine WX.region (opsOf (cfst (csnd (csnd (cfst (cfst (csnd (csnd (cfst (cfst (csnd (cfst (csnd (csnd (csnd (csnd B14)))))))))))))))) (by kernel_rfl) ?_
    refine RX.psn 1 [(22, (Sl3.v x11))] (by kernel_rfl) ?_
    obtain ⟨⟨s13, H14⟩, hx, h⟩ := bind_some h
    dsimp only at h
    refine RX.at (some 23) (Sl3.v s13) (by kernel_rfl) (by kernel_rfl) (fun ih => Abs.run_newR (by kernel_rfl) (by kernel_rfl) hx) ?_
    obtain ⟨x15, hx, h⟩ := bind_some h
    refine RX.callAt (some 24) (v := (Value.bool x15)) 41 #[(Sl3.v s13)] (by kernel_rfl) (by kernel_rfl) (by kernel_rfl) (nat_long_ok hx) ?_
    refine RX.done (by kernel_rfl) ?_
    refine fun ss hs => (WX.nxt ?_ ss hs)
    rcases ite_some h with ⟨hp, h⟩ | ⟨hp, h⟩
    · refine WX.condT _ hp (by kernel_rfl) ?_
      refine WX.seq (by kernel_rfl) ?_
      refine WX.region (opsOf (cfst (cfst (csnd (csnd (csnd (cfst (cfst (csnd (csnd (cfst (cfst (csnd (cfst (csnd (csnd (csnd (csnd B14)))))))))))))))))) (by kernel_rfl) ?_
      refine RX.psn 2 [(3, (Value.int .i64 5)), (2, (Sl3.v Sl3.nil))] (by kernel_rfl) ?_
      refine RX.done (by kernel_rfl) ?_
      refine fun ss hs => (WX.nxt ?_ ss hs)
      refine WX.ret (by kernel_rfl) ?_
      cases h
      exact fun ss hs => blkR (seqR (lpR (rq hs (by kernel_rfl))))
    · refine WX.condF _ (b_not hp) (by kernel_rfl) ?_
      refine WX.skip (by kernel_rfl) ?_
      refine fun ss hs => blkN ((WX.nxt ?_ ss hs))
      refine WX.region (opsOf (csnd (csnd (csnd (cfst (cfst (csnd (cfst (csnd (csnd (csnd (csnd B14)))))))))))) (by kernel_rfl) ?_
      refine RX.psn 2 [(14, (Value.int .i64 (IntKind.i64.wrap (v14_7 + 1)))), (25, (Value.int .i64 (IntKind.i64.wrap (v14_7 + 1))))] (by kernel_rfl) ?_
      refine RX.done (by kernel_rfl) ?_
      cases h
      exact fun ss hs => lpN rfl (hs.sub ((SubK.cons (by kernel_rfl) (SubK.cons (by kernel_rfl) (SubK.cons (by kernel_rfl) (SubK.cons (by kernel_rfl) SubK.nil))))))
  · refine WX.condF _ (decide_eq_false hp) (by kernel_rfl) ?_
    refine WX.exit 0 (by kernel_rfl) ?_
    cases h
    exact fun ss hs => seqE (lpB rfl (hs.sub ((SubK.cons (by kernel_rfl) (SubK.cons (by kernel_rfl) (SubK.cons (by kernel_rfl) (SubK.cons (by kernel_rfl) SubK.nil)))))))

theorem nat_Mul_ok {H : AH} {a0 : Sl3} {r : (Sl3 × Int × AH)} (h : nat_Mul H a0 = some r) :
    CallE Try.prog 1000 4294967296 14 #[(Sl3.v a0)] H (nat_Mul_enc r) (nat_Mul_hp H r) := by
  refine CallE.mk (args := [(Sl3.v a0)]) Try.func14 (B := B14) (by kernel_rfl) ?_
  unfold nat_Mul at h
  refine WX.seq (by kernel_rfl) ?_
  refine WX.region (opsOf (cfst B14)) (by kernel_rfl) ?_
  refine RX.psn 2 [(3, (Value.int .i64 0)), (2, (Sl3.v Sl3.nil))] (by kernel_rfl) ?_
  refine RX.done (by kernel_rfl) ?_
  refine fun ss hs => (WX.nxt ?_ ss hs)
  refine WX.seq (by kernel_rfl) ?_
  refine WX.seq (by kernel_rfl) ?_
  refine WX.region (opsOf (cfst (cfst (csnd B14)))) (by kernel_rfl) ?_
  refine RX.psn 1 [(7, (Sl3.v a0))] (by kernel_rfl) ?_
  obtain ⟨x1, hx, h⟩ := bind_some h
  refine RX.callAt (some 8) (v := (Value.bool x1)) 41 #[(Sl3.v a0)] (by kernel_rfl) (by kernel_rfl) (by kernel_rfl) (nat_long_ok hx) ?_
  refine RX.done (by kernel_rfl) ?_
  refine fun ss hs => (WX.nxt ?_ ss hs)
  rcases ite_some h with ⟨hp, h⟩ | ⟨hp, h⟩
  · refine WX.condT _ hp (by kernel_rfl) ?_
    refine WX.seq (by kernel_rfl) ?_
    refine WX.region (opsOf (cfst (cfst (csnd (cfst (csnd B14)))))) (by kernel_rfl) ?_
    refine RX.psn 2 [(3, (Value.int .i64 5)), (2, (Sl3.v Sl3.nil))] (by kernel_rfl) ?_
    refine RX.done (by kernel_rfl) ?_
    refine fun ss hs => (WX.nxt ?_ ss hs)
    refine WX.ret (by kernel_rfl) ?_
    cases h
    exact fun ss hs => seqR (retR (rq hs (by kernel_rfl)))
  · refine WX.condF _ (b_not hp) (by kernel_rfl) ?_
    refine WX.skip (by kernel_rfl) ?_
    refine fun ss hs => (WX.nxt ?_ ss hs)
    refine WX.seq (by kernel_rfl) ?_
    refine WX.seq (by kernel_rfl) ?_
    refine WX.region (opsOf (cfst (cfst (csnd (csnd B14))))) (by kernel_rfl) ?_
    refine RX.psn 1 [(9, (Sl3.v a0))] (by kernel_rfl) ?_
    obtain ⟨x2, hx, h⟩ := bind_some h
    refine RX.callAt (some 10) (v := (Value.bool x2)) 42 #[(Sl3.v a0), (Value.func (.func 43) #[] #[])] (by kernel_rfl) (by kernel_rfl) (by kernel_rfl) (slices_ContainsFunc__43_ok hx) ?_
    refine RX.done (by kernel_rfl) ?_
    refine fun ss hs => (WX.nxt ?_ ss hs)
    rcases ite_some h with ⟨hp, h⟩ | ⟨hp, h⟩
    · refine WX.condT _ hp (by kernel_rfl) ?_
      refine WX.seq (by kernel_rfl) ?_
      refine WX.region (opsOf (cfst (cfst (csnd (cfst (csnd (csnd B14))))))) (by kernel_rfl) ?_
      refine RX.psn 2 [(3, (Value.int .i64 0)), (2, (Sl3.v Sl3.nil))] (by kernel_rfl) ?_
      refine RX.done (by kernel_rfl) ?_
      refine fun ss hs => (WX.nxt ?_ ss hs)
      refine WX.ret (by kernel_rfl) ?_
      cases h
      exact fun ss hs => seqR (retR (rq hs (by kernel_rfl)))
    · refine WX.condF _ (b_not hp) (by kernel_rfl) ?_
      refine WX.skip (by kernel_rfl) ?_
      refine fun ss hs => (WX.nxt ?_ ss hs)
      refine WX.seq (by kernel_rfl) ?_
      refine WX.region (opsOf (cfst (csnd (csnd (csnd B14))))) (by kernel_rfl) ?_
      obtain ⟨⟨s3, H4⟩, hx, h⟩ := bind_some h
      dsimp only at h
      refine RX.at (some 11) (Sl3.v s3) (by kernel_rfl) (by kernel_rfl) (fun ih => Abs.run_newR (by kernel_rfl) (by kernel_rfl) hx) ?_
      refine RX.psn 1 [(4, (Sl3.v s3))] (by kernel_rfl) ?_
      refine RX.done (by kernel_rfl) ?_
      refine fun ss hs => (WX.nxt ?_ ss hs)
      refine WX.seq (by kernel_rfl) ?_
      refine WX.seq (by kernel_rfl) ?_
      refine WX.region (opsOf (cfst (cfst (csnd (csnd (csnd (csnd B14))))))) (by kernel_rfl) ?_
      refine RX.psn 3 [(14, (Value.int .i64 0)), (13, (Value.int .i64 (a0.n : Int))), (12, (Sl3.v a0))] (by kernel_rfl) ?_
      refine RX.done (by kernel_rfl) ?_
      refine fun ss hs => (WX.nxt ?_ ss hs)
      refine WX.block 0 (by kernel_rfl) ?_
      obtain ⟨o, hl, h⟩ := bind_some h
      rcases o with ⟨H16, v4_17, v14_18⟩ | r
      · dsimp only at h
        refine WX.loopI (by kernel_rfl) (nat_Mul_b0 a0) (nat_Mul_b0_kn a0) (fun s => s.1) 0 (fun r => RQ Try.f14 (nat_Mul_enc r) (nat_Mul_hp ⟨0, .nil⟩ r)) nat_Mul_b0_ok hl ((SubK.cons (by kernel_rfl) (SubK.cons (by kernel_rfl) (SubK.cons (by kernel_rfl) (SubK.cons (by kernel_rfl) SubK.nil))))) rfl ?_
        clear hl
        refine fun ss hs => blkE ((WX.nxt ?_ ss hs))
        refine WX.seq (by kernel_rfl) ?_
        refine WX.region (opsOf (cfst (csnd (csnd (csnd (csnd (csnd B14))))))) (by kernel_rfl) ?_
        refine RX.psn 1 [(26, (Sl3.v v4_17))] (by kernel_rfl) ?_
        obtain ⟨⟨x19, x20, H21⟩, hx, h⟩ := bind_some h
        dsimp only at h
        refine RX.callAt (some 27) (v := (Value.tuple #[(Sl3.v x19), (Value.int .i64 x20)])) 46 #[(Sl3.v v4_17)] (by kernel_rfl) (by kernel_rfl) (by kernel_rfl) (nat_out_ok hx) ?_
        refine RX.psn 4 [(3, (Value.int .i64 x20)), (2, (Sl3.v x19)), (29, (Value.int .i64 x20)), (28, (Sl3.v x19))] (by kernel_rfl) ?_
        refine RX.done (by kernel_rfl) ?_
        refine fun ss hs => (WX.nxt ?_ ss hs)
        refine WX.ret (by kernel_rfl) ?_
        cases h
        exact fun ss hs => retR (rq hs (by kernel_rfl))
      · dsimp only at h
        refine WX.loopR (by kernel_rfl) (nat_Mul_b0 a0) (nat_Mul_b0_kn a0) (fun s => s.1) 0 (fun r => RQ Try.f14 (nat_Mul_enc r) (nat_Mul_hp ⟨0, .nil⟩ r)) nat_Mul_b0_ok hl ((SubK.cons (by kernel_rfl) (SubK.cons (by kernel_rfl) (SubK.cons (by kernel_rfl) (SubK.cons (by kernel_rfl) SubK.nil))))) rfl ?_
        cases h
        exact fun ss H hq => blkR (seqR (retR hq))

noncomputable def B24 : Code := (Try.f24.body).getD .skip

def nat_Of_enc : (Sl3 × AH) → Value
  | (r0, _) => (Sl3.v r0)

def nat_Of_hp (_ : AH) : (Sl3 × AH) → AH := fun r => r.2

noncomputable def nat_Of (H : AH) (a0 : Int) : Option (Sl3 × AH) :=
  Option.bind (newR 38 1 #[(Value.int .u64 a0)] H) fun (s1, H2) =>
  Option.bind (nat_own H2 s1) fun (x3, H4) =>
  some (x3, H4)

theorem nat_Of_ok {H : AH} {a0 : Int} {r : (Sl3 × AH)} (h : nat_Of H a0 = some r) :
    CallE Try.prog 1000 4294967296 24 #[(Value.int .u64 a0)] H (nat_Of_enc r) (nat_Of_hp H r) := by
  refine CallE.mk (args := [(Value.int .u64 a0)]) Try.func24 (B := B24) (by kernel_rfl) ?_
  unfold nat_Of at h
  refine WX.seq (by kernel_rfl) ?_
  refine WX.region (opsOf (cfst B24)) (by kernel_rfl) ?_
  refine RX.psn 1 [(2, (Sl3.v Sl3.nil))] (by kernel_rfl) ?_
  refine RX.done (by kernel_rfl) ?_
  refine fun ss hs => (WX.nxt ?_ ss hs)
  refine WX.seq (by kernel_rfl) ?_
  refine WX.region (opsOf (cfst (csnd B24))) (by kernel_rfl) ?_
  refine RX.psn 1 [(3, (Value.int .u64 a0))] (by kernel_rfl) ?_
  obtain ⟨⟨s1, H2⟩, hx, h⟩ := bind_some h
  dsimp only at h
  refine RX.at (some 4) (Sl3.v s1) (by kernel_rfl) (by kernel_rfl) (fun ih => Abs.run_newR (by kernel_rfl) (by kernel_rfl) hx) ?_
  obtain ⟨⟨x3, H4⟩, hx, h⟩ := bind_some h
  dsimp only at h
  refine RX.callAt (some 5) (v := (Sl3.v x3)) 52 #[(Sl3.v s1)] (by kernel_rfl) (by kernel_rfl) (by kernel_rfl) (nat_own_ok hx) ?_
  refine RX.psn 1 [(2, (Sl3.v x3))] (by kernel_rfl) ?_
  refine RX.done (by kernel_rfl) ?_
  refine fun ss hs => (WX.nxt ?_ ss hs)
  refine WX.ret (by kernel_rfl) ?_
  cases h
  exact fun ss hs => retR (rq hs (by kernel_rfl))

noncomputable def B53 : Code := (Try.f53.body).getD .skip

def nat_single_enc : (Sl3 × Int × AH) → Value
  | (r0, r1, _) => (Value.tuple #[(Sl3.v r0), (Value.int .u64 r1)])

def nat_single_hp (_ : AH) : (Sl3 × Int × AH) → AH := fun r => r.2.2

noncomputable def nat_single_b0 (a0 : Sl3) (a1 : Int) (s1 : Sl3) : (AH × Int × Int) → Option (Lp (AH × Int × Int) (Sl3 × Int × AH)) := fun (H3, v7_4, v8_5) =>
  if v8_5 ≥ 0 then
    Option.bind (idxA 1 a0 v8_5) fun p6 =>
    Option.bind (rd (deI .u64) H3 p6) fun x7 =>
    Option.bind (bits_Div64 H3 v7_4 x7 a1) fun (x8, x9) =>
    Option.bind (idxA 1 s1 v8_5) fun p10 =>
    Option.bind (H3.setCell 4294967296 p10 (Value.int .u64 x8)) fun H11 =>
    some (.next (H11, x9, (IntKind.i64.wrap (v8_5 - 1))))
  else
    some (.brk (H3, v7_4, v8_5))

def nat_single_b0_kn (a0 : Sl3) (a1 : Int) (s1 : Sl3) : (AH × Int × Int) → Kn := fun (H3, v7_4, v8_5) => [(7, (Value.int .u64 v7_4)), (8, (Value.int .i64 v8_5)), (0, (Sl3.v a0)), (1, (Value.int .u64 a1)), (6, (Sl3.v s1))]

noncomputable def nat_single (H : AH) (a0 : Sl3) (a1 : Int) : Option (Sl3 × Int × AH) :=
  Option.bind (mkS 38 1 8 #[(Value.int .u64 0)] H (a0.n : Int) (a0.n : Int)) fun (s1, H2) =>
  Option.bind (loopO (nat_single_b0 a0 a1 s1) (H2, 0, (IntKind.i64.wrap ((a0.n : Int) - 1)))) fun o => match o with
  | .inl (H12, v7_13, v8_14) =>
    Option.bind (nat_trim H12 s1) fun x15 =>
    some (x15, v7_13, H12)
  | .inr r => some r

theorem nat_single_b0_ok {a0 : Sl3} {a1 : Int} {s1 : Sl3} : ∀ s o, nat_single_b0 a0 a1 s1 s = some o →
    WX Try.prog 1000 4294967296 Try.f53.ntmps (cfst (cfst (csnd (cfst (csnd (csnd (csnd B53))))))) (nat_single_b0_kn a0 a1 s1 s) ((fun s => s.1) s) (lpQ (nat_single_b0_kn a0 a1 s1) (fun s => s.1) 0 (fun r => RQ Try.f53 (nat_single_enc r) (nat_single_hp ⟨0, .nil⟩ r)) o) := by
  rintro ⟨H3, v7_4, v8_5⟩ o h
  unfold nat_single_b0 at h
  try dsimp only at h
  refine WX.seq (by kernel_rfl) ?_
  refine WX.seq (by kernel_rfl) ?_
  refine WX.region (opsOf (cfst (cfst (cfst (cfst (csnd (cfst (csnd (csnd (csnd B53)))))))))) (by kernel_rfl) ?_
  refine RX.psn 2 [(16, (Value.bool (decide (v8_5 ≥ 0)))), (15, (Value.int .i64 v8_5))] (by kernel_rfl) ?_
  refine RX.done (by kernel_rfl) ?_
  refine fun ss hs => (WX.nxt ?_ ss hs)
  rcases ite_some h with ⟨hp, h⟩ | ⟨hp, h⟩
  · refine WX.condT _ (decide_eq_true hp) (by kernel_rfl) ?_
    refine WX.skip (by kernel_rfl) ?_
    refine fun ss hs => (WX.nxt ?_ ss hs)
    refine WX.seq (by kernel_rfl) ?_
    refine WX.block 1 (by kernel_rfl) ?_
    refine WX.region (opsOf (cfst (cfst (csnd (cfst (cfst (csnd (cfst (csnd (csnd (csnd B53))))))))))) (by kernel_rfl) ?_
    refine RX.psn 5 [(24, (Value.int .i64 v8_5)), (23, (Sl3.v a0)), (22, (Value.int .u64 v7_4)), (21, (Value.int .i64 v8_5)), (20, (Sl3.v s1))] (by kernel_rfl) ?_
    obtain ⟨p6, hx, h⟩ := bind_some h
    refine RX.at (some 25) (Value.pointer (some p6)) (by kernel_rfl) (by kernel_rfl) (fun ih => Abs.run_idx (s := a0) (k := .i64) (t := 24) (e := 38) (x := .tmp 23) (y := .tmp 24) (by kernel_rfl) (by kernel_rfl) (by kernel_rfl) (by kernel_rfl) (by kernel_rfl) hx) ?_
    obtain ⟨x7, hx, h⟩ := bind_some h
    refine RX.at (some 26) (Value.int .u64 x7) (by kernel_rfl) (by kernel_rfl) (fun ih => Abs.run_load (t := 38) (x := .tmp 25) (a := p6) (by kernel_rfl) (by kernel_rfl) (by kernel_rfl) (rd_cell hx deI_inv)) ?_
    refine RX.psn 1 [(27, (Value.int .u64 a1))] (by kernel_rfl) ?_
    obtain ⟨⟨x8, x9⟩, hx, h⟩ := bind_some h
    dsimp only at h
    refine RX.callAt (some 28) (v := (Value.tuple #[(Value.int .u64 x8), (Value.int .u64 x9)])) 75 #[(Value.int .u64 v7_4), (Value.int .u64 x7), (Value.int .u64 a1)] (by kernel_rfl) (by kernel_rfl) (by kernel_rfl) (bits_Div64_ok hx) ?_
    refine RX.psn 3 [(30, (Value.int .u64 x9)), (29, (Value.int .u64 x8)), (19, (Value.tuple #[(Value.int .u64 x8), (Value.int .u64 x9)]))] (by kernel_rfl) ?_
    obtain ⟨p10, hx, h⟩ := bind_some h
    refine RX.at (some 31) (Value.pointer (some p10)) (by kernel_rfl) (by kernel_rfl) (fun ih => Abs.run_idx (s := s1) (k := .i64) (t := 24) (e := 38) (x := .tmp 20) (y := .tmp 21) (by kernel_rfl) (by kernel_rfl) (by kernel_rfl) (by kernel_rfl) (by kernel_rfl) hx) ?_
    obtain ⟨H11, hx, h⟩ := bind_some h
    refine RX.at none undef (by kernel_rfl) (by kernel_rfl) (fun ih => Abs.run_store1 (t := 38) (x := .tmp 31) (y := .tmp 29) (a := p10) (v := (Value.int .u64 x8)) (by kernel_rfl) (by kernel_rfl) (by kernel_rfl) (by kernel_rfl) (by kernel_rfl) hx) ?_
    refine RX.psn 1 [(7, (Value.int .u64 x9))] (by kernel_rfl) ?_
    refine RX.done (by kernel_rfl) ?_
    refine fun ss hs => blkN ((WX.nxt ?_ ss hs))
    refine WX.region (opsOf (csnd (csnd (cfst (cfst (csnd (cfst (csnd (csnd (csnd B53)))))))))) (by kernel_rfl) ?_
    refine RX.psn 3 [(8, (Value.int .i64 (IntKind.i64.wrap (v8_5 - 1)))), (18, (Value.int .i64 (IntKind.i64.wrap (v8_5 - 1)))), (17, (Value.int .i64 v8_5))] (by kernel_rfl) ?_
    refine RX.done (by kernel_rfl) ?_
    cases h
    exact fun ss hs => lpN rfl (hs.sub ((SubK.cons (by kernel_rfl) (SubK.cons (by kernel_rfl) (SubK.cons (by kernel_rfl) (SubK.cons (by kernel_rfl) (SubK.cons (by kernel_rfl) SubK.nil)))))))
  · refine WX.condF _ (decide_eq_false hp) (by kernel_rfl) ?_
    refine WX.exit 0 (by kernel_rfl) ?_
    cases h
    exact fun ss hs => seqE (lpB rfl (hs.sub ((SubK.cons (by kernel_rfl) (SubK.cons (by kernel_rfl) (SubK.cons (by kernel_rfl) (SubK.cons (by kernel_rfl) (SubK.cons (by kernel_rfl) SubK.nil))))))))

theorem nat_single_ok {H : AH} {a0 : Sl3} {a1 : Int} {r : (Sl3 × Int × AH)} (h : nat_single H a0 a1 = some r) :
    CallE Try.prog 1000 4294967296 53 #[(Sl3.v a0), (Value.int .u64 a1)] H (nat_single_enc r) (nat_single_hp H r) := by
  refine CallE.mk (args := [(Sl3.v a0), (Value.int .u64 a1)]) Try.func53 (B := B53) (by kernel_rfl) ?_
  unfold nat_single at h
  refine WX.seq (by kernel_rfl) ?_
  refine WX.region (opsOf (cfst B53)) (by kernel_rfl) ?_
  refine RX.psn 2 [(5, (Value.int .u64 0)), (4, (Sl3.v Sl3.nil))] (by kernel_rfl) ?_
  refine RX.done (by kernel_rfl) ?_
  refine fun ss hs => (WX.nxt ?_ ss hs)
  refine WX.seq (by kernel_rfl) ?_
  refine WX.region (opsOf (cfst (csnd B53))) (by kernel_rfl) ?_
  refine RX.psn 2 [(10, (Value.int .i64 (a0.n : Int))), (9, (Sl3.v a0))] (by kernel_rfl) ?_
  obtain ⟨⟨s1, H2⟩, hx, h⟩ := bind_some h
  dsimp only at h
  refine RX.at (some 11) (Sl3.v s1) (by kernel_rfl) (by kernel_rfl) (fun ih => Abs.run_mk (t := 24) (x := .tmp 10) (y := .tmp 10) (k1 := .i64) (k2 := .i64) (by kernel_rfl) (by kernel_rfl) (by kernel_rfl) (by kernel_rfl) hx) ?_
  refine RX.psn 1 [(6, (Sl3.v s1))] (by kernel_rfl) ?_
  refine RX.done (by kernel_rfl) ?_
  refine fun ss hs => (WX.nxt ?_ ss hs)
  refine WX.seq (by kernel_rfl) ?_
  refine WX.region (opsOf (cfst (csnd (csnd B53)))) (by kernel_rfl) ?_
  refine RX.psn 1 [(7, (Value.int .u64 0))] (by kernel_rfl) ?_
  refine RX.done (by kernel_rfl) ?_
  refine fun ss hs => (WX.nxt ?_ ss hs)
  refine WX.seq (by kernel_rfl) ?_
  refine WX.seq (by kernel_rfl) ?_
  refine WX.region (opsOf (cfst (cfst (csnd (csnd (csnd B53)))))) (by kernel_rfl) ?_
  refine RX.psn 4 [(8, (Value.int .i64 (IntKind.i64.wrap ((a0.n : Int) - 1)))), (14, (Value.int .i64 (IntKind.i64.wrap ((a0.n : Int) - 1)))), (13, (Value.int .i64 (a0.n : Int))), (12, (Sl3.v a0))] (by kernel_rfl) ?_
  refine RX.done (by kernel_rfl) ?_
  refine fun ss hs => (WX.nxt ?_ ss hs)
  refine WX.block 0 (by kernel_rfl) ?_
  obtain ⟨o, hl, h⟩ := bind_some h
  rcases o with ⟨H12, v7_13, v8_14⟩ | r
  · dsimp only at h
    refine WX.loopI (by kernel_rfl) (nat_single_b0 a0 a1 s1) (nat_single_b0_kn a0 a1 s1) (fun s => s.1) 0 (fun r => RQ Try.f53 (nat_single_enc r) (nat_single_hp ⟨0, .nil⟩ r)) nat_single_b0_ok hl ((SubK.cons (by kernel_rfl) (SubK.cons (by kernel_rfl) (SubK.cons (by kernel_rfl) (SubK.cons (by kernel_rfl) (SubK.cons (by kernel_rfl) SubK.nil)))))) rfl ?_
    clear hl
    refine fun ss hs => blkE ((WX.nxt ?_ ss hs))
    refine WX.seq (by kernel_rfl) ?_
    refine WX.region (opsOf (cfst (csnd (csnd (csnd (csnd B53)))))) (by kernel_rfl) ?_
    refine RX.psn 1 [(32, (Sl3.v s1))] (by kernel_rfl) ?_
    obtain ⟨x15, hx, h⟩ := bind_some h
    refine RX.callAt (some 33) (v := (Sl3.v x15)) 44 #[(Sl3.v s1)] (by kernel_rfl) (by kernel_rfl) (by kernel_rfl) (nat_trim_ok hx) ?_
    refine RX.psn 3 [(5, (Value.int .u64 v7_13)), (4, (Sl3.v x15)), (34, (Value.int .u64 v7_13))] (by kernel_rfl) ?_
    refine RX.done (by kernel_rfl) ?_
    refine fun ss hs => (WX.nxt ?_ ss hs)
    refine WX.ret (by kernel_rfl) ?_
    cases h
    exact fun ss hs => retR (rq hs (by kernel_rfl))
  · dsimp only at h
    refine WX.loopR (by kernel_rfl) (nat_single_b0 a0 a1 s1) (nat_single_b0_kn a0 a1 s1) (fun s => s.1) 0 (fun r => RQ Try.f53 (nat_single_enc r) (nat_single_hp ⟨0, .nil⟩ r)) nat_single_b0_ok hl ((SubK.cons (by kernel_rfl) (SubK.cons (by kernel_rfl) (SubK.cons (by kernel_rfl) (SubK.cons (by kernel_rfl) (SubK.cons (by kernel_rfl) SubK.nil)))))) rfl ?_
    cases h
    exact fun ss H hq => blkR (seqR (retR hq))

end Go.Proofs.Ytoadagekdnkciaa

namespace Go.Proofs.Ytoadagekdnkciaa
open Go Go.Abs
set_option maxRecDepth 100000

noncomputable def B63 : Code := (Try.f63.body).getD .skip

def nat_shl_enc : (Sl3 × AH) → Value
  | (r0, _) => (Sl3.v r0)

def nat_shl_hp (_ : AH) : (Sl3 × AH) → AH := fun r => r.2

noncomputable def nat_shl_b0 (a0 : Sl3) (a1 : Int) : (AH × Sl3 × Int × Int) → Option (Lp (AH × Sl3 × Int × Int) (Sl3 × AH)) := fun (H3, v5_4, v6_5, v15_6) =>
  if v15_6 < (a0.n : Int) then
    Option.bind (idxA 1 a0 v15_6) fun p7 =>
    Option.bind (rd (deI .u64) H3 p7) fun x8 =>
    if a1 < 0 then none else
    Option.bind (newR 38 1 #[(Value.int .u64 (ior .u64 (ishl .u64 x8 a1) v6_5))] H3) fun (s9, H10) =>
    Option.bind (appS 4294967296 38 1 8 H10 v5_4 s9) fun (s11, H12) =>
    if (IntKind.u64.wrap (64 - a1)) < 0 then none else
    some (.next (H12, s11, (ishr .u64 x8 (IntKind.u64.wrap (64 - a1))), (IntKind.i64.wrap (v15_6 + 1))))
  else
    some (.brk (H3, v5_4, v6_5, v15_6))

def nat_shl_b0_kn (a0 : Sl3) (a1 : Int) : (AH × Sl3 × Int × Int) → Kn := fun (H3, v5_4, v6_5, v15_6) => [(5, (Sl3.v v5_4)), (6, (Value.int .u64 v6_5)), (15, (Value.int .i64 v15_6)), (1, (Value.int .u64 a1)), (13, (Sl3.v a0)), (14, (Value.int .i64 (a0.n : Int)))]

noncomputable def nat_shl (H : AH) (a0 : Sl3) (a1 : Int) : Option (Sl3 × AH) :=
  Option.bind (mkS 38 1 8 #[(Value.int .u64 0)] H 0 (IntKind.i64.wrap ((a0.n : Int) + 1))) fun (s1, H2) =>
  Option.bind (loopO (nat_shl_b0 a0 a1) (H2, s1, 0, 0)) fun o => match o with
  | .inl (H13, v5_14, v6_15, v15_16) =>
    Option.bind (newR 38 1 #[(Value.int .u64 v6_15)] H13) fun (s17, H18) =>
    Option.bind (appS 4294967296 38 1 8 H18 v5_14 s17) fun (s19, H20) =>
    some (s19, H20)
  | .inr r => some r

theorem nat_shl_b0_ok {a0 : Sl3} {a1 : Int} : ∀ s o, nat_shl_b0 a0 a1 s = some o →
    WX Try.prog 1000 4294967296 Try.f63.ntmps (cfst (cfst (csnd (cfst (csnd (csnd (csnd B63))))))) (nat_shl_b0_kn a0 a1 s) ((fun s => s.1) s) (lpQ (nat_shl_b0_kn a0 a1) (fun s => s.1) 0 (fun r => RQ Try.f63 (nat_shl_enc r) (nat_shl_hp ⟨0, .nil⟩ r)) o) := by
  rintro ⟨H3, v5_4, v6_5, v15_6⟩ o h
  unfold nat_shl_b0 at h
  try dsimp only at h
  refine WX.seq (by kernel_rfl) ?_
  refine WX.region (opsOf (cfst (cfst (cfst (csnd (cfst (csnd (csnd (csnd B63))))))))) (by kernel_rfl) ?_
  refine RX.psn 1 [(16, (Value.bool (decide (v15_6 < (a0.n : Int)))))] (by kernel_rfl) ?_
  refine RX.done (by kernel_rfl) ?_
  refine fun ss hs => (WX.nxt ?_ ss hs)
  refine WX.seq (by kernel_rfl) ?_
  rcases ite_some h with ⟨hp, h⟩ | ⟨hp, h⟩
  · refine WX.condT _ (decide_eq_true hp) (by kernel_rfl) ?_
    refine WX.skip (by kernel_rfl) ?_
    refine fun ss hs => (WX.nxt ?_ ss hs)
    refine WX.seq (by kernel_rfl) ?_
    refine WX.block 1 (by kernel_rfl) ?_
    refine WX.seq (by kernel_rfl) ?_
    refine WX.region (opsOf (cfst (cfst (cfst (csnd (csnd (cfst (cfst (csnd (cfst (csnd (csnd (csnd B63))))))))))))) (by kernel_rfl) ?_
    obtain ⟨p7, hx, h⟩ := bind_some h
    refine RX.at (some 17) (Value.pointer (some p7)) (by kernel_rfl) (by kernel_rfl) (fun ih => Abs.run_idx (s := a0) (k := .i64) (t := 24) (e := 38) (x := .tmp 13) (y := .tmp 15) (by kernel_rfl) (by kernel_rfl) (by kernel_rfl) (by kernel_rfl) (by kernel_rfl) hx) ?_
    obtain ⟨x8, hx, h⟩ := bind_some h
    refine RX.at (some 18) (Value.int .u64 x8) (by kernel_rfl) (by kernel_rfl) (fun ih => Abs.run_load (t := 38) (x := .tmp 17) (a := p7) (by kernel_rfl) (by kernel_rfl) (by kernel_rfl) (rd_cell hx deI_inv)) ?_
    refine RX.psn 1 [(8, (Value.int .u64 x8))] (by kernel_rfl) ?_
    refine RX.done (by kernel_rfl) ?_
    refine fun ss hs => (WX.nxt ?_ ss hs)
    refine WX.seq (by kernel_rfl) ?_
    refine WX.region (opsOf (cfst (csnd (cfst (cfst (csnd (csnd (cfst (cfst (csnd (cfst (csnd (csnd (csnd B63)))))))))))))) (by kernel_rfl) ?_
    refine RX.psn 3 [(21, (Value.int .u64 a1)), (20, (Value.int .u64 x8)), (19, (Sl3.v v5_4))] (by kernel_rfl) ?_
    rcases ite_some h with ⟨_, h⟩ | ⟨hx, h⟩
    · cases h
    · refine RX.at (some 22) (Value.int .u64 (ishl .u64 x8 a1)) (by kernel_rfl) (by kernel_rfl) (fun ih => Abs.run_shl (t := 38) (u := 73) (x := .tmp 20) (y := .tmp 21) (k' := .u64) (by kernel_rfl) (by kernel_rfl) (by kernel_rfl) hx) ?_
      refine RX.psn 2 [(24, (Value.int .u64 (ior .u64 (ishl .u64 x8 a1) v6_5))), (23, (Value.int .u64 v6_5))] (by kernel_rfl) ?_
      obtain ⟨⟨s9, H10⟩, hx, h⟩ := bind_some h
      dsimp only at h
      refine RX.at (some 25) (Sl3.v s9) (by kernel_rfl) (by kernel_rfl) (fun ih => Abs.run_newR (by kernel_rfl) (by kernel_rfl) hx) ?_
      obtain ⟨⟨s11, H12⟩, hx, h⟩ := bind_some h
      dsimp only at h
      refine RX.at (some 26) (Sl3.v s11) (by kernel_rfl) (by kernel_rfl) (fun ih => Abs.run_app (x := .tmp 19) (y := .tmp 25) (ts := #[24, 24]) (s := v5_4) (z := s9) (by kernel_rfl) (by kernel_rfl) (by kernel_rfl) (by kernel_rfl) hx) ?_
      refine RX.psn 1 [(5, (Sl3.v s11))] (by kernel_rfl) ?_
      refine RX.done (by kernel_rfl) ?_
      refine fun ss hs => (WX.nxt ?_ ss hs)
      refine WX.region (opsOf (csnd (csnd (cfst (cfst (csnd (csnd (cfst (cfst (csnd (cfst (csnd (csnd (csnd B63)))))))))))))) (by kernel_rfl) ?_
      refine RX.psn 3 [(29, (Value.int .u64 (IntKind.u64.wrap (64 - a1)))), (28, (Value.int .u64 a1)), (27, (Value.int .u64 x8))] (by kernel_rfl) ?_
      rcases ite_some h with ⟨_, h⟩ | ⟨hx, h⟩
      · cases h
      · refine RX.at (some 30) (Value.int .u64 (ishr .u64 x8 (IntKind.u64.wrap (64 - a1)))) (by kernel_rfl) (by kernel_rfl) (fun ih => Abs.run_shr (t := 38) (u := 73) (x := .tmp 27) (y := .tmp 29) (k' := .u64) (by kernel_rfl) (by kernel_rfl) (by kernel_rfl) hx) ?_
        refine RX.psn 1 [(6, (Value.int .u64 (ishr .u64 x8 (IntKind.u64.wrap (64 - a1)))))] (by kernel_rfl) ?_
        refine RX.done (by kernel_rfl) ?_
        refine fun ss hs => blkN ((WX.nxt ?_ ss hs))
        refine WX.region (opsOf (csnd (csnd (csnd (cfst (cfst (csnd (cfst (csnd (csnd (csnd B63))))))))))) (by kernel_rfl) ?_
        refine RX.psn 2 [(15, (Value.int .i64 (IntKind.i64.wrap (v15_6 + 1)))), (31, (Value.int .i64 (IntKind.i64.wrap (v15_6 + 1))))] (by kernel_rfl) ?_
        refine RX.done (by kernel_rfl) ?_
        cases h
        exact fun ss hs => lpN rfl (hs.sub ((SubK.cons (by kernel_rfl) (SubK.cons (by kernel_rfl) (SubK.cons (by kernel_rfl) (SubK.cons (by kernel_rfl) (SubK.cons (by kernel_rfl) (SubK.cons (by kernel_rfl) SubK.nil))))))))
  · refine WX.condF _ (decide_eq_false hp) (by kernel_rfl) ?_
    refine WX.exit 0 (by kernel_rfl) ?_
    cases h
    exact fun ss hs => seqE (lpB rfl (hs.sub ((SubK.cons (by kernel_rfl) (SubK.cons (by kernel_rfl) (SubK.cons (by kernel_rfl) (SubK.cons (by kernel_rfl) (SubK.cons (by kernel_rfl) (SubK.cons (by kernel_rfl) SubK.nil)))))))))

theorem nat_shl_ok {H : AH} {a0 : Sl3} {a1 : Int} {r : (Sl3 × AH)} (h : nat_shl H a0 a1 = some r) :
    CallE Try.prog 1000 4294967296 63 #[(Sl3.v a0), (Value.int .u64 a1)] H (nat_shl_enc r) (nat_shl_hp H r) := by
  refine CallE.mk (args := [(Sl3.v a0), (Value.int .u64 a1)]) Try.func63 (B := B63) (by kernel_rfl) ?_
  unfold nat_shl at h
  refine WX.seq (by kernel_rfl) ?_
  refine WX.region (opsOf (cfst B63)) (by kernel_rfl) ?_
  refine RX.psn 1 [(4, (Sl3.v Sl3.nil))] (by kernel_rfl) ?_
  refine RX.done (by kernel_rfl) ?_
  refine fun ss hs => (WX.nxt ?_ ss hs)
  refine WX.seq (by kernel_rfl) ?_
  refine WX.region (opsOf (cfst (csnd B63))) (by kernel_rfl) ?_
  refine RX.psn 3 [(11, (Value.int .i64 (IntKind.i64.wrap ((a0.n : Int) + 1)))), (10, (Value.int .i64 (a0.n : Int))), (9, (Sl3.v a0))] (by kernel_rfl) ?_
  obtain ⟨⟨s1, H2⟩, hx, h⟩ := bind_some h
  dsimp only at h
  refine RX.at (some 12) (Sl3.v s1) (by kernel_rfl) (by kernel_rfl) (fun ih => Abs.run_mk (t := 24) (x := .const (Value.int .i64 0)) (y := .tmp 11) (k1 := .i64) (k2 := .i64) (by kernel_rfl) (by kernel_rfl) (by kernel_rfl) (by kernel_rfl) hx) ?_
  refine RX.psn 1 [(5, (Sl3.v s1))] (by kernel_rfl) ?_
  refine RX.done (by kernel_rfl) ?_
  refine fun ss hs => (WX.nxt ?_ ss hs)
  refine WX.seq (by kernel_rfl) ?_
  refine WX.region (opsOf (cfst (csnd (csnd B63)))) (by kernel_rfl) ?_
  refine RX.psn 1 [(6, (Value.int .u64 0))] (by kernel_rfl) ?_
  refine RX.done (by kernel_rfl) ?_
  refine fun ss hs => (WX.nxt ?_ ss hs)
  refine WX.seq (by kernel_rfl) ?_
  refine WX.seq (by kernel_rfl) ?_
  refine WX.region (opsOf (cfst (cfst (csnd (csnd (csnd B63)))))) (by kernel_rfl) ?_
  refine RX.psn 3 [(15, (Value.int .i64 0)), (14, (Value.int .i64 (a0.n : Int))), (13, (Sl3.v a0))] (by kernel_rfl) ?_
  refine RX.done (by kernel_rfl) ?_
  refine fun ss hs => (WX.nxt ?_ ss hs)
  refine WX.block 0 (by kernel_rfl) ?_
  obtain ⟨o, hl, h⟩ := bind_some h
  rcases o with ⟨H13, v5_14, v6_15, v15_16⟩ | r
  · dsimp only at h
    refine WX.loopI (by kernel_rfl) (nat_shl_b0 a0 a1) (nat_shl_b0_kn a0 a1) (fun s => s.1) 0 (fun r => RQ Try.f63 (nat_shl_enc r) (nat_shl_hp ⟨0, .nil⟩ r)) nat_shl_b0_ok hl ((SubK.cons (by kernel_rfl) (SubK.cons (by kernel_rfl) (SubK.cons (by kernel_rfl) (SubK.cons (by kernel_rfl) (SubK.cons (by kernel_rfl) (SubK.cons (by kernel_rfl) SubK.nil))))))) rfl ?_
    clear hl
    refine fun ss hs => blkE ((WX.nxt ?_ ss hs))
    refine WX.seq (by kernel_rfl) ?_
    refine WX.region (opsOf (cfst (csnd (csnd (csnd (csnd B63)))))) (by kernel_rfl) ?_
    refine RX.psn 2 [(33, (Value.int .u64 v6_15)), (32, (Sl3.v v5_14))] (by kernel_rfl) ?_
    obtain ⟨⟨s17, H18⟩, hx, h⟩ := bind_some h
    dsimp only at h
    refine RX.at (some 34) (Sl3.v s17) (by kernel_rfl) (by kernel_rfl) (fun ih => Abs.run_newR (by kernel_rfl) (by kernel_rfl) hx) ?_
    obtain ⟨⟨s19, H20⟩, hx, h⟩ := bind_some h
    dsimp only at h
    refine RX.at (some 35) (Sl3.v s19) (by kernel_rfl) (by kernel_rfl) (fun ih => Abs.run_app (x := .tmp 32) (y := .tmp 34) (ts := #[24, 24]) (s := v5_14) (z := s17) (by kernel_rfl) (by kernel_rfl) (by kernel_rfl) (by kernel_rfl) hx) ?_
    refine RX.psn 1 [(4, (Sl3.v s19))] (by kernel_rfl) ?_
    refine RX.done (by kernel_rfl) ?_
    refine fun ss hs => (WX.nxt ?_ ss hs)
    refine WX.ret (by kernel_rfl) ?_
    cases h
    exact fun ss hs => retR (rq hs (by kernel_rfl))
  · dsimp only at h
    refine WX.loopR (by kernel_rfl) (nat_shl_b0 a0 a1) (nat_shl_b0_kn a0 a1) (fun s => s.1) 0 (fun r => RQ Try.f63 (nat_shl_enc r) (nat_shl_hp ⟨0, .nil⟩ r)) nat_shl_b0_ok hl ((SubK.cons (by kernel_rfl) (SubK.cons (by kernel_rfl) (SubK.cons (by kernel_rfl) (SubK.cons (by kernel_rfl) (SubK.cons (by kernel_rfl) (SubK.cons (by kernel_rfl) SubK.nil))))))) rfl ?_
    cases h
    exact fun ss H hq => blkR (seqR (retR hq))

noncomputable def B64 : Code := (Try.f64.body).getD .skip

def nat_shr_enc : (Sl3 × AH) → Value
  | (r0, _) => (Sl3.v r0)

def nat_shr_hp (_ : AH) : (Sl3 × AH) → AH := fun r => r.2

noncomputable def nat_shr_b0 (a0 : Sl3) (a1 : Int) (x1 : Sl3) : (AH × Int) → Option (Lp (AH × Int) (Sl3 × AH)) := fun (H3, v11_4) =>
  if v11_4 < (x1.n : Int) then
    Option.bind (α := AH) (
      Option.bind (idxA 1 x1 v11_4) fun p6 =>
      Option.bind (rd (deI .u64) H3 p6) fun x7 =>
      if a1 < 0 then none else
      Option.bind (idxA 1 x1 v11_4) fun p8 =>
      Option.bind (H3.setCell 4294967296 p8 (Value.int .u64 (ishr .u64 x7 a1))) fun H9 =>
      if (IntKind.i64.wrap (v11_4 + 1)) < (x1.n : Int) then
        if belowSN H9.next x1 = true then
          Option.bind (idxA 1 x1 v11_4) fun p10 =>
          if belowN H9.next p10 = true then
            Option.bind (rd (deI .u64) H9 p10) fun x11 =>
            if belowSN H9.next a0 = true then
              Option.bind (idxA 1 a0 (IntKind.i64.wrap (v11_4 + 1))) fun p12 =>
              if belowN H9.next p12 = true then
                Option.bind (rd (deI .u64) H9 p12) fun x13 =>
                if (IntKind.u64.wrap (64 - a1)) < 0 then none else
                Option.bind (idxA 1 x1 v11_4) fun p14 =>
                if belowN H9.next p14 = true then
                  Option.bind (H9.setCell 4294967296 p14 (Value.int .u64 (ior .u64 x11 (ishl .u64 x13 (IntKind.u64.wrap (64 - a1)))))) fun H15 =>
                  if H9.next ≤ H15.next then
                    some H15
                  else none
                else none
              else none
            else none
          else none
        else none
      else
        some H9) fun H5 =>
    some (.next (H5, (IntKind.i64.wrap (v11_4 + 1))))
  else
    some (.brk (H3, v11_4))

def nat_shr_b0_kn (a0 : Sl3) (a1 : Int) (x1 : Sl3) : (AH × Int) → Kn := fun (H3, v11_4) => [(11, (Value.int .i64 v11_4)), (0, (Sl3.v a0)), (1, (Value.int .u64 a1)), (5, (Sl3.v x1)), (10, (Value.int .i64 (x1.n : Int)))]

noncomputable def nat_shr (H : AH) (a0 : Sl3) (a1 : Int) : Option (Sl3 × AH) :=
  Option.bind (slices_Clone H a0) fun (x1, H2) =>
  Option.bind (loopO (nat_shr_b0 a0 a1 x1) (H2, 0)) fun o => match o with
  | .inl (H16, v11_17) =>
    Option.bind (nat_trim H16 x1) fun x18 =>
    some (x18, H16)
  | .inr r => some r

theorem nat_shr_b0_ok {a0 : Sl3} {a1 : Int} {x1 : Sl3} : ∀ s o, nat_shr_b0 a0 a1 x1 s = some o →
    WX Try.prog 1000 4294967296 Try.f64.ntmps (cfst (cfst (csnd (cfst (csnd (csnd B64)))))) (nat_shr_b0_kn a0 a1 x1 s) ((fun s => s.1) s) (lpQ (nat_shr_b0_kn a0 a1 x1) (fun s => s.1) 0 (fun r => RQ Try.f64 (nat_shr_enc r) (nat_shr_hp ⟨0, .nil⟩ r)) o) := by
  rintro ⟨H3, v11_4⟩ o h
  unfold nat_shr_b0 at h
  try dsimp only at h
  refine WX.seq (by kernel_rfl) ?_
  refine WX.region (opsOf (cfst (cfst (cfst (csnd (cfst (csnd (csnd B64)))))))) (by kernel_rfl) ?_
  refine RX.psn 1 [(12, (Value.bool (decide (v11_4 < (x1.n : Int)))))] (by kernel_rfl) ?_
  refine RX.done (by kernel_rfl) ?_
  refine fun ss hs => (WX.nxt ?_ ss hs)
  refine WX.seq (by kernel_rfl) ?_
  rcases ite_some h with ⟨hp, h⟩ | ⟨hp, h⟩
  · refine WX.condT _ (decide_eq_true hp) (by kernel_rfl) ?_
    refine WX.skip (by kernel_rfl) ?_
    refine fun ss hs => (WX.nxt ?_ ss hs)
    obtain ⟨H5, hx, h⟩ := bind_some h
    refine WX.seq (by kernel_rfl) ?_
    refine WX.join ([(0, (Sl3.v a0)), (1, (Value.int .u64 a1)), (5, (Sl3.v x1)), (10, (Value.int .i64 (x1.n : Int))), (11, (Value.int .i64 v11_4))]) H5 ?_ (fun ss hs => WX.nxt ?_ ss hs)
    · clear h; rename _ => h
      refine WX.block 1 (by kernel_rfl) ?_
      refine WX.seq (by kernel_rfl) ?_
      refine WX.region (opsOf (cfst (cfst (cfst (csnd (csnd (cfst (cfst (csnd (cfst (csnd (csnd B64)))))))))))) (by kernel_rfl) ?_
      refine RX.psn 2 [(6, (Value.int .i64 v11_4)), (13, (Value.int .i64 v11_4))] (by kernel_rfl) ?_
      refine RX.done (by kernel_rfl) ?_
      refine fun ss hs => (WX.nxt ?_ ss hs)
      refine WX.seq (by kernel_rfl) ?_
      refine WX.region (opsOf (cfst (csnd (cfst (cfst (csnd (csnd (cfst (cfst (csnd (cfst (csnd (csnd B64))))))))))))) (by kernel_rfl) ?_
      refine RX.psn 2 [(15, (Value.int .i64 v11_4)), (14, (Sl3.v x1))] (by kernel_rfl) ?_
      obtain ⟨p6, hx, h⟩ := bind_some h
      refine RX.at (some 16) (Value.pointer (some p6)) (by kernel_rfl) (by kernel_rfl) (fun ih => Abs.run_idx (s := x1) (k := .i64) (t := 24) (e := 38) (x := .tmp 14) (y := .tmp 15) (by kernel_rfl) (by kernel_rfl) (by kernel_rfl) (by kernel_rfl) (by kernel_rfl) hx) ?_
      obtain ⟨x7, hx, h⟩ := bind_some h
      refine RX.at (some 17) (Value.int .u64 x7) (by kernel_rfl) (by kernel_rfl) (fun ih => Abs.run_load (t := 38) (x := .tmp 16) (a := p6) (by kernel_rfl) (by kernel_rfl) (by kernel_rfl) (rd_cell hx deI_inv)) ?_
      refine RX.psn 1 [(18, (Value.int .u64 a1))] (by kernel_rfl) ?_
      rcases ite_some h with ⟨_, h⟩ | ⟨hx, h⟩
      · cases h
      · refine RX.at (some 19) (Value.int .u64 (ishr .u64 x7 a1)) (by kernel_rfl) (by kernel_rfl) (fun ih => Abs.run_shr (t := 38) (u := 73) (x := .tmp 17) (y := .tmp 18) (k' := .u64) (by kernel_rfl) (by kernel_rfl) (by kernel_rfl) hx) ?_
        obtain ⟨p8, hx, h⟩ := bind_some h
        refine RX.at (some 20) (Value.pointer (some p8)) (by kernel_rfl) (by kernel_rfl) (fun ih => Abs.run_idx (s := x1) (k := .i64) (t := 24) (e := 38) (x := .tmp 14) (y := .tmp 15) (by kernel_rfl) (by kernel_rfl) (by kernel_rfl) (by kernel_rfl) (by kernel_rfl) hx) ?_
        obtain ⟨H9, hx, h⟩ := bind_some h
        refine RX.at none undef (by kernel_rfl) (by kernel_rfl) (fun ih => Abs.run_store1 (t := 38) (x := .tmp 20) (y := .tmp 19) (a := p8) (v := (Value.int .u64 (ishr .u64 x7 a1))) (by kernel_rfl) (by kernel_rfl) (by kernel_rfl) (by kernel_rfl) (by kernel_rfl) hx) ?_
        refine RX.done (by kernel_rfl) ?_
        refine fun ss hs => (WX.nxt ?_ ss hs)
        refine WX.seq (by kernel_rfl) ?_
        refine WX.region (opsOf (cfst (csnd (csnd (cfst (cfst (csnd (csnd (cfst (cfst (csnd (cfst (csnd (csnd B64)))))))))))))) (by kernel_rfl) ?_
        refine RX.psn 5 [(25, (Value.bool (decide ((IntKind.i64.wrap (v11_4 + 1)) < (x1.n : Int))))), (24, (Value.int .i64 (x1.n : Int))), (23, (Sl3.v x1)), (22, (Value.int .i64 (IntKind.i64.wrap (v11_4 + 1)))), (21, (Value.int .i64 v11_4))] (by kernel_rfl) ?_
        refine RX.done (by kernel_rfl) ?_
        refine fun ss hs => (WX.nxt ?_ ss hs)
        rcases ite_some h with ⟨hp, h⟩ | ⟨hp, h⟩
        · refine WX.condT _ (decide_eq_true hp) (by kernel_rfl) ?_
          refine WX.drawn (opsOf (cfst (csnd (csnd (csnd (cfst (cfst (csnd (csnd (cfst (cfst (csnd (cfst (csnd (csnd B64))))))))))))))) false (by kernel_rfl) (by kernel_rfl) ?_
          rcases ite_some h with ⟨hb, h⟩ | ⟨_, h⟩
          · refine DX.q (some 26) (Sl3.v x1) (by kernel_rfl) (by kernel_rfl) (by kernel_rfl) (fun ih H => by kernel_rfl) (calm_sl (belowSN_lt hb)) ?_
            refine DX.q (some 27) (Value.int .i64 v11_4) (by kernel_rfl) (by kernel_rfl) (by kernel_rfl) (fun ih H => by kernel_rfl) calm_int ?_
            obtain ⟨p10, hx, h⟩ := bind_some h
            rcases ite_some h with ⟨hb, h⟩ | ⟨_, h⟩
            · refine DX.q (some 28) (Value.pointer (some p10)) (by kernel_rfl) (by kernel_rfl) (by kernel_rfl) (fun ih H => Abs.run_idx (s := x1) (k := .i64) (t := 24) (e := 38) (x := .tmp 26) (y := .tmp 27) (by kernel_rfl) (by kernel_rfl) (by kernel_rfl) (by kernel_rfl) (by kernel_rfl) hx) (calm_ptr (belowN_lt hb)) ?_
              obtain ⟨x11, hx, h⟩ := bind_some h
              refine DX.l (some 29) (Value.int .u64 x11) (by kernel_rfl) (by kernel_rfl) (by kernel_rfl) (by kernel_rfl) (fun ih H hm => Abs.run_load (t := 38) (x := .tmp 28) (a := p10) (by kernel_rfl) (by kernel_rfl) (by kernel_rfl) ((cell_mem hm _).trans (rd_cell hx deI_inv))) calm_int ?_
              rcases ite_some h with ⟨hb, h⟩ | ⟨_, h⟩
              · refine DX.q (some 30) (Sl3.v a0) (by kernel_rfl) (by kernel_rfl) (by kernel_rfl) (fun ih H => by kernel_rfl) (calm_sl (belowSN_lt hb)) ?_
                refine DX.q (some 31) (Value.int .i64 v11_4) (by kernel_rfl) (by kernel_rfl) (by kernel_rfl) (fun ih H => by kernel_rfl) calm_int ?_
                refine DX.q (some 32) (Value.int .i64 (IntKind.i64.wrap (v11_4 + 1))) (by kernel_rfl) (by kernel_rfl) (by kernel_rfl) (fun ih H => by kernel_rfl) calm_int ?_
                obtain ⟨p12, hx, h⟩ := bind_some h
                rcases ite_some h with ⟨hb, h⟩ | ⟨_, h⟩
                · refine DX.q (some 33) (Value.pointer (some p12)) (by kernel_rfl) (by kernel_rfl) (by kernel_rfl) (fun ih H => Abs.run_idx (s := a0) (k := .i64) (t := 24) (e := 38) (x := .tmp 30) (y := .tmp 32) (by kernel_rfl) (by kernel_rfl) (by kernel_rfl) (by kernel_rfl) (by kernel_rfl) hx) (calm_ptr (belowN_lt hb)) ?_
                  obtain ⟨x13, hx, h⟩ := bind_some h
                  refine DX.l (some 34) (Value.int .u64 x13) (by kernel_rfl) (by kernel_rfl) (by kernel_rfl) (by kernel_rfl) (fun ih H hm => Abs.run_load (t := 38) (x := .tmp 33) (a := p12) (by kernel_rfl) (by kernel_rfl) (by kernel_rfl) ((cell_mem hm _).trans (rd_cell hx deI_inv))) calm_int ?_
                  refine DX.q (some 35) (Value.int .u64 a1) (by kernel_rfl) (by kernel_rfl) (by kernel_rfl) (fun ih H => by kernel_rfl) calm_int ?_
                  refine DX.q (some 36) (Value.int .u64 (IntKind.u64.wrap (64 - a1))) (by kernel_rfl) (by kernel_rfl) (by kernel_rfl) (fun ih H => by kernel_rfl) calm_int ?_
                  rcases ite_some h with ⟨_, h⟩ | ⟨hx, h⟩
                  · cases h
                  · refine DX.q (some 37) (Value.int .u64 (ishl .u64 x13 (IntKind.u64.wrap (64 - a1)))) (by kernel_rfl) (by kernel_rfl) (by kernel_rfl) (fun ih H => Abs.run_shl (t := 38) (u := 73) (x := .tmp 34) (y := .tmp 36) (k' := .u64) (by kernel_rfl) (by kernel_rfl) (by kernel_rfl) hx) calm_int ?_
                    refine DX.q (some 38) (Value.int .u64 (ior .u64 x11 (ishl .u64 x13 (IntKind.u64.wrap (64 - a1))))) (by kernel_rfl) (by kernel_rfl) (by kernel_rfl) (fun ih H => by kernel_rfl) calm_int ?_
                    obtain ⟨p14, hx, h⟩ := bind_some h
                    rcases ite_some h with ⟨hb, h⟩ | ⟨_, h⟩
                    · refine DX.q (some 39) (Value.pointer (some p14)) (by kernel_rfl) (by kernel_rfl) (by kernel_rfl) (fun ih H => Abs.run_idx (s := x1) (k := .i64) (t := 24) (e := 38) (x := .tmp 26) (y := .tmp 27) (by kernel_rfl) (by kernel_rfl) (by kernel_rfl) (by kernel_rfl) (by kernel_rfl) hx) (calm_ptr (belowN_lt hb)) ?_
                      obtain ⟨H15, hx, h⟩ := bind_some h
                      rcases ite_some h with ⟨hle, h⟩ | ⟨_, h⟩
                      · refine DX.w none undef H9 (by kernel_rfl) (by kernel_rfl) (by kernel_rfl) (by kernel_rfl) [] [] (by kernel_rfl) (by kernel_rfl) rfl (fun ih => Abs.run_store1 (t := 38) (x := .tmp 39) (y := .tmp 38) (a := p14) (v := (Value.int .u64 (ior .u64 x11 (ishl .u64 x13 (IntKind.u64.wrap (64 - a1)))))) (by kernel_rfl) (by kernel_rfl) (by kernel_rfl) (by kernel_rfl) (by kernel_rfl) hx) hle (fun hh => by cases hh) ?_
                        refine DX.end_ (H' := H15) (by kernel_rfl) rfl ?_
                        cases h
                        exact fun ss hs => blkN (⟨rfl, hs.sub ((SubK.cons (by kernel_rfl) (SubK.cons (by kernel_rfl) (SubK.cons (by kernel_rfl) (SubK.cons (by kernel_rfl) (SubK.cons (by kernel_rfl) SubK.nil)))))), rfl⟩)
                      · cases h
                    · cases h
                · cases h
              · cases h
            · cases h
          · cases h
        · refine WX.condF _ (decide_eq_false hp) (by kernel_rfl) ?_
          refine WX.skip (by kernel_rfl) ?_
          cases h
          exact fun ss hs => blkN (⟨rfl, hs.sub ((SubK.cons (by kernel_rfl) (SubK.cons (by kernel_rfl) (SubK.cons (by kernel_rfl) (SubK.cons (by kernel_rfl) (SubK.cons (by kernel_rfl) SubK.nil)))))), rfl⟩)
    · clear hx
      refine WX.region (opsOf (csnd (csnd (csnd (cfst (cfst (csnd (cfst (csnd (csnd B64)))))))))) (by kernel_rfl) ?_
      refine RX.psn 2 [(11, (Value.int .i64 (IntKind.i64.wrap (v11_4 + 1)))), (40, (Value.int .i64 (IntKind.i64.wrap (v11_4 + 1))))] (by kernel_rfl) ?_
      refine RX.done (by kernel_rfl) ?_
      cases h
      exact fun ss hs => lpN rfl (hs.sub ((SubK.cons (by kernel_rfl) (SubK.cons (by kernel_rfl) (SubK.cons (by kernel_rfl) (SubK.cons (by kernel_rfl) (SubK.cons (by kernel_rfl) SubK.nil)))))))
  · refine WX.condF _ (decide_eq_false hp) (by kernel_rfl) ?_
    refine WX.exit 0 (by kernel_rfl) ?_
    cases h
    exact fun ss hs => seqE (lpB rfl (hs.sub ((SubK.cons (by kernel_rfl) (SubK.cons (by kernel_rfl) (SubK.cons (by kernel_rfl) (SubK.cons (by kernel_rfl) (SubK.cons (by kernel_rfl) SubK.nil))))))))

theorem nat_shr_ok {H : AH} {a0 : Sl3} {a1 : Int} {r : (Sl3 × AH)} (h : nat_shr H a0 a1 = some r) :
    CallE Try.prog 1000 4294967296 64 #[(Sl3.v a0), (Value.int .u64 a1)] H (nat_shr_enc r) (nat_shr_hp H r) := by
  refine CallE.mk (args := [(Sl3.v a0), (Value.int .u64 a1)]) Try.func64 (B := B64) (by kernel_rfl) ?_
  unfold nat_shr at h
  refine WX.seq (by kernel_rfl) ?_
  refine WX.region (opsOf (cfst B64)) (by kernel_rfl) ?_
  refine RX.psn 1 [(4, (Sl3.v Sl3.nil))] (by kernel_rfl) ?_
  refine RX.done (by kernel_rfl) ?_
  refine fun ss hs => (WX.nxt ?_ ss hs)
  refine WX.seq (by kernel_rfl) ?_
  refine WX.region (opsOf (cfst (csnd B64))) (by kernel_rfl) ?_
  refine RX.psn 1 [(7, (Sl3.v a0))] (by kernel_rfl) ?_
  obtain ⟨⟨x1, H2⟩, hx, h⟩ := bind_some h
  dsimp only at h
  refine RX.callAt (some 8) (v := (Sl3.v x1)) 74 #[(Sl3.v a0)] (by kernel_rfl) (by kernel_rfl) (by kernel_rfl) (slices_Clone_ok hx) ?_
  refine RX.psn 1 [(5, (Sl3.v x1))] (by kernel_rfl) ?_
  refine RX.done (by kernel_rfl) ?_
  refine fun ss hs => (WX.nxt ?_ ss hs)
  refine WX.seq (by kernel_rfl) ?_
  refine WX.seq (by kernel_rfl) ?_
  refine WX.region (opsOf (cfst (cfst (csnd (csnd B64))))) (by kernel_rfl) ?_
  refine RX.psn 3 [(11, (Value.int .i64 0)), (10, (Value.int .i64 (x1.n : Int))), (9, (Sl3.v x1))] (by kernel_rfl) ?_
  refine RX.done (by kernel_rfl) ?_
  refine fun ss hs => (WX.nxt ?_ ss hs)
  refine WX.block 0 (by kernel_rfl) ?_
  obtain ⟨o, hl, h⟩ := bind_some h
  rcases o with ⟨H16, v11_17⟩ | r
  · dsimp only at h
    refine WX.loopI (by kernel_rfl) (nat_shr_b0 a0 a1 x1) (nat_shr_b0_kn a0 a1 x1) (fun s => s.1) 0 (fun r => RQ Try.f64 (nat_shr_enc r) (nat_shr_hp ⟨0, .nil⟩ r)) nat_shr_b0_ok hl ((SubK.cons (by kernel_rfl) (SubK.cons (by kernel_rfl) (SubK.cons (by kernel_rfl) (SubK.cons (by kernel_rfl) (SubK.cons (by kernel_rfl) SubK.nil)))))) rfl ?_
    clear hl
    refine fun ss hs => blkE ((WX.nxt ?_ ss hs))
    refine WX.seq (by kernel_rfl) ?_
    refine WX.region (opsOf (cfst (csnd (csnd (csnd B64))))) (by kernel_rfl) ?_
    refine RX.psn 1 [(41, (Sl3.v x1))] (by kernel_rfl) ?_
    obtain ⟨x18, hx, h⟩ := bind_some h
    refine RX.callAt (some 42) (v := (Sl3.v x18)) 44 #[(Sl3.v x1)] (by kernel_rfl) (by kernel_rfl) (by kernel_rfl) (nat_trim_ok hx) ?_
    refine RX.psn 1 [(4, (Sl3.v x18))] (by kernel_rfl) ?_
    refine RX.done (by kernel_rfl) ?_
    refine fun ss hs => (WX.nxt ?_ ss hs)
    refine WX.ret (by kernel_rfl) ?_
    cases h
    exact fun ss hs => retR (rq hs (by kernel_rfl))
  · dsimp only at h
    refine WX.loopR (by kernel_rfl) (nat_shr_b0 a0 a1 x1) (nat_shr_b0_kn a0 a1 x1) (fun s => s.1) 0 (fun r => RQ Try.f64 (nat_shr_enc r) (nat_shr_hp ⟨0, .nil⟩ r)) nat_shr_b0_ok hl ((SubK.cons (by kernel_rfl) (SubK.cons (by kernel_rfl) (SubK.cons (by kernel_rfl) (SubK.cons (by kernel_rfl) (SubK.cons (by kernel_rfl) SubK.nil)))))) rfl ?_
    cases h
    exact fun ss H hq => blkR (seqR (retR hq))

noncomputable def B79 : Code := (Try.f79.body).getD .skip

def nat_digit_enc : Int → Value
  | r0 => (Value.int .u64 r0)

def nat_digit_hp (H : AH) : Int → AH := fun _ => H

noncomputable def nat_digit_b0 (H : AH) (a2 : Int) (a3 : Int) (a4 : Int) : (Int × Int) → Option (Lp (Int × Int) Int) := fun (v11_5, v12_6) =>
  Option.bind (bits_Mul64 v11_5 a4) fun (x7, x8) =>
  Option.bind (α := Unit ⊕ (Lp (Int × Int) Int)) (
    if x7 < v12_6 then
      ((some (.ret v11_5)).map .inr)
    else
      if x7 = v12_6 then
        if x8 ≤ a2 then
          ((some (.ret v11_5)).map .inr)
        else
          some (.inl ())
      else
        some (.inl ())) fun o => match o with
  | .inl _ =>
    if (IntKind.u64.wrap (v12_6 + a3)) < a3 then
      some (.ret (IntKind.u64.wrap (v11_5 - 1)))
    else
      some (.next ((IntKind.u64.wrap (v11_5 - 1)), (IntKind.u64.wrap (v12_6 + a3))))
  | .inr r => some r

def nat_digit_b0_kn (H : AH) (a2 : Int) (a3 : Int) (a4 : Int) : (Int × Int) → Kn := fun (v11_5, v12_6) => [(11, (Value.int .u64 v11_5)), (12, (Value.int .u64 v12_6)), (2, (Value.int .u64 a2)), (3, (Value.int .u64 a3)), (4, (Value.int .u64 a4))]

noncomputable def nat_digit (H : AH) (a0 : Int) (a1 : Int) (a2 : Int) (a3 : Int) (a4 : Int) : Option Int :=
  Option.bind (α := (Int × Int) ⊕ Int) (
    if a0 ≥ a3 then
      if (IntKind.u64.wrap (a1 + a3)) < a3 then
        ((some 18446744073709551615).map .inr)
      else
        some (.inl (18446744073709551615, (IntKind.u64.wrap (a1 + a3))))
    else
      Option.bind (bits_Div64 H a0 a1 a3) fun (x3, x4) =>
      some (.inl (x3, x4))) fun o => match o with
  | .inl (v11_1, v12_2) =>
    Option.bind (loopO (nat_digit_b0 H a2 a3 a4) (v11_1, v12_2)) fun o => match o with
    | .inl (v11_9, v12_10) =>
      none
    | .inr r => some r
  | .inr r => some r

theorem nat_digit_b0_ok {H : AH} {a2 : Int} {a3 : Int} {a4 : Int} : ∀ s o, nat_digit_b0 H a2 a3 a4 s = some o →
    WX Try.prog 1000 4294967296 Try.f79.ntmps (cfst (cfst (csnd (csnd (csnd B79))))) (nat_digit_b0_kn H a2 a3 a4 s) ((fun _ => H) s) (lpQ (nat_digit_b0_kn H a2 a3 a4) (fun _ => H) 0 (fun r => RQ Try.f79 (nat_digit_enc r) (nat_digit_hp H r)) o) := by
  rintro ⟨v11_5, v12_6⟩ o h
  unfold nat_digit_b0 at h
  try dsimp only at h
  refine WX.block 1 (by kernel_rfl) ?_
  refine WX.seq (by kernel_rfl) ?_
  refine WX.region (opsOf (cfst (cfst (cfst (cfst (csnd (csnd (csnd B79)))))))) (by kernel_rfl) ?_
  refine RX.psn 2 [(34, (Value.int .u64 a4)), (33, (Value.int .u64 v11_5))] (by kernel_rfl) ?_
  obtain ⟨⟨x7, x8⟩, hx, h⟩ := bind_some h
  dsimp only at h
  refine RX.callAt (some 35) (v := (Value.tuple #[(Value.int .u64 x7), (Value.int .u64 x8)])) 71 #[(Value.int .u64 v11_5), (Value.int .u64 a4)] (by kernel_rfl) (by kernel_rfl) (by kernel_rfl) (bits_Mul64_ok hx) ?_
  refine RX.psn 5 [(14, (Value.int .u64 x8)), (13, (Value.int .u64 x7)), (37, (Value.int .u64 x8)), (36, (Value.int .u64 x7)), (32, (Value.tuple #[(Value.int .u64 x7), (Value.int .u64 x8)]))] (by kernel_rfl) ?_
  refine RX.done (by kernel_rfl) ?_
  refine fun ss hs => (WX.nxt ?_ ss hs)
  obtain ⟨o, hx, h⟩ := bind_some h
  rcases o with _ | ro
  · dsimp only at h
    refine WX.seq (by kernel_rfl) ?_
    refine WX.join ([(2, (Value.int .u64 a2)), (3, (Value.int .u64 a3)), (4, (Value.int .u64 a4)), (11, (Value.int .u64 v11_5)), (12, (Value.int .u64 v12_6))]) H ?_ (fun ss hs => WX.nxt ?_ ss hs)
    · clear h; rename _ => h
      refine WX.seq (by kernel_rfl) ?_
      refine WX.region (opsOf (cfst (cfst (csnd (cfst (cfst (cfst (csnd (csnd (csnd B79)))))))))) (by kernel_rfl) ?_
      refine RX.psn 4 [(41, (Value.bool (decide (x7 < v12_6)))), (40, (Value.bool (decide (x7 < v12_6)))), (39, (Value.int .u64 v12_6)), (38, (Value.int .u64 x7))] (by kernel_rfl) ?_
      rcases ite_some h with ⟨hp, h⟩ | ⟨hp, h⟩
      · refine RX.fix 41 true (decide_eq_true hp) (by kernel_rfl) ?_
        refine RX.psn 9 [(50, (Value.bool true)), (49, undef), (48, undef), (47, undef), (46, undef), (45, undef), (44, undef), (43, undef), (42, undef)] (by kernel_rfl) ?_
        refine RX.done (by kernel_rfl) ?_
        refine fun ss hs => (WX.nxt ?_ ss hs)
        refine WX.condT true rfl (by kernel_rfl) ?_
        refine WX.seq (by kernel_rfl) ?_
        refine WX.region (opsOf (cfst (cfst (csnd (cfst (csnd (cfst (cfst (cfst (csnd (csnd (csnd B79)))))))))))) (by kernel_rfl) ?_
        refine RX.psn 2 [(10, (Value.int .u64 v11_5)), (51, (Value.int .u64 v11_5))] (by kernel_rfl) ?_
        refine RX.done (by kernel_rfl) ?_
        refine fun ss hs => (WX.nxt ?_ ss hs)
        refine WX.ret (by kernel_rfl) ?_
        exact (map_inl h).elim
      · refine RX.fix 41 false (decide_eq_false hp) (by kernel_rfl) ?_
        refine RX.psn 4 [(45, (Value.bool (decide (x7 = v12_6)))), (44, (Value.bool (decide (x7 = v12_6)))), (43, (Value.int .u64 v12_6)), (42, (Value.int .u64 x7))] (by kernel_rfl) ?_
        rcases ite_some h with ⟨hp, h⟩ | ⟨hp, h⟩
        · refine RX.fix 45 true (decide_eq_true hp) (by kernel_rfl) ?_
          refine RX.psn 5 [(50, (Value.bool (decide (x8 ≤ a2)))), (49, (Value.bool (decide (x8 ≤ a2)))), (48, (Value.bool (decide (x8 ≤ a2)))), (47, (Value.int .u64 a2)), (46, (Value.int .u64 x8))] (by kernel_rfl) ?_
          refine RX.done (by kernel_rfl) ?_
          refine fun ss hs => (WX.nxt ?_ ss hs)
          rcases ite_some h with ⟨hp, h⟩ | ⟨hp, h⟩
          · refine WX.condT _ (decide_eq_true hp) (by kernel_rfl) ?_
            refine WX.seq (by kernel_rfl) ?_
            refine WX.region (opsOf (cfst (cfst (csnd (cfst (csnd (cfst (cfst (cfst (csnd (csnd (csnd B79)))))))))))) (by kernel_rfl) ?_
            refine RX.psn 2 [(10, (Value.int .u64 v11_5)), (51, (Value.int .u64 v11_5))] (by kernel_rfl) ?_
            refine RX.done (by kernel_rfl) ?_
            refine fun ss hs => (WX.nxt ?_ ss hs)
            refine WX.ret (by kernel_rfl) ?_
            exact (map_inl h).elim
          · refine WX.condF _ (decide_eq_false hp) (by kernel_rfl) ?_
            refine WX.skip (by kernel_rfl) ?_
            cases h
            exact fun ss hs => ⟨rfl, hs.sub ((SubK.cons (by kernel_rfl) (SubK.cons (by kernel_rfl) (SubK.cons (by kernel_rfl) (SubK.cons (by kernel_rfl) (SubK.cons (by kernel_rfl) SubK.nil)))))), rfl⟩
        · refine RX.fix 45 false (decide_eq_false hp) (by kernel_rfl) ?_
          refine RX.psn 5 [(50, (Value.bool false)), (49, (Value.bool false)), (48, undef), (47, undef), (46, undef)] (by kernel_rfl) ?_
          refine RX.done (by kernel_rfl) ?_
          refine fun ss hs => (WX.nxt ?_ ss hs)
          refine WX.condF false rfl (by kernel_rfl) ?_
          refine WX.skip (by kernel_rfl) ?_
          cases h
          exact fun ss hs => ⟨rfl, hs.sub ((SubK.cons (by kernel_rfl) (SubK.cons (by kernel_rfl) (SubK.cons (by kernel_rfl) (SubK.cons (by kernel_rfl) (SubK.cons (by kernel_rfl) SubK.nil)))))), rfl⟩
    · clear hx
      refine WX.seq (by kernel_rfl) ?_
      refine WX.region (opsOf (cfst (csnd (csnd (cfst (cfst (cfst (csnd (csnd (csnd B79)))))))))) (by kernel_rfl) ?_
      refine RX.psn 3 [(11, (Value.int .u64 (IntKind.u64.wrap (v11_5 - 1)))), (53, (Value.int .u64 (IntKind.u64.wrap (v11_5 - 1)))), (52, (Value.int .u64 v11_5))] (by kernel_rfl) ?_
      refine RX.done (by kernel_rfl) ?_
      refine fun ss hs => (WX.nxt ?_ ss hs)
      refine WX.seq (by kernel_rfl) ?_
      refine WX.region (opsOf (cfst (csnd (csnd (csnd (cfst (cfst (cfst (csnd (csnd (csnd B79))))))))))) (by kernel_rfl) ?_
      refine RX.psn 4 [(12, (Value.int .u64 (IntKind.u64.wrap (v12_6 + a3)))), (56, (Value.int .u64 (IntKind.u64.wrap (v12_6 + a3)))), (55, (Value.int .u64 a3)), (54, (Value.int .u64 v12_6))] (by kernel_rfl) ?_
      refine RX.done (by kernel_rfl) ?_
      refine fun ss hs => (WX.nxt ?_ ss hs)
      refine WX.seq (by kernel_rfl) ?_
      refine WX.region (opsOf (cfst (csnd (csnd (csnd (csnd (cfst (cfst (cfst (csnd (csnd (csnd B79)))))))))))) (by kernel_rfl) ?_
      refine RX.psn 3 [(59, (Value.bool (decide ((IntKind.u64.wrap (v12_6 + a3)) < a3)))), (58, (Value.int .u64 a3)), (57, (Value.int .u64 (IntKind.u64.wrap (v12_6 + a3))))] (by kernel_rfl) ?_
      refine RX.done (by kernel_rfl) ?_
      refine fun ss hs => (WX.nxt ?_ ss hs)
      rcases ite_some h with ⟨hp, h⟩ | ⟨hp, h⟩
      · refine WX.condT _ (decide_eq_true hp) (by kernel_rfl) ?_
        refine WX.seq (by kernel_rfl) ?_
        refine WX.region (opsOf (cfst (cfst (csnd (csnd (csnd (csnd (csnd (cfst (cfst (cfst (csnd (csnd (csnd B79)))))))))))))) (by kernel_rfl) ?_
        refine RX.psn 2 [(10, (Value.int .u64 (IntKind.u64.wrap (v11_5 - 1)))), (60, (Value.int .u64 (IntKind.u64.wrap (v11_5 - 1))))] (by kernel_rfl) ?_
        refine RX.done (by kernel_rfl) ?_
        refine fun ss hs => (WX.nxt ?_ ss hs)
        refine WX.ret (by kernel_rfl) ?_
        cases h
        exact fun ss hs => blkR (lpR (rq hs (by kernel_rfl)))
      · refine WX.condF _ (decide_eq_false hp) (by kernel_rfl) ?_
        refine WX.skip (by kernel_rfl) ?_
        cases h
        exact fun ss hs => blkN (lpN rfl (hs.sub ((SubK.cons (by kernel_rfl) (SubK.cons (by kernel_rfl) (SubK.cons (by kernel_rfl) (SubK.cons (by kernel_rfl) (SubK.cons (by kernel_rfl) SubK.nil))))))))
  · cases h; rename _ => h
    refine WX.seq (by kernel_rfl) ?_
    refine WX.seq (by kernel_rfl) ?_
    refine WX.region (opsOf (cfst (cfst (csnd (cfst (cfst (cfst (csnd (csnd (csnd B79)))))))))) (by kernel_rfl) ?_
    refine RX.psn 4 [(41, (Value.bool (decide (x7 < v12_6)))), (40, (Value.bool (decide (x7 < v12_6)))), (39, (Value.int .u64 v12_6)), (38, (Value.int .u64 x7))] (by kernel_rfl) ?_
    rcases ite_some h with ⟨hp, h⟩ | ⟨hp, h⟩
    · refine RX.fix 41 true (decide_eq_true hp) (by kernel_rfl) ?_
      refine RX.psn 9 [(50, (Value.bool true)), (49, undef), (48, undef), (47, undef), (46, undef), (45, undef), (44, undef), (43, undef), (42, undef)] (by kernel_rfl) ?_
      refine RX.done (by kernel_rfl) ?_
      refine fun ss hs => (WX.nxt ?_ ss hs)
      refine WX.condT true rfl (by kernel_rfl) ?_
      refine WX.seq (by kernel_rfl) ?_
      refine WX.region (opsOf (cfst (cfst (csnd (cfst (csnd (cfst (cfst (cfst (csnd (csnd (csnd B79)))))))))))) (by kernel_rfl) ?_
      refine RX.psn 2 [(10, (Value.int .u64 v11_5)), (51, (Value.int .u64 v11_5))] (by kernel_rfl) ?_
      refine RX.done (by kernel_rfl) ?_
      refine fun ss hs => (WX.nxt ?_ ss hs)
      refine WX.ret (by kernel_rfl) ?_
      replace h := map_inr h
      cases h
      exact fun ss hs => seqR (blkR (lpR (rq hs (by kernel_rfl))))
    · refine RX.fix 41 false (decide_eq_false hp) (by kernel_rfl) ?_
      refine RX.psn 4 [(45, (Value.bool (decide (x7 = v12_6)))), (44, (Value.bool (decide (x7 = v12_6)))), (43, (Value.int .u64 v12_6)), (42, (Value.int .u64 x7))] (by kernel_rfl) ?_
      rcases ite_some h with ⟨hp, h⟩ | ⟨hp, h⟩
      · refine RX.fix 45 true (decide_eq_true hp) (by kernel_rfl) ?_
        refine RX.psn 5 [(50, (Value.bool (decide (x8 ≤ a2)))), (49, (Value.bool (decide (x8 ≤ a2)))), (48, (Value.bool (decide (x8 ≤ a2)))), (47, (Value.int .u64 a2)), (46, (Value.int .u64 x8))] (by kernel_rfl) ?_
        refine RX.done (by kernel_rfl) ?_
        refine fun ss hs => (WX.nxt ?_ ss hs)
        rcases ite_some h with ⟨hp, h⟩ | ⟨hp, h⟩
        · refine WX.condT _ (decide_eq_true hp) (by kernel_rfl) ?_
          refine WX.seq (by kernel_rfl) ?_
          refine WX.region (opsOf (cfst (cfst (csnd (cfst (csnd (cfst (cfst (cfst (csnd (csnd (csnd B79)))))))))))) (by kernel_rfl) ?_
          refine RX.psn 2 [(10, (Value.int .u64 v11_5)), (51, (Value.int .u64 v11_5))] (by kernel_rfl) ?_
          refine RX.done (by kernel_rfl) ?_
          refine fun ss hs => (WX.nxt ?_ ss hs)
          refine WX.ret (by kernel_rfl) ?_
          replace h := map_inr h
          cases h
          exact fun ss hs => seqR (blkR (lpR (rq hs (by kernel_rfl))))
        · refine WX.condF _ (decide_eq_false hp) (by kernel_rfl) ?_
          refine WX.skip (by kernel_rfl) ?_
          cases h
      · refine RX.fix 45 false (decide_eq_false hp) (by kernel_rfl) ?_
        refine RX.psn 5 [(50, (Value.bool false)), (49, (Value.bool false)), (48, undef), (47, undef), (46, undef)] (by kernel_rfl) ?_
        refine RX.done (by kernel_rfl) ?_
        refine fun ss hs => (WX.nxt ?_ ss hs)
        refine WX.condF false rfl (by kernel_rfl) ?_
        refine WX.skip (by kernel_rfl) ?_
        cases h

theorem nat_digit_ok {H : AH} {a0 : Int} {a1 : Int} {a2 : Int} {a3 : Int} {a4 : Int} {r : Int} (h : nat_digit H a0 a1 a2 a3 a4 = some r) :
    CallE Try.prog 1000 4294967296 79 #[(Value.int .u64 a0), (Value.int .u64 a1), (Value.int .u64 a2), (Value.int .u64 a3), (Value.int .u64 a4)] H (nat_digit_enc r) (nat_digit_hp H r) := by
  refine CallE.mk (args := [(Value.int .u64 a0), (Value.int .u64 a1), (Value.int .u64 a2), (Value.int .u64 a3), (Value.int .u64 a4)]) Try.func79 (B := B79) (by kernel_rfl) ?_
  unfold nat_digit at h
  refine WX.seq (by kernel_rfl) ?_
  refine WX.region (opsOf (cfst B79)) (by kernel_rfl) ?_
  refine RX.psn 1 [(10, (Value.int .u64 0))] (by kernel_rfl) ?_
  refine RX.done (by kernel_rfl) ?_
  refine fun ss hs => (WX.nxt ?_ ss hs)
  refine WX.seq (by kernel_rfl) ?_
  refine WX.region (opsOf (cfst (csnd B79))) (by kernel_rfl) ?_
  refine RX.psn 5 [(12, (Value.int .u64 (IntKind.u64.wrap (a1 + a3)))), (11, (Value.int .u64 18446744073709551615)), (17, (Value.int .u64 (IntKind.u64.wrap (a1 + a3)))), (16, (Value.int .u64 a3)), (15, (Value.int .u64 a1))] (by kernel_rfl) ?_
  refine RX.done (by kernel_rfl) ?_
  refine fun ss hs => (WX.nxt ?_ ss hs)
  obtain ⟨o, hx, h⟩ := bind_some h
  rcases o with ⟨v11_1, v12_2⟩ | ro
  · dsimp only at h
    refine WX.seq (by kernel_rfl) ?_
    refine WX.join ([(11, (Value.int .u64 v11_1)), (12, (Value.int .u64 v12_2)), (2, (Value.int .u64 a2)), (3, (Value.int .u64 a3)), (4, (Value.int .u64 a4))]) H ?_ (fun ss hs => WX.nxt ?_ ss hs)
    · clear h; rename _ => h
      refine WX.seq (by kernel_rfl) ?_
      refine WX.region (opsOf (cfst (cfst (csnd (csnd B79))))) (by kernel_rfl) ?_
      refine RX.psn 3 [(20, (Value.bool (decide (a0 ≥ a3)))), (19, (Value.int .u64 a3)), (18, (Value.int .u64 a0))] (by kernel_rfl) ?_
      refine RX.done (by kernel_rfl) ?_
      refine fun ss hs => (WX.nxt ?_ ss hs)
      rcases ite_some h with ⟨hp, h⟩ | ⟨hp, h⟩
      · refine WX.condT _ (decide_eq_true hp) (by kernel_rfl) ?_
        refine WX.seq (by kernel_rfl) ?_
        refine WX.region (opsOf (cfst (cfst (csnd (cfst (csnd (csnd B79))))))) (by kernel_rfl) ?_
        refine RX.psn 3 [(23, (Value.bool (decide ((IntKind.u64.wrap (a1 + a3)) < a3)))), (22, (Value.int .u64 a3)), (21, (Value.int .u64 (IntKind.u64.wrap (a1 + a3))))] (by kernel_rfl) ?_
        refine RX.done (by kernel_rfl) ?_
        refine fun ss hs => (WX.nxt ?_ ss hs)
        rcases ite_some h with ⟨hp, h⟩ | ⟨hp, h⟩
        · refine WX.condT _ (decide_eq_true hp) (by kernel_rfl) ?_
          refine WX.seq (by kernel_rfl) ?_
          refine WX.region (opsOf (cfst (cfst (csnd (cfst (csnd (cfst (csnd (csnd B79))))))))) (by kernel_rfl) ?_
          refine RX.psn 2 [(10, (Value.int .u64 18446744073709551615)), (24, (Value.int .u64 18446744073709551615))] (by kernel_rfl) ?_
          refine RX.done (by kernel_rfl) ?_
          refine fun ss hs => (WX.nxt ?_ ss hs)
          refine WX.ret (by kernel_rfl) ?_
          exact (map_inl h).elim
        · refine WX.condF _ (decide_eq_false hp) (by kernel_rfl) ?_
          refine WX.skip (by kernel_rfl) ?_
          cases h
          exact fun ss hs => ⟨rfl, hs.sub ((SubK.cons (by kernel_rfl) (SubK.cons (by kernel_rfl) (SubK.cons (by kernel_rfl) (SubK.cons (by kernel_rfl) (SubK.cons (by kernel_rfl) SubK.nil)))))), rfl⟩
      · refine WX.condF _ (decide_eq_false hp) (by kernel_rfl) ?_
        refine WX.region (opsOf (csnd (csnd (cfst (csnd (csnd B79)))))) (by kernel_rfl) ?_
        refine RX.psn 3 [(28, (Value.int .u64 a3)), (27, (Value.int .u64 a1)), (26, (Value.int .u64 a0))] (by kernel_rfl) ?_
        obtain ⟨⟨x3, x4⟩, hx, h⟩ := bind_some h
        dsimp only at h
        refine RX.callAt (some 29) (v := (Value.tuple #[(Value.int .u64 x3), (Value.int .u64 x4)])) 75 #[(Value.int .u64 a0), (Value.int .u64 a1), (Value.int .u64 a3)] (by kernel_rfl) (by kernel_rfl) (by kernel_rfl) (bits_Div64_ok hx) ?_
        refine RX.psn 5 [(12, (Value.int .u64 x4)), (11, (Value.int .u64 x3)), (31, (Value.int .u64 x4)), (30, (Value.int .u64 x3)), (25, (Value.tuple #[(Value.int .u64 x3), (Value.int .u64 x4)]))] (by kernel_rfl) ?_
        refine RX.done (by kernel_rfl) ?_
        cases h
        exact fun ss hs => ⟨rfl, hs.sub ((SubK.cons (by kernel_rfl) (SubK.cons (by kernel_rfl) (SubK.cons (by kernel_rfl) (SubK.cons (by kernel_rfl) (SubK.cons (by kernel_rfl) SubK.nil)))))), rfl⟩
    · clear hx
      refine WX.block 0 (by kernel_rfl) ?_
      obtain ⟨o, hl, h⟩ := bind_some h
      rcases o with ⟨v11_9, v12_10⟩ | r
      · dsimp only at h
        refine WX.loopI (by kernel_rfl) (nat_digit_b0 H a2 a3 a4) (nat_digit_b0_kn H a2 a3 a4) (fun _ => H) 0 (fun r => RQ Try.f79 (nat_digit_enc r) (nat_digit_hp H r)) nat_digit_b0_ok hl ((SubK.cons (by kernel_rfl) (SubK.cons (by kernel_rfl) (SubK.cons (by kernel_rfl) (SubK.cons (by kernel_rfl) (SubK.cons (by kernel_rfl) SubK.nil)))))) rfl ?_
        clear hl
        cases h
      · dsimp only at h
        refine WX.loopR (by kernel_rfl) (nat_digit_b0 H a2 a3 a4) (nat_digit_b0_kn H a2 a3 a4) (fun _ => H) 0 (fun r => RQ Try.f79 (nat_digit_enc r) (nat_digit_hp H r)) nat_digit_b0_ok hl ((SubK.cons (by kernel_rfl) (SubK.cons (by kernel_rfl) (SubK.cons (by kernel_rfl) (SubK.cons (by kernel_rfl) (SubK.cons (by kernel_rfl) SubK.nil)))))) rfl ?_
        cases h
        exact fun ss H hq => blkR (retR hq)
  · cases h; rename _ => h
    refine WX.seq (by kernel_rfl) ?_
    refine WX.seq (by kernel_rfl) ?_
    refine WX.region (opsOf (cfst (cfst (csnd (csnd B79))))) (by kernel_rfl) ?_
    refine RX.psn 3 [(20, (Value.bool (decide (a0 ≥ a3)))), (19, (Value.int .u64 a3)), (18, (Value.int .u64 a0))] (by kernel_rfl) ?_
    refine RX.done (by kernel_rfl) ?_
    refine fun ss hs => (WX.nxt ?_ ss hs)
    rcases ite_some h with ⟨hp, h⟩ | ⟨hp, h⟩
    · refine WX.condT _ (decide_eq_true hp) (by kernel_rfl) ?_
      refine WX.seq (by kernel_rfl) ?_
      refine WX.region (opsOf (cfst (cfst (csnd (cfst (csnd (csnd B79))))))) (by kernel_rfl) ?_
      refine RX.psn 3 [(23, (Value.bool (decide ((IntKind.u64.wrap (a1 + a3)) < a3)))), (22, (Value.int .u64 a3)), (21, (Value.int .u64 (IntKind.u64.wrap (a1 + a3))))] (by kernel_rfl) ?_
      refine RX.done (by kernel_rfl) ?_
      refine fun ss hs => (WX.nxt ?_ ss hs)
      rcases ite_some h with ⟨hp, h⟩ | ⟨hp, h⟩
      · refine WX.condT _ (decide_eq_true hp) (by kernel_rfl) ?_
        refine WX.seq (by kernel_rfl) ?_
        refine WX.region (opsOf (cfst (cfst (csnd (cfst (csnd (cfst (csnd (csnd B79))))))))) (by kernel_rfl) ?_
        refine RX.psn 2 [(10, (Value.int .u64 18446744073709551615)), (24, (Value.int .u64 18446744073709551615))] (by kernel_rfl) ?_
        refine RX.done (by kernel_rfl) ?_
        refine fun ss hs => (WX.nxt ?_ ss hs)
        refine WX.ret (by kernel_rfl) ?_
        replace h := map_inr h
        cases h
        exact fun ss hs => seqR (retR (rq hs (by kernel_rfl)))
      · refine WX.condF _ (decide_eq_false hp) (by kernel_rfl) ?_
        refine WX.skip (by kernel_rfl) ?_
        cases h
    · refine WX.condF _ (decide_eq_false hp) (by kernel_rfl) ?_
      refine WX.region (opsOf (csnd (csnd (cfst (csnd (csnd B79)))))) (by kernel_rfl) ?_
      refine RX.psn 3 [(28, (Value.int .u64 a3)), (27, (Value.int .u64 a1)), (26, (Value.int .u64 a0))] (by kernel_rfl) ?_
      obtain ⟨⟨x3, x4⟩, hx, h⟩ := bind_some h
      dsimp only at h
      refine RX.callAt (some 29) (v := (Value.tuple #[(Value.int .u64 x3), (Value.int .u64 x4)])) 75 #[(Value.int .u64 a0), (Value.int .u64 a1), (Value.int .u64 a3)] (by kernel_rfl) (by kernel_rfl) (by kernel_rfl) (bits_Div64_ok hx) ?_
      refine RX.psn 5 [(12, (Value.int .u64 x4)), (11, (Value.int .u64 x3)), (31, (Value.int .u64 x4)), (30, (Value.int .u64 x3)), (25, (Value.tuple #[(Value.int .u64 x3), (Value.int .u64 x4)]))] (by kernel_rfl) ?_
      refine RX.done (by kernel_rfl) ?_
      cases h

theorem ext77_ok {H : AH} {x y c a b : Int} (h : sub64 x y c = some (a, b)) : CallE Try.prog 1000 4294967296 77 #[Value.int .u64 x, Value.int .u64 y, Value.int .u64 c] H (Value.tuple #[Value.int .u64 a, Value.int .u64 b]) H := by
  unfold sub64 at h
  rcases ite_some h with ⟨hc, h⟩ | ⟨_, h⟩
  · cases h
    rcases hc with rfl | rfl
    · exact extern_call Try.func77 (by kernel_rfl) (by kernel_rfl) (by kernel_rfl) (by kernel_rfl)
    · exact extern_call Try.func77 (by kernel_rfl) (by kernel_rfl) (by kernel_rfl) (by kernel_rfl)
  · cases h

end Go.Proofs.Ytoadagekdnkciaa
