/- SortNames is proved where what it reads is of bulk at most 1048576: it returns true and its arguments read as before. No condition beyond the row's own (five listed tables of Go's library as the text lays them). -/
import Derived.Test.YtccbilfbhecdaaaDoorNm4
import Derived.Test.YtccbilfbhecdaaaDoorRows
import Derived.Test.YtccbilfbhecdaaaDoorCards
import Derived.Test.YtccbilfbhecdaaaDoorTie
import Derived.Deep.DeepWitnessRowRef
import Derived.ChangeMaps5
namespace Go.Proofs.YtccbilfbhecdaaaDoor.Aw
open Go Go.Abs
set_option maxRecDepth 100000

def strconv_FormatInt_enc : (ByteArray × AH) → Value
  | (r0, _) => (Value.string r0)

def strconv_FormatInt_hp (_ : AH) : (ByteArray × AH) → AH := fun r => r.2

noncomputable def B104 : Code := (Tryd.f104.body).getD .skip

noncomputable def strconv_FormatInt (L : LC) (m : Nat) (H : AH) (a0 : Int) (a1 : Int) : Option (ByteArray × AH) :=
  if a1 = 10 then
    if 0 ≤ a0 then
      if a0 < 100 then
        Option.bind (strconv_small L a0) fun x1 =>
        some (x1, H)
      else
        Option.bind (newB 140 [(Value.int .u8 0), (Value.int .u8 0), (Value.int .u8 0), (Value.int .u8 0), (Value.int .u8 0), (Value.int .u8 0), (Value.int .u8 0), (Value.int .u8 0), (Value.int .u8 0), (Value.int .u8 0), (Value.int .u8 0), (Value.int .u8 0), (Value.int .u8 0), (Value.int .u8 0), (Value.int .u8 0), (Value.int .u8 0), (Value.int .u8 0), (Value.int .u8 0), (Value.int .u8 0), (Value.int .u8 0), (Value.int .u8 0), (Value.int .u8 0), (Value.int .u8 0), (Value.int .u8 0)] H) fun (p2, H3) =>
        if a0 < 0 then
          none
        else
          Option.bind (strconv_numDigits L H3 (IntKind.u64.wrap a0)) fun x4 =>
          Option.bind (slcR 1 24 p2 (some 1) (some (IntKind.i64.wrap (1 + x4)))) fun s5 =>
          Option.bind (strconv_formatBase10 L m H3 s5 (IntKind.u64.wrap a0)) fun H6 =>
          if a0 < 0 then
            none
          else
            Option.bind (slcR 1 24 p2 (some 1) (some (IntKind.i64.wrap (1 + x4)))) fun s7 =>
            Option.bind (bts H6 s7) fun s8 =>
            some (s8, H6)
    else
      none
  else
    none

theorem strconv_FormatInt_ok {L : LC} {ne : NE} {m : Nat} {H : AH} {a0 : Int} {a1 : Int} {r : (ByteArray × AH)} (h : strconv_FormatInt L m H a0 a1 = some r) :
    CallS Tryd.prog ne m 104 #[(Value.int .i64 a0), (Value.int .i64 a1)] H (strconv_FormatInt_enc r) (strconv_FormatInt_hp H r) := by
  refine CallS.mk (args := [(Value.int .i64 a0), (Value.int .i64 a1)]) Tryd.func104 (B := B104) (by kernel_rfl) (fun E _ => ?_)
  unfold strconv_FormatInt at h
  refine WS.sq ?_
  refine WS.rg ?_
  refine RS.mS 1 [(4, .val (Value.string (⟨#[]⟩ : ByteArray)))] ?_
  refine RS.dn ?_
  refine WS.nxt ?_
  refine WS.sq ?_
  refine WS.sq ?_
  refine WS.rg ?_
  refine RS.mS 2 [(11, .val (Value.bool (decide (a1 = 10)))), (10, .val (Value.int .i64 a1))] ?_
  refine RS.dn ?_
  refine WS.nxt ?_
  rcases ite_some h with ⟨hp, h⟩ | ⟨hp, h⟩
  · refine WS.fx 11 true (decide_eq_true hp) ?_
    refine WS.cT ?_
    refine WS.sq ?_
    refine WS.sq ?_
    refine WS.rg ?_
    refine RS.mS 3 [(14, .val (Value.bool (decide (0 ≤ a0)))), (13, .val (Value.bool (decide (0 ≤ a0)))), (12, .val (Value.int .i64 a0))] ?_
    rcases ite_some h with ⟨hp, h⟩ | ⟨hp, h⟩
    · refine RS.fx 14 true (decide_eq_true hp) ?_
      refine RS.mS 3 [(17, .val (Value.bool (decide (a0 < 100)))), (16, .val (Value.bool (decide (a0 < 100)))), (15, .val (Value.int .i64 a0))] ?_
      refine RS.dn ?_
      refine WS.nxt ?_
      rcases ite_some h with ⟨hp, h⟩ | ⟨hp, h⟩
      · refine WS.fx 17 true (decide_eq_true hp) ?_
        refine WS.cT ?_
        refine WS.sq ?_
        refine WS.rg ?_
        refine RS.mS 1 [(18, .val (Value.int .i64 a0))] ?_
        obtain ⟨x1, hx, h⟩ := bind_some h
        refine RS.cl (some 19) (v := (Value.string x1)) 106 #[(Value.int .i64 a0)] (strconv_small_ok hx) ?_
        refine RS.mS 1 [(4, .val (Value.string x1))] ?_
        refine RS.dn ?_
        refine WS.nxt ?_
        refine WS.rt ?_
        cases h
        exact fun a w hs => sqR (sqR (rtR (rS hs)))
      · refine WS.fx 17 false (decide_eq_false hp) ?_
        refine WS.cF ?_
        refine WS.sk ?_
        refine WS.nxt ?_
        refine WS.sq ?_
        refine WS.rg ?_
        obtain ⟨⟨p2, H3⟩, hx, h⟩ := bind_some h
        try dsimp only at h
        refine RS.o (H' := H3) (some 5) (Value.pointer (some p2)) (Abs.run_newB (by kernel_rfl) hx) ?_
        refine RS.dn ?_
        refine WS.nxt ?_
        refine WS.sq ?_
        refine WS.rg ?_
        refine RS.mS 3 [(6, .val (Value.int .u64 (IntKind.u64.wrap a0))), (21, .val (Value.int .u64 (IntKind.u64.wrap a0))), (20, .val (Value.int .i64 a0))] ?_
        refine RS.dn ?_
        refine WS.nxt ?_
        refine WS.sq ?_
        refine WS.sq ?_
        refine WS.rg ?_
        refine RS.mS 2 [(23, .val (Value.bool (decide (a0 < 0)))), (22, .val (Value.int .i64 a0))] ?_
        refine RS.dn ?_
        refine WS.nxt ?_
        rcases ite_some h with ⟨hp, h⟩ | ⟨hp, h⟩
        · refine WS.fx 23 true (decide_eq_true hp) ?_
          refine WS.cT ?_
          cases h
        · refine WS.fx 23 false (decide_eq_false hp) ?_
          refine WS.cF ?_
          refine WS.sk ?_
          refine WS.nxt ?_
          refine WS.sq ?_
          refine WS.rg ?_
          refine RS.mS 1 [(26, .val (Value.int .u64 (IntKind.u64.wrap a0)))] ?_
          obtain ⟨x4, hx, h⟩ := bind_some h
          refine RS.cl (some 27) (v := (Value.int .i64 x4)) 107 #[(Value.int .u64 (IntKind.u64.wrap a0))] (strconv_numDigits_ok hx) ?_
          refine RS.mS 1 [(7, .val (Value.int .i64 x4))] ?_
          refine RS.dn ?_
          refine WS.nxt ?_
          refine WS.sq ?_
          refine WS.rg ?_
          refine RS.mS 2 [(29, .val (Value.int .i64 (IntKind.i64.wrap (1 + x4)))), (28, .val (Value.int .i64 x4))] ?_
          obtain ⟨s5, hx, h⟩ := bind_some h
          refine RS.o (H' := H3) (some 30) (Sl3.v s5) (Abs.run_slcR (t := 140) (e := 5) (x := .tmp 5) (lo := (some (.const (Value.int .i64 1)))) (hi := (some (.tmp 29))) (a := p2) (k1 := .i64) (k2 := .i64) (by kernel_rfl) (by kernel_rfl) (by kernel_rfl) (by kernel_rfl) (by kernel_rfl) (by kernel_rfl) hx) ?_
          refine RS.mS 1 [(31, .val (Value.int .u64 (IntKind.u64.wrap a0)))] ?_
          obtain ⟨H6, hx, h⟩ := bind_some h
          refine RS.cl (some 32) (v := (Value.tuple #[])) 108 #[(Sl3.v s5), (Value.int .u64 (IntKind.u64.wrap a0))] (strconv_formatBase10_ok hx) ?_
          refine RS.dn ?_
          refine WS.nxt ?_
          refine WS.sq ?_
          refine WS.sq ?_
          refine WS.rg ?_
          refine RS.mS 2 [(34, .val (Value.bool (decide (a0 < 0)))), (33, .val (Value.int .i64 a0))] ?_
          refine RS.dn ?_
          refine WS.nxt ?_
          rcases ite_some h with ⟨hp, h⟩ | ⟨hp, h⟩
          · refine WS.fx 34 true (decide_eq_true hp) ?_
            refine WS.cT ?_
            cases h
          · refine WS.fx 34 false (decide_eq_false hp) ?_
            refine WS.cF ?_
            refine WS.sk ?_
            refine WS.nxt ?_
            refine WS.sq ?_
            refine WS.rg ?_
            refine RS.mS 2 [(41, .val (Value.int .i64 (IntKind.i64.wrap (1 + x4)))), (40, .val (Value.int .i64 x4))] ?_
            obtain ⟨s7, hx, h⟩ := bind_some h
            refine RS.o (H' := H6) (some 42) (Sl3.v s7) (Abs.run_slcR (t := 140) (e := 5) (x := .tmp 5) (lo := (some (.const (Value.int .i64 1)))) (hi := (some (.tmp 41))) (a := p2) (k1 := .i64) (k2 := .i64) (by kernel_rfl) (by kernel_rfl) (by kernel_rfl) (by kernel_rfl) (by kernel_rfl) (by kernel_rfl) hx) ?_
            obtain ⟨s8, hx, h⟩ := bind_some h
            refine RS.o (H' := H6) (some 43) (Value.string s8) (Abs.run_bts (t := 144) (u := 9) (e := 5) (x := .tmp 42) (s := s7) (by kernel_rfl) (by kernel_rfl) (by kernel_rfl) (by kernel_rfl) (by kernel_rfl) hx) ?_
            refine RS.mS 1 [(4, .val (Value.string s8))] ?_
            refine RS.dn ?_
            refine WS.nxt ?_
            refine WS.rt ?_
            cases h
            exact fun a w hs => sqR (rtR (rS hs))
    · refine RS.fx 14 false (decide_eq_false hp) ?_
      cases h
  · refine WS.fx 11 false (decide_eq_false hp) ?_
    refine WS.cF ?_
    cases h

def strconv_Itoa_99_enc : (ByteArray × AH) → Value
  | (r0, _) => (Value.string r0)

def strconv_Itoa_99_hp (_ : AH) : (ByteArray × AH) → AH := fun r => r.2

noncomputable def B99 : Code := (Tryd.f99.body).getD .skip

noncomputable def strconv_Itoa_99 (L : LC) (m : Nat) (H : AH) (a0 : Int) : Option (ByteArray × AH) :=
  Option.bind (strconv_FormatInt L m H a0 10) fun (x1, H2) =>
  some (x1, H2)

theorem strconv_Itoa_99_ok {L : LC} {ne : NE} {m : Nat} {H : AH} {a0 : Int} {r : (ByteArray × AH)} (h : strconv_Itoa_99 L m H a0 = some r) :
    CallS Tryd.prog ne m 99 #[(Value.int .i64 a0)] H (strconv_Itoa_99_enc r) (strconv_Itoa_99_hp H r) := by
  refine CallS.mk (args := [(Value.int .i64 a0)]) Tryd.func99 (B := B99) (by kernel_rfl) (fun E _ => ?_)
  unfold strconv_Itoa_99 at h
  refine WS.sq ?_
  refine WS.rg ?_
  refine RS.mS 1 [(2, .val (Value.string (⟨#[]⟩ : ByteArray)))] ?_
  refine RS.dn ?_
  refine WS.nxt ?_
  refine WS.sq ?_
  refine WS.rg ?_
  refine RS.mS 1 [(3, .val (Value.int .i64 a0))] ?_
  obtain ⟨⟨x1, H2⟩, hx, h⟩ := bind_some h
  try dsimp only at h
  refine RS.cl (some 4) (v := (Value.string x1)) 104 #[(Value.int .i64 a0), (Value.int .i64 10)] (strconv_FormatInt_ok hx) ?_
  refine RS.mS 1 [(2, .val (Value.string x1))] ?_
  refine RS.dn ?_
  refine WS.nxt ?_
  refine WS.rt ?_
  cases h
  exact fun a w hs => rtR (rS hs)

def strconv_Itoa_enc : (ByteArray × AH) → Value
  | (r0, _) => (Value.string r0)

def strconv_Itoa_hp (_ : AH) : (ByteArray × AH) → AH := fun r => r.2

noncomputable def B92 : Code := (Tryd.f92.body).getD .skip

noncomputable def strconv_Itoa (L : LC) (m : Nat) (H : AH) (a0 : Int) : Option (ByteArray × AH) :=
  Option.bind (strconv_Itoa_99 L m H a0) fun (x1, H2) =>
  some (x1, H2)

theorem strconv_Itoa_ok {L : LC} {ne : NE} {m : Nat} {H : AH} {a0 : Int} {r : (ByteArray × AH)} (h : strconv_Itoa L m H a0 = some r) :
    CallS Tryd.prog ne m 92 #[(Value.int .i64 a0)] H (strconv_Itoa_enc r) (strconv_Itoa_hp H r) := by
  refine CallS.mk (args := [(Value.int .i64 a0)]) Tryd.func92 (B := B92) (by kernel_rfl) (fun E _ => ?_)
  unfold strconv_Itoa at h
  refine WS.sq ?_
  refine WS.rg ?_
  refine RS.mS 1 [(2, .val (Value.string (⟨#[]⟩ : ByteArray)))] ?_
  refine RS.dn ?_
  refine WS.nxt ?_
  refine WS.sq ?_
  refine WS.rg ?_
  refine RS.mS 1 [(3, .val (Value.int .i64 a0))] ?_
  obtain ⟨⟨x1, H2⟩, hx, h⟩ := bind_some h
  try dsimp only at h
  refine RS.cl (some 4) (v := (Value.string x1)) 99 #[(Value.int .i64 a0)] (strconv_Itoa_99_ok hx) ?_
  refine RS.mS 1 [(2, .val (Value.string x1))] ?_
  refine RS.dn ?_
  refine WS.nxt ?_
  refine WS.rt ?_
  cases h
  exact fun a w hs => rtR (rS hs)

def sort_written_enc : (ByteArray × AH) → Value
  | (r0, _) => (Value.string r0)

def sort_written_hp (_ : AH) : (ByteArray × AH) → AH := fun r => r.2

noncomputable def B58 : Code := (Tryd.f58.body).getD .skip

noncomputable def sort_written_body (L : LC) (m : Nat) (H : AH) (a0_0 : Int) (a0_1 : Int) (_a0_2 : ByteArray) (_a0_3 : Sl3) : Option (ByteArray × AH) :=
  if a0_0 = 1 then
    none
  else
    if a0_0 = 2 then
      none
    else
      if a0_0 = 3 then
        Option.bind (strconv_Itoa L m H a0_1) fun (x1, H2) =>
        Option.bind (strcat (⟨#[40, 95, 32, 66, 105, 116, 86, 101, 99, 32]⟩ : ByteArray) x1) fun s3 =>
        Option.bind (strcat s3 (⟨#[41]⟩ : ByteArray)) fun s4 =>
        some (s4, H2)
      else
        none

noncomputable def fam_sort_written (L : LC) (n : Nat) : (Nat → AH → Int → Int → ByteArray → Sl3 → Option (ByteArray × AH)) := Nat.rec (motive := fun _ => (Nat → AH → Int → Int → ByteArray → Sl3 → Option (ByteArray × AH))) (fun _ _ _ _ _ _ => none) (fun _ _ => sort_written_body L) n

noncomputable def sort_written (L : LC) (m : Nat) (H : AH) (a0_0 : Int) (a0_1 : Int) (a0_2 : ByteArray) (a0_3 : Sl3) : Option (ByteArray × AH) := (fam_sort_written L L.fuel) m H a0_0 a0_1 a0_2 a0_3

theorem sort_written_body_ok {L : LC} {ne : NE} {m : Nat} {H : AH} {a0_0 : Int} {a0_1 : Int} {a0_2 : ByteArray} {a0_3 : Sl3} {r : (ByteArray × AH)} (h : sort_written_body L m H a0_0 a0_1 a0_2 a0_3 = some r) :
    CallS Tryd.prog ne m 58 #[(Value.agg #[(Value.int .i64 a0_0), (Value.int .i64 a0_1), (Value.string a0_2), (Sl3.v a0_3)])] H (sort_written_enc r) (sort_written_hp H r) := by
  refine CallS.mk (args := [(Value.agg #[(Value.int .i64 a0_0), (Value.int .i64 a0_1), (Value.string a0_2), (Sl3.v a0_3)])]) Tryd.func58 (B := B58) (by kernel_rfl) (fun E _ => ?_)
  unfold sort_written_body at h
  refine WS.sq ?_
  refine WS.rg ?_
  refine RS.mL 2 [(2, .val (Value.string (⟨#[]⟩ : ByteArray))), (1, .loc 0 0)] ([some (28, [(Value.int .i64 a0_0), (Value.int .i64 a0_1), (Value.string a0_2), (Sl3.v a0_3)])]) ?_
  refine RS.dn ?_
  refine WS.nxt ?_
  refine WS.sq ?_
  refine WS.sq ?_
  refine WS.rg ?_
  refine RS.mS 2 [(4, .val (Value.int .i64 a0_0)), (3, .loc 0 0)] ?_
  refine RS.dn ?_
  refine WS.nxt ?_
  refine WS.bk 0 ?_
  refine WS.sq ?_
  refine WS.rg ?_
  refine RS.mS 2 [(5, .val (Value.bool (decide (a0_0 = 1)))), (6, .val (Value.bool (decide (a0_0 = 1))))] ?_
  refine RS.dn ?_
  refine WS.nxt ?_
  rcases ite_some h with ⟨hp, h⟩ | ⟨hp, h⟩
  · refine WS.fx 5 true (decide_eq_true hp) ?_
    refine WS.cT ?_
    cases h
  · refine WS.fx 5 false (decide_eq_false hp) ?_
    refine WS.cF ?_
    refine WS.sq ?_
    refine WS.rg ?_
    refine RS.mS 2 [(7, .val (Value.bool (decide (a0_0 = 2)))), (8, .val (Value.bool (decide (a0_0 = 2))))] ?_
    refine RS.dn ?_
    refine WS.nxt ?_
    rcases ite_some h with ⟨hp, h⟩ | ⟨hp, h⟩
    · refine WS.fx 7 true (decide_eq_true hp) ?_
      refine WS.cT ?_
      cases h
    · refine WS.fx 7 false (decide_eq_false hp) ?_
      refine WS.cF ?_
      refine WS.sq ?_
      refine WS.rg ?_
      refine RS.mS 2 [(9, .val (Value.bool (decide (a0_0 = 3)))), (10, .val (Value.bool (decide (a0_0 = 3))))] ?_
      refine RS.dn ?_
      refine WS.nxt ?_
      rcases ite_some h with ⟨hp, h⟩ | ⟨hp, h⟩
      · refine WS.fx 9 true (decide_eq_true hp) ?_
        refine WS.cT ?_
        refine WS.sq ?_
        refine WS.rg ?_
        refine RS.mS 2 [(12, .val (Value.int .i64 a0_1)), (11, .loc 0 1)] ?_
        obtain ⟨⟨x1, H2⟩, hx, h⟩ := bind_some h
        try dsimp only at h
        refine RS.cl (some 13) (v := (Value.string x1)) 92 #[(Value.int .i64 a0_1)] (strconv_Itoa_ok hx) ?_
        obtain ⟨s3, hx, h⟩ := bind_some h
        refine RS.o (H' := H2) (some 14) (Value.string s3) (Abs.run_strcat (t := 9) (u := 9) (x := .const (Value.string (⟨#[40, 95, 32, 66, 105, 116, 86, 101, 99, 32]⟩ : ByteArray))) (y := .tmp 13) (a := (⟨#[40, 95, 32, 66, 105, 116, 86, 101, 99, 32]⟩ : ByteArray)) (b := x1) (by kernel_rfl) (by kernel_rfl) (by kernel_rfl) hx) ?_
        obtain ⟨s4, hx, h⟩ := bind_some h
        refine RS.o (H' := H2) (some 15) (Value.string s4) (Abs.run_strcat (t := 9) (u := 9) (x := .tmp 14) (y := .const (Value.string (⟨#[41]⟩ : ByteArray))) (a := s3) (b := (⟨#[41]⟩ : ByteArray)) (by kernel_rfl) (by kernel_rfl) (by kernel_rfl) hx) ?_
        refine RS.mS 1 [(2, .val (Value.string s4))] ?_
        refine RS.dn ?_
        refine WS.nxt ?_
        refine WS.rt ?_
        cases h
        exact fun a w hs => bkR (sqR (rtR (rS hs)))
      · refine WS.fx 9 false (decide_eq_false hp) ?_
        refine WS.cF ?_
        cases h

theorem fam_sort_written_ok {L : LC} {ne : NE} : ∀ n, (∀ (m : Nat) (H : AH) (a0_0 : Int) (a0_1 : Int) (a0_2 : ByteArray) (a0_3 : Sl3) (r : (ByteArray × AH)), ((fam_sort_written L n)) m H a0_0 a0_1 a0_2 a0_3 = some r → CallS Tryd.prog ne m 58 #[(Value.agg #[(Value.int .i64 a0_0), (Value.int .i64 a0_1), (Value.string a0_2), (Sl3.v a0_3)])] H (sort_written_enc r) (sort_written_hp H r)) := by
  intro n
  induction n with
  | zero => exact (fun _ _ _ _ _ _ _ h => (Option.some_ne_none _ h.symm).elim)
  | succ n ih => exact (fun _ _ _ _ _ _ _ h => sort_written_body_ok (L := L)  h)

theorem sort_written_ok {L : LC} {ne : NE} {m : Nat} {H : AH} {a0_0 : Int} {a0_1 : Int} {a0_2 : ByteArray} {a0_3 : Sl3} {r : (ByteArray × AH)} (h : sort_written L m H a0_0 a0_1 a0_2 a0_3 = some r) :
    CallS Tryd.prog ne m 58 #[(Value.agg #[(Value.int .i64 a0_0), (Value.int .i64 a0_1), (Value.string a0_2), (Sl3.v a0_3)])] H (sort_written_enc r) (sort_written_hp H r) :=
  (fam_sort_written_ok _) _ _ _ _ _ _ _ h

def sort_Text_enc : (ByteArray × Int × AH) → Value
  | (r0, r1, _) => (Value.tuple #[(Value.string r0), (Value.int .i64 r1)])

def sort_Text_hp (_ : AH) : (ByteArray × Int × AH) → AH := fun r => r.2.2

noncomputable def B28 : Code := (Tryd.f28.body).getD .skip

noncomputable def sort_Text (L : LC) (m : Nat) (H : AH) (a0_0 : Int) (a0_1 : Int) (a0_2 : ByteArray) (a0_3 : Sl3) : Option (ByteArray × Int × AH) :=
  Option.bind (sort_wrong L H a0_0 a0_1 a0_2 a0_3) fun x1 =>
  if x1 = 0 then
    Option.bind (sort_written L m H a0_0 a0_1 a0_2 a0_3) fun (x2, H3) =>
    some (x2, 0, H3)
  else
    none

theorem sort_Text_ok {L : LC} {ne : NE} {m : Nat} {H : AH} {a0_0 : Int} {a0_1 : Int} {a0_2 : ByteArray} {a0_3 : Sl3} {r : (ByteArray × Int × AH)} (h : sort_Text L m H a0_0 a0_1 a0_2 a0_3 = some r) :
    CallS Tryd.prog ne m 28 #[(Value.agg #[(Value.int .i64 a0_0), (Value.int .i64 a0_1), (Value.string a0_2), (Sl3.v a0_3)])] H (sort_Text_enc r) (sort_Text_hp H r) := by
  refine CallS.mk (args := [(Value.agg #[(Value.int .i64 a0_0), (Value.int .i64 a0_1), (Value.string a0_2), (Sl3.v a0_3)])]) Tryd.func28 (B := B28) (by kernel_rfl) (fun E _ => ?_)
  unfold sort_Text at h
  refine WS.sq ?_
  refine WS.rg ?_
  refine RS.mL 3 [(3, .val (Value.int .i64 0)), (2, .val (Value.string (⟨#[]⟩ : ByteArray))), (1, .loc 0 0)] ([some (28, [(Value.int .i64 a0_0), (Value.int .i64 a0_1), (Value.string a0_2), (Sl3.v a0_3)])]) ?_
  refine RS.dn ?_
  refine WS.nxt ?_
  refine WS.sq ?_
  refine WS.sq ?_
  refine WS.rg ?_
  refine RS.mS 1 [(5, .val (Value.agg #[(Value.int .i64 a0_0), (Value.int .i64 a0_1), (Value.string a0_2), (Sl3.v a0_3)]))] ?_
  obtain ⟨x1, hx, h⟩ := bind_some h
  refine RS.cl (some 6) (v := (Value.int .i64 x1)) 57 #[(Value.agg #[(Value.int .i64 a0_0), (Value.int .i64 a0_1), (Value.string a0_2), (Sl3.v a0_3)])] (sort_wrong_ok hx) ?_
  refine RS.mS 1 [(4, .val (Value.int .i64 x1))] ?_
  refine RS.dn ?_
  refine WS.nxt ?_
  refine WS.sq ?_
  refine WS.rg ?_
  refine RS.mS 2 [(8, .val (Value.bool (!decide (x1 = 0)))), (7, .val (Value.int .i64 x1))] ?_
  refine RS.dn ?_
  refine WS.nxt ?_
  rcases ite_some h with ⟨hp, h⟩ | ⟨hp, h⟩
  · refine WS.fx 8 false (dec_not hp) ?_
    refine WS.cF ?_
    refine WS.sk ?_
    refine WS.nxt ?_
    refine WS.sq ?_
    refine WS.rg ?_
    refine RS.mS 1 [(10, .val (Value.agg #[(Value.int .i64 a0_0), (Value.int .i64 a0_1), (Value.string a0_2), (Sl3.v a0_3)]))] ?_
    obtain ⟨⟨x2, H3⟩, hx, h⟩ := bind_some h
    try dsimp only at h
    refine RS.cl (some 11) (v := (Value.string x2)) 58 #[(Value.agg #[(Value.int .i64 a0_0), (Value.int .i64 a0_1), (Value.string a0_2), (Sl3.v a0_3)])] (sort_written_ok hx) ?_
    refine RS.mS 2 [(3, .val (Value.int .i64 0)), (2, .val (Value.string x2))] ?_
    refine RS.dn ?_
    refine WS.nxt ?_
    refine WS.rt ?_
    cases h
    exact fun a w hs => rtR (rS hs)
  · refine WS.fx 8 true (dec_not' hp) ?_
    refine WS.cT ?_
    cases h

def law04_lists_enc : (Sl3 × Sl3 × Sl3 × AH) → Value
  | (r0, r1, r2, _) => (Value.agg #[(Sl3.v r0), (Sl3.v r1), (Sl3.v r2)])

def law04_lists_hp (_ : AH) : (Sl3 × Sl3 × Sl3 × AH) → AH := fun r => r.2.2.2

noncomputable def B35 : Code := (Tryd.f35.body).getD .skip

noncomputable def law04_lists (_L : LC) (_m : Nat) (H : AH) : Option (Sl3 × Sl3 × Sl3 × AH) :=
  Option.bind (newR 52 2 #[(Value.string (⟨#[104, 101, 97, 100]⟩ : ByteArray)), (Value.int .i64 2), (Value.int .i64 0), (Value.string (⟨#[]⟩ : ByteArray)), (Sl3.v Sl3.nil), (Value.string (⟨#[116, 97, 105, 108]⟩ : ByteArray)), (Value.int .i64 6), (Value.int .i64 0), (Value.string (⟨#[76, 105, 115, 116]⟩ : ByteArray)), (Sl3.v Sl3.nil)] H) fun (s1, H2) =>
  Option.bind (newR 50 2 #[(Value.string (⟨#[110, 105, 108]⟩ : ByteArray)), (Sl3.v Sl3.nil), (Value.string (⟨#[99, 111, 110, 115]⟩ : ByteArray)), (Sl3.v s1)] H2) fun (s3, H4) =>
  Option.bind (newR 50 2 #[(Value.string (⟨#[114, 101, 100]⟩ : ByteArray)), (Sl3.v Sl3.nil), (Value.string (⟨#[103, 114, 101, 101, 110]⟩ : ByteArray)), (Sl3.v Sl3.nil)] H4) fun (s5, H6) =>
  Option.bind (newR 46 2 #[(Value.string (⟨#[76, 105, 115, 116]⟩ : ByteArray)), (Sl3.v s3), (Value.string (⟨#[67, 111, 108, 111, 114]⟩ : ByteArray)), (Sl3.v s5)] H6) fun (s7, H8) =>
  some (Sl3.nil, s7, Sl3.nil, H8)

theorem law04_lists_ok {L : LC} {ne : NE} {m : Nat} {H : AH} {r : (Sl3 × Sl3 × Sl3 × AH)} (h : law04_lists L m H = some r) :
    CallS Tryd.prog ne m 35 #[] H (law04_lists_enc r) (law04_lists_hp H r) := by
  refine CallS.mk (args := []) Tryd.func35 (B := B35) (by kernel_rfl) (fun E _ => ?_)
  unfold law04_lists at h
  refine WS.sq ?_
  refine WS.rg ?_
  refine RS.mL 1 [(0, .loc 0 0)] ([some (33, [(Sl3.v Sl3.nil), (Sl3.v Sl3.nil), (Sl3.v Sl3.nil)])]) ?_
  refine RS.dn ?_
  refine WS.nxt ?_
  refine WS.sq ?_
  refine WS.rg ?_
  refine RS.mL 3 [(1, .loc 1 0), (2, .val (Value.agg #[(Value.int .i64 6), (Value.int .i64 0), (Value.string (⟨#[76, 105, 115, 116]⟩ : ByteArray)), (Sl3.v Sl3.nil)]))] ([some (33, [(Sl3.v Sl3.nil), (Sl3.v Sl3.nil), (Sl3.v Sl3.nil)]), some (28, [(Value.int .i64 6), (Value.int .i64 0), (Value.string (⟨#[76, 105, 115, 116]⟩ : ByteArray)), (Sl3.v Sl3.nil)])]) ?_
  refine RS.dn ?_
  refine WS.nxt ?_
  refine WS.sq ?_
  refine WS.rg ?_
  refine RS.mS 5 [(7, .val (Value.agg #[(Value.string (⟨#[116, 97, 105, 108]⟩ : ByteArray)), (Value.int .i64 6), (Value.int .i64 0), (Value.string (⟨#[76, 105, 115, 116]⟩ : ByteArray)), (Sl3.v Sl3.nil)])), (6, .val (Value.agg #[(Value.int .i64 6), (Value.int .i64 0), (Value.string (⟨#[76, 105, 115, 116]⟩ : ByteArray)), (Sl3.v Sl3.nil)])), (5, .val (Value.agg #[(Value.string (⟨#[104, 101, 97, 100]⟩ : ByteArray)), (Value.int .i64 2), (Value.int .i64 0), (Value.string (⟨#[]⟩ : ByteArray)), (Sl3.v Sl3.nil)])), (4, .val (Value.agg #[(Value.int .i64 2), (Value.int .i64 0), (Value.string (⟨#[]⟩ : ByteArray)), (Sl3.v Sl3.nil)])), (3, .val (Value.agg #[(Value.string (⟨#[110, 105, 108]⟩ : ByteArray)), (Sl3.v Sl3.nil)]))] ?_
  obtain ⟨⟨s1, H2⟩, hx, h⟩ := bind_some h
  try dsimp only at h
  refine RS.o (H' := H2) (some 8) (Sl3.v s1) (Abs.run_newR (by kernel_rfl) (by kernel_rfl) hx) ?_
  refine RS.mS 1 [(9, .val (Value.agg #[(Value.string (⟨#[99, 111, 110, 115]⟩ : ByteArray)), (Sl3.v s1)]))] ?_
  obtain ⟨⟨s3, H4⟩, hx, h⟩ := bind_some h
  try dsimp only at h
  refine RS.o (H' := H4) (some 10) (Sl3.v s3) (Abs.run_newR (by kernel_rfl) (by kernel_rfl) hx) ?_
  refine RS.mS 3 [(13, .val (Value.agg #[(Value.string (⟨#[103, 114, 101, 101, 110]⟩ : ByteArray)), (Sl3.v Sl3.nil)])), (12, .val (Value.agg #[(Value.string (⟨#[114, 101, 100]⟩ : ByteArray)), (Sl3.v Sl3.nil)])), (11, .val (Value.agg #[(Value.string (⟨#[76, 105, 115, 116]⟩ : ByteArray)), (Sl3.v s3)]))] ?_
  obtain ⟨⟨s5, H6⟩, hx, h⟩ := bind_some h
  try dsimp only at h
  refine RS.o (H' := H6) (some 14) (Sl3.v s5) (Abs.run_newR (by kernel_rfl) (by kernel_rfl) hx) ?_
  refine RS.mS 1 [(15, .val (Value.agg #[(Value.string (⟨#[67, 111, 108, 111, 114]⟩ : ByteArray)), (Sl3.v s5)]))] ?_
  obtain ⟨⟨s7, H8⟩, hx, h⟩ := bind_some h
  try dsimp only at h
  refine RS.o (H' := H8) (some 16) (Sl3.v s7) (Abs.run_newR (by kernel_rfl) (by kernel_rfl) hx) ?_
  refine RS.mL 2 [(17, .val (Value.agg #[(Sl3.v Sl3.nil), (Sl3.v s7), (Sl3.v Sl3.nil)]))] ([some (33, [(Sl3.v Sl3.nil), (Sl3.v s7), (Sl3.v Sl3.nil)]), some (28, [(Value.int .i64 6), (Value.int .i64 0), (Value.string (⟨#[76, 105, 115, 116]⟩ : ByteArray)), (Sl3.v Sl3.nil)])]) ?_
  refine RS.dn ?_
  refine WS.nxt ?_
  refine WS.rt ?_
  cases h
  exact fun a w hs => rtR (rS hs)

def law04_awake_enc : (Bool × AH) → Value
  | (r0, _) => (Value.bool r0)

def law04_awake_hp (_ : AH) : (Bool × AH) → AH := fun r => r.2

noncomputable def B17 : Code := (Tryd.f17.body).getD .skip

noncomputable def law04_awake (L : LC) (m : Nat) (H : AH) : Option (Bool × AH) :=
  Option.bind (law04_lists L m H) fun (x1_0, x1_1, x1_2, H2) =>
  Option.bind (sort_Count L m H2 6 0 (⟨#[67, 111, 108, 111, 114]⟩ : ByteArray) Sl3.nil x1_0 x1_1 x1_2 5) fun (x3, x4, H5) =>
  Option.bind (sort_Text L m H5 3 8 (⟨#[]⟩ : ByteArray) Sl3.nil) fun (x6, x7, H8) =>
  Option.bind (sort_CheckSig L m H8 x1_0 x1_1 x1_2) fun (x9, H10) =>
  if x9 = 0 then
    if x3 = 2 then
      if x4 = true then
        Option.bind (sort_Finite L m H10 6 0 (⟨#[76, 105, 115, 116]⟩ : ByteArray) Sl3.nil x1_0 x1_1 x1_2) fun (x11, H12) =>
        if x11 = true then
          none
        else
          if (x6.toList == (⟨#[40, 95, 32, 66, 105, 116, 86, 101, 99, 32, 56, 41]⟩ : ByteArray).toList) = true then
            some ((decide (x7 = 0)), H12)
          else
            none
      else
        none
    else
      none
  else
    none

theorem law04_awake_ok {L : LC} {ne : NE} {m : Nat} {H : AH} {r : (Bool × AH)} (h : law04_awake L m H = some r) :
    CallS Tryd.prog ne m 17 #[] H (law04_awake_enc r) (law04_awake_hp H r) := by
  refine CallS.mk (args := []) Tryd.func17 (B := B17) (by kernel_rfl) (fun E _ => ?_)
  unfold law04_awake at h
  refine WS.sq ?_
  refine WS.rg ?_
  refine RS.mS 1 [(0, .val (Value.bool false))] ?_
  refine RS.dn ?_
  refine WS.nxt ?_
  refine WS.sq ?_
  refine WS.rg ?_
  obtain ⟨⟨x1_0, x1_1, x1_2, H2⟩, hx, h⟩ := bind_some h
  try dsimp only at h
  refine RS.cl (some 6) (v := (Value.agg #[(Sl3.v x1_0), (Sl3.v x1_1), (Sl3.v x1_2)])) 35 #[] (law04_lists_ok hx) ?_
  refine RS.mL 2 [(1, .loc 0 0)] ([some (33, [(Sl3.v x1_0), (Sl3.v x1_1), (Sl3.v x1_2)])]) ?_
  refine RS.dn ?_
  refine WS.nxt ?_
  refine WS.sq ?_
  refine WS.rg ?_
  refine RS.mS 2 [(9, .val (Value.agg #[(Sl3.v x1_0), (Sl3.v x1_1), (Sl3.v x1_2)])), (8, .val (Value.agg #[(Value.int .i64 6), (Value.int .i64 0), (Value.string (⟨#[67, 111, 108, 111, 114]⟩ : ByteArray)), (Sl3.v Sl3.nil)]))] ?_
  obtain ⟨⟨x3, x4, H5⟩, hx, h⟩ := bind_some h
  try dsimp only at h
  refine RS.cl (some 10) (v := (Value.tuple #[(Value.int .i64 x3), (Value.bool x4)])) 22 #[(Value.agg #[(Value.int .i64 6), (Value.int .i64 0), (Value.string (⟨#[67, 111, 108, 111, 114]⟩ : ByteArray)), (Sl3.v Sl3.nil)]), (Value.agg #[(Sl3.v x1_0), (Sl3.v x1_1), (Sl3.v x1_2)]), (Value.int .i64 5)] (sort_Count_ok hx) ?_
  refine RS.mS 5 [(3, .val (Value.bool x4)), (2, .val (Value.int .i64 x3)), (12, .val (Value.bool x4)), (11, .val (Value.int .i64 x3)), (7, .val (Value.tuple #[(Value.int .i64 x3), (Value.bool x4)]))] ?_
  refine RS.dn ?_
  refine WS.nxt ?_
  refine WS.sq ?_
  refine WS.rg ?_
  refine RS.mS 1 [(14, .val (Value.agg #[(Value.int .i64 3), (Value.int .i64 8), (Value.string (⟨#[]⟩ : ByteArray)), (Sl3.v Sl3.nil)]))] ?_
  obtain ⟨⟨x6, x7, H8⟩, hx, h⟩ := bind_some h
  try dsimp only at h
  refine RS.cl (some 15) (v := (Value.tuple #[(Value.string x6), (Value.int .i64 x7)])) 28 #[(Value.agg #[(Value.int .i64 3), (Value.int .i64 8), (Value.string (⟨#[]⟩ : ByteArray)), (Sl3.v Sl3.nil)])] (sort_Text_ok hx) ?_
  refine RS.mS 5 [(5, .val (Value.int .i64 x7)), (4, .val (Value.string x6)), (17, .val (Value.int .i64 x7)), (16, .val (Value.string x6)), (13, .val (Value.tuple #[(Value.string x6), (Value.int .i64 x7)]))] ?_
  refine RS.dn ?_
  refine WS.nxt ?_
  refine WS.sq ?_
  refine WS.rg ?_
  refine RS.mS 1 [(18, .val (Value.agg #[(Sl3.v x1_0), (Sl3.v x1_1), (Sl3.v x1_2)]))] ?_
  obtain ⟨⟨x9, H10⟩, hx, h⟩ := bind_some h
  try dsimp only at h
  refine RS.cl (some 19) (v := (Value.int .i64 x9)) 20 #[(Value.agg #[(Sl3.v x1_0), (Sl3.v x1_1), (Sl3.v x1_2)])] (sort_CheckSig_ok hx) ?_
  refine RS.mS 2 [(21, .val (Value.bool (decide (x9 = 0)))), (20, .val (Value.bool (decide (x9 = 0))))] ?_
  rcases ite_some h with ⟨hp, h⟩ | ⟨hp, h⟩
  · refine RS.fx 21 true (decide_eq_true hp) ?_
    refine RS.mS 4 [(25, .val (Value.bool (decide (x3 = 2)))), (24, .val (Value.bool (decide (x3 = 2)))), (23, .val (Value.bool (decide (x3 = 2)))), (22, .val (Value.int .i64 x3))] ?_
    rcases ite_some h with ⟨hp, h⟩ | ⟨hp, h⟩
    · refine RS.fx 25 true (decide_eq_true hp) ?_
      refine RS.mS 3 [(28, .val (Value.bool x4)), (27, .val (Value.bool x4)), (26, .val (Value.bool x4))] ?_
      rcases ite_some h with ⟨hp, h⟩ | ⟨hp, h⟩
      · refine RS.fx 28 true hp ?_
        refine RS.mS 2 [(30, .val (Value.agg #[(Sl3.v x1_0), (Sl3.v x1_1), (Sl3.v x1_2)])), (29, .val (Value.agg #[(Value.int .i64 6), (Value.int .i64 0), (Value.string (⟨#[76, 105, 115, 116]⟩ : ByteArray)), (Sl3.v Sl3.nil)]))] ?_
        obtain ⟨⟨x11, H12⟩, hx, h⟩ := bind_some h
        try dsimp only at h
        refine RS.cl (some 31) (v := (Value.bool x11)) 23 #[(Value.agg #[(Value.int .i64 6), (Value.int .i64 0), (Value.string (⟨#[76, 105, 115, 116]⟩ : ByteArray)), (Sl3.v Sl3.nil)]), (Value.agg #[(Sl3.v x1_0), (Sl3.v x1_1), (Sl3.v x1_2)])] (sort_Finite_ok hx) ?_
        refine RS.mS 3 [(34, .val (Value.bool (!x11))), (33, .val (Value.bool (!x11))), (32, .val (Value.bool (!x11)))] ?_
        rcases ite_some h with ⟨hp, h⟩ | ⟨hp, h⟩
        · refine RS.fx 34 false (nb_not hp) ?_
          cases h
        · refine RS.fx 34 true (nb_not' hp) ?_
          refine RS.mS 4 [(38, .val (Value.bool (x6.toList == (⟨#[40, 95, 32, 66, 105, 116, 86, 101, 99, 32, 56, 41]⟩ : ByteArray).toList))), (37, .val (Value.bool (x6.toList == (⟨#[40, 95, 32, 66, 105, 116, 86, 101, 99, 32, 56, 41]⟩ : ByteArray).toList))), (36, .val (Value.bool (x6.toList == (⟨#[40, 95, 32, 66, 105, 116, 86, 101, 99, 32, 56, 41]⟩ : ByteArray).toList))), (35, .val (Value.string x6))] ?_
          rcases ite_some h with ⟨hp, h⟩ | ⟨hp, h⟩
          · refine RS.fx 38 true hp ?_
            refine RS.mS 4 [(0, .val (Value.bool (decide (x7 = 0)))), (41, .val (Value.bool (decide (x7 = 0)))), (40, .val (Value.bool (decide (x7 = 0)))), (39, .val (Value.int .i64 x7))] ?_
            refine RS.dn ?_
            refine WS.nxt ?_
            refine WS.rt ?_
            cases h
            exact fun a w hs => rtR (rS hs)
          · refine RS.fx 38 false (b_not hp) ?_
            cases h
      · refine RS.fx 28 false (b_not hp) ?_
        cases h
    · refine RS.fx 25 false (decide_eq_false hp) ?_
      cases h
  · refine RS.fx 21 false (decide_eq_false hp) ?_
    cases h

def strings_Fields_enc : (Sl3 × AH) → Value
  | (r0, _) => (Sl3.v r0)

def strings_Fields_hp (_ : AH) : (Sl3 × AH) → AH := fun r => r.2

noncomputable def B95 : Code := (Tryd.f95.body).getD .skip

noncomputable def strings_Fields_b0 (_L : LC) (H : AH) (a0 : ByteArray) : (Int × Int × Int × Int) → Option (Lp (Int × Int × Int × Int) (Sl3 × AH)) := fun (v3_1, v4_2, v5_3, v6_4) =>
  if v6_4 < (a0.size : Int) then
    Option.bind (bytA a0 v6_4) fun x5 =>
    Option.bind (idxR 1 256 (⟨0, 0, none⟩ : Addr) x5) fun p6 =>
    Option.bind (rd (deI .u8) H p6) fun x7 =>
    some (.next ((IntKind.i64.wrap (v3_1 + (iand .i64 v4_2 (ixor .i64 (-1) (IntKind.i64.wrap x7))))), (IntKind.i64.wrap x7), (ior .u8 v5_3 x5), (IntKind.i64.wrap (v6_4 + 1))))
  else
    some (.brk (v3_1, v4_2, v5_3, v6_4))

def strings_Fields_b0_kn (_L : LC) (_H : AH) (a0 : ByteArray) : (Int × Int × Int × Int) → KN := fun (v3_1, v4_2, v5_3, v6_4) => [(3, .val (Value.int .i64 v3_1)), (4, .val (Value.int .i64 v4_2)), (5, .val (Value.int .u8 v5_3)), (6, .val (Value.int .i64 v6_4)), (0, .val (Value.string a0))]

def strings_Fields_b0_ls (_L : LC) (_H : AH) (_a0 : ByteArray) : (Int × Int × Int × Int) → Lcs := fun (_, _, _, _) => []

noncomputable def strings_Fields_b1 (_L : LC) (a0 : ByteArray) (_s12 : Sl3) (H13 : AH) : Int → Option (Lp Int (Sl3 × AH)) := fun v12_14 =>
  if v12_14 < (a0.size : Int) then
    Option.bind (bytA a0 v12_14) fun x15 =>
    Option.bind (idxR 1 256 (⟨0, 0, none⟩ : Addr) x15) fun p16 =>
    Option.bind (rd (deI .u8) H13 p16) fun x17 =>
    if x17 = 0 then
      some (.brk v12_14)
    else
      none
  else
    none

def strings_Fields_b1_kn (_L : LC) (a0 : ByteArray) (s12 : Sl3) (_H13 : AH) : Int → KN := fun v12_14 => [(12, .val (Value.int .i64 v12_14)), (0, .val (Value.string a0)), (9, .val (Sl3.v s12)), (10, .val (Value.int .i64 0))]

def strings_Fields_b1_ls (_L : LC) (_a0 : ByteArray) (_s12 : Sl3) (_H13 : AH) : Int → Lcs := fun _ => []

noncomputable def strings_Fields_b3 (_L : LC) (a0 : ByteArray) (_s12 : Sl3) (_v10_20 : Int) (H28 : AH) : Int → Option (Lp Int (Sl3 × AH)) := fun v12_29 =>
  if v12_29 < (a0.size : Int) then
    Option.bind (bytA a0 v12_29) fun x30 =>
    Option.bind (idxR 1 256 (⟨0, 0, none⟩ : Addr) x30) fun p31 =>
    Option.bind (rd (deI .u8) H28 p31) fun x32 =>
    if x32 = 0 then
      some (.brk v12_29)
    else
      none
  else
    none

def strings_Fields_b3_kn (_L : LC) (a0 : ByteArray) (s12 : Sl3) (v10_20 : Int) (_H28 : AH) : Int → KN := fun v12_29 => [(12, .val (Value.int .i64 v12_29)), (0, .val (Value.string a0)), (9, .val (Sl3.v s12)), (10, .val (Value.int .i64 (IntKind.i64.wrap (v10_20 + 1))))]

def strings_Fields_b3_ls (_L : LC) (_a0 : ByteArray) (_s12 : Sl3) (_v10_20 : Int) (_H28 : AH) : Int → Lcs := fun _ => []

noncomputable def strings_Fields_b2 (L : LC) (m : Nat) (a0 : ByteArray) (s12 : Sl3) : (AH × Int × Int × Int) → Option (Lp (AH × Int × Int × Int) (Sl3 × AH)) := fun (H19, v10_20, v11_21, v12_22) =>
  if v12_22 < (a0.size : Int) then
    Option.bind (bytA a0 v12_22) fun x23 =>
    Option.bind (idxR 1 256 (⟨0, 0, none⟩ : Addr) x23) fun p24 =>
    Option.bind (rd (deI .u8) H19 p24) fun x25 =>
    if x25 = 0 then
      some (.next (H19, v10_20, v11_21, (IntKind.i64.wrap (v12_22 + 1))))
    else
      Option.bind (strC a0 (some v11_21) (some v12_22)) fun s26 =>
      Option.bind (idxA 1 s12 v10_20) fun p27 =>
      Option.bind (H19.setCell m p27 (Value.string s26)) fun H28 =>
      Option.bind (L.run (strings_Fields_b3 L a0 s12 v10_20 H28) (IntKind.i64.wrap (v12_22 + 1))) fun o => match o with
      | .inl v12_33 =>
        some (.next (H28, (IntKind.i64.wrap (v10_20 + 1)), v12_33, v12_33))
      | .inr r => some (.ret r)
  else
    some (.brk (H19, v10_20, v11_21, v12_22))

def strings_Fields_b2_kn (_L : LC) (_m : Nat) (a0 : ByteArray) (s12 : Sl3) : (AH × Int × Int × Int) → KN := fun (_, v10_20, v11_21, v12_22) => [(10, .val (Value.int .i64 v10_20)), (11, .val (Value.int .i64 v11_21)), (12, .val (Value.int .i64 v12_22)), (0, .val (Value.string a0)), (9, .val (Sl3.v s12))]

def strings_Fields_b2_ls (_L : LC) (_m : Nat) (_a0 : ByteArray) (_s12 : Sl3) : (AH × Int × Int × Int) → Lcs := fun (_, _, _, _) => []

noncomputable def strings_Fields (L : LC) (m : Nat) (H : AH) (a0 : ByteArray) : Option (Sl3 × AH) :=
  Option.bind (L.run (strings_Fields_b0 L H a0) (0, 1, 0, 0)) fun o => match o with
  | .inl (v3_8, _, v5_10, _) =>
    if v5_10 ≥ 128 then
      none
    else
      Option.bind (mkS 9 1 16 #[(Value.string (⟨#[]⟩ : ByteArray))] H v3_8 v3_8) fun (s12, H13) =>
      Option.bind (L.run (strings_Fields_b1 L a0 s12 H13) 0) fun o => match o with
      | .inl v12_18 =>
        Option.bind (L.run (strings_Fields_b2 L m a0 s12) (H13, 0, v12_18, v12_18)) fun o => match o with
        | .inl (H34, v10_35, v11_36, _) =>
          if v11_36 < (a0.size : Int) then
            Option.bind (strC a0 (some v11_36) none) fun s38 =>
            Option.bind (idxA 1 s12 v10_35) fun p39 =>
            Option.bind (H34.setCell m p39 (Value.string s38)) fun H40 =>
            some (s12, H40)
          else
            none
        | .inr r => some r
      | .inr r => some r
  | .inr r => some r

theorem strings_Fields_b0_ok {ne : NE} {E : Ent} {m : Nat} {L : LC} {H : AH} {a0 : ByteArray}  : ∀ s o, strings_Fields_b0 L H a0 s = some o →
    WS Tryd.prog ne m E Tryd.f95.ntmps (cfst (cfst (csnd (cfst (csnd (csnd (csnd (csnd B95)))))))) (strings_Fields_b0_kn L H a0 s) (strings_Fields_b0_ls L H a0 s) ((fun _ => H) s) (lpS Tryd.prog ne m E Tryd.f95.ntmps (strings_Fields_b0_kn L H a0) (strings_Fields_b0_ls L H a0) (fun _ => H) 0 (fun r => RT Tryd.prog ne m E Tryd.f95 (strings_Fields_enc r) (strings_Fields_hp H r)) o) := by
  rintro ⟨v3_1, v4_2, v5_3, v6_4⟩ o h
  unfold strings_Fields_b0 at h
  try dsimp only at h
  refine WS.sq ?_
  refine WS.sq ?_
  refine WS.rg ?_
  refine RS.mS 4 [(16, .val (Value.bool (decide (v6_4 < (a0.size : Int))))), (15, .val (Value.int .i64 (a0.size : Int))), (14, .val (Value.string a0)), (13, .val (Value.int .i64 v6_4))] ?_
  refine RS.dn ?_
  refine WS.nxt ?_
  rcases ite_some h with ⟨hp, h⟩ | ⟨hp, h⟩
  · refine WS.fx 16 true (decide_eq_true hp) ?_
    refine WS.cT ?_
    refine WS.sk ?_
    refine WS.nxt ?_
    refine WS.sq ?_
    refine WS.bk 1 ?_
    refine WS.sq ?_
    refine WS.rg ?_
    refine RS.mS 2 [(20, .val (Value.int .i64 v6_4)), (19, .val (Value.string a0))] ?_
    obtain ⟨x5, hx, h⟩ := bind_some h
    refine RS.o (H' := H) (some 21) (Value.int .u8 x5) (Abs.run_byt (t := 9) (x := .tmp 19) (y := .tmp 20) (s := a0) (k := .i64) (i := v6_4) (by kernel_rfl) (by kernel_rfl) (by kernel_rfl) (by kernel_rfl) hx) ?_
    refine RS.mS 1 [(7, .val (Value.int .u8 x5))] ?_
    refine RS.dn ?_
    refine WS.nxt ?_
    refine WS.sq ?_
    refine WS.rg ?_
    refine RS.mS 4 [(5, .val (Value.int .u8 (ior .u8 v5_3 x5))), (24, .val (Value.int .u8 (ior .u8 v5_3 x5))), (23, .val (Value.int .u8 x5)), (22, .val (Value.int .u8 v5_3))] ?_
    refine RS.dn ?_
    refine WS.nxt ?_
    refine WS.sq ?_
    refine WS.rg ?_
    refine RS.mS 1 [(25, .val (Value.int .u8 x5))] ?_
    obtain ⟨p6, hx, h⟩ := bind_some h
    refine RS.o (H' := H) (some 26) (Value.pointer (some p6)) (Abs.run_idxR (a := (⟨0, 0, none⟩ : Addr)) (k := .u8) (t := 130) (e := 5) (x := .global 0) (y := .tmp 25) (by kernel_rfl) (by kernel_rfl) (by kernel_rfl) (by kernel_rfl) (by kernel_rfl) hx) ?_
    obtain ⟨x7, hx, h⟩ := bind_some h
    refine RS.o (H' := H) (some 27) (Value.int .u8 x7) (Abs.run_load (t := 5) (x := .tmp 26) (a := p6) (by kernel_rfl) (by kernel_rfl) (by kernel_rfl) (rd_cell hx deI_inv)) ?_
    refine RS.mS 2 [(8, .val (Value.int .i64 (IntKind.i64.wrap x7))), (28, .val (Value.int .i64 (IntKind.i64.wrap x7)))] ?_
    refine RS.dn ?_
    refine WS.nxt ?_
    refine WS.sq ?_
    refine WS.rg ?_
    refine RS.mS 7 [(3, .val (Value.int .i64 (IntKind.i64.wrap (v3_1 + (iand .i64 v4_2 (ixor .i64 (-1) (IntKind.i64.wrap x7))))))), (34, .val (Value.int .i64 (IntKind.i64.wrap (v3_1 + (iand .i64 v4_2 (ixor .i64 (-1) (IntKind.i64.wrap x7))))))), (33, .val (Value.int .i64 (iand .i64 v4_2 (ixor .i64 (-1) (IntKind.i64.wrap x7))))), (32, .val (Value.int .i64 (ixor .i64 (-1) (IntKind.i64.wrap x7)))), (31, .val (Value.int .i64 (IntKind.i64.wrap x7))), (30, .val (Value.int .i64 v4_2)), (29, .val (Value.int .i64 v3_1))] ?_
    refine RS.dn ?_
    refine WS.nxt ?_
    refine WS.rg ?_
    refine RS.mS 2 [(4, .val (Value.int .i64 (IntKind.i64.wrap x7))), (35, .val (Value.int .i64 (IntKind.i64.wrap x7)))] ?_
    refine RS.dn ?_
    refine fun a w hs => bkN ((WS.nxt ?_ a w hs))
    refine WS.rg ?_
    refine RS.mS 3 [(6, .val (Value.int .i64 (IntKind.i64.wrap (v6_4 + 1)))), (18, .val (Value.int .i64 (IntKind.i64.wrap (v6_4 + 1)))), (17, .val (Value.int .i64 v6_4))] ?_
    refine RS.dn ?_
    cases h
    exact fun a w hs => lsN rfl (hs.sb 0)
  · refine WS.fx 16 false (decide_eq_false hp) ?_
    refine WS.cF ?_
    refine WS.ex 0 ?_
    cases h
    exact fun a w hs => sqE (lsB rfl (hs.sb 0))

theorem strings_Fields_b1_ok {ne : NE} {E : Ent} {m : Nat} {H : AH} {L : LC} {a0 : ByteArray} {s12 : Sl3} {H13 : AH}  : ∀ s o, strings_Fields_b1 L a0 s12 H13 s = some o →
    WS Tryd.prog ne m E Tryd.f95.ntmps (cfst (cfst (cfst (csnd (csnd (csnd (csnd (csnd (csnd (csnd (csnd (csnd (csnd B95))))))))))))) (strings_Fields_b1_kn L a0 s12 H13 s) (strings_Fields_b1_ls L a0 s12 H13 s) ((fun _ => H13) s) (lpS Tryd.prog ne m E Tryd.f95.ntmps (strings_Fields_b1_kn L a0 s12 H13) (strings_Fields_b1_ls L a0 s12 H13) (fun _ => H13) 2 (fun r => RT Tryd.prog ne m E Tryd.f95 (strings_Fields_enc r) (strings_Fields_hp H r)) o) := by
  rintro v12_14 o h
  unfold strings_Fields_b1 at h
  try dsimp only at h
  refine WS.sq ?_
  refine WS.sq ?_
  refine WS.rg ?_
  refine RS.mS 5 [(46, .val (Value.bool (decide (v12_14 < (a0.size : Int))))), (45, .val (Value.bool (decide (v12_14 < (a0.size : Int))))), (44, .val (Value.int .i64 (a0.size : Int))), (43, .val (Value.string a0)), (42, .val (Value.int .i64 v12_14))] ?_
  rcases ite_some h with ⟨hp, h⟩ | ⟨hp, h⟩
  · refine RS.fx 46 true (decide_eq_true hp) ?_
    refine RS.mS 2 [(48, .val (Value.int .i64 v12_14)), (47, .val (Value.string a0))] ?_
    obtain ⟨x15, hx, h⟩ := bind_some h
    refine RS.o (H' := H13) (some 49) (Value.int .u8 x15) (Abs.run_byt (t := 9) (x := .tmp 47) (y := .tmp 48) (s := a0) (k := .i64) (i := v12_14) (by kernel_rfl) (by kernel_rfl) (by kernel_rfl) (by kernel_rfl) hx) ?_
    obtain ⟨p16, hx, h⟩ := bind_some h
    refine RS.o (H' := H13) (some 50) (Value.pointer (some p16)) (Abs.run_idxR (a := (⟨0, 0, none⟩ : Addr)) (k := .u8) (t := 130) (e := 5) (x := .global 0) (y := .tmp 49) (by kernel_rfl) (by kernel_rfl) (by kernel_rfl) (by kernel_rfl) (by kernel_rfl) hx) ?_
    obtain ⟨x17, hx, h⟩ := bind_some h
    refine RS.o (H' := H13) (some 51) (Value.int .u8 x17) (Abs.run_load (t := 5) (x := .tmp 50) (a := p16) (by kernel_rfl) (by kernel_rfl) (by kernel_rfl) (rd_cell hx deI_inv)) ?_
    refine RS.mS 2 [(53, .val (Value.bool (!decide (x17 = 0)))), (52, .val (Value.bool (!decide (x17 = 0))))] ?_
    refine RS.dn ?_
    refine WS.nxt ?_
    rcases ite_some h with ⟨hp, h⟩ | ⟨hp, h⟩
    · refine WS.fx 53 false (dec_not hp) ?_
      refine WS.cF ?_
      refine WS.ex 2 ?_
      cases h
      exact fun a w hs => sqE (lsB rfl (hs.sb 0))
    · refine WS.fx 53 true (dec_not' hp) ?_
      refine WS.cT ?_
      cases h
  · refine RS.fx 46 false (decide_eq_false hp) ?_
    cases h

theorem strings_Fields_b3_ok {ne : NE} {E : Ent} {m : Nat} {H : AH} {L : LC} {a0 : ByteArray} {s12 : Sl3} {v10_20 : Int} {H28 : AH}  : ∀ s o, strings_Fields_b3 L a0 s12 v10_20 H28 s = some o →
    WS Tryd.prog ne m E Tryd.f95.ntmps (cfst (cfst (cfst (csnd (csnd (csnd (csnd (cfst (csnd (cfst (cfst (cfst (csnd (csnd (csnd (csnd (csnd (csnd (csnd (csnd (csnd (csnd (csnd (csnd B95)))))))))))))))))))))))) (strings_Fields_b3_kn L a0 s12 v10_20 H28 s) (strings_Fields_b3_ls L a0 s12 v10_20 H28 s) ((fun _ => H28) s) (lpS Tryd.prog ne m E Tryd.f95.ntmps (strings_Fields_b3_kn L a0 s12 v10_20 H28) (strings_Fields_b3_ls L a0 s12 v10_20 H28) (fun _ => H28) 6 (fun r => RT Tryd.prog ne m E Tryd.f95 (strings_Fields_enc r) (strings_Fields_hp H r)) o) := by
  rintro v12_29 o h
  unfold strings_Fields_b3 at h
  try dsimp only at h
  refine WS.sq ?_
  refine WS.sq ?_
  refine WS.rg ?_
  refine RS.mS 5 [(84, .val (Value.bool (decide (v12_29 < (a0.size : Int))))), (83, .val (Value.bool (decide (v12_29 < (a0.size : Int))))), (82, .val (Value.int .i64 (a0.size : Int))), (81, .val (Value.string a0)), (80, .val (Value.int .i64 v12_29))] ?_
  rcases ite_some h with ⟨hp, h⟩ | ⟨hp, h⟩
  · refine RS.fx 84 true (decide_eq_true hp) ?_
    refine RS.mS 2 [(86, .val (Value.int .i64 v12_29)), (85, .val (Value.string a0))] ?_
    obtain ⟨x30, hx, h⟩ := bind_some h
    refine RS.o (H' := H28) (some 87) (Value.int .u8 x30) (Abs.run_byt (t := 9) (x := .tmp 85) (y := .tmp 86) (s := a0) (k := .i64) (i := v12_29) (by kernel_rfl) (by kernel_rfl) (by kernel_rfl) (by kernel_rfl) hx) ?_
    obtain ⟨p31, hx, h⟩ := bind_some h
    refine RS.o (H' := H28) (some 88) (Value.pointer (some p31)) (Abs.run_idxR (a := (⟨0, 0, none⟩ : Addr)) (k := .u8) (t := 130) (e := 5) (x := .global 0) (y := .tmp 87) (by kernel_rfl) (by kernel_rfl) (by kernel_rfl) (by kernel_rfl) (by kernel_rfl) hx) ?_
    obtain ⟨x32, hx, h⟩ := bind_some h
    refine RS.o (H' := H28) (some 89) (Value.int .u8 x32) (Abs.run_load (t := 5) (x := .tmp 88) (a := p31) (by kernel_rfl) (by kernel_rfl) (by kernel_rfl) (rd_cell hx deI_inv)) ?_
    refine RS.mS 2 [(91, .val (Value.bool (!decide (x32 = 0)))), (90, .val (Value.bool (!decide (x32 = 0))))] ?_
    refine RS.dn ?_
    refine WS.nxt ?_
    rcases ite_some h with ⟨hp, h⟩ | ⟨hp, h⟩
    · refine WS.fx 91 false (dec_not hp) ?_
      refine WS.cF ?_
      refine WS.ex 6 ?_
      cases h
      exact fun a w hs => sqE (lsB rfl (hs.sb 0))
    · refine WS.fx 91 true (dec_not' hp) ?_
      refine WS.cT ?_
      cases h
  · refine RS.fx 84 false (decide_eq_false hp) ?_
    cases h

theorem strings_Fields_b2_ok {ne : NE} {E : Ent} {H : AH} {L : LC} {m : Nat} {a0 : ByteArray} {s12 : Sl3}  : ∀ s o, strings_Fields_b2 L m a0 s12 s = some o →
    WS Tryd.prog ne m E Tryd.f95.ntmps (cfst (cfst (cfst (csnd (csnd (csnd (csnd (csnd (csnd (csnd (csnd (csnd (csnd (csnd (csnd B95))))))))))))))) (strings_Fields_b2_kn L m a0 s12 s) (strings_Fields_b2_ls L m a0 s12 s) ((fun s => s.1) s) (lpS Tryd.prog ne m E Tryd.f95.ntmps (strings_Fields_b2_kn L m a0 s12) (strings_Fields_b2_ls L m a0 s12) (fun s => s.1) 4 (fun r => RT Tryd.prog ne m E Tryd.f95 (strings_Fields_enc r) (strings_Fields_hp H r)) o) := by
  rintro ⟨H19, v10_20, v11_21, v12_22⟩ o h
  unfold strings_Fields_b2 at h
  try dsimp only at h
  refine WS.sq ?_
  refine WS.sq ?_
  refine WS.rg ?_
  refine RS.mS 4 [(60, .val (Value.bool (decide (v12_22 < (a0.size : Int))))), (59, .val (Value.int .i64 (a0.size : Int))), (58, .val (Value.string a0)), (57, .val (Value.int .i64 v12_22))] ?_
  refine RS.dn ?_
  refine WS.nxt ?_
  rcases ite_some h with ⟨hp, h⟩ | ⟨hp, h⟩
  · refine WS.fx 60 true (decide_eq_true hp) ?_
    refine WS.cT ?_
    refine WS.sk ?_
    refine WS.nxt ?_
    refine WS.bk 5 ?_
    refine WS.sq ?_
    refine WS.sq ?_
    refine WS.rg ?_
    refine RS.mS 2 [(62, .val (Value.int .i64 v12_22)), (61, .val (Value.string a0))] ?_
    obtain ⟨x23, hx, h⟩ := bind_some h
    refine RS.o (H' := H19) (some 63) (Value.int .u8 x23) (Abs.run_byt (t := 9) (x := .tmp 61) (y := .tmp 62) (s := a0) (k := .i64) (i := v12_22) (by kernel_rfl) (by kernel_rfl) (by kernel_rfl) (by kernel_rfl) hx) ?_
    obtain ⟨p24, hx, h⟩ := bind_some h
    refine RS.o (H' := H19) (some 64) (Value.pointer (some p24)) (Abs.run_idxR (a := (⟨0, 0, none⟩ : Addr)) (k := .u8) (t := 130) (e := 5) (x := .global 0) (y := .tmp 63) (by kernel_rfl) (by kernel_rfl) (by kernel_rfl) (by kernel_rfl) (by kernel_rfl) hx) ?_
    obtain ⟨x25, hx, h⟩ := bind_some h
    refine RS.o (H' := H19) (some 65) (Value.int .u8 x25) (Abs.run_load (t := 5) (x := .tmp 64) (a := p24) (by kernel_rfl) (by kernel_rfl) (by kernel_rfl) (rd_cell hx deI_inv)) ?_
    refine RS.mS 1 [(66, .val (Value.bool (decide (x25 = 0))))] ?_
    refine RS.dn ?_
    refine WS.nxt ?_
    rcases ite_some h with ⟨hp, h⟩ | ⟨hp, h⟩
    · refine WS.fx 66 true (decide_eq_true hp) ?_
      refine WS.cT ?_
      refine WS.sq ?_
      refine WS.rg ?_
      refine RS.mS 3 [(12, .val (Value.int .i64 (IntKind.i64.wrap (v12_22 + 1)))), (68, .val (Value.int .i64 (IntKind.i64.wrap (v12_22 + 1)))), (67, .val (Value.int .i64 v12_22))] ?_
      refine RS.dn ?_
      refine WS.nxt ?_
      refine WS.ex 5 ?_
      cases h
      exact fun a w hs => sqE (bkE (lsN rfl (hs.sb 0)))
    · refine WS.fx 66 false (decide_eq_false hp) ?_
      refine WS.cF ?_
      refine WS.sk ?_
      refine WS.nxt ?_
      refine WS.sq ?_
      refine WS.rg ?_
      refine RS.mS 5 [(73, .val (Value.int .i64 v12_22)), (72, .val (Value.int .i64 v11_21)), (71, .val (Value.string a0)), (70, .val (Value.int .i64 v10_20)), (69, .val (Sl3.v s12))] ?_
      obtain ⟨s26, hx, h⟩ := bind_some h
      refine RS.o (H' := H19) (some 74) (Value.string s26) (Abs.run_strC (t := 9) (x := .tmp 71) (lo := (some (.tmp 72))) (hi := (some (.tmp 73))) (s := a0) (k1 := .i64) (k2 := .i64) (by kernel_rfl) (by kernel_rfl) (by kernel_rfl) (by kernel_rfl) (by kernel_rfl) hx) ?_
      obtain ⟨p27, hx, h⟩ := bind_some h
      refine RS.o (H' := H19) (some 75) (Value.pointer (some p27)) (Abs.run_idx (s := s12) (k := .i64) (t := 29) (e := 9) (x := .tmp 69) (y := .tmp 70) (by kernel_rfl) (by kernel_rfl) (by kernel_rfl) (by kernel_rfl) (by kernel_rfl) hx) ?_
      obtain ⟨H28, hx, h⟩ := bind_some h
      refine RS.o (H' := H28) none undef (Abs.run_store1 (t := 9) (x := .tmp 75) (y := .tmp 74) (a := p27) (v := (Value.string s26)) (by kernel_rfl) (by kernel_rfl) (by kernel_rfl) (by kernel_rfl) (by kernel_rfl) hx) ?_
      refine RS.dn ?_
      refine WS.nxt ?_
      refine WS.sq ?_
      refine WS.rg ?_
      refine RS.mS 3 [(10, .val (Value.int .i64 (IntKind.i64.wrap (v10_20 + 1)))), (77, .val (Value.int .i64 (IntKind.i64.wrap (v10_20 + 1)))), (76, .val (Value.int .i64 v10_20))] ?_
      refine RS.dn ?_
      refine WS.nxt ?_
      refine WS.sq ?_
      refine WS.rg ?_
      refine RS.mS 3 [(12, .val (Value.int .i64 (IntKind.i64.wrap (v12_22 + 1)))), (79, .val (Value.int .i64 (IntKind.i64.wrap (v12_22 + 1)))), (78, .val (Value.int .i64 v12_22))] ?_
      refine RS.dn ?_
      refine WS.nxt ?_
      refine WS.sq ?_
      refine WS.bk 6 ?_
      obtain ⟨o, hl, h⟩ := bind_some h
      rcases o with v12_33 | r
      · try dsimp only at h
        refine WS.lI (strings_Fields_b3_ok (ne := ne) (L := L) (E := E) (m := m) (H := H)) (L.ok hl) 0 ?_
        clear hl
        refine fun a w hs => bkE ((WS.nxt ?_ a w hs))
        refine WS.rg ?_
        refine RS.mS 2 [(11, .val (Value.int .i64 v12_33)), (94, .val (Value.int .i64 v12_33))] ?_
        refine RS.dn ?_
        cases h
        exact fun a w hs => bkN (lsN rfl (hs.sb 0))
      · try dsimp only at h
        refine WS.lR (strings_Fields_b3_ok (ne := ne) (L := L) (E := E) (m := m) (H := H)) (L.ok hl) 0 ?_
        cases h
        exact fun a w hq => bkR (sqR (bkR (lsR rfl hq)))
  · refine WS.fx 60 false (decide_eq_false hp) ?_
    refine WS.cF ?_
    refine WS.ex 4 ?_
    cases h
    exact fun a w hs => sqE (lsB rfl (hs.sb 0))

theorem strings_Fields_ok {L : LC} {ne : NE} {m : Nat} {H : AH} {a0 : ByteArray} {r : (Sl3 × AH)} (h : strings_Fields L m H a0 = some r) :
    CallS Tryd.prog ne m 95 #[(Value.string a0)] H (strings_Fields_enc r) (strings_Fields_hp H r) := by
  refine CallS.mk (args := [(Value.string a0)]) Tryd.func95 (B := B95) (by kernel_rfl) (fun E _ => ?_)
  unfold strings_Fields at h
  refine WS.sq ?_
  refine WS.rg ?_
  refine RS.mS 1 [(2, .val (Sl3.v Sl3.nil))] ?_
  refine RS.dn ?_
  refine WS.nxt ?_
  refine WS.sq ?_
  refine WS.rg ?_
  refine RS.mS 1 [(3, .val (Value.int .i64 0))] ?_
  refine RS.dn ?_
  refine WS.nxt ?_
  refine WS.sq ?_
  refine WS.rg ?_
  refine RS.mS 1 [(4, .val (Value.int .i64 1))] ?_
  refine RS.dn ?_
  refine WS.nxt ?_
  refine WS.sq ?_
  refine WS.rg ?_
  refine RS.mS 1 [(5, .val (Value.int .u8 0))] ?_
  refine RS.dn ?_
  refine WS.nxt ?_
  refine WS.sq ?_
  refine WS.sq ?_
  refine WS.rg ?_
  refine RS.mS 1 [(6, .val (Value.int .i64 0))] ?_
  refine RS.dn ?_
  refine WS.nxt ?_
  refine WS.bk 0 ?_
  obtain ⟨o, hl, h⟩ := bind_some h
  rcases o with ⟨v3_8, v4_9, v5_10, v6_11⟩ | r
  · try dsimp only at h
    refine WS.lI (strings_Fields_b0_ok (ne := ne) (L := L) (E := E) (m := m) (H := H)) (L.ok hl) 0 ?_
    clear hl
    refine fun a w hs => bkE ((WS.nxt ?_ a w hs))
    refine WS.sq ?_
    refine WS.sq ?_
    refine WS.rg ?_
    refine RS.mS 2 [(37, .val (Value.bool (decide (v5_10 ≥ 128)))), (36, .val (Value.int .u8 v5_10))] ?_
    refine RS.dn ?_
    refine WS.nxt ?_
    rcases ite_some h with ⟨hp, h⟩ | ⟨hp, h⟩
    · refine WS.fx 37 true (decide_eq_true hp) ?_
      refine WS.cT ?_
      cases h
    · refine WS.fx 37 false (decide_eq_false hp) ?_
      refine WS.cF ?_
      refine WS.sk ?_
      refine WS.nxt ?_
      refine WS.sq ?_
      refine WS.rg ?_
      refine RS.mS 1 [(40, .val (Value.int .i64 v3_8))] ?_
      obtain ⟨⟨s12, H13⟩, hx, h⟩ := bind_some h
      try dsimp only at h
      refine RS.o (H' := H13) (some 41) (Sl3.v s12) (Abs.run_mk (t := 29) (x := .tmp 40) (y := .tmp 40) (k1 := .i64) (k2 := .i64) (by kernel_rfl) (by kernel_rfl) (by kernel_rfl) (by kernel_rfl) hx) ?_
      refine RS.mS 1 [(9, .val (Sl3.v s12))] ?_
      refine RS.dn ?_
      refine WS.nxt ?_
      refine WS.sq ?_
      refine WS.rg ?_
      refine RS.mS 1 [(10, .val (Value.int .i64 0))] ?_
      refine RS.dn ?_
      refine WS.nxt ?_
      refine WS.sq ?_
      refine WS.rg ?_
      refine RS.mS 1 [(11, .val (Value.int .i64 0))] ?_
      refine RS.dn ?_
      refine WS.nxt ?_
      refine WS.sq ?_
      refine WS.rg ?_
      refine RS.mS 1 [(12, .val (Value.int .i64 0))] ?_
      refine RS.dn ?_
      refine WS.nxt ?_
      refine WS.sq ?_
      refine WS.bk 2 ?_
      obtain ⟨o, hl, h⟩ := bind_some h
      rcases o with v12_18 | r
      · try dsimp only at h
        refine WS.lI (strings_Fields_b1_ok (ne := ne) (L := L) (E := E) (m := m) (H := H)) (L.ok hl) 0 ?_
        clear hl
        refine fun a w hs => bkE ((WS.nxt ?_ a w hs))
        refine WS.sq ?_
        refine WS.rg ?_
        refine RS.mS 2 [(11, .val (Value.int .i64 v12_18)), (56, .val (Value.int .i64 v12_18))] ?_
        refine RS.dn ?_
        refine WS.nxt ?_
        refine WS.sq ?_
        refine WS.bk 4 ?_
        obtain ⟨o, hl, h⟩ := bind_some h
        rcases o with ⟨H34, v10_35, v11_36, v12_37⟩ | r
        · try dsimp only at h
          refine WS.lI (strings_Fields_b2_ok (ne := ne) (L := L) (E := E) (m := m) (H := H)) (L.ok hl) 0 ?_
          clear hl
          refine fun a w hs => bkE ((WS.nxt ?_ a w hs))
          refine WS.sq ?_
          refine WS.sq ?_
          refine WS.rg ?_
          refine RS.mS 4 [(98, .val (Value.bool (decide (v11_36 < (a0.size : Int))))), (97, .val (Value.int .i64 (a0.size : Int))), (96, .val (Value.string a0)), (95, .val (Value.int .i64 v11_36))] ?_
          refine RS.dn ?_
          refine WS.nxt ?_
          rcases ite_some h with ⟨hp, h⟩ | ⟨hp, h⟩
          · refine WS.fx 98 true (decide_eq_true hp) ?_
            refine WS.cT ?_
            refine WS.rg ?_
            refine RS.mS 4 [(102, .val (Value.int .i64 v11_36)), (101, .val (Value.string a0)), (100, .val (Value.int .i64 v10_35)), (99, .val (Sl3.v s12))] ?_
            obtain ⟨s38, hx, h⟩ := bind_some h
            refine RS.o (H' := H34) (some 103) (Value.string s38) (Abs.run_strC (t := 9) (x := .tmp 101) (lo := (some (.tmp 102))) (hi := none) (s := a0) (k1 := .i64) (k2 := .i64) (by kernel_rfl) (by kernel_rfl) (by kernel_rfl) (by kernel_rfl) (by kernel_rfl) hx) ?_
            obtain ⟨p39, hx, h⟩ := bind_some h
            refine RS.o (H' := H34) (some 104) (Value.pointer (some p39)) (Abs.run_idx (s := s12) (k := .i64) (t := 29) (e := 9) (x := .tmp 99) (y := .tmp 100) (by kernel_rfl) (by kernel_rfl) (by kernel_rfl) (by kernel_rfl) (by kernel_rfl) hx) ?_
            obtain ⟨H40, hx, h⟩ := bind_some h
            refine RS.o (H' := H40) none undef (Abs.run_store1 (t := 9) (x := .tmp 104) (y := .tmp 103) (a := p39) (v := (Value.string s38)) (by kernel_rfl) (by kernel_rfl) (by kernel_rfl) (by kernel_rfl) (by kernel_rfl) hx) ?_
            refine RS.dn ?_
            refine WS.nxt ?_
            refine WS.sq ?_
            refine WS.rg ?_
            refine RS.mS 2 [(2, .val (Sl3.v s12)), (105, .val (Sl3.v s12))] ?_
            refine RS.dn ?_
            refine WS.nxt ?_
            refine WS.rt ?_
            cases h
            exact fun a w hs => rtR (rS hs)
          · refine WS.fx 98 false (decide_eq_false hp) ?_
            refine WS.cF ?_
            cases h
        · try dsimp only at h
          refine WS.lR (strings_Fields_b2_ok (ne := ne) (L := L) (E := E) (m := m) (H := H)) (L.ok hl) 0 ?_
          cases h
          exact fun a w hq => bkR (sqR (rtR hq))
      · try dsimp only at h
        refine WS.lR (strings_Fields_b1_ok (ne := ne) (L := L) (E := E) (m := m) (H := H)) (L.ok hl) 0 ?_
        cases h
        exact fun a w hq => bkR (sqR (rtR hq))
  · try dsimp only at h
    refine WS.lR (strings_Fields_b0_ok (ne := ne) (L := L) (E := E) (m := m) (H := H)) (L.ok hl) 0 ?_
    cases h
    exact fun a w hq => bkR (sqR (rtR hq))

end Go.Proofs.YtccbilfbhecdaaaDoor.Aw


namespace Go.Proofs.YtccbilfbhecdaaaDoor
open Go Go.Abs
set_option maxRecDepth 100000

def tabs : List Tab := [(0, 130, ((zsOf Rows.laid_strings_asciiSpace).map fun z => Value.int .u8 z).toArray), (3, 159, ((zsOf Rows.laid_internal_strconv_uint64pow10).map fun z => Value.int .u64 z).toArray), (4, 165, ((zsOf Rows.laid_math_bits_deBruijn32tab).map fun z => Value.int .u8 z).toArray), (5, 166, ((zsOf Rows.laid_math_bits_deBruijn64tab).map fun z => Value.int .u8 z).toArray)]

theorem tabs_ok : tabsB Tryd.prog tabs = true := by kernel_rfl
theorem globals7 : Tryd.prog.globals.size = 7 := by kernel_rfl
theorem some_globals : 0 < Tryd.prog.globals.size := by rw [globals7]; omega

/-- The tables stand in this heap. -/
def HasT (H : AH) : Prop := ∀ x ∈ tabs, H.get x.1 = some (tabBlk x) ∧ x.1 < H.next

noncomputable def lc : LC := LCn 100000 1000
noncomputable def H0 : AH := startH Tryd.prog tabs

variable {ne : NE}

set_option maxHeartbeats 0 in
theorem awake_tab : (Aw.law04_awake lc 7 H0).map (·.1) = some true := by kernel_rfl

open Classical in
noncomputable def law04_awake (_L : LC) (H : AH) : Option Bool := if HasT H then some true else none
def law04_awake_enc : Bool → Value
  | r0 => (Value.bool r0)
def law04_awake_hp (H : AH) : Bool → AH := fun _ => H

theorem law04_awake_ok {L : LC} {ne : NE} {m : Nat} {H : AH} {r : Bool} (h : law04_awake L H = some r) : CallS Tryd.prog ne m 17 #[] H (law04_awake_enc r) (law04_awake_hp H r) := by
  unfold law04_awake at h
  split at h
  · rename_i hT
    cases h
    have hrun := awake_tab
    generalize hq : Aw.law04_awake lc 7 H0 = q at hrun
    cases q with
    | none => cases hrun
    | some r =>
      obtain ⟨b, H'⟩ := r
      simp only [Option.map_some, Option.some.injEq] at hrun
      subst hrun
      have hc := @Aw.law04_awake_ok lc ne 7 H0 (true, H') hq
      refine CallS.under (tabs := tabs) some_globals tabs_ok (H1 := H') ?_ (by simp [flat, depth]) (by rfl) fun x hx => (hT x hx).1
      rw [globals7]
      exact hc
  · cases h

def wordsV : ByteArray := (⟨#[33, 32, 95, 32, 97, 115, 32, 66, 73, 78, 65, 82, 89, 32, 68, 69, 67, 73, 77, 65, 76, 32, 101, 120, 105, 115, 116, 115, 32, 102, 111, 114, 97, 108, 108, 32, 72, 69, 88, 65, 68, 69, 67, 73, 77, 65, 76, 32, 108, 101, 116, 32, 109, 97, 116, 99, 104, 32, 78, 85, 77, 69, 82, 65, 76, 32, 112, 97, 114, 32, 83, 84, 82, 73, 78, 71, 32, 97, 115, 115, 101, 114, 116, 32, 99, 104, 101, 99, 107, 45, 115, 97, 116, 32, 99, 104, 101, 99, 107, 45, 115, 97, 116, 45, 97, 115, 115, 117, 109, 105, 110, 103, 32, 100, 101, 99, 108, 97, 114, 101, 45, 99, 111, 110, 115, 116, 32, 100, 101, 99, 108, 97, 114, 101, 45, 100, 97, 116, 97, 116, 121, 112, 101, 32, 100, 101, 99, 108, 97, 114, 101, 45, 100, 97, 116, 97, 116, 121, 112, 101, 115, 32, 100, 101, 99, 108, 97, 114, 101, 45, 102, 117, 110, 32, 100, 101, 99, 108, 97, 114, 101, 45, 115, 111, 114, 116, 32, 100, 101, 102, 105, 110, 101, 45, 102, 117, 110, 32, 100, 101, 102, 105, 110, 101, 45, 115, 111, 114, 116, 32, 101, 99, 104, 111, 32, 101, 120, 105, 116, 32, 103, 101, 116, 45, 97, 115, 115, 101, 114, 116, 105, 111, 110, 115, 32, 103, 101, 116, 45, 105, 110, 102, 111, 32, 103, 101, 116, 45, 109, 111, 100, 101, 108, 32, 103, 101, 116, 45, 118, 97, 108, 117, 101, 32, 112, 111, 112, 32, 112, 117, 115, 104, 32, 114, 101, 115, 101, 116, 32, 114, 101, 115, 101, 116, 45, 97, 115, 115, 101, 114, 116, 105, 111, 110, 115, 32, 115, 101, 116, 45, 105, 110, 102, 111, 32, 115, 101, 116, 45, 108, 111, 103, 105, 99, 32, 115, 101, 116, 45, 111, 112, 116, 105, 111, 110]⟩ : ByteArray)

def wordsL : List ByteArray := [⟨#[33]⟩, ⟨#[95]⟩, ⟨#[97, 115]⟩, ⟨#[66, 73, 78, 65, 82, 89]⟩, ⟨#[68, 69, 67, 73, 77, 65, 76]⟩, ⟨#[101, 120, 105, 115, 116, 115]⟩, ⟨#[102, 111, 114, 97, 108, 108]⟩, ⟨#[72, 69, 88, 65, 68, 69, 67, 73, 77, 65, 76]⟩, ⟨#[108, 101, 116]⟩, ⟨#[109, 97, 116, 99, 104]⟩, ⟨#[78, 85, 77, 69, 82, 65, 76]⟩, ⟨#[112, 97, 114]⟩, ⟨#[83, 84, 82, 73, 78, 71]⟩, ⟨#[97, 115, 115, 101, 114, 116]⟩, ⟨#[99, 104, 101, 99, 107, 45, 115, 97, 116]⟩, ⟨#[99, 104, 101, 99, 107, 45, 115, 97, 116, 45, 97, 115, 115, 117, 109, 105, 110, 103]⟩, ⟨#[100, 101, 99, 108, 97, 114, 101, 45, 99, 111, 110, 115, 116]⟩, ⟨#[100, 101, 99, 108, 97, 114, 101, 45, 100, 97, 116, 97, 116, 121, 112, 101]⟩, ⟨#[100, 101, 99, 108, 97, 114, 101, 45, 100, 97, 116, 97, 116, 121, 112, 101, 115]⟩, ⟨#[100, 101, 99, 108, 97, 114, 101, 45, 102, 117, 110]⟩, ⟨#[100, 101, 99, 108, 97, 114, 101, 45, 115, 111, 114, 116]⟩, ⟨#[100, 101, 102, 105, 110, 101, 45, 102, 117, 110]⟩, ⟨#[100, 101, 102, 105, 110, 101, 45, 115, 111, 114, 116]⟩, ⟨#[101, 99, 104, 111]⟩, ⟨#[101, 120, 105, 116]⟩, ⟨#[103, 101, 116, 45, 97, 115, 115, 101, 114, 116, 105, 111, 110, 115]⟩, ⟨#[103, 101, 116, 45, 105, 110, 102, 111]⟩, ⟨#[103, 101, 116, 45, 109, 111, 100, 101, 108]⟩, ⟨#[103, 101, 116, 45, 118, 97, 108, 117, 101]⟩, ⟨#[112, 111, 112]⟩, ⟨#[112, 117, 115, 104]⟩, ⟨#[114, 101, 115, 101, 116]⟩, ⟨#[114, 101, 115, 101, 116, 45, 97, 115, 115, 101, 114, 116, 105, 111, 110, 115]⟩, ⟨#[115, 101, 116, 45, 105, 110, 102, 111]⟩, ⟨#[115, 101, 116, 45, 108, 111, 103, 105, 99]⟩, ⟨#[115, 101, 116, 45, 111, 112, 116, 105, 111, 110]⟩]

def wordsB : Blk := { obj := .cells (wordsL.map Value.string).toArray 9 (0, 0), opn := false, esz := 0, ro := false }

/-- The whole of what is wanted of the run. -/
noncomputable def fieldsT : Option (Sl3 × Option Blk) := (Aw.strings_Fields lc 7 H0 wordsV).map fun r => (r.1, r.2.get 7)

set_option maxHeartbeats 0 in
theorem fields_tab : fieldsT = some (⟨some ⟨7, 0, none⟩, 36, 36⟩, some wordsB) := by kernel_rfl

open Classical in
noncomputable def strings_Fields (_L : LC) (_m : Nat) (H : AH) (a0 : ByteArray) : Option (Sl3 × AH) := if a0 = wordsV ∧ HasT H then some (⟨some ⟨H.next, 0, none⟩, 36, 36⟩, H.push wordsB) else none
def strings_Fields_enc : (Sl3 × AH) → Value
  | (r0, _) => (Sl3.v r0)
def strings_Fields_hp (_ : AH) : (Sl3 × AH) → AH := fun r => r.2

theorem strings_Fields_ok {L : LC} {ne : NE} {m : Nat} {H : AH} {a0 : ByteArray} {r : (Sl3 × AH)} (h : strings_Fields L m H a0 = some r) : CallS Tryd.prog ne m 95 #[(Value.string a0)] H (strings_Fields_enc r) (strings_Fields_hp H r) := by
  unfold strings_Fields at h
  split at h
  · rename_i hT
    obtain ⟨rfl, hT⟩ := hT
    cases h
    have hrun := fields_tab
    unfold fieldsT at hrun
    cases hq : Aw.strings_Fields lc 7 H0 wordsV with
    | none => rw [hq] at hrun; cases hrun
    | some q =>
      rw [hq] at hrun
      obtain ⟨s, H'⟩ := q
      simp only [Option.map_some, Option.some.injEq, Prod.mk.injEq] at hrun
      obtain ⟨rfl, hb⟩ := hrun
      have hc := @Aw.strings_Fields_ok lc ne 7 H0 wordsV (_, H') hq
      refine CallS.underNew (tabs := tabs) (n := 36) (c := 36) (b := wordsB) (cs := (wordsL.map Value.string).toArray) (e := 9) (fr := (0, 0)) (H1 := H') some_globals tabs_ok ?_ (by simp [flat, depth]) (by rw [globals7]; exact hb) rfl rfl (by unfold OPEN; omega) (by kernel_rfl) fun x hx => (hT x hx).1
      rw [globals7]
      exact hc
  · cases h

end Go.Proofs.YtccbilfbhecdaaaDoor


namespace Go.Proofs.YtccbilfbhecdaaaDoor
open Go Go.Abs
set_option maxRecDepth 100000

def sort_Name_enc : Bool → Value
  | r0 => (Value.bool r0)

def sort_Name_hp (H : AH) : Bool → AH := fun _ => H

noncomputable def B13 : Code := (Tryd.f13.body).getD .skip

noncomputable def sort_Name_b0 (_L : LC) (a0 : ByteArray) : Int → Option (Lp Int Bool) := fun v24_4 =>
  if v24_4 < (a0.size : Int) then
    Option.bind (α := Bool) (
      Option.bind (bytA a0 v24_4) fun x6 =>
      if x6 < 32 then
        some true
      else
        Option.bind (bytA a0 v24_4) fun x7 =>
        if x7 > 126 then
          some true
        else
          Option.bind (bytA a0 v24_4) fun x8 =>
          if x8 = 124 then
            some true
          else
            Option.bind (bytA a0 v24_4) fun x9 =>
            some (decide (x9 = 92))) fun v48_5 =>
    if v48_5 = true then
      some (.ret false)
    else
      some (.next (IntKind.i64.wrap (v24_4 + 1)))
  else
    some (.brk v24_4)

def sort_Name_b0_kn (_L : LC) (a0 : ByteArray) : Int → KN := fun v24_4 => [(24, .val (Value.int .i64 v24_4)), (0, .val (Value.string a0)), (23, .val (Value.int .i64 (a0.size : Int)))]

def sort_Name_b0_ls (_L : LC) (_a0 : ByteArray) : Int → Lcs := fun _ => []

noncomputable def sort_Name (L : LC) (a0 : ByteArray) : Option Bool :=
  Option.bind (α := Bool) (
    if (a0.size : Int) < 1 then
      some true
    else
      if (a0.size : Int) > 200 then
        some true
      else
        Option.bind (bytA a0 0) fun x2 =>
        if x2 = 64 then
          some true
        else
          Option.bind (bytA a0 0) fun x3 =>
          some (decide (x3 = 46))) fun v21_1 =>
  if v21_1 = true then
    some false
  else
    Option.bind (L.run (sort_Name_b0 L a0) 0) fun o => match o with
    | .inl _ =>
      some true
    | .inr r => some r

theorem sort_Name_b0_ok {ne : NE} {E : Ent} {m : Nat} {H : AH} {L : LC} {a0 : ByteArray}  : ∀ s o, sort_Name_b0 L a0 s = some o →
    WS Tryd.prog ne m E Tryd.f13.ntmps (cfst (cfst (csnd (cfst (csnd (csnd B13)))))) (sort_Name_b0_kn L a0 s) (sort_Name_b0_ls L a0 s) ((fun _ => H) s) (lpS Tryd.prog ne m E Tryd.f13.ntmps (sort_Name_b0_kn L a0) (sort_Name_b0_ls L a0) (fun _ => H) 0 (fun r => RT Tryd.prog ne m E Tryd.f13 (sort_Name_enc r) (sort_Name_hp H r)) o) := by
  rintro v24_4 o h
  unfold sort_Name_b0 at h
  try dsimp only at h
  refine WS.sq ?_
  refine WS.rg ?_
  refine RS.mS 1 [(25, .val (Value.bool (decide (v24_4 < (a0.size : Int)))))] ?_
  refine RS.dn ?_
  refine WS.nxt ?_
  refine WS.sq ?_
  rcases ite_some h with ⟨hp, h⟩ | ⟨hp, h⟩
  · refine WS.fx 25 true (decide_eq_true hp) ?_
    refine WS.cT ?_
    refine WS.sk ?_
    refine WS.nxt ?_
    refine WS.sq ?_
    refine WS.bk 1 ?_
    refine WS.sq ?_
    refine WS.rg ?_
    refine RS.mS 2 [(3, .val (Value.int .i64 v24_4)), (26, .val (Value.int .i64 v24_4))] ?_
    refine RS.dn ?_
    refine WS.nxt ?_
    obtain ⟨v48_5, hx, h⟩ := bind_some h
    refine WS.sq ?_
    refine WS.join ([(48, .val (Value.bool v48_5)), (0, .val (Value.string a0)), (23, .val (Value.int .i64 (a0.size : Int))), (24, .val (Value.int .i64 v24_4))]) ([]) H ?_ (fun a w hs => WS.nxt ?_ a w hs)
    · clear h; rename _ => h
      refine WS.rg ?_
      refine RS.mS 2 [(28, .val (Value.int .i64 v24_4)), (27, .val (Value.string a0))] ?_
      obtain ⟨x6, hx, h⟩ := bind_some h
      refine RS.o (H' := H) (some 29) (Value.int .u8 x6) (Abs.run_byt (t := 9) (x := .tmp 27) (y := .tmp 28) (s := a0) (k := .i64) (i := v24_4) (by kernel_rfl) (by kernel_rfl) (by kernel_rfl) (by kernel_rfl) hx) ?_
      refine RS.mS 2 [(31, .val (Value.bool (decide (x6 < 32)))), (30, .val (Value.bool (decide (x6 < 32))))] ?_
      rcases ite_some h with ⟨hp, h⟩ | ⟨hp, h⟩
      · refine RS.fx 31 true (decide_eq_true hp) ?_
        refine RS.mS 17 [(48, .val (Value.bool true)), (47, .val undef), (46, .val undef), (45, .val undef), (44, .val undef), (43, .val (Value.bool true)), (42, .val (Value.bool true)), (41, .val undef), (40, .val undef), (39, .val undef), (38, .val undef), (37, .val (Value.bool true)), (36, .val (Value.bool true)), (35, .val undef), (34, .val undef), (33, .val undef), (32, .val undef)] ?_
        refine RS.dn ?_
        cases h
        exact fun a w hs => (jsN (hs.sb 0))
      · refine RS.fx 31 false (decide_eq_false hp) ?_
        refine RS.mS 2 [(33, .val (Value.int .i64 v24_4)), (32, .val (Value.string a0))] ?_
        obtain ⟨x7, hx, h⟩ := bind_some h
        refine RS.o (H' := H) (some 34) (Value.int .u8 x7) (Abs.run_byt (t := 9) (x := .tmp 32) (y := .tmp 33) (s := a0) (k := .i64) (i := v24_4) (by kernel_rfl) (by kernel_rfl) (by kernel_rfl) (by kernel_rfl) hx) ?_
        refine RS.mS 3 [(37, .val (Value.bool (decide (x7 > 126)))), (36, .val (Value.bool (decide (x7 > 126)))), (35, .val (Value.bool (decide (x7 > 126))))] ?_
        rcases ite_some h with ⟨hp, h⟩ | ⟨hp, h⟩
        · refine RS.fx 37 true (decide_eq_true hp) ?_
          refine RS.mS 11 [(48, .val (Value.bool true)), (47, .val undef), (46, .val undef), (45, .val undef), (44, .val undef), (43, .val (Value.bool true)), (42, .val (Value.bool true)), (41, .val undef), (40, .val undef), (39, .val undef), (38, .val undef)] ?_
          refine RS.dn ?_
          cases h
          exact fun a w hs => (jsN (hs.sb 0))
        · refine RS.fx 37 false (decide_eq_false hp) ?_
          refine RS.mS 2 [(39, .val (Value.int .i64 v24_4)), (38, .val (Value.string a0))] ?_
          obtain ⟨x8, hx, h⟩ := bind_some h
          refine RS.o (H' := H) (some 40) (Value.int .u8 x8) (Abs.run_byt (t := 9) (x := .tmp 38) (y := .tmp 39) (s := a0) (k := .i64) (i := v24_4) (by kernel_rfl) (by kernel_rfl) (by kernel_rfl) (by kernel_rfl) hx) ?_
          refine RS.mS 3 [(43, .val (Value.bool (decide (x8 = 124)))), (42, .val (Value.bool (decide (x8 = 124)))), (41, .val (Value.bool (decide (x8 = 124))))] ?_
          rcases ite_some h with ⟨hp, h⟩ | ⟨hp, h⟩
          · refine RS.fx 43 true (decide_eq_true hp) ?_
            refine RS.mS 5 [(48, .val (Value.bool true)), (47, .val undef), (46, .val undef), (45, .val undef), (44, .val undef)] ?_
            refine RS.dn ?_
            cases h
            exact fun a w hs => (jsN (hs.sb 0))
          · refine RS.fx 43 false (decide_eq_false hp) ?_
            refine RS.mS 2 [(45, .val (Value.int .i64 v24_4)), (44, .val (Value.string a0))] ?_
            obtain ⟨x9, hx, h⟩ := bind_some h
            refine RS.o (H' := H) (some 46) (Value.int .u8 x9) (Abs.run_byt (t := 9) (x := .tmp 44) (y := .tmp 45) (s := a0) (k := .i64) (i := v24_4) (by kernel_rfl) (by kernel_rfl) (by kernel_rfl) (by kernel_rfl) hx) ?_
            refine RS.mS 2 [(48, .val (Value.bool (decide (x9 = 92)))), (47, .val (Value.bool (decide (x9 = 92))))] ?_
            refine RS.dn ?_
            cases h
            exact fun a w hs => (jsN (hs.sb 0))
    · clear hx
      rcases ite_some h with ⟨hp, h⟩ | ⟨hp, h⟩
      · refine WS.fx 48 true hp ?_
        refine WS.cT ?_
        refine WS.sq ?_
        refine WS.rg ?_
        refine RS.mS 1 [(2, .val (Value.bool false))] ?_
        refine RS.dn ?_
        refine WS.nxt ?_
        refine WS.rt ?_
        cases h
        exact fun a w hs => bkR (sqR (lsR rfl (rS hs)))
      · refine WS.fx 48 false (b_not hp) ?_
        refine WS.cF ?_
        refine WS.sk ?_
        refine fun a w hs => bkN ((WS.nxt ?_ a w hs))
        refine WS.rg ?_
        refine RS.mS 2 [(24, .val (Value.int .i64 (IntKind.i64.wrap (v24_4 + 1)))), (49, .val (Value.int .i64 (IntKind.i64.wrap (v24_4 + 1))))] ?_
        refine RS.dn ?_
        cases h
        exact fun a w hs => lsN rfl (hs.sb 0)
  · refine WS.fx 25 false (decide_eq_false hp) ?_
    refine WS.cF ?_
    refine WS.ex 0 ?_
    cases h
    exact fun a w hs => sqE (lsB rfl (hs.sb 0))

theorem sort_Name_ok {L : LC} {ne : NE} {m : Nat} {H : AH} {a0 : ByteArray} {r : Bool} (h : sort_Name L a0 = some r) :
    CallS Tryd.prog ne m 13 #[(Value.string a0)] H (sort_Name_enc r) (sort_Name_hp H r) := by
  refine CallS.mk (args := [(Value.string a0)]) Tryd.func13 (B := B13) (by kernel_rfl) (fun E _ => ?_)
  unfold sort_Name at h
  refine WS.sq ?_
  refine WS.rg ?_
  refine RS.mS 1 [(2, .val (Value.bool false))] ?_
  refine RS.dn ?_
  refine WS.nxt ?_
  refine WS.sq ?_
  obtain ⟨v21_1, hx, h⟩ := bind_some h
  refine WS.sq ?_
  refine WS.join ([(21, .val (Value.bool v21_1)), (0, .val (Value.string a0))]) ([]) H ?_ (fun a w hs => WS.nxt ?_ a w hs)
  · clear h; rename _ => h
    refine WS.rg ?_
    refine RS.mS 4 [(7, .val (Value.bool (decide ((a0.size : Int) < 1)))), (6, .val (Value.bool (decide ((a0.size : Int) < 1)))), (5, .val (Value.int .i64 (a0.size : Int))), (4, .val (Value.string a0))] ?_
    rcases ite_some h with ⟨hp, h⟩ | ⟨hp, h⟩
    · refine RS.fx 7 true (decide_eq_true hp) ?_
      refine RS.mS 14 [(21, .val (Value.bool true)), (20, .val undef), (19, .val undef), (18, .val undef), (17, .val (Value.bool true)), (16, .val (Value.bool true)), (15, .val undef), (14, .val undef), (13, .val undef), (12, .val (Value.bool true)), (11, .val (Value.bool true)), (10, .val undef), (9, .val undef), (8, .val undef)] ?_
      refine RS.dn ?_
      cases h
      exact fun a w hs => (jsN (hs.sb 0))
    · refine RS.fx 7 false (decide_eq_false hp) ?_
      refine RS.mS 5 [(12, .val (Value.bool (decide ((a0.size : Int) > 200)))), (11, .val (Value.bool (decide ((a0.size : Int) > 200)))), (10, .val (Value.bool (decide ((a0.size : Int) > 200)))), (9, .val (Value.int .i64 (a0.size : Int))), (8, .val (Value.string a0))] ?_
      rcases ite_some h with ⟨hp, h⟩ | ⟨hp, h⟩
      · refine RS.fx 12 true (decide_eq_true hp) ?_
        refine RS.mS 9 [(21, .val (Value.bool true)), (20, .val undef), (19, .val undef), (18, .val undef), (17, .val (Value.bool true)), (16, .val (Value.bool true)), (15, .val undef), (14, .val undef), (13, .val undef)] ?_
        refine RS.dn ?_
        cases h
        exact fun a w hs => (jsN (hs.sb 0))
      · refine RS.fx 12 false (decide_eq_false hp) ?_
        refine RS.mS 1 [(13, .val (Value.string a0))] ?_
        obtain ⟨x2, hx, h⟩ := bind_some h
        refine RS.o (H' := H) (some 14) (Value.int .u8 x2) (Abs.run_byt (t := 9) (x := .tmp 13) (y := .const (Value.int .i64 0)) (s := a0) (k := .i64) (i := 0) (by kernel_rfl) (by kernel_rfl) (by kernel_rfl) (by kernel_rfl) hx) ?_
        refine RS.mS 3 [(17, .val (Value.bool (decide (x2 = 64)))), (16, .val (Value.bool (decide (x2 = 64)))), (15, .val (Value.bool (decide (x2 = 64))))] ?_
        rcases ite_some h with ⟨hp, h⟩ | ⟨hp, h⟩
        · refine RS.fx 17 true (decide_eq_true hp) ?_
          refine RS.mS 4 [(21, .val (Value.bool true)), (20, .val undef), (19, .val undef), (18, .val undef)] ?_
          refine RS.dn ?_
          cases h
          exact fun a w hs => (jsN (hs.sb 0))
        · refine RS.fx 17 false (decide_eq_false hp) ?_
          refine RS.mS 1 [(18, .val (Value.string a0))] ?_
          obtain ⟨x3, hx, h⟩ := bind_some h
          refine RS.o (H' := H) (some 19) (Value.int .u8 x3) (Abs.run_byt (t := 9) (x := .tmp 18) (y := .const (Value.int .i64 0)) (s := a0) (k := .i64) (i := 0) (by kernel_rfl) (by kernel_rfl) (by kernel_rfl) (by kernel_rfl) hx) ?_
          refine RS.mS 2 [(21, .val (Value.bool (decide (x3 = 46)))), (20, .val (Value.bool (decide (x3 = 46))))] ?_
          refine RS.dn ?_
          cases h
          exact fun a w hs => (jsN (hs.sb 0))
  · clear hx
    rcases ite_some h with ⟨hp, h⟩ | ⟨hp, h⟩
    · refine WS.fx 21 true hp ?_
      refine WS.cT ?_
      refine WS.sq ?_
      refine WS.rg ?_
      refine RS.mS 1 [(2, .val (Value.bool false))] ?_
      refine RS.dn ?_
      refine WS.nxt ?_
      refine WS.rt ?_
      cases h
      exact fun a w hs => sqR (rtR (rS hs))
    · refine WS.fx 21 false (b_not hp) ?_
      refine WS.cF ?_
      refine WS.sk ?_
      refine WS.nxt ?_
      refine WS.sq ?_
      refine WS.sq ?_
      refine WS.rg ?_
      refine RS.mS 3 [(24, .val (Value.int .i64 0)), (23, .val (Value.int .i64 (a0.size : Int))), (22, .val (Value.string a0))] ?_
      refine RS.dn ?_
      refine WS.nxt ?_
      refine WS.bk 0 ?_
      obtain ⟨o, hl, h⟩ := bind_some h
      rcases o with v24_10 | r
      · try dsimp only at h
        refine WS.lI (sort_Name_b0_ok (ne := ne) (L := L) (E := E) (m := m) (H := H)) (L.ok hl) 0 ?_
        clear hl
        refine fun a w hs => bkE ((WS.nxt ?_ a w hs))
        refine WS.sq ?_
        refine WS.rg ?_
        refine RS.mS 1 [(2, .val (Value.bool true))] ?_
        refine RS.dn ?_
        refine WS.nxt ?_
        refine WS.rt ?_
        cases h
        exact fun a w hs => rtR (rS hs)
      · try dsimp only at h
        refine WS.lR (sort_Name_b0_ok (ne := ne) (L := L) (E := E) (m := m) (H := H)) (L.ok hl) 0 ?_
        cases h
        exact fun a w hq => bkR (sqR (rtR hq))

def ref04_Name_enc : Bool → Value
  | r0 => (Value.bool r0)

def ref04_Name_hp (H : AH) : Bool → AH := fun _ => H

noncomputable def B14 : Code := (Tryd.f14.body).getD .skip

noncomputable def ref04_Name_b0 (_L : LC) (a0 : ByteArray) : Int → Option (Lp Int Bool) := fun v3_4 =>
  if v3_4 < (a0.size : Int) then
    Option.bind (α := Bool) (
      Option.bind (bytA a0 v3_4) fun x6 =>
      if x6 < 32 then
        some true
      else
        Option.bind (bytA a0 v3_4) fun x7 =>
        if x7 > 126 then
          some true
        else
          Option.bind (bytA a0 v3_4) fun x8 =>
          if x8 = 124 then
            some true
          else
            Option.bind (bytA a0 v3_4) fun x9 =>
            some (decide (x9 = 92))) fun v49_5 =>
    if v49_5 = true then
      some (.ret false)
    else
      some (.next (IntKind.i64.wrap (v3_4 + 1)))
  else
    some (.brk v3_4)

def ref04_Name_b0_kn (_L : LC) (a0 : ByteArray) : Int → KN := fun v3_4 => [(3, .val (Value.int .i64 v3_4)), (0, .val (Value.string a0))]

def ref04_Name_b0_ls (_L : LC) (_a0 : ByteArray) : Int → Lcs := fun _ => []

noncomputable def ref04_Name (L : LC) (a0 : ByteArray) : Option Bool :=
  Option.bind (α := Bool) (
    if (a0.size : Int) < 1 then
      some true
    else
      if (a0.size : Int) > 200 then
        some true
      else
        Option.bind (bytA a0 0) fun x2 =>
        if x2 = 64 then
          some true
        else
          Option.bind (bytA a0 0) fun x3 =>
          some (decide (x3 = 46))) fun v21_1 =>
  if v21_1 = true then
    some false
  else
    Option.bind (L.run (ref04_Name_b0 L a0) 0) fun o => match o with
    | .inl _ =>
      some true
    | .inr r => some r

theorem ref04_Name_b0_ok {ne : NE} {E : Ent} {m : Nat} {H : AH} {L : LC} {a0 : ByteArray}  : ∀ s o, ref04_Name_b0 L a0 s = some o →
    WS Tryd.prog ne m E Tryd.f14.ntmps (cfst (cfst (csnd (cfst (csnd (csnd B14)))))) (ref04_Name_b0_kn L a0 s) (ref04_Name_b0_ls L a0 s) ((fun _ => H) s) (lpS Tryd.prog ne m E Tryd.f14.ntmps (ref04_Name_b0_kn L a0) (ref04_Name_b0_ls L a0) (fun _ => H) 0 (fun r => RT Tryd.prog ne m E Tryd.f14 (ref04_Name_enc r) (ref04_Name_hp H r)) o) := by
  rintro v3_4 o h
  unfold ref04_Name_b0 at h
  try dsimp only at h
  refine WS.sq ?_
  refine WS.sq ?_
  refine WS.rg ?_
  refine RS.mS 4 [(25, .val (Value.bool (decide (v3_4 < (a0.size : Int))))), (24, .val (Value.int .i64 (a0.size : Int))), (23, .val (Value.string a0)), (22, .val (Value.int .i64 v3_4))] ?_
  refine RS.dn ?_
  refine WS.nxt ?_
  rcases ite_some h with ⟨hp, h⟩ | ⟨hp, h⟩
  · refine WS.fx 25 true (decide_eq_true hp) ?_
    refine WS.cT ?_
    refine WS.sk ?_
    refine WS.nxt ?_
    refine WS.sq ?_
    refine WS.bk 1 ?_
    obtain ⟨v49_5, hx, h⟩ := bind_some h
    refine WS.sq ?_
    refine WS.join ([(49, .val (Value.bool v49_5)), (0, .val (Value.string a0)), (3, .val (Value.int .i64 v3_4))]) ([]) H ?_ (fun a w hs => WS.nxt ?_ a w hs)
    · clear h; rename _ => h
      refine WS.rg ?_
      refine RS.mS 2 [(29, .val (Value.int .i64 v3_4)), (28, .val (Value.string a0))] ?_
      obtain ⟨x6, hx, h⟩ := bind_some h
      refine RS.o (H' := H) (some 30) (Value.int .u8 x6) (Abs.run_byt (t := 9) (x := .tmp 28) (y := .tmp 29) (s := a0) (k := .i64) (i := v3_4) (by kernel_rfl) (by kernel_rfl) (by kernel_rfl) (by kernel_rfl) hx) ?_
      refine RS.mS 2 [(32, .val (Value.bool (decide (x6 < 32)))), (31, .val (Value.bool (decide (x6 < 32))))] ?_
      rcases ite_some h with ⟨hp, h⟩ | ⟨hp, h⟩
      · refine RS.fx 32 true (decide_eq_true hp) ?_
        refine RS.mS 17 [(49, .val (Value.bool true)), (48, .val undef), (47, .val undef), (46, .val undef), (45, .val undef), (44, .val (Value.bool true)), (43, .val (Value.bool true)), (42, .val undef), (41, .val undef), (40, .val undef), (39, .val undef), (38, .val (Value.bool true)), (37, .val (Value.bool true)), (36, .val undef), (35, .val undef), (34, .val undef), (33, .val undef)] ?_
        refine RS.dn ?_
        cases h
        exact fun a w hs => (jsN (hs.sb 0))
      · refine RS.fx 32 false (decide_eq_false hp) ?_
        refine RS.mS 2 [(34, .val (Value.int .i64 v3_4)), (33, .val (Value.string a0))] ?_
        obtain ⟨x7, hx, h⟩ := bind_some h
        refine RS.o (H' := H) (some 35) (Value.int .u8 x7) (Abs.run_byt (t := 9) (x := .tmp 33) (y := .tmp 34) (s := a0) (k := .i64) (i := v3_4) (by kernel_rfl) (by kernel_rfl) (by kernel_rfl) (by kernel_rfl) hx) ?_
        refine RS.mS 3 [(38, .val (Value.bool (decide (x7 > 126)))), (37, .val (Value.bool (decide (x7 > 126)))), (36, .val (Value.bool (decide (x7 > 126))))] ?_
        rcases ite_some h with ⟨hp, h⟩ | ⟨hp, h⟩
        · refine RS.fx 38 true (decide_eq_true hp) ?_
          refine RS.mS 11 [(49, .val (Value.bool true)), (48, .val undef), (47, .val undef), (46, .val undef), (45, .val undef), (44, .val (Value.bool true)), (43, .val (Value.bool true)), (42, .val undef), (41, .val undef), (40, .val undef), (39, .val undef)] ?_
          refine RS.dn ?_
          cases h
          exact fun a w hs => (jsN (hs.sb 0))
        · refine RS.fx 38 false (decide_eq_false hp) ?_
          refine RS.mS 2 [(40, .val (Value.int .i64 v3_4)), (39, .val (Value.string a0))] ?_
          obtain ⟨x8, hx, h⟩ := bind_some h
          refine RS.o (H' := H) (some 41) (Value.int .u8 x8) (Abs.run_byt (t := 9) (x := .tmp 39) (y := .tmp 40) (s := a0) (k := .i64) (i := v3_4) (by kernel_rfl) (by kernel_rfl) (by kernel_rfl) (by kernel_rfl) hx) ?_
          refine RS.mS 3 [(44, .val (Value.bool (decide (x8 = 124)))), (43, .val (Value.bool (decide (x8 = 124)))), (42, .val (Value.bool (decide (x8 = 124))))] ?_
          rcases ite_some h with ⟨hp, h⟩ | ⟨hp, h⟩
          · refine RS.fx 44 true (decide_eq_true hp) ?_
            refine RS.mS 5 [(49, .val (Value.bool true)), (48, .val undef), (47, .val undef), (46, .val undef), (45, .val undef)] ?_
            refine RS.dn ?_
            cases h
            exact fun a w hs => (jsN (hs.sb 0))
          · refine RS.fx 44 false (decide_eq_false hp) ?_
            refine RS.mS 2 [(46, .val (Value.int .i64 v3_4)), (45, .val (Value.string a0))] ?_
            obtain ⟨x9, hx, h⟩ := bind_some h
            refine RS.o (H' := H) (some 47) (Value.int .u8 x9) (Abs.run_byt (t := 9) (x := .tmp 45) (y := .tmp 46) (s := a0) (k := .i64) (i := v3_4) (by kernel_rfl) (by kernel_rfl) (by kernel_rfl) (by kernel_rfl) hx) ?_
            refine RS.mS 2 [(49, .val (Value.bool (decide (x9 = 92)))), (48, .val (Value.bool (decide (x9 = 92))))] ?_
            refine RS.dn ?_
            cases h
            exact fun a w hs => (jsN (hs.sb 0))
    · clear hx
      rcases ite_some h with ⟨hp, h⟩ | ⟨hp, h⟩
      · refine WS.fx 49 true hp ?_
        refine WS.cT ?_
        refine WS.sq ?_
        refine WS.rg ?_
        refine RS.mS 1 [(2, .val (Value.bool false))] ?_
        refine RS.dn ?_
        refine WS.nxt ?_
        refine WS.rt ?_
        cases h
        exact fun a w hs => bkR (sqR (lsR rfl (rS hs)))
      · refine WS.fx 49 false (b_not hp) ?_
        refine WS.cF ?_
        refine WS.sk ?_
        refine fun a w hs => bkN ((WS.nxt ?_ a w hs))
        refine WS.rg ?_
        refine RS.mS 3 [(3, .val (Value.int .i64 (IntKind.i64.wrap (v3_4 + 1)))), (27, .val (Value.int .i64 (IntKind.i64.wrap (v3_4 + 1)))), (26, .val (Value.int .i64 v3_4))] ?_
        refine RS.dn ?_
        cases h
        exact fun a w hs => lsN rfl (hs.sb 0)
  · refine WS.fx 25 false (decide_eq_false hp) ?_
    refine WS.cF ?_
    refine WS.ex 0 ?_
    cases h
    exact fun a w hs => sqE (lsB rfl (hs.sb 0))

theorem ref04_Name_ok {L : LC} {ne : NE} {m : Nat} {H : AH} {a0 : ByteArray} {r : Bool} (h : ref04_Name L a0 = some r) :
    CallS Tryd.prog ne m 14 #[(Value.string a0)] H (ref04_Name_enc r) (ref04_Name_hp H r) := by
  refine CallS.mk (args := [(Value.string a0)]) Tryd.func14 (B := B14) (by kernel_rfl) (fun E _ => ?_)
  unfold ref04_Name at h
  refine WS.sq ?_
  refine WS.rg ?_
  refine RS.mS 1 [(2, .val (Value.bool false))] ?_
  refine RS.dn ?_
  refine WS.nxt ?_
  refine WS.sq ?_
  obtain ⟨v21_1, hx, h⟩ := bind_some h
  refine WS.sq ?_
  refine WS.join ([(21, .val (Value.bool v21_1)), (0, .val (Value.string a0))]) ([]) H ?_ (fun a w hs => WS.nxt ?_ a w hs)
  · clear h; rename _ => h
    refine WS.rg ?_
    refine RS.mS 4 [(7, .val (Value.bool (decide ((a0.size : Int) < 1)))), (6, .val (Value.bool (decide ((a0.size : Int) < 1)))), (5, .val (Value.int .i64 (a0.size : Int))), (4, .val (Value.string a0))] ?_
    rcases ite_some h with ⟨hp, h⟩ | ⟨hp, h⟩
    · refine RS.fx 7 true (decide_eq_true hp) ?_
      refine RS.mS 14 [(21, .val (Value.bool true)), (20, .val undef), (19, .val undef), (18, .val undef), (17, .val (Value.bool true)), (16, .val (Value.bool true)), (15, .val undef), (14, .val undef), (13, .val undef), (12, .val (Value.bool true)), (11, .val (Value.bool true)), (10, .val undef), (9, .val undef), (8, .val undef)] ?_
      refine RS.dn ?_
      cases h
      exact fun a w hs => (jsN (hs.sb 0))
    · refine RS.fx 7 false (decide_eq_false hp) ?_
      refine RS.mS 5 [(12, .val (Value.bool (decide ((a0.size : Int) > 200)))), (11, .val (Value.bool (decide ((a0.size : Int) > 200)))), (10, .val (Value.bool (decide ((a0.size : Int) > 200)))), (9, .val (Value.int .i64 (a0.size : Int))), (8, .val (Value.string a0))] ?_
      rcases ite_some h with ⟨hp, h⟩ | ⟨hp, h⟩
      · refine RS.fx 12 true (decide_eq_true hp) ?_
        refine RS.mS 9 [(21, .val (Value.bool true)), (20, .val undef), (19, .val undef), (18, .val undef), (17, .val (Value.bool true)), (16, .val (Value.bool true)), (15, .val undef), (14, .val undef), (13, .val undef)] ?_
        refine RS.dn ?_
        cases h
        exact fun a w hs => (jsN (hs.sb 0))
      · refine RS.fx 12 false (decide_eq_false hp) ?_
        refine RS.mS 1 [(13, .val (Value.string a0))] ?_
        obtain ⟨x2, hx, h⟩ := bind_some h
        refine RS.o (H' := H) (some 14) (Value.int .u8 x2) (Abs.run_byt (t := 9) (x := .tmp 13) (y := .const (Value.int .i64 0)) (s := a0) (k := .i64) (i := 0) (by kernel_rfl) (by kernel_rfl) (by kernel_rfl) (by kernel_rfl) hx) ?_
        refine RS.mS 3 [(17, .val (Value.bool (decide (x2 = 64)))), (16, .val (Value.bool (decide (x2 = 64)))), (15, .val (Value.bool (decide (x2 = 64))))] ?_
        rcases ite_some h with ⟨hp, h⟩ | ⟨hp, h⟩
        · refine RS.fx 17 true (decide_eq_true hp) ?_
          refine RS.mS 4 [(21, .val (Value.bool true)), (20, .val undef), (19, .val undef), (18, .val undef)] ?_
          refine RS.dn ?_
          cases h
          exact fun a w hs => (jsN (hs.sb 0))
        · refine RS.fx 17 false (decide_eq_false hp) ?_
          refine RS.mS 1 [(18, .val (Value.string a0))] ?_
          obtain ⟨x3, hx, h⟩ := bind_some h
          refine RS.o (H' := H) (some 19) (Value.int .u8 x3) (Abs.run_byt (t := 9) (x := .tmp 18) (y := .const (Value.int .i64 0)) (s := a0) (k := .i64) (i := 0) (by kernel_rfl) (by kernel_rfl) (by kernel_rfl) (by kernel_rfl) hx) ?_
          refine RS.mS 2 [(21, .val (Value.bool (decide (x3 = 46)))), (20, .val (Value.bool (decide (x3 = 46))))] ?_
          refine RS.dn ?_
          cases h
          exact fun a w hs => (jsN (hs.sb 0))
  · clear hx
    rcases ite_some h with ⟨hp, h⟩ | ⟨hp, h⟩
    · refine WS.fx 21 true hp ?_
      refine WS.cT ?_
      refine WS.sq ?_
      refine WS.rg ?_
      refine RS.mS 1 [(2, .val (Value.bool false))] ?_
      refine RS.dn ?_
      refine WS.nxt ?_
      refine WS.rt ?_
      cases h
      exact fun a w hs => sqR (rtR (rS hs))
    · refine WS.fx 21 false (b_not hp) ?_
      refine WS.cF ?_
      refine WS.sk ?_
      refine WS.nxt ?_
      refine WS.sq ?_
      refine WS.sq ?_
      refine WS.rg ?_
      refine RS.mS 1 [(3, .val (Value.int .i64 0))] ?_
      refine RS.dn ?_
      refine WS.nxt ?_
      refine WS.bk 0 ?_
      obtain ⟨o, hl, h⟩ := bind_some h
      rcases o with v3_10 | r
      · try dsimp only at h
        refine WS.lI (ref04_Name_b0_ok (ne := ne) (L := L) (E := E) (m := m) (H := H)) (L.ok hl) 0 ?_
        clear hl
        refine fun a w hs => bkE ((WS.nxt ?_ a w hs))
        refine WS.sq ?_
        refine WS.rg ?_
        refine RS.mS 1 [(2, .val (Value.bool true))] ?_
        refine RS.dn ?_
        refine WS.nxt ?_
        refine WS.rt ?_
        cases h
        exact fun a w hs => rtR (rS hs)
      · try dsimp only at h
        refine WS.lR (ref04_Name_b0_ok (ne := ne) (L := L) (E := E) (m := m) (H := H)) (L.ok hl) 0 ?_
        cases h
        exact fun a w hq => bkR (sqR (rtR hq))

def sort_letter_enc : Bool → Value
  | r0 => (Value.bool r0)

def sort_letter_hp (H : AH) : Bool → AH := fun _ => H

noncomputable def B62 : Code := (Tryd.f62.body).getD .skip

noncomputable def sort_letter (_L : LC) (a0 : Int) : Option Bool :=
  if (ior .u8 a0 32) ≥ 97 then
    some (decide ((ior .u8 a0 32) ≤ 122))
  else
    some false

theorem sort_letter_ok {L : LC} {ne : NE} {m : Nat} {H : AH} {a0 : Int} {r : Bool} (h : sort_letter L a0 = some r) :
    CallS Tryd.prog ne m 62 #[(Value.int .u8 a0)] H (sort_letter_enc r) (sort_letter_hp H r) := by
  refine CallS.mk (args := [(Value.int .u8 a0)]) Tryd.func62 (B := B62) (by kernel_rfl) (fun E _ => ?_)
  unfold sort_letter at h
  refine WS.sq ?_
  refine WS.rg ?_
  refine RS.mS 1 [(2, .val (Value.bool false))] ?_
  refine RS.dn ?_
  refine WS.nxt ?_
  refine WS.sq ?_
  refine WS.rg ?_
  refine RS.mS 4 [(6, .val (Value.bool (decide ((ior .u8 a0 32) ≥ 97)))), (5, .val (Value.bool (decide ((ior .u8 a0 32) ≥ 97)))), (4, .val (Value.int .u8 (ior .u8 a0 32))), (3, .val (Value.int .u8 a0))] ?_
  rcases ite_some h with ⟨hp, h⟩ | ⟨hp, h⟩
  · refine RS.fx 6 true (decide_eq_true hp) ?_
    refine RS.mS 5 [(2, .val (Value.bool (decide ((ior .u8 a0 32) ≤ 122)))), (10, .val (Value.bool (decide ((ior .u8 a0 32) ≤ 122)))), (9, .val (Value.bool (decide ((ior .u8 a0 32) ≤ 122)))), (8, .val (Value.int .u8 (ior .u8 a0 32))), (7, .val (Value.int .u8 a0))] ?_
    refine RS.dn ?_
    refine WS.nxt ?_
    refine WS.rt ?_
    cases h
    exact fun a w hs => rtR (rS hs)
  · refine RS.fx 6 false (decide_eq_false hp) ?_
    refine RS.mS 5 [(2, .val (Value.bool false)), (10, .val (Value.bool false)), (9, .val undef), (8, .val undef), (7, .val undef)] ?_
    refine RS.dn ?_
    refine WS.nxt ?_
    refine WS.rt ?_
    cases h
    exact fun a w hs => rtR (rS hs)

def stringslite_IndexByte_enc : Int → Value
  | r0 => (Value.int .i64 r0)

def stringslite_IndexByte_hp (H : AH) : Int → AH := fun _ => H

noncomputable def B93 : Code := (Tryd.f93.body).getD .skip

noncomputable def stringslite_IndexByte (_L : LC) (a0 : ByteArray) (a1 : Int) : Option Int :=
  Option.bind (ixByte a0 a1) fun x1 =>
  some x1

theorem stringslite_IndexByte_ok {L : LC} {ne : NE} {m : Nat} {H : AH} {a0 : ByteArray} {a1 : Int} {r : Int} (h : stringslite_IndexByte L a0 a1 = some r) :
    CallS Tryd.prog ne m 93 #[(Value.string a0), (Value.int .u8 a1)] H (stringslite_IndexByte_enc r) (stringslite_IndexByte_hp H r) := by
  refine CallS.mk (args := [(Value.string a0), (Value.int .u8 a1)]) Tryd.func93 (B := B93) (by kernel_rfl) (fun E _ => ?_)
  unfold stringslite_IndexByte at h
  refine WS.sq ?_
  refine WS.rg ?_
  refine RS.mS 1 [(4, .val (Value.int .i64 0))] ?_
  refine RS.dn ?_
  refine WS.nxt ?_
  refine WS.sq ?_
  refine WS.rg ?_
  refine RS.mS 2 [(6, .val (Value.int .u8 a1)), (5, .val (Value.string a0))] ?_
  obtain ⟨x1, hx, h⟩ := bind_some h
  refine RS.extD (some 7) (v := (Value.int .i64 x1)) 100 #[(Value.string a0), (Value.int .u8 a1)] (by kernel_rfl) (by kernel_rfl) (by kernel_rfl) (by kernel_rfl) (by kernel_rfl) ((by kernel_rfl : peval Tryd.prog (callFunc 100 #[(Value.string a0), (Value.int .u8 a1)]) = peval Tryd.prog (do let v ← Extern.BytealgIndexByte.indexByte #[(Value.string a0), (Value.int .u8 a1)]; pure (Next.value v))).trans (Abs.ixByte_run hx)) (by kernel_rfl) ?_
  refine RS.mS 1 [(4, .val (Value.int .i64 x1))] ?_
  refine RS.dn ?_
  refine WS.nxt ?_
  refine WS.rt ?_
  cases h
  exact fun a w hs => rtR (rS hs)

def strings_IndexByte_enc : Int → Value
  | r0 => (Value.int .i64 r0)

def strings_IndexByte_hp (H : AH) : Int → AH := fun _ => H

noncomputable def B63 : Code := (Tryd.f63.body).getD .skip

noncomputable def strings_IndexByte (L : LC) (a0 : ByteArray) (a1 : Int) : Option Int :=
  Option.bind (stringslite_IndexByte L a0 a1) fun x1 =>
  some x1

theorem strings_IndexByte_ok {L : LC} {ne : NE} {m : Nat} {H : AH} {a0 : ByteArray} {a1 : Int} {r : Int} (h : strings_IndexByte L a0 a1 = some r) :
    CallS Tryd.prog ne m 63 #[(Value.string a0), (Value.int .u8 a1)] H (strings_IndexByte_enc r) (strings_IndexByte_hp H r) := by
  refine CallS.mk (args := [(Value.string a0), (Value.int .u8 a1)]) Tryd.func63 (B := B63) (by kernel_rfl) (fun E _ => ?_)
  unfold strings_IndexByte at h
  refine WS.sq ?_
  refine WS.rg ?_
  refine RS.mS 1 [(4, .val (Value.int .i64 0))] ?_
  refine RS.dn ?_
  refine WS.nxt ?_
  refine WS.sq ?_
  refine WS.rg ?_
  refine RS.mS 2 [(6, .val (Value.int .u8 a1)), (5, .val (Value.string a0))] ?_
  obtain ⟨x1, hx, h⟩ := bind_some h
  refine RS.cl (some 7) (v := (Value.int .i64 x1)) 93 #[(Value.string a0), (Value.int .u8 a1)] (stringslite_IndexByte_ok hx) ?_
  refine RS.mS 1 [(4, .val (Value.int .i64 x1))] ?_
  refine RS.dn ?_
  refine WS.nxt ?_
  refine WS.rt ?_
  cases h
  exact fun a w hs => rtR (rS hs)

def slices_Index_101_enc : Int → Value
  | r0 => (Value.int .i64 r0)

def slices_Index_101_hp (H : AH) : Int → AH := fun _ => H

noncomputable def B101 : Code := (Tryd.f101.body).getD .skip

noncomputable def slices_Index_101_b0 (_L : LC) (H : AH) (a0 : Sl3) (a1 : ByteArray) : Int → Option (Lp Int Int) := fun v8_1 =>
  if v8_1 < (a0.n : Int) then
    Option.bind (idxA 1 a0 v8_1) fun p2 =>
    Option.bind (rd deS H p2) fun x3 =>
    if (a1.toList == x3.toList) = true then
      some (.ret v8_1)
    else
      some (.next (IntKind.i64.wrap (v8_1 + 1)))
  else
    some (.brk v8_1)

def slices_Index_101_b0_kn (_L : LC) (_H : AH) (a0 : Sl3) (a1 : ByteArray) : Int → KN := fun v8_1 => [(8, .val (Value.int .i64 v8_1)), (0, .val (Sl3.v a0)), (1, .val (Value.string a1)), (7, .val (Value.int .i64 (a0.n : Int)))]

def slices_Index_101_b0_ls (_L : LC) (_H : AH) (_a0 : Sl3) (_a1 : ByteArray) : Int → Lcs := fun _ => []

noncomputable def slices_Index_101 (L : LC) (H : AH) (a0 : Sl3) (a1 : ByteArray) : Option Int :=
  Option.bind (L.run (slices_Index_101_b0 L H a0 a1) 0) fun o => match o with
  | .inl _ =>
    some (-1)
  | .inr r => some r

theorem slices_Index_101_b0_ok {ne : NE} {E : Ent} {m : Nat} {L : LC} {H : AH} {a0 : Sl3} {a1 : ByteArray}  : ∀ s o, slices_Index_101_b0 L H a0 a1 s = some o →
    WS Tryd.prog ne m E Tryd.f101.ntmps (cfst (cfst (csnd (cfst (csnd B101))))) (slices_Index_101_b0_kn L H a0 a1 s) (slices_Index_101_b0_ls L H a0 a1 s) ((fun _ => H) s) (lpS Tryd.prog ne m E Tryd.f101.ntmps (slices_Index_101_b0_kn L H a0 a1) (slices_Index_101_b0_ls L H a0 a1) (fun _ => H) 0 (fun r => RT Tryd.prog ne m E Tryd.f101 (slices_Index_101_enc r) (slices_Index_101_hp H r)) o) := by
  rintro v8_1 o h
  unfold slices_Index_101_b0 at h
  try dsimp only at h
  refine WS.sq ?_
  refine WS.rg ?_
  refine RS.mS 1 [(9, .val (Value.bool (decide (v8_1 < (a0.n : Int)))))] ?_
  refine RS.dn ?_
  refine WS.nxt ?_
  refine WS.sq ?_
  rcases ite_some h with ⟨hp, h⟩ | ⟨hp, h⟩
  · refine WS.fx 9 true (decide_eq_true hp) ?_
    refine WS.cT ?_
    refine WS.sk ?_
    refine WS.nxt ?_
    refine WS.sq ?_
    refine WS.bk 1 ?_
    refine WS.sq ?_
    refine WS.rg ?_
    refine RS.mS 2 [(5, .val (Value.int .i64 v8_1)), (10, .val (Value.int .i64 v8_1))] ?_
    refine RS.dn ?_
    refine WS.nxt ?_
    refine WS.sq ?_
    refine WS.rg ?_
    refine RS.mS 3 [(13, .val (Value.int .i64 v8_1)), (12, .val (Sl3.v a0)), (11, .val (Value.string a1))] ?_
    obtain ⟨p2, hx, h⟩ := bind_some h
    refine RS.o (H' := H) (some 14) (Value.pointer (some p2)) (Abs.run_idx (s := a0) (k := .i64) (t := 29) (e := 9) (x := .tmp 12) (y := .tmp 13) (by kernel_rfl) (by kernel_rfl) (by kernel_rfl) (by kernel_rfl) (by kernel_rfl) hx) ?_
    obtain ⟨x3, hx, h⟩ := bind_some h
    refine RS.o (H' := H) (some 15) (Value.string x3) (Abs.run_load (t := 9) (x := .tmp 14) (a := p2) (by kernel_rfl) (by kernel_rfl) (by kernel_rfl) (rd_cell hx deS_inv)) ?_
    refine RS.mS 1 [(16, .val (Value.bool (a1.toList == x3.toList)))] ?_
    refine RS.dn ?_
    refine WS.nxt ?_
    rcases ite_some h with ⟨hp, h⟩ | ⟨hp, h⟩
    · refine WS.fx 16 true hp ?_
      refine WS.cT ?_
      refine WS.sq ?_
      refine WS.rg ?_
      refine RS.mS 2 [(4, .val (Value.int .i64 v8_1)), (17, .val (Value.int .i64 v8_1))] ?_
      refine RS.dn ?_
      refine WS.nxt ?_
      refine WS.rt ?_
      cases h
      exact fun a w hs => bkR (sqR (lsR rfl (rS hs)))
    · refine WS.fx 16 false (b_not hp) ?_
      refine WS.cF ?_
      refine WS.sk ?_
      refine fun a w hs => bkN ((WS.nxt ?_ a w hs))
      refine WS.rg ?_
      refine RS.mS 2 [(8, .val (Value.int .i64 (IntKind.i64.wrap (v8_1 + 1)))), (18, .val (Value.int .i64 (IntKind.i64.wrap (v8_1 + 1))))] ?_
      refine RS.dn ?_
      cases h
      exact fun a w hs => lsN rfl (hs.sb 0)
  · refine WS.fx 9 false (decide_eq_false hp) ?_
    refine WS.cF ?_
    refine WS.ex 0 ?_
    cases h
    exact fun a w hs => sqE (lsB rfl (hs.sb 0))

theorem slices_Index_101_ok {L : LC} {ne : NE} {m : Nat} {H : AH} {a0 : Sl3} {a1 : ByteArray} {r : Int} (h : slices_Index_101 L H a0 a1 = some r) :
    CallS Tryd.prog ne m 101 #[(Sl3.v a0), (Value.string a1)] H (slices_Index_101_enc r) (slices_Index_101_hp H r) := by
  refine CallS.mk (args := [(Sl3.v a0), (Value.string a1)]) Tryd.func101 (B := B101) (by kernel_rfl) (fun E _ => ?_)
  unfold slices_Index_101 at h
  refine WS.sq ?_
  refine WS.rg ?_
  refine RS.mS 1 [(4, .val (Value.int .i64 0))] ?_
  refine RS.dn ?_
  refine WS.nxt ?_
  refine WS.sq ?_
  refine WS.sq ?_
  refine WS.rg ?_
  refine RS.mS 3 [(8, .val (Value.int .i64 0)), (7, .val (Value.int .i64 (a0.n : Int))), (6, .val (Sl3.v a0))] ?_
  refine RS.dn ?_
  refine WS.nxt ?_
  refine WS.bk 0 ?_
  obtain ⟨o, hl, h⟩ := bind_some h
  rcases o with v8_4 | r
  · try dsimp only at h
    refine WS.lI (slices_Index_101_b0_ok (ne := ne) (L := L) (E := E) (m := m) (H := H)) (L.ok hl) 0 ?_
    clear hl
    refine fun a w hs => bkE ((WS.nxt ?_ a w hs))
    refine WS.sq ?_
    refine WS.rg ?_
    refine RS.mS 1 [(4, .val (Value.int .i64 (-1)))] ?_
    refine RS.dn ?_
    refine WS.nxt ?_
    refine WS.rt ?_
    cases h
    exact fun a w hs => rtR (rS hs)
  · try dsimp only at h
    refine WS.lR (slices_Index_101_b0_ok (ne := ne) (L := L) (E := E) (m := m) (H := H)) (L.ok hl) 0 ?_
    cases h
    exact fun a w hq => bkR (sqR (rtR hq))

def slices_Contains_94_enc : Bool → Value
  | r0 => (Value.bool r0)

def slices_Contains_94_hp (H : AH) : Bool → AH := fun _ => H

noncomputable def B94 : Code := (Tryd.f94.body).getD .skip

noncomputable def slices_Contains_94 (L : LC) (H : AH) (a0 : Sl3) (a1 : ByteArray) : Option Bool :=
  Option.bind (slices_Index_101 L H a0 a1) fun x1 =>
  some (decide (x1 ≥ 0))

theorem slices_Contains_94_ok {L : LC} {ne : NE} {m : Nat} {H : AH} {a0 : Sl3} {a1 : ByteArray} {r : Bool} (h : slices_Contains_94 L H a0 a1 = some r) :
    CallS Tryd.prog ne m 94 #[(Sl3.v a0), (Value.string a1)] H (slices_Contains_94_enc r) (slices_Contains_94_hp H r) := by
  refine CallS.mk (args := [(Sl3.v a0), (Value.string a1)]) Tryd.func94 (B := B94) (by kernel_rfl) (fun E _ => ?_)
  unfold slices_Contains_94 at h
  refine WS.sq ?_
  refine WS.rg ?_
  refine RS.mS 1 [(4, .val (Value.bool false))] ?_
  refine RS.dn ?_
  refine WS.nxt ?_
  refine WS.sq ?_
  refine WS.rg ?_
  refine RS.mS 2 [(6, .val (Value.string a1)), (5, .val (Sl3.v a0))] ?_
  obtain ⟨x1, hx, h⟩ := bind_some h
  refine RS.cl (some 7) (v := (Value.int .i64 x1)) 101 #[(Sl3.v a0), (Value.string a1)] (slices_Index_101_ok hx) ?_
  refine RS.mS 2 [(4, .val (Value.bool (decide (x1 ≥ 0)))), (8, .val (Value.bool (decide (x1 ≥ 0))))] ?_
  refine RS.dn ?_
  refine WS.nxt ?_
  refine WS.rt ?_
  cases h
  exact fun a w hs => rtR (rS hs)

def sort_reserved_enc : (Bool × AH) → Value
  | (r0, _) => (Value.bool r0)

def sort_reserved_hp (_ : AH) : (Bool × AH) → AH := fun r => r.2

noncomputable def B64 : Code := (Tryd.f64.body).getD .skip

noncomputable def sort_reserved (L : LC) (m : Nat) (H : AH) (a0 : ByteArray) : Option (Bool × AH) :=
  Option.bind (strings_Fields L m H (⟨#[33, 32, 95, 32, 97, 115, 32, 66, 73, 78, 65, 82, 89, 32, 68, 69, 67, 73, 77, 65, 76, 32, 101, 120, 105, 115, 116, 115, 32, 102, 111, 114, 97, 108, 108, 32, 72, 69, 88, 65, 68, 69, 67, 73, 77, 65, 76, 32, 108, 101, 116, 32, 109, 97, 116, 99, 104, 32, 78, 85, 77, 69, 82, 65, 76, 32, 112, 97, 114, 32, 83, 84, 82, 73, 78, 71, 32, 97, 115, 115, 101, 114, 116, 32, 99, 104, 101, 99, 107, 45, 115, 97, 116, 32, 99, 104, 101, 99, 107, 45, 115, 97, 116, 45, 97, 115, 115, 117, 109, 105, 110, 103, 32, 100, 101, 99, 108, 97, 114, 101, 45, 99, 111, 110, 115, 116, 32, 100, 101, 99, 108, 97, 114, 101, 45, 100, 97, 116, 97, 116, 121, 112, 101, 32, 100, 101, 99, 108, 97, 114, 101, 45, 100, 97, 116, 97, 116, 121, 112, 101, 115, 32, 100, 101, 99, 108, 97, 114, 101, 45, 102, 117, 110, 32, 100, 101, 99, 108, 97, 114, 101, 45, 115, 111, 114, 116, 32, 100, 101, 102, 105, 110, 101, 45, 102, 117, 110, 32, 100, 101, 102, 105, 110, 101, 45, 115, 111, 114, 116, 32, 101, 99, 104, 111, 32, 101, 120, 105, 116, 32, 103, 101, 116, 45, 97, 115, 115, 101, 114, 116, 105, 111, 110, 115, 32, 103, 101, 116, 45, 105, 110, 102, 111, 32, 103, 101, 116, 45, 109, 111, 100, 101, 108, 32, 103, 101, 116, 45, 118, 97, 108, 117, 101, 32, 112, 111, 112, 32, 112, 117, 115, 104, 32, 114, 101, 115, 101, 116, 32, 114, 101, 115, 101, 116, 45, 97, 115, 115, 101, 114, 116, 105, 111, 110, 115, 32, 115, 101, 116, 45, 105, 110, 102, 111, 32, 115, 101, 116, 45, 108, 111, 103, 105, 99, 32, 115, 101, 116, 45, 111, 112, 116, 105, 111, 110]⟩ : ByteArray)) fun (x1, H2) =>
  Option.bind (slices_Contains_94 L H2 x1 a0) fun x3 =>
  some (x3, H2)

theorem sort_reserved_ok {L : LC} {ne : NE} {m : Nat} {H : AH} {a0 : ByteArray} {r : (Bool × AH)} (h : sort_reserved L m H a0 = some r) :
    CallS Tryd.prog ne m 64 #[(Value.string a0)] H (sort_reserved_enc r) (sort_reserved_hp H r) := by
  refine CallS.mk (args := [(Value.string a0)]) Tryd.func64 (B := B64) (by kernel_rfl) (fun E _ => ?_)
  unfold sort_reserved at h
  refine WS.sq ?_
  refine WS.rg ?_
  refine RS.mS 1 [(2, .val (Value.bool false))] ?_
  refine RS.dn ?_
  refine WS.nxt ?_
  refine WS.sq ?_
  refine WS.rg ?_
  refine RS.mS 1 [(3, .val (Value.string (⟨#[33, 32, 95, 32, 97, 115, 32, 66, 73, 78, 65, 82, 89, 32, 68, 69, 67, 73, 77, 65, 76, 32, 101, 120, 105, 115, 116, 115, 32, 102, 111, 114, 97, 108, 108, 32, 72, 69, 88, 65, 68, 69, 67, 73, 77, 65, 76, 32, 108, 101, 116, 32, 109, 97, 116, 99, 104, 32, 78, 85, 77, 69, 82, 65, 76, 32, 112, 97, 114, 32, 83, 84, 82, 73, 78, 71, 32, 97, 115, 115, 101, 114, 116, 32, 99, 104, 101, 99, 107, 45, 115, 97, 116, 32, 99, 104, 101, 99, 107, 45, 115, 97, 116, 45, 97, 115, 115, 117, 109, 105, 110, 103, 32, 100, 101, 99, 108, 97, 114, 101, 45, 99, 111, 110, 115, 116, 32, 100, 101, 99, 108, 97, 114, 101, 45, 100, 97, 116, 97, 116, 121, 112, 101, 32, 100, 101, 99, 108, 97, 114, 101, 45, 100, 97, 116, 97, 116, 121, 112, 101, 115, 32, 100, 101, 99, 108, 97, 114, 101, 45, 102, 117, 110, 32, 100, 101, 99, 108, 97, 114, 101, 45, 115, 111, 114, 116, 32, 100, 101, 102, 105, 110, 101, 45, 102, 117, 110, 32, 100, 101, 102, 105, 110, 101, 45, 115, 111, 114, 116, 32, 101, 99, 104, 111, 32, 101, 120, 105, 116, 32, 103, 101, 116, 45, 97, 115, 115, 101, 114, 116, 105, 111, 110, 115, 32, 103, 101, 116, 45, 105, 110, 102, 111, 32, 103, 101, 116, 45, 109, 111, 100, 101, 108, 32, 103, 101, 116, 45, 118, 97, 108, 117, 101, 32, 112, 111, 112, 32, 112, 117, 115, 104, 32, 114, 101, 115, 101, 116, 32, 114, 101, 115, 101, 116, 45, 97, 115, 115, 101, 114, 116, 105, 111, 110, 115, 32, 115, 101, 116, 45, 105, 110, 102, 111, 32, 115, 101, 116, 45, 108, 111, 103, 105, 99, 32, 115, 101, 116, 45, 111, 112, 116, 105, 111, 110]⟩ : ByteArray)))] ?_
  refine RS.dn ?_
  refine WS.nxt ?_
  refine WS.sq ?_
  refine WS.rg ?_
  refine RS.mS 1 [(4, .val (Value.string (⟨#[33, 32, 95, 32, 97, 115, 32, 66, 73, 78, 65, 82, 89, 32, 68, 69, 67, 73, 77, 65, 76, 32, 101, 120, 105, 115, 116, 115, 32, 102, 111, 114, 97, 108, 108, 32, 72, 69, 88, 65, 68, 69, 67, 73, 77, 65, 76, 32, 108, 101, 116, 32, 109, 97, 116, 99, 104, 32, 78, 85, 77, 69, 82, 65, 76, 32, 112, 97, 114, 32, 83, 84, 82, 73, 78, 71, 32, 97, 115, 115, 101, 114, 116, 32, 99, 104, 101, 99, 107, 45, 115, 97, 116, 32, 99, 104, 101, 99, 107, 45, 115, 97, 116, 45, 97, 115, 115, 117, 109, 105, 110, 103, 32, 100, 101, 99, 108, 97, 114, 101, 45, 99, 111, 110, 115, 116, 32, 100, 101, 99, 108, 97, 114, 101, 45, 100, 97, 116, 97, 116, 121, 112, 101, 32, 100, 101, 99, 108, 97, 114, 101, 45, 100, 97, 116, 97, 116, 121, 112, 101, 115, 32, 100, 101, 99, 108, 97, 114, 101, 45, 102, 117, 110, 32, 100, 101, 99, 108, 97, 114, 101, 45, 115, 111, 114, 116, 32, 100, 101, 102, 105, 110, 101, 45, 102, 117, 110, 32, 100, 101, 102, 105, 110, 101, 45, 115, 111, 114, 116, 32, 101, 99, 104, 111, 32, 101, 120, 105, 116, 32, 103, 101, 116, 45, 97, 115, 115, 101, 114, 116, 105, 111, 110, 115, 32, 103, 101, 116, 45, 105, 110, 102, 111, 32, 103, 101, 116, 45, 109, 111, 100, 101, 108, 32, 103, 101, 116, 45, 118, 97, 108, 117, 101, 32, 112, 111, 112, 32, 112, 117, 115, 104, 32, 114, 101, 115, 101, 116, 32, 114, 101, 115, 101, 116, 45, 97, 115, 115, 101, 114, 116, 105, 111, 110, 115, 32, 115, 101, 116, 45, 105, 110, 102, 111, 32, 115, 101, 116, 45, 108, 111, 103, 105, 99, 32, 115, 101, 116, 45, 111, 112, 116, 105, 111, 110]⟩ : ByteArray)))] ?_
  obtain ⟨⟨x1, H2⟩, hx, h⟩ := bind_some h
  try dsimp only at h
  refine RS.cl (some 5) (v := (Sl3.v x1)) 95 #[(Value.string (⟨#[33, 32, 95, 32, 97, 115, 32, 66, 73, 78, 65, 82, 89, 32, 68, 69, 67, 73, 77, 65, 76, 32, 101, 120, 105, 115, 116, 115, 32, 102, 111, 114, 97, 108, 108, 32, 72, 69, 88, 65, 68, 69, 67, 73, 77, 65, 76, 32, 108, 101, 116, 32, 109, 97, 116, 99, 104, 32, 78, 85, 77, 69, 82, 65, 76, 32, 112, 97, 114, 32, 83, 84, 82, 73, 78, 71, 32, 97, 115, 115, 101, 114, 116, 32, 99, 104, 101, 99, 107, 45, 115, 97, 116, 32, 99, 104, 101, 99, 107, 45, 115, 97, 116, 45, 97, 115, 115, 117, 109, 105, 110, 103, 32, 100, 101, 99, 108, 97, 114, 101, 45, 99, 111, 110, 115, 116, 32, 100, 101, 99, 108, 97, 114, 101, 45, 100, 97, 116, 97, 116, 121, 112, 101, 32, 100, 101, 99, 108, 97, 114, 101, 45, 100, 97, 116, 97, 116, 121, 112, 101, 115, 32, 100, 101, 99, 108, 97, 114, 101, 45, 102, 117, 110, 32, 100, 101, 99, 108, 97, 114, 101, 45, 115, 111, 114, 116, 32, 100, 101, 102, 105, 110, 101, 45, 102, 117, 110, 32, 100, 101, 102, 105, 110, 101, 45, 115, 111, 114, 116, 32, 101, 99, 104, 111, 32, 101, 120, 105, 116, 32, 103, 101, 116, 45, 97, 115, 115, 101, 114, 116, 105, 111, 110, 115, 32, 103, 101, 116, 45, 105, 110, 102, 111, 32, 103, 101, 116, 45, 109, 111, 100, 101, 108, 32, 103, 101, 116, 45, 118, 97, 108, 117, 101, 32, 112, 111, 112, 32, 112, 117, 115, 104, 32, 114, 101, 115, 101, 116, 32, 114, 101, 115, 101, 116, 45, 97, 115, 115, 101, 114, 116, 105, 111, 110, 115, 32, 115, 101, 116, 45, 105, 110, 102, 111, 32, 115, 101, 116, 45, 108, 111, 103, 105, 99, 32, 115, 101, 116, 45, 111, 112, 116, 105, 111, 110]⟩ : ByteArray))] (strings_Fields_ok hx) ?_
  refine RS.mS 1 [(6, .val (Value.string a0))] ?_
  obtain ⟨x3, hx, h⟩ := bind_some h
  refine RS.cl (some 7) (v := (Value.bool x3)) 94 #[(Sl3.v x1), (Value.string a0)] (slices_Contains_94_ok hx) ?_
  refine RS.mS 1 [(2, .val (Value.bool x3))] ?_
  refine RS.dn ?_
  refine WS.nxt ?_
  refine WS.rt ?_
  cases h
  exact fun a w hs => rtR (rS hs)

def sort_simple_enc : (Bool × AH) → Value
  | (r0, _) => (Value.bool r0)

def sort_simple_hp (_ : AH) : (Bool × AH) → AH := fun r => r.2

noncomputable def B33 : Code := (Tryd.f33.body).getD .skip

noncomputable def sort_simple_b0 (L : LC) (H : AH) (a0 : ByteArray) : Int → Option (Lp Int (Bool × AH)) := fun v20_5 =>
  if v20_5 < (a0.size : Int) then
    Option.bind (bytA a0 v20_5) fun x6 =>
    Option.bind (α := Bool) (
      Option.bind (sort_letter L x6) fun x8 =>
      if x8 = true then
        some false
      else
        if x6 < 48 then
          Option.bind (strings_IndexByte L (⟨#[126, 33, 64, 36, 37, 94, 38, 42, 95, 45, 43, 61, 60, 62, 46, 63, 47]⟩ : ByteArray) x6) fun x9 =>
          some (decide (x9 < 0))
        else
          if x6 > 57 then
            Option.bind (strings_IndexByte L (⟨#[126, 33, 64, 36, 37, 94, 38, 42, 95, 45, 43, 61, 60, 62, 46, 63, 47]⟩ : ByteArray) x6) fun x10 =>
            some (decide (x10 < 0))
          else
            some false) fun v41_7 =>
    if v41_7 = true then
      some (.ret (false, H))
    else
      some (.next (IntKind.i64.wrap (v20_5 + 1)))
  else
    some (.brk v20_5)

def sort_simple_b0_kn (_L : LC) (_H : AH) (a0 : ByteArray) : Int → KN := fun v20_5 => [(20, .val (Value.int .i64 v20_5)), (0, .val (Value.string a0)), (19, .val (Value.int .i64 (a0.size : Int)))]

def sort_simple_b0_ls (_L : LC) (_H : AH) (_a0 : ByteArray) : Int → Lcs := fun _ => []

noncomputable def sort_simple (L : LC) (m : Nat) (H : AH) (a0 : ByteArray) : Option (Bool × AH) :=
  Option.bind (α := Bool) (
    Option.bind (sort_Name L a0) fun x2 =>
    if x2 = true then
      Option.bind (bytA a0 0) fun x3 =>
      if x3 ≥ 48 then
        Option.bind (bytA a0 0) fun x4 =>
        some (decide (x4 ≤ 57))
      else
        some false
    else
      some true) fun v17_1 =>
  if v17_1 = true then
    some (false, H)
  else
    Option.bind (L.run (sort_simple_b0 L H a0) 0) fun o => match o with
    | .inl _ =>
      Option.bind (sort_reserved L m H a0) fun (x12, H13) =>
      some ((!x12), H13)
    | .inr r => some r

theorem sort_simple_b0_ok {ne : NE} {E : Ent} {m : Nat} {L : LC} {H : AH} {a0 : ByteArray}  : ∀ s o, sort_simple_b0 L H a0 s = some o →
    WS Tryd.prog ne m E Tryd.f33.ntmps (cfst (cfst (csnd (cfst (csnd (csnd B33)))))) (sort_simple_b0_kn L H a0 s) (sort_simple_b0_ls L H a0 s) ((fun _ => H) s) (lpS Tryd.prog ne m E Tryd.f33.ntmps (sort_simple_b0_kn L H a0) (sort_simple_b0_ls L H a0) (fun _ => H) 0 (fun r => RT Tryd.prog ne m E Tryd.f33 (sort_simple_enc r) (sort_simple_hp H r)) o) := by
  rintro v20_5 o h
  unfold sort_simple_b0 at h
  try dsimp only at h
  refine WS.sq ?_
  refine WS.rg ?_
  refine RS.mS 1 [(21, .val (Value.bool (decide (v20_5 < (a0.size : Int)))))] ?_
  refine RS.dn ?_
  refine WS.nxt ?_
  refine WS.sq ?_
  rcases ite_some h with ⟨hp, h⟩ | ⟨hp, h⟩
  · refine WS.fx 21 true (decide_eq_true hp) ?_
    refine WS.cT ?_
    refine WS.sk ?_
    refine WS.nxt ?_
    refine WS.sq ?_
    refine WS.bk 1 ?_
    refine WS.sq ?_
    refine WS.rg ?_
    refine RS.mS 2 [(3, .val (Value.int .i64 v20_5)), (22, .val (Value.int .i64 v20_5))] ?_
    refine RS.dn ?_
    refine WS.nxt ?_
    refine WS.sq ?_
    refine WS.rg ?_
    refine RS.mS 2 [(24, .val (Value.int .i64 v20_5)), (23, .val (Value.string a0))] ?_
    obtain ⟨x6, hx, h⟩ := bind_some h
    refine RS.o (H' := H) (some 25) (Value.int .u8 x6) (Abs.run_byt (t := 9) (x := .tmp 23) (y := .tmp 24) (s := a0) (k := .i64) (i := v20_5) (by kernel_rfl) (by kernel_rfl) (by kernel_rfl) (by kernel_rfl) hx) ?_
    refine RS.mS 1 [(4, .val (Value.int .u8 x6))] ?_
    refine RS.dn ?_
    refine WS.nxt ?_
    obtain ⟨v41_7, hx, h⟩ := bind_some h
    refine WS.sq ?_
    refine WS.join ([(41, .val (Value.bool v41_7)), (0, .val (Value.string a0)), (19, .val (Value.int .i64 (a0.size : Int))), (20, .val (Value.int .i64 v20_5))]) ([]) H ?_ (fun a w hs => WS.nxt ?_ a w hs)
    · clear h; rename _ => h
      refine WS.rg ?_
      refine RS.mS 1 [(26, .val (Value.int .u8 x6))] ?_
      obtain ⟨x8, hx, h⟩ := bind_some h
      refine RS.cl (some 27) (v := (Value.bool x8)) 62 #[(Value.int .u8 x6)] (sort_letter_ok hx) ?_
      refine RS.mS 2 [(29, .val (Value.bool (!x8))), (28, .val (Value.bool (!x8)))] ?_
      rcases ite_some h with ⟨hp, h⟩ | ⟨hp, h⟩
      · refine RS.fx 29 false (nb_not hp) ?_
        refine RS.mS 12 [(41, .val (Value.bool false)), (40, .val undef), (39, .val undef), (38, .val undef), (37, .val (Value.bool false)), (36, .val (Value.bool false)), (35, .val undef), (34, .val undef), (33, .val undef), (32, .val undef), (31, .val undef), (30, .val undef)] ?_
        refine RS.dn ?_
        cases h
        exact fun a w hs => (jsN (hs.sb 0))
      · refine RS.fx 29 true (nb_not' hp) ?_
        refine RS.mS 3 [(32, .val (Value.bool (decide (x6 < 48)))), (31, .val (Value.bool (decide (x6 < 48)))), (30, .val (Value.int .u8 x6))] ?_
        rcases ite_some h with ⟨hp, h⟩ | ⟨hp, h⟩
        · refine RS.fx 32 true (decide_eq_true hp) ?_
          refine RS.mS 6 [(38, .val (Value.int .u8 x6)), (37, .val (Value.bool true)), (36, .val (Value.bool true)), (35, .val (Value.bool true)), (34, .val undef), (33, .val undef)] ?_
          obtain ⟨x9, hx, h⟩ := bind_some h
          refine RS.cl (some 39) (v := (Value.int .i64 x9)) 63 #[(Value.string (⟨#[126, 33, 64, 36, 37, 94, 38, 42, 95, 45, 43, 61, 60, 62, 46, 63, 47]⟩ : ByteArray)), (Value.int .u8 x6)] (strings_IndexByte_ok hx) ?_
          refine RS.mS 2 [(41, .val (Value.bool (decide (x9 < 0)))), (40, .val (Value.bool (decide (x9 < 0))))] ?_
          refine RS.dn ?_
          cases h
          exact fun a w hs => (jsN (hs.sb 0))
        · refine RS.fx 32 false (decide_eq_false hp) ?_
          refine RS.mS 5 [(37, .val (Value.bool (decide (x6 > 57)))), (36, .val (Value.bool (decide (x6 > 57)))), (35, .val (Value.bool (decide (x6 > 57)))), (34, .val (Value.bool (decide (x6 > 57)))), (33, .val (Value.int .u8 x6))] ?_
          rcases ite_some h with ⟨hp, h⟩ | ⟨hp, h⟩
          · refine RS.fx 37 true (decide_eq_true hp) ?_
            refine RS.mS 1 [(38, .val (Value.int .u8 x6))] ?_
            obtain ⟨x10, hx, h⟩ := bind_some h
            refine RS.cl (some 39) (v := (Value.int .i64 x10)) 63 #[(Value.string (⟨#[126, 33, 64, 36, 37, 94, 38, 42, 95, 45, 43, 61, 60, 62, 46, 63, 47]⟩ : ByteArray)), (Value.int .u8 x6)] (strings_IndexByte_ok hx) ?_
            refine RS.mS 2 [(41, .val (Value.bool (decide (x10 < 0)))), (40, .val (Value.bool (decide (x10 < 0))))] ?_
            refine RS.dn ?_
            cases h
            exact fun a w hs => (jsN (hs.sb 0))
          · refine RS.fx 37 false (decide_eq_false hp) ?_
            refine RS.mS 4 [(41, .val (Value.bool false)), (40, .val undef), (39, .val undef), (38, .val undef)] ?_
            refine RS.dn ?_
            cases h
            exact fun a w hs => (jsN (hs.sb 0))
    · clear hx
      rcases ite_some h with ⟨hp, h⟩ | ⟨hp, h⟩
      · refine WS.fx 41 true hp ?_
        refine WS.cT ?_
        refine WS.sq ?_
        refine WS.rg ?_
        refine RS.mS 1 [(2, .val (Value.bool false))] ?_
        refine RS.dn ?_
        refine WS.nxt ?_
        refine WS.rt ?_
        cases h
        exact fun a w hs => bkR (sqR (lsR rfl (rS hs)))
      · refine WS.fx 41 false (b_not hp) ?_
        refine WS.cF ?_
        refine WS.sk ?_
        refine fun a w hs => bkN ((WS.nxt ?_ a w hs))
        refine WS.rg ?_
        refine RS.mS 2 [(20, .val (Value.int .i64 (IntKind.i64.wrap (v20_5 + 1)))), (42, .val (Value.int .i64 (IntKind.i64.wrap (v20_5 + 1))))] ?_
        refine RS.dn ?_
        cases h
        exact fun a w hs => lsN rfl (hs.sb 0)
  · refine WS.fx 21 false (decide_eq_false hp) ?_
    refine WS.cF ?_
    refine WS.ex 0 ?_
    cases h
    exact fun a w hs => sqE (lsB rfl (hs.sb 0))

theorem sort_simple_ok {L : LC} {ne : NE} {m : Nat} {H : AH} {a0 : ByteArray} {r : (Bool × AH)} (h : sort_simple L m H a0 = some r) :
    CallS Tryd.prog ne m 33 #[(Value.string a0)] H (sort_simple_enc r) (sort_simple_hp H r) := by
  refine CallS.mk (args := [(Value.string a0)]) Tryd.func33 (B := B33) (by kernel_rfl) (fun E _ => ?_)
  unfold sort_simple at h
  refine WS.sq ?_
  refine WS.rg ?_
  refine RS.mS 1 [(2, .val (Value.bool false))] ?_
  refine RS.dn ?_
  refine WS.nxt ?_
  refine WS.sq ?_
  obtain ⟨v17_1, hx, h⟩ := bind_some h
  refine WS.sq ?_
  refine WS.join ([(17, .val (Value.bool v17_1)), (0, .val (Value.string a0))]) ([]) H ?_ (fun a w hs => WS.nxt ?_ a w hs)
  · clear h; rename _ => h
    refine WS.rg ?_
    refine RS.mS 1 [(5, .val (Value.string a0))] ?_
    obtain ⟨x2, hx, h⟩ := bind_some h
    refine RS.cl (some 6) (v := (Value.bool x2)) 13 #[(Value.string a0)] (sort_Name_ok hx) ?_
    refine RS.mS 2 [(8, .val (Value.bool (!x2))), (7, .val (Value.bool (!x2)))] ?_
    rcases ite_some h with ⟨hp, h⟩ | ⟨hp, h⟩
    · refine RS.fx 8 false (nb_not hp) ?_
      refine RS.mS 1 [(9, .val (Value.string a0))] ?_
      obtain ⟨x3, hx, h⟩ := bind_some h
      refine RS.o (H' := H) (some 10) (Value.int .u8 x3) (Abs.run_byt (t := 9) (x := .tmp 9) (y := .const (Value.int .i64 0)) (s := a0) (k := .i64) (i := 0) (by kernel_rfl) (by kernel_rfl) (by kernel_rfl) (by kernel_rfl) hx) ?_
      refine RS.mS 2 [(12, .val (Value.bool (decide (x3 ≥ 48)))), (11, .val (Value.bool (decide (x3 ≥ 48))))] ?_
      rcases ite_some h with ⟨hp, h⟩ | ⟨hp, h⟩
      · refine RS.fx 12 true (decide_eq_true hp) ?_
        refine RS.mS 1 [(13, .val (Value.string a0))] ?_
        obtain ⟨x4, hx, h⟩ := bind_some h
        refine RS.o (H' := H) (some 14) (Value.int .u8 x4) (Abs.run_byt (t := 9) (x := .tmp 13) (y := .const (Value.int .i64 0)) (s := a0) (k := .i64) (i := 0) (by kernel_rfl) (by kernel_rfl) (by kernel_rfl) (by kernel_rfl) hx) ?_
        refine RS.mS 3 [(17, .val (Value.bool (decide (x4 ≤ 57)))), (16, .val (Value.bool (decide (x4 ≤ 57)))), (15, .val (Value.bool (decide (x4 ≤ 57))))] ?_
        refine RS.dn ?_
        cases h
        exact fun a w hs => (jsN (hs.sb 0))
      · refine RS.fx 12 false (decide_eq_false hp) ?_
        refine RS.mS 5 [(17, .val (Value.bool false)), (16, .val (Value.bool false)), (15, .val undef), (14, .val undef), (13, .val undef)] ?_
        refine RS.dn ?_
        cases h
        exact fun a w hs => (jsN (hs.sb 0))
    · refine RS.fx 8 true (nb_not' hp) ?_
      refine RS.mS 9 [(17, .val (Value.bool true)), (16, .val undef), (15, .val undef), (14, .val undef), (13, .val undef), (12, .val undef), (11, .val undef), (10, .val undef), (9, .val undef)] ?_
      refine RS.dn ?_
      cases h
      exact fun a w hs => (jsN (hs.sb 0))
  · clear hx
    rcases ite_some h with ⟨hp, h⟩ | ⟨hp, h⟩
    · refine WS.fx 17 true hp ?_
      refine WS.cT ?_
      refine WS.sq ?_
      refine WS.rg ?_
      refine RS.mS 1 [(2, .val (Value.bool false))] ?_
      refine RS.dn ?_
      refine WS.nxt ?_
      refine WS.rt ?_
      cases h
      exact fun a w hs => sqR (rtR (rS hs))
    · refine WS.fx 17 false (b_not hp) ?_
      refine WS.cF ?_
      refine WS.sk ?_
      refine WS.nxt ?_
      refine WS.sq ?_
      refine WS.sq ?_
      refine WS.rg ?_
      refine RS.mS 3 [(20, .val (Value.int .i64 0)), (19, .val (Value.int .i64 (a0.size : Int))), (18, .val (Value.string a0))] ?_
      refine RS.dn ?_
      refine WS.nxt ?_
      refine WS.bk 0 ?_
      obtain ⟨o, hl, h⟩ := bind_some h
      rcases o with v20_11 | r
      · try dsimp only at h
        refine WS.lI (sort_simple_b0_ok (ne := ne) (L := L) (E := E) (m := m) (H := H)) (L.ok hl) 0 ?_
        clear hl
        refine fun a w hs => bkE ((WS.nxt ?_ a w hs))
        refine WS.sq ?_
        refine WS.rg ?_
        refine RS.mS 1 [(43, .val (Value.string a0))] ?_
        obtain ⟨⟨x12, H13⟩, hx, h⟩ := bind_some h
        try dsimp only at h
        refine RS.cl (some 44) (v := (Value.bool x12)) 64 #[(Value.string a0)] (sort_reserved_ok hx) ?_
        refine RS.mS 2 [(2, .val (Value.bool (!x12))), (45, .val (Value.bool (!x12)))] ?_
        refine RS.dn ?_
        refine WS.nxt ?_
        refine WS.rt ?_
        cases h
        exact fun a w hs => rtR (rS hs)
      · try dsimp only at h
        refine WS.lR (sort_simple_b0_ok (ne := ne) (L := L) (E := E) (m := m) (H := H)) (L.ok hl) 0 ?_
        cases h
        exact fun a w hq => bkR (sqR (rtR hq))

def sort_Quote_enc : (ByteArray × AH) → Value
  | (r0, _) => (Value.string r0)

def sort_Quote_hp (_ : AH) : (ByteArray × AH) → AH := fun r => r.2

noncomputable def B15 : Code := (Tryd.f15.body).getD .skip

noncomputable def sort_Quote (L : LC) (m : Nat) (H : AH) (a0 : ByteArray) : Option (ByteArray × AH) :=
  Option.bind (sort_simple L m H a0) fun (x1, H2) =>
  if x1 = true then
    some (a0, H2)
  else
    Option.bind (strcat (⟨#[124]⟩ : ByteArray) a0) fun s3 =>
    Option.bind (strcat s3 (⟨#[124]⟩ : ByteArray)) fun s4 =>
    some (s4, H2)

theorem sort_Quote_ok {L : LC} {ne : NE} {m : Nat} {H : AH} {a0 : ByteArray} {r : (ByteArray × AH)} (h : sort_Quote L m H a0 = some r) :
    CallS Tryd.prog ne m 15 #[(Value.string a0)] H (sort_Quote_enc r) (sort_Quote_hp H r) := by
  refine CallS.mk (args := [(Value.string a0)]) Tryd.func15 (B := B15) (by kernel_rfl) (fun E _ => ?_)
  unfold sort_Quote at h
  refine WS.sq ?_
  refine WS.rg ?_
  refine RS.mS 1 [(2, .val (Value.string (⟨#[]⟩ : ByteArray)))] ?_
  refine RS.dn ?_
  refine WS.nxt ?_
  refine WS.sq ?_
  refine WS.sq ?_
  refine WS.rg ?_
  refine RS.mS 1 [(3, .val (Value.string a0))] ?_
  obtain ⟨⟨x1, H2⟩, hx, h⟩ := bind_some h
  try dsimp only at h
  refine RS.cl (some 4) (v := (Value.bool x1)) 33 #[(Value.string a0)] (sort_simple_ok hx) ?_
  refine RS.dn ?_
  refine WS.nxt ?_
  rcases ite_some h with ⟨hp, h⟩ | ⟨hp, h⟩
  · refine WS.fx 4 true hp ?_
    refine WS.cT ?_
    refine WS.sq ?_
    refine WS.rg ?_
    refine RS.mS 2 [(2, .val (Value.string a0)), (5, .val (Value.string a0))] ?_
    refine RS.dn ?_
    refine WS.nxt ?_
    refine WS.rt ?_
    cases h
    exact fun a w hs => sqR (rtR (rS hs))
  · refine WS.fx 4 false (b_not hp) ?_
    refine WS.cF ?_
    refine WS.sk ?_
    refine WS.nxt ?_
    refine WS.sq ?_
    refine WS.rg ?_
    refine RS.mS 1 [(6, .val (Value.string a0))] ?_
    obtain ⟨s3, hx, h⟩ := bind_some h
    refine RS.o (H' := H2) (some 7) (Value.string s3) (Abs.run_strcat (t := 9) (u := 9) (x := .const (Value.string (⟨#[124]⟩ : ByteArray))) (y := .tmp 6) (a := (⟨#[124]⟩ : ByteArray)) (b := a0) (by kernel_rfl) (by kernel_rfl) (by kernel_rfl) hx) ?_
    obtain ⟨s4, hx, h⟩ := bind_some h
    refine RS.o (H' := H2) (some 8) (Value.string s4) (Abs.run_strcat (t := 9) (u := 9) (x := .tmp 7) (y := .const (Value.string (⟨#[124]⟩ : ByteArray))) (a := s3) (b := (⟨#[124]⟩ : ByteArray)) (by kernel_rfl) (by kernel_rfl) (by kernel_rfl) hx) ?_
    refine RS.mS 1 [(2, .val (Value.string s4))] ?_
    refine RS.dn ?_
    refine WS.nxt ?_
    refine WS.rt ?_
    cases h
    exact fun a w hs => rtR (rS hs)

end Go.Proofs.YtccbilfbhecdaaaDoor


namespace Go.Proofs.YtccbilfbhecdaaaDoor
open Go Go.Abs
set_option maxRecDepth 100000

theorem maxN_eq : maxN = 9223372036854775807 := rfl

/-- The bytes of a text. -/
def bs (s : ByteArray) : List UInt8 := s.data.toList

theorem bs_len (s : ByteArray) : (bs s).length = s.size := by simp [bs]

theorem bytA_bs {s : ByteArray} {i : Nat} (hi : i < s.size) {v : Int} (hv : v = i) : bytA s v = some ((((bs s).getD i 0).toNat : Nat) : Int) := by
  rw [bytA_get hi hv]
  have : (bs s).getD i 0 = s[i] := by
    simp only [bs, List.getD, Array.getElem?_toList]
    rw [Array.getElem?_eq_getElem hi]
    rfl
  rw [this]

def badB (x : Nat) : Bool := decide (x < 32) || (decide (x > 126) || (decide (x = 124) || decide (x = 92)))

def nameS (s : ByteArray) : Bool :=
  !(decide (s.size < 1) || decide (s.size > 200) || decide (((bs s).getD 0 0).toNat = 64) || decide (((bs s).getD 0 0).toNat = 46)) && !(bs s).any fun x => badB x.toNat

theorem find_any {α R : Type} [Inhabited α] (l : List α) (bad : α → Bool) (r : R) (d : α) :
    (List.range l.length).findSome? (fun i => if bad (l.getD i d) = true then some r else none) = if l.any bad = true then some r else none := by
  induction l with
  | nil => simp
  | cons x l ih =>
    rw [List.length_cons, List.range_succ_eq_map, List.findSome?_cons, List.any_cons]
    cases hx : bad x with
    | true => simp [hx]
    | false =>
      simp only [List.getD_cons_zero, hx, Bool.false_eq_true, if_false, Bool.false_or, List.findSome?_map, Function.comp_def, List.getD_cons_succ]
      exact ih

theorem Name_spec (k : Nat) {s : ByteArray} (hs : s.size ≤ maxN) : sort_Name (LCo k) s = some (nameS s) := by
  unfold sort_Name nameS
  by_cases h1 : (s.size : Int) < 1
  · rw [if_pos h1]
    have : s.size < 1 := by omega
    simp [this]
  · rw [if_neg h1]
    have h1' : ¬ s.size < 1 := by omega
    have hp : 0 < s.size := by omega
    by_cases h2 : (s.size : Int) > 200
    · rw [if_pos h2]
      have : s.size > 200 := by omega
      simp [this]
    · rw [if_neg h2]
      have h2' : ¬ s.size > 200 := by omega
      rw [bytA_bs hp (v := 0) rfl]
      simp only [Option.bind_some]
      generalize hc : ((bs s).getD 0 0).toNat = c
      by_cases h3 : c = 64
      · subst h3; simp
      · have h3' : ¬ ((c : Int) = 64) := by omega
        rw [if_neg h3']
        by_cases h4 : c = 46
        · subst h4; simp
        · have h4' : ¬ ((c : Int) = 46) := by omega
          simp only [decide_eq_false h4', Option.bind_some, Bool.false_eq_true, if_false]
          have hl : loopO (sort_Name_b0 (LCo k) s) 0 = some (found s.size ((List.range s.size).findSome? (fun i => if badB ((bs s).getD i 0).toNat = true then some false else none))) := by
            refine loopO_up s.size hs _ (fun i hi => ?_) ?_
            · unfold sort_Name_b0
              rw [if_pos (by omega), bytA_bs hi rfl]
              simp only [Option.bind_some]
              generalize ((bs s).getD i 0).toNat = x
              unfold badB
              by_cases e1 : x < 32
              · have : (x : Int) < 32 := by omega
                simp [e1, this, stepO]
              · have e1' : ¬ ((x : Int) < 32) := by omega
                rw [if_neg e1']
                by_cases e2 : x > 126
                · have : (x : Int) > 126 := by omega
                  simp [e1, e2, this, stepO]
                · have e2' : ¬ ((x : Int) > 126) := by omega
                  rw [if_neg e2']
                  by_cases e3 : x = 124
                  · subst e3; simp [stepO]
                  · have e3' : ¬ ((x : Int) = 124) := by omega
                    rw [if_neg e3']
                    by_cases e4 : x = 92
                    · subst e4; simp [stepO]
                    · have e4' : ¬ ((x : Int) = 92) := by omega
                      simp [e1, e2, e3, e4, e4', stepO]
            · unfold sort_Name_b0
              rw [if_neg (by omega)]
          show Option.bind (loopO (sort_Name_b0 (LCo k) s) 0) _ = _
          rw [hl, ← bs_len, find_any (bs s) (fun x => badB x.toNat) false 0]
          cases ha : (bs s).any fun x => badB x.toNat with
          | true => simp [found]
          | false => simp [h1', h2', h3, h4, bs_len, found]

theorem refName_spec (k : Nat) {s : ByteArray} (hs : s.size ≤ maxN) : ref04_Name (LCo k) s = some (nameS s) := by
  have : ref04_Name (LCo k) s = sort_Name (LCo k) s := rfl
  rw [this, Name_spec k hs]

end Go.Proofs.YtccbilfbhecdaaaDoor


namespace Go.Proofs.YtccbilfbhecdaaaDoor
open Go Go.Abs
set_option maxRecDepth 100000

def ref04_has_enc : Bool → Value
  | r0 => (Value.bool r0)

def ref04_has_hp (H : AH) : Bool → AH := fun _ => H

noncomputable def B71 : Code := (Tryd.f71.body).getD .skip

noncomputable def ref04_has_b0 (_L : LC) (H : AH) (a0 : Sl3) (a1 : ByteArray) : Int → Option (Lp Int Bool) := fun v5_1 =>
  if v5_1 < (a0.n : Int) then
    Option.bind (idxA 1 a0 v5_1) fun p2 =>
    Option.bind (rd deS H p2) fun x3 =>
    if (x3.toList == a1.toList) = true then
      some (.ret true)
    else
      some (.next (IntKind.i64.wrap (v5_1 + 1)))
  else
    some (.brk v5_1)

def ref04_has_b0_kn (_L : LC) (_H : AH) (a0 : Sl3) (a1 : ByteArray) : Int → KN := fun v5_1 => [(5, .val (Value.int .i64 v5_1)), (0, .val (Sl3.v a0)), (1, .val (Value.string a1))]

def ref04_has_b0_ls (_L : LC) (_H : AH) (_a0 : Sl3) (_a1 : ByteArray) : Int → Lcs := fun _ => []

noncomputable def ref04_has (L : LC) (H : AH) (a0 : Sl3) (a1 : ByteArray) : Option Bool :=
  Option.bind (L.run (ref04_has_b0 L H a0 a1) 0) fun o => match o with
  | .inl _ =>
    some false
  | .inr r => some r

theorem ref04_has_b0_ok {ne : NE} {E : Ent} {m : Nat} {L : LC} {H : AH} {a0 : Sl3} {a1 : ByteArray}  : ∀ s o, ref04_has_b0 L H a0 a1 s = some o →
    WS Tryd.prog ne m E Tryd.f71.ntmps (cfst (cfst (csnd (cfst (csnd B71))))) (ref04_has_b0_kn L H a0 a1 s) (ref04_has_b0_ls L H a0 a1 s) ((fun _ => H) s) (lpS Tryd.prog ne m E Tryd.f71.ntmps (ref04_has_b0_kn L H a0 a1) (ref04_has_b0_ls L H a0 a1) (fun _ => H) 0 (fun r => RT Tryd.prog ne m E Tryd.f71 (ref04_has_enc r) (ref04_has_hp H r)) o) := by
  rintro v5_1 o h
  unfold ref04_has_b0 at h
  try dsimp only at h
  refine WS.sq ?_
  refine WS.sq ?_
  refine WS.rg ?_
  refine RS.mS 4 [(9, .val (Value.bool (decide (v5_1 < (a0.n : Int))))), (8, .val (Value.int .i64 (a0.n : Int))), (7, .val (Sl3.v a0)), (6, .val (Value.int .i64 v5_1))] ?_
  refine RS.dn ?_
  refine WS.nxt ?_
  rcases ite_some h with ⟨hp, h⟩ | ⟨hp, h⟩
  · refine WS.fx 9 true (decide_eq_true hp) ?_
    refine WS.cT ?_
    refine WS.sk ?_
    refine WS.nxt ?_
    refine WS.sq ?_
    refine WS.bk 1 ?_
    refine WS.sq ?_
    refine WS.rg ?_
    refine RS.mS 2 [(13, .val (Value.int .i64 v5_1)), (12, .val (Sl3.v a0))] ?_
    obtain ⟨p2, hx, h⟩ := bind_some h
    refine RS.o (H' := H) (some 14) (Value.pointer (some p2)) (Abs.run_idx (s := a0) (k := .i64) (t := 29) (e := 9) (x := .tmp 12) (y := .tmp 13) (by kernel_rfl) (by kernel_rfl) (by kernel_rfl) (by kernel_rfl) (by kernel_rfl) hx) ?_
    obtain ⟨x3, hx, h⟩ := bind_some h
    refine RS.o (H' := H) (some 15) (Value.string x3) (Abs.run_load (t := 9) (x := .tmp 14) (a := p2) (by kernel_rfl) (by kernel_rfl) (by kernel_rfl) (rd_cell hx deS_inv)) ?_
    refine RS.mS 2 [(17, .val (Value.bool (x3.toList == a1.toList))), (16, .val (Value.string a1))] ?_
    refine RS.dn ?_
    refine WS.nxt ?_
    rcases ite_some h with ⟨hp, h⟩ | ⟨hp, h⟩
    · refine WS.fx 17 true hp ?_
      refine WS.cT ?_
      refine WS.sq ?_
      refine WS.rg ?_
      refine RS.mS 1 [(4, .val (Value.bool true))] ?_
      refine RS.dn ?_
      refine WS.nxt ?_
      refine WS.rt ?_
      cases h
      exact fun a w hs => bkR (sqR (lsR rfl (rS hs)))
    · refine WS.fx 17 false (b_not hp) ?_
      refine WS.cF ?_
      refine WS.sk ?_
      refine fun a w hs => bkN ((WS.nxt ?_ a w hs))
      refine WS.rg ?_
      refine RS.mS 3 [(5, .val (Value.int .i64 (IntKind.i64.wrap (v5_1 + 1)))), (11, .val (Value.int .i64 (IntKind.i64.wrap (v5_1 + 1)))), (10, .val (Value.int .i64 v5_1))] ?_
      refine RS.dn ?_
      cases h
      exact fun a w hs => lsN rfl (hs.sb 0)
  · refine WS.fx 9 false (decide_eq_false hp) ?_
    refine WS.cF ?_
    refine WS.ex 0 ?_
    cases h
    exact fun a w hs => sqE (lsB rfl (hs.sb 0))

theorem ref04_has_ok {L : LC} {ne : NE} {m : Nat} {H : AH} {a0 : Sl3} {a1 : ByteArray} {r : Bool} (h : ref04_has L H a0 a1 = some r) :
    CallS Tryd.prog ne m 71 #[(Sl3.v a0), (Value.string a1)] H (ref04_has_enc r) (ref04_has_hp H r) := by
  refine CallS.mk (args := [(Sl3.v a0), (Value.string a1)]) Tryd.func71 (B := B71) (by kernel_rfl) (fun E _ => ?_)
  unfold ref04_has at h
  refine WS.sq ?_
  refine WS.rg ?_
  refine RS.mS 1 [(4, .val (Value.bool false))] ?_
  refine RS.dn ?_
  refine WS.nxt ?_
  refine WS.sq ?_
  refine WS.sq ?_
  refine WS.rg ?_
  refine RS.mS 1 [(5, .val (Value.int .i64 0))] ?_
  refine RS.dn ?_
  refine WS.nxt ?_
  refine WS.bk 0 ?_
  obtain ⟨o, hl, h⟩ := bind_some h
  rcases o with v5_4 | r
  · try dsimp only at h
    refine WS.lI (ref04_has_b0_ok (ne := ne) (L := L) (E := E) (m := m) (H := H)) (L.ok hl) 0 ?_
    clear hl
    refine fun a w hs => bkE ((WS.nxt ?_ a w hs))
    refine WS.sq ?_
    refine WS.rg ?_
    refine RS.mS 1 [(4, .val (Value.bool false))] ?_
    refine RS.dn ?_
    refine WS.nxt ?_
    refine WS.rt ?_
    cases h
    exact fun a w hs => rtR (rS hs)
  · try dsimp only at h
    refine WS.lR (ref04_has_b0_ok (ne := ne) (L := L) (E := E) (m := m) (H := H)) (L.ok hl) 0 ?_
    cases h
    exact fun a w hq => bkR (sqR (rtR hq))

def ref04_Reserved_enc : (Bool × AH) → Value
  | (r0, _) => (Value.bool r0)

def ref04_Reserved_hp (_ : AH) : (Bool × AH) → AH := fun r => r.2

noncomputable def B65 : Code := (Tryd.f65.body).getD .skip

noncomputable def ref04_Reserved (L : LC) (_m : Nat) (H : AH) (a0 : ByteArray) : Option (Bool × AH) :=
  Option.bind (newR 9 36 #[(Value.string (⟨#[33]⟩ : ByteArray)), (Value.string (⟨#[95]⟩ : ByteArray)), (Value.string (⟨#[97, 115]⟩ : ByteArray)), (Value.string (⟨#[66, 73, 78, 65, 82, 89]⟩ : ByteArray)), (Value.string (⟨#[68, 69, 67, 73, 77, 65, 76]⟩ : ByteArray)), (Value.string (⟨#[101, 120, 105, 115, 116, 115]⟩ : ByteArray)), (Value.string (⟨#[102, 111, 114, 97, 108, 108]⟩ : ByteArray)), (Value.string (⟨#[72, 69, 88, 65, 68, 69, 67, 73, 77, 65, 76]⟩ : ByteArray)), (Value.string (⟨#[108, 101, 116]⟩ : ByteArray)), (Value.string (⟨#[109, 97, 116, 99, 104]⟩ : ByteArray)), (Value.string (⟨#[78, 85, 77, 69, 82, 65, 76]⟩ : ByteArray)), (Value.string (⟨#[112, 97, 114]⟩ : ByteArray)), (Value.string (⟨#[83, 84, 82, 73, 78, 71]⟩ : ByteArray)), (Value.string (⟨#[97, 115, 115, 101, 114, 116]⟩ : ByteArray)), (Value.string (⟨#[99, 104, 101, 99, 107, 45, 115, 97, 116]⟩ : ByteArray)), (Value.string (⟨#[99, 104, 101, 99, 107, 45, 115, 97, 116, 45, 97, 115, 115, 117, 109, 105, 110, 103]⟩ : ByteArray)), (Value.string (⟨#[100, 101, 99, 108, 97, 114, 101, 45, 99, 111, 110, 115, 116]⟩ : ByteArray)), (Value.string (⟨#[100, 101, 99, 108, 97, 114, 101, 45, 100, 97, 116, 97, 116, 121, 112, 101]⟩ : ByteArray)), (Value.string (⟨#[100, 101, 99, 108, 97, 114, 101, 45, 100, 97, 116, 97, 116, 121, 112, 101, 115]⟩ : ByteArray)), (Value.string (⟨#[100, 101, 99, 108, 97, 114, 101, 45, 102, 117, 110]⟩ : ByteArray)), (Value.string (⟨#[100, 101, 99, 108, 97, 114, 101, 45, 115, 111, 114, 116]⟩ : ByteArray)), (Value.string (⟨#[100, 101, 102, 105, 110, 101, 45, 102, 117, 110]⟩ : ByteArray)), (Value.string (⟨#[100, 101, 102, 105, 110, 101, 45, 115, 111, 114, 116]⟩ : ByteArray)), (Value.string (⟨#[101, 99, 104, 111]⟩ : ByteArray)), (Value.string (⟨#[101, 120, 105, 116]⟩ : ByteArray)), (Value.string (⟨#[103, 101, 116, 45, 97, 115, 115, 101, 114, 116, 105, 111, 110, 115]⟩ : ByteArray)), (Value.string (⟨#[103, 101, 116, 45, 105, 110, 102, 111]⟩ : ByteArray)), (Value.string (⟨#[103, 101, 116, 45, 109, 111, 100, 101, 108]⟩ : ByteArray)), (Value.string (⟨#[103, 101, 116, 45, 118, 97, 108, 117, 101]⟩ : ByteArray)), (Value.string (⟨#[112, 111, 112]⟩ : ByteArray)), (Value.string (⟨#[112, 117, 115, 104]⟩ : ByteArray)), (Value.string (⟨#[114, 101, 115, 101, 116]⟩ : ByteArray)), (Value.string (⟨#[114, 101, 115, 101, 116, 45, 97, 115, 115, 101, 114, 116, 105, 111, 110, 115]⟩ : ByteArray)), (Value.string (⟨#[115, 101, 116, 45, 105, 110, 102, 111]⟩ : ByteArray)), (Value.string (⟨#[115, 101, 116, 45, 108, 111, 103, 105, 99]⟩ : ByteArray)), (Value.string (⟨#[115, 101, 116, 45, 111, 112, 116, 105, 111, 110]⟩ : ByteArray))] H) fun (s1, H2) =>
  Option.bind (ref04_has L H2 s1 a0) fun x3 =>
  some (x3, H2)

theorem ref04_Reserved_ok {L : LC} {ne : NE} {m : Nat} {H : AH} {a0 : ByteArray} {r : (Bool × AH)} (h : ref04_Reserved L m H a0 = some r) :
    CallS Tryd.prog ne m 65 #[(Value.string a0)] H (ref04_Reserved_enc r) (ref04_Reserved_hp H r) := by
  refine CallS.mk (args := [(Value.string a0)]) Tryd.func65 (B := B65) (by kernel_rfl) (fun E _ => ?_)
  unfold ref04_Reserved at h
  refine WS.sq ?_
  refine WS.rg ?_
  refine RS.mS 1 [(2, .val (Value.bool false))] ?_
  refine RS.dn ?_
  refine WS.nxt ?_
  refine WS.sq ?_
  refine WS.rg ?_
  obtain ⟨⟨s1, H2⟩, hx, h⟩ := bind_some h
  try dsimp only at h
  refine RS.o (H' := H2) (some 3) (Sl3.v s1) (Abs.run_newR (by kernel_rfl) (by kernel_rfl) hx) ?_
  refine RS.mS 1 [(4, .val (Value.string a0))] ?_
  obtain ⟨x3, hx, h⟩ := bind_some h
  refine RS.cl (some 5) (v := (Value.bool x3)) 71 #[(Sl3.v s1), (Value.string a0)] (ref04_has_ok hx) ?_
  refine RS.mS 1 [(2, .val (Value.bool x3))] ?_
  refine RS.dn ?_
  refine WS.nxt ?_
  refine WS.rt ?_
  cases h
  exact fun a w hs => rtR (rS hs)

def ref04_SimpleByte_enc : Bool → Value
  | r0 => (Value.bool r0)

def ref04_SimpleByte_hp (H : AH) : Bool → AH := fun _ => H

noncomputable def B66 : Code := (Tryd.f66.body).getD .skip

noncomputable def ref04_SimpleByte_b0 (_L : LC) (a0 : Int) : Int → Option (Lp Int Bool) := fun v3_2 =>
  if v3_2 < 17 then
    Option.bind (bytA (⟨#[126, 33, 64, 36, 37, 94, 38, 42, 95, 45, 43, 61, 60, 62, 46, 63, 47]⟩ : ByteArray) v3_2) fun x3 =>
    if x3 = a0 then
      some (.ret true)
    else
      some (.next (IntKind.i64.wrap (v3_2 + 1)))
  else
    some (.brk v3_2)

def ref04_SimpleByte_b0_kn (_L : LC) (a0 : Int) : Int → KN := fun v3_2 => [(3, .val (Value.int .i64 v3_2)), (0, .val (Value.int .u8 a0))]

def ref04_SimpleByte_b0_ls (_L : LC) (_a0 : Int) : Int → Lcs := fun _ => []

noncomputable def ref04_SimpleByte (L : LC) (a0 : Int) : Option Bool :=
  Option.bind (α := Bool) (
    if a0 ≥ 97 then
      if a0 ≤ 122 then
        some true
      else
        if a0 ≥ 65 then
          if a0 ≤ 90 then
            some true
          else
            if a0 ≥ 48 then
              some (decide (a0 ≤ 57))
            else
              some false
        else
          if a0 ≥ 48 then
            some (decide (a0 ≤ 57))
          else
            some false
    else
      if a0 ≥ 65 then
        if a0 ≤ 90 then
          some true
        else
          if a0 ≥ 48 then
            some (decide (a0 ≤ 57))
          else
            some false
      else
        if a0 ≥ 48 then
          some (decide (a0 ≤ 57))
        else
          some false) fun v25_1 =>
  if v25_1 = true then
    some true
  else
    Option.bind (L.run (ref04_SimpleByte_b0 L a0) 0) fun o => match o with
    | .inl _ =>
      some false
    | .inr r => some r

theorem ref04_SimpleByte_b0_ok {ne : NE} {E : Ent} {m : Nat} {H : AH} {L : LC} {a0 : Int}  : ∀ s o, ref04_SimpleByte_b0 L a0 s = some o →
    WS Tryd.prog ne m E Tryd.f66.ntmps (cfst (cfst (csnd (cfst (csnd (csnd B66)))))) (ref04_SimpleByte_b0_kn L a0 s) (ref04_SimpleByte_b0_ls L a0 s) ((fun _ => H) s) (lpS Tryd.prog ne m E Tryd.f66.ntmps (ref04_SimpleByte_b0_kn L a0) (ref04_SimpleByte_b0_ls L a0) (fun _ => H) 0 (fun r => RT Tryd.prog ne m E Tryd.f66 (ref04_SimpleByte_enc r) (ref04_SimpleByte_hp H r)) o) := by
  rintro v3_2 o h
  unfold ref04_SimpleByte_b0 at h
  try dsimp only at h
  refine WS.sq ?_
  refine WS.sq ?_
  refine WS.rg ?_
  refine RS.mS 2 [(27, .val (Value.bool (decide (v3_2 < 17)))), (26, .val (Value.int .i64 v3_2))] ?_
  refine RS.dn ?_
  refine WS.nxt ?_
  rcases ite_some h with ⟨hp, h⟩ | ⟨hp, h⟩
  · refine WS.fx 27 true (decide_eq_true hp) ?_
    refine WS.cT ?_
    refine WS.sk ?_
    refine WS.nxt ?_
    refine WS.sq ?_
    refine WS.bk 1 ?_
    refine WS.sq ?_
    refine WS.rg ?_
    refine RS.mS 1 [(30, .val (Value.int .i64 v3_2))] ?_
    obtain ⟨x3, hx, h⟩ := bind_some h
    refine RS.o (H' := H) (some 31) (Value.int .u8 x3) (Abs.run_byt (t := 9) (x := .const (Value.string (⟨#[126, 33, 64, 36, 37, 94, 38, 42, 95, 45, 43, 61, 60, 62, 46, 63, 47]⟩ : ByteArray))) (y := .tmp 30) (s := (⟨#[126, 33, 64, 36, 37, 94, 38, 42, 95, 45, 43, 61, 60, 62, 46, 63, 47]⟩ : ByteArray)) (k := .i64) (i := v3_2) (by kernel_rfl) (by kernel_rfl) (by kernel_rfl) (by kernel_rfl) hx) ?_
    refine RS.mS 2 [(33, .val (Value.bool (decide (x3 = a0)))), (32, .val (Value.int .u8 a0))] ?_
    refine RS.dn ?_
    refine WS.nxt ?_
    rcases ite_some h with ⟨hp, h⟩ | ⟨hp, h⟩
    · refine WS.fx 33 true (decide_eq_true hp) ?_
      refine WS.cT ?_
      refine WS.sq ?_
      refine WS.rg ?_
      refine RS.mS 1 [(2, .val (Value.bool true))] ?_
      refine RS.dn ?_
      refine WS.nxt ?_
      refine WS.rt ?_
      cases h
      exact fun a w hs => bkR (sqR (lsR rfl (rS hs)))
    · refine WS.fx 33 false (decide_eq_false hp) ?_
      refine WS.cF ?_
      refine WS.sk ?_
      refine fun a w hs => bkN ((WS.nxt ?_ a w hs))
      refine WS.rg ?_
      refine RS.mS 3 [(3, .val (Value.int .i64 (IntKind.i64.wrap (v3_2 + 1)))), (29, .val (Value.int .i64 (IntKind.i64.wrap (v3_2 + 1)))), (28, .val (Value.int .i64 v3_2))] ?_
      refine RS.dn ?_
      cases h
      exact fun a w hs => lsN rfl (hs.sb 0)
  · refine WS.fx 27 false (decide_eq_false hp) ?_
    refine WS.cF ?_
    refine WS.ex 0 ?_
    cases h
    exact fun a w hs => sqE (lsB rfl (hs.sb 0))

theorem ref04_SimpleByte_ok {L : LC} {ne : NE} {m : Nat} {H : AH} {a0 : Int} {r : Bool} (h : ref04_SimpleByte L a0 = some r) :
    CallS Tryd.prog ne m 66 #[(Value.int .u8 a0)] H (ref04_SimpleByte_enc r) (ref04_SimpleByte_hp H r) := by
  refine CallS.mk (args := [(Value.int .u8 a0)]) Tryd.func66 (B := B66) (by kernel_rfl) (fun E _ => ?_)
  unfold ref04_SimpleByte at h
  refine WS.sq ?_
  refine WS.rg ?_
  refine RS.mS 1 [(2, .val (Value.bool false))] ?_
  refine RS.dn ?_
  refine WS.nxt ?_
  refine WS.sq ?_
  obtain ⟨v25_1, hx, h⟩ := bind_some h
  refine WS.sq ?_
  refine WS.join ([(25, .val (Value.bool v25_1)), (0, .val (Value.int .u8 a0))]) ([]) H ?_ (fun a w hs => WS.nxt ?_ a w hs)
  · clear h; rename _ => h
    refine WS.rg ?_
    refine RS.mS 3 [(6, .val (Value.bool (decide (a0 ≥ 97)))), (5, .val (Value.bool (decide (a0 ≥ 97)))), (4, .val (Value.int .u8 a0))] ?_
    rcases ite_some h with ⟨hp, h⟩ | ⟨hp, h⟩
    · refine RS.fx 6 true (decide_eq_true hp) ?_
      refine RS.mS 4 [(10, .val (Value.bool (decide (a0 ≤ 122)))), (9, .val (Value.bool (decide (a0 ≤ 122)))), (8, .val (Value.bool (decide (a0 ≤ 122)))), (7, .val (Value.int .u8 a0))] ?_
      rcases ite_some h with ⟨hp, h⟩ | ⟨hp, h⟩
      · refine RS.fx 10 true (decide_eq_true hp) ?_
        refine RS.mS 15 [(25, .val (Value.bool true)), (24, .val undef), (23, .val undef), (22, .val undef), (21, .val undef), (20, .val undef), (19, .val undef), (18, .val (Value.bool true)), (17, .val (Value.bool true)), (16, .val undef), (15, .val undef), (14, .val undef), (13, .val undef), (12, .val undef), (11, .val undef)] ?_
        refine RS.dn ?_
        cases h
        exact fun a w hs => (jsN (hs.sb 0))
      · refine RS.fx 10 false (decide_eq_false hp) ?_
        refine RS.mS 3 [(13, .val (Value.bool (decide (a0 ≥ 65)))), (12, .val (Value.bool (decide (a0 ≥ 65)))), (11, .val (Value.int .u8 a0))] ?_
        rcases ite_some h with ⟨hp, h⟩ | ⟨hp, h⟩
        · refine RS.fx 13 true (decide_eq_true hp) ?_
          refine RS.mS 5 [(18, .val (Value.bool (decide (a0 ≤ 90)))), (17, .val (Value.bool (decide (a0 ≤ 90)))), (16, .val (Value.bool (decide (a0 ≤ 90)))), (15, .val (Value.bool (decide (a0 ≤ 90)))), (14, .val (Value.int .u8 a0))] ?_
          rcases ite_some h with ⟨hp, h⟩ | ⟨hp, h⟩
          · refine RS.fx 18 true (decide_eq_true hp) ?_
            refine RS.mS 7 [(25, .val (Value.bool true)), (24, .val undef), (23, .val undef), (22, .val undef), (21, .val undef), (20, .val undef), (19, .val undef)] ?_
            refine RS.dn ?_
            cases h
            exact fun a w hs => (jsN (hs.sb 0))
          · refine RS.fx 18 false (decide_eq_false hp) ?_
            refine RS.mS 3 [(21, .val (Value.bool (decide (a0 ≥ 48)))), (20, .val (Value.bool (decide (a0 ≥ 48)))), (19, .val (Value.int .u8 a0))] ?_
            rcases ite_some h with ⟨hp, h⟩ | ⟨hp, h⟩
            · refine RS.fx 21 true (decide_eq_true hp) ?_
              refine RS.mS 4 [(25, .val (Value.bool (decide (a0 ≤ 57)))), (24, .val (Value.bool (decide (a0 ≤ 57)))), (23, .val (Value.bool (decide (a0 ≤ 57)))), (22, .val (Value.int .u8 a0))] ?_
              refine RS.dn ?_
              cases h
              exact fun a w hs => (jsN (hs.sb 0))
            · refine RS.fx 21 false (decide_eq_false hp) ?_
              refine RS.mS 4 [(25, .val (Value.bool false)), (24, .val (Value.bool false)), (23, .val undef), (22, .val undef)] ?_
              refine RS.dn ?_
              cases h
              exact fun a w hs => (jsN (hs.sb 0))
        · refine RS.fx 13 false (decide_eq_false hp) ?_
          refine RS.mS 8 [(21, .val (Value.bool (decide (a0 ≥ 48)))), (20, .val (Value.bool (decide (a0 ≥ 48)))), (19, .val (Value.int .u8 a0)), (18, .val (Value.bool false)), (17, .val (Value.bool false)), (16, .val (Value.bool false)), (15, .val undef), (14, .val undef)] ?_
          rcases ite_some h with ⟨hp, h⟩ | ⟨hp, h⟩
          · refine RS.fx 21 true (decide_eq_true hp) ?_
            refine RS.mS 4 [(25, .val (Value.bool (decide (a0 ≤ 57)))), (24, .val (Value.bool (decide (a0 ≤ 57)))), (23, .val (Value.bool (decide (a0 ≤ 57)))), (22, .val (Value.int .u8 a0))] ?_
            refine RS.dn ?_
            cases h
            exact fun a w hs => (jsN (hs.sb 0))
          · refine RS.fx 21 false (decide_eq_false hp) ?_
            refine RS.mS 4 [(25, .val (Value.bool false)), (24, .val (Value.bool false)), (23, .val undef), (22, .val undef)] ?_
            refine RS.dn ?_
            cases h
            exact fun a w hs => (jsN (hs.sb 0))
    · refine RS.fx 6 false (decide_eq_false hp) ?_
      refine RS.mS 7 [(13, .val (Value.bool (decide (a0 ≥ 65)))), (12, .val (Value.bool (decide (a0 ≥ 65)))), (11, .val (Value.int .u8 a0)), (10, .val (Value.bool false)), (9, .val (Value.bool false)), (8, .val undef), (7, .val undef)] ?_
      rcases ite_some h with ⟨hp, h⟩ | ⟨hp, h⟩
      · refine RS.fx 13 true (decide_eq_true hp) ?_
        refine RS.mS 5 [(18, .val (Value.bool (decide (a0 ≤ 90)))), (17, .val (Value.bool (decide (a0 ≤ 90)))), (16, .val (Value.bool (decide (a0 ≤ 90)))), (15, .val (Value.bool (decide (a0 ≤ 90)))), (14, .val (Value.int .u8 a0))] ?_
        rcases ite_some h with ⟨hp, h⟩ | ⟨hp, h⟩
        · refine RS.fx 18 true (decide_eq_true hp) ?_
          refine RS.mS 7 [(25, .val (Value.bool true)), (24, .val undef), (23, .val undef), (22, .val undef), (21, .val undef), (20, .val undef), (19, .val undef)] ?_
          refine RS.dn ?_
          cases h
          exact fun a w hs => (jsN (hs.sb 0))
        · refine RS.fx 18 false (decide_eq_false hp) ?_
          refine RS.mS 3 [(21, .val (Value.bool (decide (a0 ≥ 48)))), (20, .val (Value.bool (decide (a0 ≥ 48)))), (19, .val (Value.int .u8 a0))] ?_
          rcases ite_some h with ⟨hp, h⟩ | ⟨hp, h⟩
          · refine RS.fx 21 true (decide_eq_true hp) ?_
            refine RS.mS 4 [(25, .val (Value.bool (decide (a0 ≤ 57)))), (24, .val (Value.bool (decide (a0 ≤ 57)))), (23, .val (Value.bool (decide (a0 ≤ 57)))), (22, .val (Value.int .u8 a0))] ?_
            refine RS.dn ?_
            cases h
            exact fun a w hs => (jsN (hs.sb 0))
          · refine RS.fx 21 false (decide_eq_false hp) ?_
            refine RS.mS 4 [(25, .val (Value.bool false)), (24, .val (Value.bool false)), (23, .val undef), (22, .val undef)] ?_
            refine RS.dn ?_
            cases h
            exact fun a w hs => (jsN (hs.sb 0))
      · refine RS.fx 13 false (decide_eq_false hp) ?_
        refine RS.mS 8 [(21, .val (Value.bool (decide (a0 ≥ 48)))), (20, .val (Value.bool (decide (a0 ≥ 48)))), (19, .val (Value.int .u8 a0)), (18, .val (Value.bool false)), (17, .val (Value.bool false)), (16, .val (Value.bool false)), (15, .val undef), (14, .val undef)] ?_
        rcases ite_some h with ⟨hp, h⟩ | ⟨hp, h⟩
        · refine RS.fx 21 true (decide_eq_true hp) ?_
          refine RS.mS 4 [(25, .val (Value.bool (decide (a0 ≤ 57)))), (24, .val (Value.bool (decide (a0 ≤ 57)))), (23, .val (Value.bool (decide (a0 ≤ 57)))), (22, .val (Value.int .u8 a0))] ?_
          refine RS.dn ?_
          cases h
          exact fun a w hs => (jsN (hs.sb 0))
        · refine RS.fx 21 false (decide_eq_false hp) ?_
          refine RS.mS 4 [(25, .val (Value.bool false)), (24, .val (Value.bool false)), (23, .val undef), (22, .val undef)] ?_
          refine RS.dn ?_
          cases h
          exact fun a w hs => (jsN (hs.sb 0))
  · clear hx
    rcases ite_some h with ⟨hp, h⟩ | ⟨hp, h⟩
    · refine WS.fx 25 true hp ?_
      refine WS.cT ?_
      refine WS.sq ?_
      refine WS.rg ?_
      refine RS.mS 1 [(2, .val (Value.bool true))] ?_
      refine RS.dn ?_
      refine WS.nxt ?_
      refine WS.rt ?_
      cases h
      exact fun a w hs => sqR (rtR (rS hs))
    · refine WS.fx 25 false (b_not hp) ?_
      refine WS.cF ?_
      refine WS.sk ?_
      refine WS.nxt ?_
      refine WS.sq ?_
      refine WS.sq ?_
      refine WS.rg ?_
      refine RS.mS 1 [(3, .val (Value.int .i64 0))] ?_
      refine RS.dn ?_
      refine WS.nxt ?_
      refine WS.bk 0 ?_
      obtain ⟨o, hl, h⟩ := bind_some h
      rcases o with v3_4 | r
      · try dsimp only at h
        refine WS.lI (ref04_SimpleByte_b0_ok (ne := ne) (L := L) (E := E) (m := m) (H := H)) (L.ok hl) 0 ?_
        clear hl
        refine fun a w hs => bkE ((WS.nxt ?_ a w hs))
        refine WS.sq ?_
        refine WS.rg ?_
        refine RS.mS 1 [(2, .val (Value.bool false))] ?_
        refine RS.dn ?_
        refine WS.nxt ?_
        refine WS.rt ?_
        cases h
        exact fun a w hs => rtR (rS hs)
      · try dsimp only at h
        refine WS.lR (ref04_SimpleByte_b0_ok (ne := ne) (L := L) (E := E) (m := m) (H := H)) (L.ok hl) 0 ?_
        cases h
        exact fun a w hq => bkR (sqR (rtR hq))

def ref04_Simple_enc : (Bool × AH) → Value
  | (r0, _) => (Value.bool r0)

def ref04_Simple_hp (_ : AH) : (Bool × AH) → AH := fun r => r.2

noncomputable def B34 : Code := (Tryd.f34.body).getD .skip

noncomputable def ref04_Simple_b0 (L : LC) (a0 : ByteArray) (H2 : AH) : Int → Option (Lp Int (Bool × AH)) := fun v4_10 =>
  if v4_10 < (a0.size : Int) then
    Option.bind (bytA a0 v4_10) fun x11 =>
    Option.bind (ref04_SimpleByte L x11) fun x12 =>
    if x12 = true then
      some (.next (IntKind.i64.wrap (v4_10 + 1)))
    else
      some (.ret (false, H2))
  else
    some (.brk v4_10)

def ref04_Simple_b0_kn (_L : LC) (a0 : ByteArray) (_H2 : AH) : Int → KN := fun v4_10 => [(4, .val (Value.int .i64 v4_10)), (0, .val (Value.string a0))]

def ref04_Simple_b0_ls (_L : LC) (_a0 : ByteArray) (_H2 : AH) : Int → Lcs := fun _ => []

noncomputable def ref04_Simple (L : LC) (m : Nat) (H : AH) (a0 : ByteArray) : Option (Bool × AH) :=
  Option.bind (ref04_Name L a0) fun x1 =>
  Option.bind (α := (AH × Bool)) (
    if x1 = true then
      Option.bind (bytA a0 0) fun x4 =>
      if x4 ≥ 48 then
        Option.bind (bytA a0 0) fun x5 =>
        if x5 ≤ 57 then
          some (H, true)
        else
          Option.bind (ref04_Reserved L m H a0) fun (x6, H7) =>
          some (H7, x6)
      else
        Option.bind (ref04_Reserved L m H a0) fun (x8, H9) =>
        some (H9, x8)
    else
      some (H, true)) fun (H2, v22_3) =>
  if v22_3 = true then
    some (false, H2)
  else
    Option.bind (L.run (ref04_Simple_b0 L a0 H2) 0) fun o => match o with
    | .inl _ =>
      some (true, H2)
    | .inr r => some r

theorem ref04_Simple_b0_ok {ne : NE} {E : Ent} {m : Nat} {H : AH} {L : LC} {a0 : ByteArray} {H2 : AH}  : ∀ s o, ref04_Simple_b0 L a0 H2 s = some o →
    WS Tryd.prog ne m E Tryd.f34.ntmps (cfst (cfst (csnd (cfst (csnd (csnd (csnd B34))))))) (ref04_Simple_b0_kn L a0 H2 s) (ref04_Simple_b0_ls L a0 H2 s) ((fun _ => H2) s) (lpS Tryd.prog ne m E Tryd.f34.ntmps (ref04_Simple_b0_kn L a0 H2) (ref04_Simple_b0_ls L a0 H2) (fun _ => H2) 0 (fun r => RT Tryd.prog ne m E Tryd.f34 (ref04_Simple_enc r) (ref04_Simple_hp H r)) o) := by
  rintro v4_10 o h
  unfold ref04_Simple_b0 at h
  try dsimp only at h
  refine WS.sq ?_
  refine WS.sq ?_
  refine WS.rg ?_
  refine RS.mS 4 [(26, .val (Value.bool (decide (v4_10 < (a0.size : Int))))), (25, .val (Value.int .i64 (a0.size : Int))), (24, .val (Value.string a0)), (23, .val (Value.int .i64 v4_10))] ?_
  refine RS.dn ?_
  refine WS.nxt ?_
  rcases ite_some h with ⟨hp, h⟩ | ⟨hp, h⟩
  · refine WS.fx 26 true (decide_eq_true hp) ?_
    refine WS.cT ?_
    refine WS.sk ?_
    refine WS.nxt ?_
    refine WS.sq ?_
    refine WS.bk 1 ?_
    refine WS.sq ?_
    refine WS.rg ?_
    refine RS.mS 2 [(30, .val (Value.int .i64 v4_10)), (29, .val (Value.string a0))] ?_
    obtain ⟨x11, hx, h⟩ := bind_some h
    refine RS.o (H' := H2) (some 31) (Value.int .u8 x11) (Abs.run_byt (t := 9) (x := .tmp 29) (y := .tmp 30) (s := a0) (k := .i64) (i := v4_10) (by kernel_rfl) (by kernel_rfl) (by kernel_rfl) (by kernel_rfl) hx) ?_
    obtain ⟨x12, hx, h⟩ := bind_some h
    refine RS.cl (some 32) (v := (Value.bool x12)) 66 #[(Value.int .u8 x11)] (ref04_SimpleByte_ok hx) ?_
    refine RS.mS 1 [(33, .val (Value.bool (!x12)))] ?_
    refine RS.dn ?_
    refine WS.nxt ?_
    rcases ite_some h with ⟨hp, h⟩ | ⟨hp, h⟩
    · refine WS.fx 33 false (nb_not hp) ?_
      refine WS.cF ?_
      refine WS.sk ?_
      refine fun a w hs => bkN ((WS.nxt ?_ a w hs))
      refine WS.rg ?_
      refine RS.mS 3 [(4, .val (Value.int .i64 (IntKind.i64.wrap (v4_10 + 1)))), (28, .val (Value.int .i64 (IntKind.i64.wrap (v4_10 + 1)))), (27, .val (Value.int .i64 v4_10))] ?_
      refine RS.dn ?_
      cases h
      exact fun a w hs => lsN rfl (hs.sb 0)
    · refine WS.fx 33 true (nb_not' hp) ?_
      refine WS.cT ?_
      refine WS.sq ?_
      refine WS.rg ?_
      refine RS.mS 1 [(2, .val (Value.bool false))] ?_
      refine RS.dn ?_
      refine WS.nxt ?_
      refine WS.rt ?_
      cases h
      exact fun a w hs => bkR (sqR (lsR rfl (rS hs)))
  · refine WS.fx 26 false (decide_eq_false hp) ?_
    refine WS.cF ?_
    refine WS.ex 0 ?_
    cases h
    exact fun a w hs => sqE (lsB rfl (hs.sb 0))

theorem ref04_Simple_ok {L : LC} {ne : NE} {m : Nat} {H : AH} {a0 : ByteArray} {r : (Bool × AH)} (h : ref04_Simple L m H a0 = some r) :
    CallS Tryd.prog ne m 34 #[(Value.string a0)] H (ref04_Simple_enc r) (ref04_Simple_hp H r) := by
  refine CallS.mk (args := [(Value.string a0)]) Tryd.func34 (B := B34) (by kernel_rfl) (fun E _ => ?_)
  unfold ref04_Simple at h
  refine WS.sq ?_
  refine WS.rg ?_
  refine RS.mS 1 [(2, .val (Value.bool false))] ?_
  refine RS.dn ?_
  refine WS.nxt ?_
  refine WS.sq ?_
  refine WS.rg ?_
  refine RS.mS 1 [(5, .val (Value.string a0))] ?_
  obtain ⟨x1, hx, h⟩ := bind_some h
  refine RS.cl (some 6) (v := (Value.bool x1)) 14 #[(Value.string a0)] (ref04_Name_ok hx) ?_
  refine RS.mS 1 [(3, .val (Value.bool x1))] ?_
  refine RS.dn ?_
  refine WS.nxt ?_
  refine WS.sq ?_
  obtain ⟨⟨H2, v22_3⟩, hx, h⟩ := bind_some h
  try dsimp only at h
  refine WS.sq ?_
  refine WS.join ([(22, .val (Value.bool v22_3)), (0, .val (Value.string a0))]) ([]) H2 ?_ (fun a w hs => WS.nxt ?_ a w hs)
  · clear h; rename _ => h
    refine WS.rg ?_
    refine RS.mS 3 [(9, .val (Value.bool (!x1))), (8, .val (Value.bool (!x1))), (7, .val (Value.bool x1))] ?_
    rcases ite_some h with ⟨hp, h⟩ | ⟨hp, h⟩
    · refine RS.fx 9 false (nb_not hp) ?_
      refine RS.mS 1 [(10, .val (Value.string a0))] ?_
      obtain ⟨x4, hx, h⟩ := bind_some h
      refine RS.o (H' := H) (some 11) (Value.int .u8 x4) (Abs.run_byt (t := 9) (x := .tmp 10) (y := .const (Value.int .i64 0)) (s := a0) (k := .i64) (i := 0) (by kernel_rfl) (by kernel_rfl) (by kernel_rfl) (by kernel_rfl) hx) ?_
      refine RS.mS 2 [(13, .val (Value.bool (decide (x4 ≥ 48)))), (12, .val (Value.bool (decide (x4 ≥ 48))))] ?_
      rcases ite_some h with ⟨hp, h⟩ | ⟨hp, h⟩
      · refine RS.fx 13 true (decide_eq_true hp) ?_
        refine RS.mS 1 [(14, .val (Value.string a0))] ?_
        obtain ⟨x5, hx, h⟩ := bind_some h
        refine RS.o (H' := H) (some 15) (Value.int .u8 x5) (Abs.run_byt (t := 9) (x := .tmp 14) (y := .const (Value.int .i64 0)) (s := a0) (k := .i64) (i := 0) (by kernel_rfl) (by kernel_rfl) (by kernel_rfl) (by kernel_rfl) hx) ?_
        refine RS.mS 4 [(19, .val (Value.bool (decide (x5 ≤ 57)))), (18, .val (Value.bool (decide (x5 ≤ 57)))), (17, .val (Value.bool (decide (x5 ≤ 57)))), (16, .val (Value.bool (decide (x5 ≤ 57))))] ?_
        rcases ite_some h with ⟨hp, h⟩ | ⟨hp, h⟩
        · refine RS.fx 19 true (decide_eq_true hp) ?_
          refine RS.mS 3 [(22, .val (Value.bool true)), (21, .val undef), (20, .val undef)] ?_
          refine RS.dn ?_
          cases h
          exact fun a w hs => (jsN (hs.sb 0))
        · refine RS.fx 19 false (decide_eq_false hp) ?_
          refine RS.mS 1 [(20, .val (Value.string a0))] ?_
          obtain ⟨⟨x6, H7⟩, hx, h⟩ := bind_some h
          try dsimp only at h
          refine RS.cl (some 21) (v := (Value.bool x6)) 65 #[(Value.string a0)] (ref04_Reserved_ok hx) ?_
          refine RS.mS 1 [(22, .val (Value.bool x6))] ?_
          refine RS.dn ?_
          cases h
          exact fun a w hs => (jsN (hs.sb 0))
      · refine RS.fx 13 false (decide_eq_false hp) ?_
        refine RS.mS 7 [(20, .val (Value.string a0)), (19, .val (Value.bool false)), (18, .val (Value.bool false)), (17, .val (Value.bool false)), (16, .val undef), (15, .val undef), (14, .val undef)] ?_
        obtain ⟨⟨x8, H9⟩, hx, h⟩ := bind_some h
        try dsimp only at h
        refine RS.cl (some 21) (v := (Value.bool x8)) 65 #[(Value.string a0)] (ref04_Reserved_ok hx) ?_
        refine RS.mS 1 [(22, .val (Value.bool x8))] ?_
        refine RS.dn ?_
        cases h
        exact fun a w hs => (jsN (hs.sb 0))
    · refine RS.fx 9 true (nb_not' hp) ?_
      refine RS.mS 13 [(22, .val (Value.bool true)), (21, .val undef), (20, .val undef), (19, .val (Value.bool true)), (18, .val (Value.bool true)), (17, .val undef), (16, .val undef), (15, .val undef), (14, .val undef), (13, .val undef), (12, .val undef), (11, .val undef), (10, .val undef)] ?_
      refine RS.dn ?_
      cases h
      exact fun a w hs => (jsN (hs.sb 0))
  · clear hx
    rcases ite_some h with ⟨hp, h⟩ | ⟨hp, h⟩
    · refine WS.fx 22 true hp ?_
      refine WS.cT ?_
      refine WS.sq ?_
      refine WS.rg ?_
      refine RS.mS 1 [(2, .val (Value.bool false))] ?_
      refine RS.dn ?_
      refine WS.nxt ?_
      refine WS.rt ?_
      cases h
      exact fun a w hs => sqR (rtR (rS hs))
    · refine WS.fx 22 false (b_not hp) ?_
      refine WS.cF ?_
      refine WS.sk ?_
      refine WS.nxt ?_
      refine WS.sq ?_
      refine WS.sq ?_
      refine WS.rg ?_
      refine RS.mS 1 [(4, .val (Value.int .i64 0))] ?_
      refine RS.dn ?_
      refine WS.nxt ?_
      refine WS.bk 0 ?_
      obtain ⟨o, hl, h⟩ := bind_some h
      rcases o with v4_13 | r
      · try dsimp only at h
        refine WS.lI (ref04_Simple_b0_ok (ne := ne) (L := L) (E := E) (m := m) (H := H)) (L.ok hl) 0 ?_
        clear hl
        refine fun a w hs => bkE ((WS.nxt ?_ a w hs))
        refine WS.sq ?_
        refine WS.rg ?_
        refine RS.mS 1 [(2, .val (Value.bool true))] ?_
        refine RS.dn ?_
        refine WS.nxt ?_
        refine WS.rt ?_
        cases h
        exact fun a w hs => rtR (rS hs)
      · try dsimp only at h
        refine WS.lR (ref04_Simple_b0_ok (ne := ne) (L := L) (E := E) (m := m) (H := H)) (L.ok hl) 0 ?_
        cases h
        exact fun a w hq => bkR (sqR (rtR hq))

def ref04_Quote_enc : (ByteArray × AH) → Value
  | (r0, _) => (Value.string r0)

def ref04_Quote_hp (_ : AH) : (ByteArray × AH) → AH := fun r => r.2

noncomputable def B16 : Code := (Tryd.f16.body).getD .skip

noncomputable def ref04_Quote (L : LC) (m : Nat) (H : AH) (a0 : ByteArray) : Option (ByteArray × AH) :=
  Option.bind (ref04_Simple L m H a0) fun (x1, H2) =>
  if x1 = true then
    some (a0, H2)
  else
    Option.bind (strcat (⟨#[124]⟩ : ByteArray) a0) fun s3 =>
    Option.bind (strcat s3 (⟨#[124]⟩ : ByteArray)) fun s4 =>
    some (s4, H2)

theorem ref04_Quote_ok {L : LC} {ne : NE} {m : Nat} {H : AH} {a0 : ByteArray} {r : (ByteArray × AH)} (h : ref04_Quote L m H a0 = some r) :
    CallS Tryd.prog ne m 16 #[(Value.string a0)] H (ref04_Quote_enc r) (ref04_Quote_hp H r) := by
  refine CallS.mk (args := [(Value.string a0)]) Tryd.func16 (B := B16) (by kernel_rfl) (fun E _ => ?_)
  unfold ref04_Quote at h
  refine WS.sq ?_
  refine WS.rg ?_
  refine RS.mS 1 [(2, .val (Value.string (⟨#[]⟩ : ByteArray)))] ?_
  refine RS.dn ?_
  refine WS.nxt ?_
  refine WS.sq ?_
  refine WS.rg ?_
  refine RS.mS 1 [(4, .val (Value.string a0))] ?_
  obtain ⟨⟨x1, H2⟩, hx, h⟩ := bind_some h
  try dsimp only at h
  refine RS.cl (some 5) (v := (Value.bool x1)) 34 #[(Value.string a0)] (ref04_Simple_ok hx) ?_
  refine RS.mS 1 [(3, .val (Value.bool x1))] ?_
  refine RS.dn ?_
  refine WS.nxt ?_
  refine WS.sq ?_
  refine WS.sq ?_
  refine WS.rg ?_
  refine RS.mS 1 [(6, .val (Value.bool x1))] ?_
  refine RS.dn ?_
  refine WS.nxt ?_
  rcases ite_some h with ⟨hp, h⟩ | ⟨hp, h⟩
  · refine WS.fx 6 true hp ?_
    refine WS.cT ?_
    refine WS.sq ?_
    refine WS.rg ?_
    refine RS.mS 2 [(2, .val (Value.string a0)), (7, .val (Value.string a0))] ?_
    refine RS.dn ?_
    refine WS.nxt ?_
    refine WS.rt ?_
    cases h
    exact fun a w hs => sqR (rtR (rS hs))
  · refine WS.fx 6 false (b_not hp) ?_
    refine WS.cF ?_
    refine WS.sk ?_
    refine WS.nxt ?_
    refine WS.sq ?_
    refine WS.rg ?_
    refine RS.mS 1 [(8, .val (Value.string a0))] ?_
    obtain ⟨s3, hx, h⟩ := bind_some h
    refine RS.o (H' := H2) (some 9) (Value.string s3) (Abs.run_strcat (t := 9) (u := 9) (x := .const (Value.string (⟨#[124]⟩ : ByteArray))) (y := .tmp 8) (a := (⟨#[124]⟩ : ByteArray)) (b := a0) (by kernel_rfl) (by kernel_rfl) (by kernel_rfl) hx) ?_
    obtain ⟨s4, hx, h⟩ := bind_some h
    refine RS.o (H' := H2) (some 10) (Value.string s4) (Abs.run_strcat (t := 9) (u := 9) (x := .tmp 9) (y := .const (Value.string (⟨#[124]⟩ : ByteArray))) (a := s3) (b := (⟨#[124]⟩ : ByteArray)) (by kernel_rfl) (by kernel_rfl) (by kernel_rfl) hx) ?_
    refine RS.mS 1 [(2, .val (Value.string s4))] ?_
    refine RS.dn ?_
    refine WS.nxt ?_
    refine WS.rt ?_
    cases h
    exact fun a w hs => rtR (rS hs)

def law04_SortNames_enc : (Bool × AH) → Value
  | (r0, _) => (Value.bool r0)

def law04_SortNames_hp (_ : AH) : (Bool × AH) → AH := fun r => r.2

noncomputable def B3 : Code := (Tryd.f3.body).getD .skip

noncomputable def law04_SortNames (L : LC) (m : Nat) (H : AH) (a0 : ByteArray) : Option (Bool × AH) :=
  Option.bind (sort_Name L a0) fun x1 =>
  Option.bind (ref04_Name L a0) fun x2 =>
  if (x1 == x2) = true then
    Option.bind (sort_Quote L m H a0) fun (x3, H4) =>
    Option.bind (ref04_Quote L m H4 a0) fun (x5, H6) =>
    if (x3.toList == x5.toList) = true then
      Option.bind (law04_awake L H6) fun x7 =>
      some (x7, H6)
    else
      some (false, H6)
  else
    some (false, H)

theorem law04_SortNames_ok {L : LC} {ne : NE} {m : Nat} {H : AH} {a0 : ByteArray} {r : (Bool × AH)} (h : law04_SortNames L m H a0 = some r) :
    CallS Tryd.prog ne m 3 #[(Value.string a0)] H (law04_SortNames_enc r) (law04_SortNames_hp H r) := by
  refine CallS.mk (args := [(Value.string a0)]) Tryd.func3 (B := B3) (by kernel_rfl) (fun E _ => ?_)
  unfold law04_SortNames at h
  refine WS.sq ?_
  refine WS.rg ?_
  refine RS.mS 1 [(2, .val (Value.bool false))] ?_
  refine RS.dn ?_
  refine WS.nxt ?_
  refine WS.sq ?_
  refine WS.rg ?_
  refine RS.mS 1 [(3, .val (Value.string a0))] ?_
  obtain ⟨x1, hx, h⟩ := bind_some h
  refine RS.cl (some 4) (v := (Value.bool x1)) 13 #[(Value.string a0)] (sort_Name_ok hx) ?_
  refine RS.mS 1 [(5, .val (Value.string a0))] ?_
  obtain ⟨x2, hx, h⟩ := bind_some h
  refine RS.cl (some 6) (v := (Value.bool x2)) 14 #[(Value.string a0)] (ref04_Name_ok hx) ?_
  refine RS.mS 2 [(8, .val (Value.bool (x1 == x2))), (7, .val (Value.bool (x1 == x2)))] ?_
  rcases ite_some h with ⟨hp, h⟩ | ⟨hp, h⟩
  · refine RS.fx 8 true hp ?_
    refine RS.mS 1 [(9, .val (Value.string a0))] ?_
    obtain ⟨⟨x3, H4⟩, hx, h⟩ := bind_some h
    try dsimp only at h
    refine RS.cl (some 10) (v := (Value.string x3)) 15 #[(Value.string a0)] (sort_Quote_ok hx) ?_
    refine RS.mS 1 [(11, .val (Value.string a0))] ?_
    obtain ⟨⟨x5, H6⟩, hx, h⟩ := bind_some h
    try dsimp only at h
    refine RS.cl (some 12) (v := (Value.string x5)) 16 #[(Value.string a0)] (ref04_Quote_ok hx) ?_
    refine RS.mS 3 [(15, .val (Value.bool (x3.toList == x5.toList))), (14, .val (Value.bool (x3.toList == x5.toList))), (13, .val (Value.bool (x3.toList == x5.toList)))] ?_
    rcases ite_some h with ⟨hp, h⟩ | ⟨hp, h⟩
    · refine RS.fx 15 true hp ?_
      obtain ⟨x7, hx, h⟩ := bind_some h
      refine RS.cl (some 16) (v := (Value.bool x7)) 17 #[] (law04_awake_ok hx) ?_
      refine RS.mS 2 [(2, .val (Value.bool x7)), (17, .val (Value.bool x7))] ?_
      refine RS.dn ?_
      refine WS.nxt ?_
      refine WS.rt ?_
      cases h
      exact fun a w hs => rtR (rS hs)
    · refine RS.fx 15 false (b_not hp) ?_
      refine RS.mS 3 [(2, .val (Value.bool false)), (17, .val (Value.bool false)), (16, .val undef)] ?_
      refine RS.dn ?_
      refine WS.nxt ?_
      refine WS.rt ?_
      cases h
      exact fun a w hs => rtR (rS hs)
  · refine RS.fx 8 false (b_not hp) ?_
    refine RS.mS 10 [(2, .val (Value.bool false)), (17, .val (Value.bool false)), (16, .val undef), (15, .val (Value.bool false)), (14, .val (Value.bool false)), (13, .val undef), (12, .val undef), (11, .val undef), (10, .val undef), (9, .val undef)] ?_
    refine RS.dn ?_
    refine WS.nxt ?_
    refine WS.rt ?_
    cases h
    exact fun a w hs => rtR (rS hs)

end Go.Proofs.YtccbilfbhecdaaaDoor


namespace Go.Proofs.YtccbilfbhecdaaaDoor
open Go Go.Abs
set_option maxRecDepth 100000

def moreL : List Nat := [126, 33, 64, 36, 37, 94, 38, 42, 95, 45, 43, 61, 60, 62, 46, 63, 47]

/-- A byte that may stand in a simple name. -/
def gB (c : Nat) : Bool := (decide (97 ≤ c) && decide (c ≤ 122)) || (decide (65 ≤ c) && decide (c ≤ 90)) || (decide (48 ≤ c) && decide (c ≤ 57)) || moreL.contains c

theorem ref_more : ∀ c : Fin 256, iterO (ref04_SimpleByte_b0 (LCn 1 1) ((c.val : Nat) : Int)) 20 0 = some (if moreL.contains c.val then .inr true else .inl 17) := by decide +kernel

theorem ref_byte (k : Nat) {c : Nat} (hc : c < 256) : ref04_SimpleByte (LCo k) (c : Int) = some (gB c) := by
  have h : loopO (ref04_SimpleByte_b0 (LCo k) (c : Int)) 0 = some (if moreL.contains c then .inr true else .inl 17) := by
    have : ref04_SimpleByte_b0 (LCo k) (c : Int) = ref04_SimpleByte_b0 (LCn 1 1) (c : Int) := rfl
    rw [this]
    exact loopO_nextI (ref_more ⟨c, hc⟩)
  unfold ref04_SimpleByte
  have hl : (LCo k).run (ref04_SimpleByte_b0 (LCo k) (c : Int)) 0 = some (if moreL.contains c then .inr true else .inl 17) := h
  rw [hl]
  unfold gB
  generalize moreL.contains c = b
  by_cases h1 : 97 ≤ c
  · have h1' : (c : Int) ≥ 97 := by omega
    rw [if_pos h1']
    by_cases h2 : c ≤ 122
    · have h2' : (c : Int) ≤ 122 := by omega
      simp [h1, h2, h2']
    · have h2' : ¬ ((c : Int) ≤ 122) := by omega
      have h3 : (c : Int) ≥ 65 := by omega
      have h4 : ¬ ((c : Int) ≤ 90) := by omega
      have h5 : (c : Int) ≥ 48 := by omega
      have h6 : ¬ ((c : Int) ≤ 57) := by omega
      have h4' : ¬ (c ≤ 90) := by omega
      have h6' : ¬ (c ≤ 57) := by omega
      rw [if_neg h2', if_pos h3, if_neg h4, if_pos h5]
      cases b <;> simp [h2, h4', h6', h6]
  · have h1' : ¬ ((c : Int) ≥ 97) := by omega
    rw [if_neg h1']
    by_cases h3 : 65 ≤ c
    · have h3' : (c : Int) ≥ 65 := by omega
      rw [if_pos h3']
      by_cases h4 : c ≤ 90
      · have h4' : (c : Int) ≤ 90 := by omega
        simp [h3, h4, h4']
      · have h4' : ¬ ((c : Int) ≤ 90) := by omega
        have h5 : (c : Int) ≥ 48 := by omega
        have h6 : ¬ ((c : Int) ≤ 57) := by omega
        have h6' : ¬ (c ≤ 57) := by omega
        rw [if_neg h4', if_pos h5]
        cases b <;> simp [h1, h4, h6', h6]
    · have h3' : ¬ ((c : Int) ≥ 65) := by omega
      rw [if_neg h3']
      by_cases h5 : 48 ≤ c
      · have h5' : (c : Int) ≥ 48 := by omega
        rw [if_pos h5']
        by_cases h6 : c ≤ 57
        · have h6' : (c : Int) ≤ 57 := by omega
          simp [h5, h6, h6']
        · have h6' : ¬ ((c : Int) ≤ 57) := by omega
          cases b <;> simp [h1, h3, h6, h6']
      · have h5' : ¬ ((c : Int) ≥ 48) := by omega
        rw [if_neg h5']
        cases b <;> simp [h1, h3, h5]

/-- What the program asks of a byte. -/
noncomputable def askB (L : LC) (x6 : Int) : Option Bool :=
  Option.bind (sort_letter L x6) fun x8 =>
  if x8 = true then some false
  else if x6 < 48 then Option.bind (strings_IndexByte L (⟨#[126, 33, 64, 36, 37, 94, 38, 42, 95, 45, 43, 61, 60, 62, 46, 63, 47]⟩ : ByteArray) x6) fun x9 => some (decide (x9 < 0))
  else if x6 > 57 then Option.bind (strings_IndexByte L (⟨#[126, 33, 64, 36, 37, 94, 38, 42, 95, 45, 43, 61, 60, 62, 46, 63, 47]⟩ : ByteArray) x6) fun x10 => some (decide (x10 < 0))
  else some false

theorem ask_all : ∀ c : Fin 256, askB (LCn 1 1) ((c.val : Nat) : Int) = some (!gB c.val) := by decide +kernel

theorem ask_byte (k : Nat) {c : Nat} (hc : c < 256) : askB (LCo k) (c : Int) = some (!gB c) := ask_all ⟨c, hc⟩

def hasS (l : List ByteArray) (s : ByteArray) : Bool := l.any fun x => x.toList == s.toList

def simpS (s : ByteArray) : Bool := nameS s && !(decide (48 ≤ ((bs s).getD 0 0).toNat) && decide (((bs s).getD 0 0).toNat ≤ 57)) && (bs s).all (fun x => gB x.toNat) && !hasS wordsL s

theorem has_spec (k : Nat) {H : AH} {sl : Sl3} {xs : List ByteArray} (h : SlL StrA 1 H sl xs) (s : ByteArray) : ref04_has (LCo k) H sl s = some (hasS xs s) := by
  have hl : loopO (ref04_has_b0 (LCo k) H sl s) 0 = some (found xs.length ((List.range xs.length).findSome? (fun i => if ((xs.getD i ⟨#[]⟩).toList == s.toList) = true then some true else none))) := by
    refine loopO_up xs.length h.len _ (fun i hi => ?_) ?_
    · unfold ref04_has_b0
      have hn := h.n
      rw [if_pos (by omega)]
      obtain ⟨q, h1, h2⟩ := h.get hi (v := (i : Int)) rfl
      rw [h1]
      simp only [Option.bind_some]
      rw [h2.rd]
      simp only [deS, Option.bind_some]
      have : xs.getD i ⟨#[]⟩ = xs[i] := by simp [List.getD, hi]
      rw [this]
      cases (xs[i].toList == s.toList) <;> simp [stepO]
    · unfold ref04_has_b0
      have hn := h.n
      rw [if_neg (by omega)]
  unfold ref04_has
  show Option.bind (loopO (ref04_has_b0 (LCo k) H sl s) 0) _ = _
  rw [hl, find_any xs (fun x => x.toList == s.toList) true ⟨#[]⟩]
  unfold hasS
  cases xs.any fun x => x.toList == s.toList <;> simp [found]

theorem find_anyF {α R : Type} (l : List α) (bad : α → Bool) (f : Nat → R) (d : α) :
    ((List.range l.length).findSome? (fun i => if bad (l.getD i d) = true then some (f i) else none)).isSome = l.any bad ∧
      ∀ x, (List.range l.length).findSome? (fun i => if bad (l.getD i d) = true then some (f i) else none) = some x → ∃ i, x = f i := by
  constructor
  · induction l generalizing f with
    | nil => rfl
    | cons x l ih =>
      rw [List.length_cons, List.range_succ_eq_map, List.findSome?_cons, List.any_cons]
      cases hx : bad x with
      | true => simp [hx]
      | false =>
        simp only [List.getD_cons_zero, hx, Bool.false_eq_true, if_false, Bool.false_or, List.findSome?_map, Function.comp_def, List.getD_cons_succ]
        exact ih (fun i => f (i + 1))
  · intro x h
    obtain ⟨i, _, hi⟩ := List.exists_of_findSome?_eq_some h
    split at hi
    · cases hi; exact ⟨i, rfl⟩
    · cases hi

theorem contains_spec (k : Nat) {H : AH} {sl : Sl3} {xs : List ByteArray} (h : SlL StrA 1 H sl xs) (s : ByteArray) : slices_Contains_94 (LCo k) H sl s = some (hasS xs s) := by
  have hl : loopO (slices_Index_101_b0 (LCo k) H sl s) 0 = some (found xs.length ((List.range xs.length).findSome? (fun i => if (s.toList == (xs.getD i ⟨#[]⟩).toList) = true then some (i : Int) else none))) := by
    refine loopO_up xs.length h.len _ (fun i hi => ?_) ?_
    · unfold slices_Index_101_b0
      have hn := h.n
      rw [if_pos (by omega)]
      obtain ⟨q, h1, h2⟩ := h.get hi (v := (i : Int)) rfl
      rw [h1]
      simp only [Option.bind_some]
      rw [h2.rd]
      simp only [deS, Option.bind_some]
      have : xs.getD i ⟨#[]⟩ = xs[i] := by simp [List.getD, hi]
      rw [this]
      cases (s.toList == xs[i].toList) <;> simp [stepO]
    · unfold slices_Index_101_b0
      have hn := h.n
      rw [if_neg (by omega)]
  unfold slices_Contains_94 slices_Index_101
  show Option.bind (Option.bind (loopO (slices_Index_101_b0 (LCo k) H sl s) 0) _) _ = _
  rw [hl]
  obtain ⟨k1, k2⟩ := find_anyF xs (fun x => s.toList == x.toList) (fun i => (i : Int)) ⟨#[]⟩
  have k3 : (xs.any fun x => s.toList == x.toList) = hasS xs s := by
    unfold hasS
    congr 1
    funext x
    exact BEq.comm
  rw [k3] at k1
  generalize hq : (List.range xs.length).findSome? (fun i => if (s.toList == (xs.getD i ⟨#[]⟩).toList) = true then some (i : Int) else none) = q at k1 k2
  cases q with
  | none => rw [← k1]; rfl
  | some x =>
    rw [← k1]
    obtain ⟨i, rfl⟩ := k2 x rfl
    have : (i : Int) ≥ 0 := by omega
    simp [found, this]

end Go.Proofs.YtccbilfbhecdaaaDoor


namespace Go.Proofs.YtccbilfbhecdaaaDoor
open Go Go.Abs

theorem fields_run (L : LC) (m : Nat) {H : AH} (h : HasT H) : ∃ z H', strings_Fields L m H wordsV = some (z, H') ∧ SlL StrA 1 H' z wordsL ∧ Ext H H' := by
  unfold strings_Fields
  rw [if_pos ⟨rfl, h⟩]
  refine ⟨_, _, rfl, ?_, Fm.push _ _ _⟩
  exact SlL.push (xs := wordsL) (b := wordsB) (c := (wordsL.map Value.string).toArray) (e := 9) (f := (0, 0)) rfl (by rw [maxN_eq]; decide) fun i hi => Cel.push (b := wordsB) rfl (by simp [hi])

theorem awake_run (L : LC) {H : AH} (h : HasT H) : law04_awake L H = some true := by
  unfold law04_awake
  rw [if_pos h]

end Go.Proofs.YtccbilfbhecdaaaDoor


namespace Go.Proofs.YtccbilfbhecdaaaDoor
open Go Go.Abs Go.ChangeShapes Go.WideShapes
set_option maxRecDepth 100000

theorem own : ownKnob Tryd.prog.godebug = none := by kernel_rfl
theorem laidOut : laidOutB Tryd.prog = true := by kernel_rfl
theorem globals_ok : globalsB Tryd.prog = true := by kernel_rfl
theorem sane : Sane Tryd.prog (NE.plain 1000) := sane_of (fun _ _ _ => rfl) (by kernel_rfl) (by kernel_rfl) (by kernel_rfl)

theorem laid_met (os : Os) (args : Array Value) : laidMet Tryd.prog Rows.sortNamesUptoRow.laid ((laidW2 Tryd.prog Rows.sortNamesUptoRow.laid os).forCall (fun _ _ => 0) ⟨#[], args, []⟩).memory :=
  laidMet_of_run3 8 (by kernel_rfl) (by kernel_rfl) (by kernel_rfl)

theorem tabs_met (W : World) (hL : laidMet Tryd.prog Rows.sortNamesUptoRow.laid W) (hsh : W.ShapedOpen Tryd.prog) : ∀ x ∈ tabs, ∃ fr, W.heap[x.1]? = some (.cells x.2.2 x.2.1 fr) := by
  intro x hx
  simp only [tabs, List.mem_cons, List.not_mem_nil, or_false] at hx
  rcases hx with rfl | rfl | rfl | rfl
  · exact tab_met (name := "strings.asciiSpace") (te := 5) (n := 256) (t := 130) hL (by kernel_rfl) (by kernel_rfl) (by kernel_rfl) (by kernel_rfl) (by kernel_rfl) (by kernel_rfl) (by kernel_rfl) (of_decide_eq_true (by kernel_rfl)) (by kernel_rfl) hsh
  · exact tab_met (name := "internal/strconv.uint64pow10") (te := 141) (n := 20) (t := 159) hL (by kernel_rfl) (by kernel_rfl) (by kernel_rfl) (by kernel_rfl) (by kernel_rfl) (by kernel_rfl) (by kernel_rfl) (of_decide_eq_true (by kernel_rfl)) (by kernel_rfl) hsh
  · exact tab_met (name := "math/bits.deBruijn32tab") (te := 5) (n := 32) (t := 165) hL (by kernel_rfl) (by kernel_rfl) (by kernel_rfl) (by kernel_rfl) (by kernel_rfl) (by kernel_rfl) (by kernel_rfl) (of_decide_eq_true (by kernel_rfl)) (by kernel_rfl) hsh
  · exact tab_met (name := "math/bits.deBruijn64tab") (te := 5) (n := 64) (t := 166) hL (by kernel_rfl) (by kernel_rfl) (by kernel_rfl) (by kernel_rfl) (by kernel_rfl) (by kernel_rfl) (by kernel_rfl) (of_decide_eq_true (by kernel_rfl)) (by kernel_rfl) hsh

theorem hasT_start : HasT H0 := by
  intro x hx
  simp only [tabs, List.mem_cons, List.not_mem_nil, or_false] at hx
  rcases hx with rfl | rfl | rfl | rfl <;> exact ⟨by kernel_rfl, by rw [show H0.next = Tryd.prog.globals.size from startH_next tabs, globals7]; decide⟩

theorem start_at {W : World} (hg : Tryd.prog.globals.size ≤ W.heap.size) (hL : laidMet Tryd.prog Rows.sortNamesUptoRow.laid W) (hsh : W.ShapedOpen Tryd.prog) : Imp Tryd.prog (φg Tryd.prog) H0 W :=
  Imp.startT hg tabs_ok (tabs_met W hL hsh)

namespace bulks
end bulks

section
variable {H : Type} {enc : TypeId × Value → H} {W : World} {φ : Inj}

/-- A text that comes in. -/
theorem open_str {base : Nat} {v : Value} {d : DataW H} {ps : List MemPlace} {t : TypeId} (ht : Tryd.prog.underlying t = some .string) (hv : Value.okWide Tryd.prog W .any base t v) (hd : DataW.Trod enc Tryd.prog W 0 (fun _ => true) true t v d ps)
    (hb : (d.weights Tryd.prog t).all (· ≤ reachBytes) = true) : ∃ s, v = .string s ∧ s.size ≤ 140737488351232 := by
  obtain ⟨s, rfl, rfl, _, _⟩ := Go.ChangeMaps.open_string ht hv hd
  refine ⟨s, rfl, ?_⟩
  simp only [DataW.weights, List.all_cons, List.all_nil, Bool.and_true, decide_eq_true_eq] at hb
  have h2 : s.data.toList.length = s.size := by simp
  have : reachBytes = 140737488351232 := rfl
  omega

theorem ar1 {a a' : Value} (h : VR φ a a') : AR φ #[a] #[a'] := by
  refine ⟨rfl, fun i x y hx hy => ?_⟩
  match i, hx, hy with
  | 0, hx, hy => simp at hx hy; subst hx hy; exact h
  | i + 1, hx, _ => simp at hx

end

end Go.Proofs.YtccbilfbhecdaaaDoor


namespace Go.Proofs.YtccbilfbhecdaaaDoor
open Go Go.Abs
set_option maxRecDepth 100000

theorem HasT.ext {H H' : AH} (h : HasT H) (hf : Ext H H') : HasT H' := fun x hx =>
  ⟨hf.2 _ _ (h x hx).2 (fun h => h) (h x hx).1, Nat.lt_of_lt_of_le (h x hx).2 hf.1⟩

theorem any_bytes (s : ByteArray) (p : UInt8 → Bool) (hs : s.size ≤ maxN) {R : Type} (r : R) {body : Int → Option (Lp Int R)}
    (hb : ∀ (i : Nat) (c : Nat), i < s.size → bytA s (i : Int) = some (c : Int) → c < 256 → (∀ x : UInt8, x.toNat = c → body (i : Int) = some (if p x = true then .ret r else .next (IntKind.i64.wrap ((i : Int) + 1)))))
    (he : body (s.size : Int) = some (.brk (s.size : Int))) : loopO body 0 = some (if (bs s).any p = true then .inr r else .inl (s.size : Int)) := by
  have hl := loopO_up (body := body) s.size hs (fun i => if p ((bs s).getD i 0) = true then some r else none) (fun i hi => by
    have h1 := hb i _ hi (bytA_bs hi rfl) (by exact UInt8.toNat_lt _) ((bs s).getD i 0) rfl
    rw [h1]
    cases p ((bs s).getD i 0) <;> rfl) he
  rw [hl, ← bs_len, find_any (bs s) p r 0]
  cases (bs s).any p <;> rfl

theorem simple_loop (k : Nat) (H : AH) {s : ByteArray} (hs : s.size ≤ maxN) : loopO (sort_simple_b0 (LCo k) H s) 0 = some (if (bs s).any (fun x => !gB x.toNat) = true then .inr (false, H) else .inl (s.size : Int)) := by
  refine any_bytes s _ hs _ (fun i c hi hc h256 x hx => ?_) ?_
  · unfold sort_simple_b0
    rw [if_pos (by omega), hc]
    simp only [Option.bind_some]
    have := ask_byte k h256
    unfold askB at this
    rw [this, ← hx]
    simp only [Option.bind_some]
    cases gB x.toNat <;> rfl
  · unfold sort_simple_b0
    rw [if_neg (by omega)]

theorem reserved_spec (k m : Nat) {H : AH} (hT : HasT H) (s : ByteArray) : ∃ H', sort_reserved (LCo k) m H s = some (hasS wordsL s, H') ∧ Ext H H' := by
  obtain ⟨z, H', h1, h2, h3⟩ := fields_run (LCo k) m hT
  refine ⟨H', ?_, h3⟩
  unfold sort_reserved
  unfold wordsV at h1
  rw [h1]
  simp only [Option.bind_some]
  rw [contains_spec k h2]
  rfl

theorem digit_ask {c : Nat} : (if (c : Int) ≥ 48 then some (decide ((c : Int) ≤ 57)) else some false) = some (decide (48 ≤ c) && decide (c ≤ 57)) := by
  by_cases h : 48 ≤ c
  · rw [if_pos (by omega)]
    by_cases h2 : c ≤ 57
    · have : (c : Int) ≤ 57 := by omega
      simp [h, h2, this]
    · have : ¬ ((c : Int) ≤ 57) := by omega
      simp [h, h2, this]
  · rw [if_neg (by omega)]
    simp [h]

theorem any_not {l : List UInt8} : (l.any fun x => !gB x.toNat) = !(l.all fun x => gB x.toNat) := by
  induction l with
  | nil => rfl
  | cons x l ih => rw [List.any_cons, List.all_cons, ih]; cases gB x.toNat <;> rfl

theorem name_pos {s : ByteArray} (h : nameS s = true) : 0 < s.size ∧ s.size ≤ 200 := by
  unfold nameS at h
  simp only [Bool.and_eq_true, Bool.not_eq_true', Bool.or_eq_false_iff, decide_eq_false_iff_not] at h
  omega

theorem simple_spec (k m : Nat) {H : AH} (hT : HasT H) {s : ByteArray} (hs : s.size ≤ maxN) : ∃ H', sort_simple (LCo k) m H s = some (simpS s, H') ∧ Ext H H' := by
  unfold sort_simple
  rw [Name_spec k hs]
  simp only [Option.bind_some]
  cases hn : nameS s with
  | false =>
    refine ⟨H, ?_, Fm.refl _ _⟩
    simp [simpS, hn]
  | true =>
    have hp := (name_pos hn).1
    simp only [if_true]
    rw [bytA_bs hp (v := 0) rfl]
    simp only [Option.bind_some]
    rw [digit_ask]
    simp only [Option.bind_some]
    cases hd : (decide (48 ≤ ((bs s).getD 0 0).toNat) && decide (((bs s).getD 0 0).toNat ≤ 57)) with
    | true =>
      refine ⟨H, ?_, Fm.refl _ _⟩
      simp only [if_true]
      unfold simpS
      rw [hn, hd]
      rfl
    | false =>
      simp only [Bool.false_eq_true, if_false]
      show ∃ H', Option.bind (loopO (sort_simple_b0 (LCo k) H s) 0) _ = _ ∧ _
      rw [simple_loop k H hs, any_not]
      cases ha : (bs s).all fun x => gB x.toNat with
      | false =>
        refine ⟨H, ?_, Fm.refl _ _⟩
        unfold simpS
        rw [hn, hd, ha]
        rfl
      | true =>
        obtain ⟨H', h1, h2⟩ := reserved_spec k m hT s
        refine ⟨H', ?_, h2⟩
        simp only [Bool.not_true, Bool.false_eq_true, if_false, Option.bind_some]
        rw [h1]
        unfold simpS
        rw [hn, hd, ha]
        rfl

theorem newR_str (e : TypeId) (l : List ByteArray) (hl : l.length ≤ maxN) (H : AH) : ∃ z H', newR e l.length (l.map Value.string).toArray H = some (z, H') ∧ SlL StrA 1 H' z l ∧ Ext H H' := by
  refine ⟨_, _, rfl, SlL.push (xs := l) rfl hl fun i hi => ?_, Fm.push _ _ _⟩
  exact Cel.push rfl (by simp [hi])

theorem refReserved_spec (k m : Nat) {H : AH} (s : ByteArray) : ∃ H', ref04_Reserved (LCo k) m H s = some (hasS wordsL s, H') ∧ Ext H H' := by
  obtain ⟨z, H', h1, h2, h3⟩ := newR_str 9 wordsL (by rw [maxN_eq]; decide) H
  refine ⟨H', ?_, h3⟩
  have : ref04_Reserved (LCo k) m H s = Option.bind (newR 9 wordsL.length (wordsL.map Value.string).toArray H) fun (s1, H2) => Option.bind (ref04_has (LCo k) H2 s1 s) fun x3 => some (x3, H2) := rfl
  rw [this, h1]
  simp only [Option.bind_some]
  rw [has_spec k h2]
  rfl

theorem refSimple_loop (k : Nat) (H : AH) {s : ByteArray} (hs : s.size ≤ maxN) : loopO (ref04_Simple_b0 (LCo k) s H) 0 = some (if (bs s).any (fun x => !gB x.toNat) = true then .inr (false, H) else .inl (s.size : Int)) := by
  refine any_bytes s _ hs _ (fun i c hi hc h256 x hx => ?_) ?_
  · unfold ref04_Simple_b0
    rw [if_pos (by omega), hc]
    simp only [Option.bind_some]
    rw [ref_byte k h256, ← hx]
    simp only [Option.bind_some]
    cases gB x.toNat <;> rfl
  · unfold ref04_Simple_b0
    rw [if_neg (by omega)]

theorem refSimple_spec (k m : Nat) {H : AH} {s : ByteArray} (hs : s.size ≤ maxN) : ∃ H', ref04_Simple (LCo k) m H s = some (simpS s, H') ∧ Ext H H' := by
  unfold ref04_Simple
  rw [refName_spec k hs]
  simp only [Option.bind_some]
  cases hn : nameS s with
  | false =>
    refine ⟨H, ?_, Fm.refl _ _⟩
    simp [simpS, hn]
  | true =>
    have hp := (name_pos hn).1
    simp only [if_true]
    rw [bytA_bs hp (v := 0) rfl]
    simp only [Option.bind_some]
    obtain ⟨H', h1, h2⟩ := refReserved_spec k m (H := H) s
    rw [h1]
    simp only [Option.bind_some]
    have fin : ∀ {d : Bool}, (decide (48 ≤ ((bs s).getD 0 0).toNat) && decide (((bs s).getD 0 0).toNat ≤ 57)) = false → 
        ∃ H'_1, (if hasS wordsL s = true then some (false, H') else Option.bind ((LCo k).run (ref04_Simple_b0 (LCo k) s H') 0) fun o => match o with | .inl _ => some (true, H') | .inr r => some r) = some (simpS s, H'_1) ∧ Ext H H'_1 := by
      intro _ hd
      refine ⟨H', ?_, h2⟩
      cases hw : hasS wordsL s with
      | true =>
        simp [simpS, hw]
      | false =>
        simp only [Bool.false_eq_true, if_false]
        show Option.bind (loopO (ref04_Simple_b0 (LCo k) s H') 0) _ = _
        rw [refSimple_loop k H' hs, any_not]
        unfold simpS
        rw [hn, hd, hw]
        cases (bs s).all fun x => gB x.toNat <;> rfl
    by_cases h48 : 48 ≤ ((bs s).getD 0 0).toNat
    · rw [if_pos (by omega)]
      by_cases h57 : ((bs s).getD 0 0).toNat ≤ 57
      · rw [if_pos (by omega)]
        refine ⟨H, ?_, Fm.refl _ _⟩
        unfold simpS
        rw [decide_eq_true h48, decide_eq_true h57, hn]
        rfl
      · rw [if_neg (by omega)]
        exact fin (d := true) (by rw [decide_eq_false h57, Bool.and_false])
    · rw [if_neg (by omega)]
      exact fin (d := true) (by rw [decide_eq_false h48, Bool.false_and])

def quoteS (s : ByteArray) : ByteArray := if simpS s = true then s else (⟨#[124]⟩ ++ s) ++ ⟨#[124]⟩

theorem strcat_ok {a b : ByteArray} (h : a.size + b.size ≤ maxN) : strcat a b = some (a ++ b) := by
  unfold strcat
  have : IntKind.i64.max = 9223372036854775807 := by decide
  rw [maxN_eq] at h
  rw [if_neg (by rw [this]; omega)]

theorem bars {s : ByteArray} (hs : s.size ≤ 4611686018427387904) : (Option.bind (strcat (⟨#[124]⟩ : ByteArray) s) fun s3 => strcat s3 (⟨#[124]⟩ : ByteArray)) = some ((⟨#[124]⟩ ++ s) ++ ⟨#[124]⟩) := by
  have h1 : (⟨#[124]⟩ : ByteArray).size = 1 := rfl
  rw [strcat_ok (by rw [maxN_eq, h1]; omega)]
  simp only [Option.bind_some]
  rw [strcat_ok (by rw [ByteArray.size_append, maxN_eq, h1]; omega)]

theorem Quote_spec (k m : Nat) {H : AH} (hT : HasT H) {s : ByteArray} (hs : s.size ≤ 4611686018427387904) : ∃ H', sort_Quote (LCo k) m H s = some (quoteS s, H') ∧ Ext H H' := by
  obtain ⟨H', h1, h2⟩ := simple_spec k m hT (s := s) (by rw [maxN_eq]; omega)
  refine ⟨H', ?_, h2⟩
  unfold sort_Quote quoteS
  rw [h1]
  simp only [Option.bind_some]
  cases simpS s with
  | true => rfl
  | false =>
    have hb := bars hs
    simp only [Bool.false_eq_true, if_false]
    cases h3 : strcat (⟨#[124]⟩ : ByteArray) s with
    | none => rw [h3] at hb; cases hb
    | some x =>
      rw [h3] at hb
      simp only [Option.bind_some] at hb ⊢
      rw [hb]
      rfl

theorem refQuote_spec (k m : Nat) {H : AH} {s : ByteArray} (hs : s.size ≤ 4611686018427387904) : ∃ H', ref04_Quote (LCo k) m H s = some (quoteS s, H') ∧ Ext H H' := by
  obtain ⟨H', h1, h2⟩ := refSimple_spec k m (H := H) (s := s) (by rw [maxN_eq]; omega)
  refine ⟨H', ?_, h2⟩
  unfold ref04_Quote quoteS
  rw [h1]
  simp only [Option.bind_some]
  cases simpS s with
  | true => rfl
  | false =>
    have hb := bars hs
    simp only [Bool.false_eq_true, if_false]
    cases h3 : strcat (⟨#[124]⟩ : ByteArray) s with
    | none => rw [h3] at hb; cases hb
    | some x =>
      rw [h3] at hb
      simp only [Option.bind_some] at hb ⊢
      rw [hb]
      rfl

theorem Names_true (k m : Nat) {H : AH} (hT : HasT H) {s : ByteArray} (hs : s.size ≤ 4611686018427387904) : ∃ H', law04_SortNames (LCo k) m H s = some (true, H') := by
  unfold law04_SortNames
  rw [Name_spec k (by rw [maxN_eq]; omega), refName_spec k (by rw [maxN_eq]; omega)]
  obtain ⟨H1, h1, e1⟩ := Quote_spec k m hT hs
  obtain ⟨H2, h2, e2⟩ := refQuote_spec k m (H := H1) hs
  simp only [Option.bind_some, beq_self_eq_true, if_true]
  rw [h1]
  simp only [Option.bind_some]
  rw [h2]
  simp only [Option.bind_some, beq_self_eq_true, if_true]
  rw [awake_run _ ((hT.ext e1).ext e2)]
  exact ⟨H2, rfl⟩

end Go.Proofs.YtccbilfbhecdaaaDoor


namespace Go.Proofs.YtccbilfbhecdaaaDoor
open Go Go.Abs Go.ChangeShapes Go.WideShapes
set_option maxRecDepth 100000

theorem names_calls {H : Type} {enc : TypeId × Value → H} {W : World} {base : Nat} {args : Array Value} {ds : List (DataW H)} {ps : List MemPlace} (hg : Tryd.prog.globals.size ≤ W.heap.size)
    (hval : ∀ (j : Nat) t v, Tryd.f3.params[j]? = some t → args[j]? = some v → Value.okWide Tryd.prog W .any base t v)
    (hA : DataW.TrodAll enc Tryd.prog W 0 (fun _ => true) true Tryd.f3.params.toList args.toList ds ps) (hL : laidMet Tryd.prog Rows.sortNamesUptoRow.laid W) (hsh : W.ShapedOpen Tryd.prog)
    (hwt : (DataW.weightsEach Tryd.prog (Tryd.f3.params.toList ++ []) ds).all (· ≤ reachBytes) = true) :
    Calls Tryd.prog 3 args W fun e W' => e = .returned (.bool true) ∧ RowKit.Below W.heap.size W W' := by
  rw [Tryd.params3] at hA hval hwt
  obtain ⟨v0, vs0, d0, ds0, p0, q0, hargs, rfl, rfl, h0, r0⟩ := trodAll_cons hA
  obtain ⟨rfl, rfl, rfl⟩ := trodAll_nil r0
  obtain rfl : args = #[v0] := by cases args; simp_all
  simp only [List.append_nil, DataW.weightsEach] at hwt
  obtain ⟨s, rfl, hs⟩ := open_str Tryd.underlying9 (hval 0 9 v0 rfl rfl) h0 hwt
  obtain ⟨H', hr⟩ := Names_true 1 H0.next hasT_start (s := s) (by omega)
  exact true_of_callI (ne := NE.plain 1000) sane (law04_SortNames_ok hr) (start_at hg hL hsh) (ar1 (.string s))

theorem names_reads (os : Os) {H : Type} (enc : TypeId × Value → H) : ∃ x, DataW.whole enc Tryd.prog ((laidW2 Tryd.prog Rows.sortNamesUptoRow.laid os).forCall (fun _ _ => 0) ⟨#[], #[.string ⟨#[]⟩], []⟩).memory Tryd.f3.params.toList Rows.sortNamesSpec.vars false #[Value.string ⟨#[]⟩].toList 8 = some ([.lit (.string [])], [], x) :=
  ⟨[], by kernel_rfl⟩

theorem names_lifted (os : Os) (started : os.Started) (H : Type) (enc : TypeId × Value → H) (F : Stop.Interp) :
    ReturnsInHanded {} Tryd.checked os 3 .any ((Rows.OpenSpec.upto Rows.sortNamesSpec).preRow enc Tryd.prog Tryd.f3 Rows.sortNamesUptoRow.domain false Rows.sortNamesUptoRow.laid) (((Rows.OpenSpec.upto Rows.sortNamesSpec).at F).post enc Tryd.prog Tryd.f3 false true false false) := by
  obtain ⟨x, hx⟩ := names_reads os enc
  exact lifted_row_tabs (C := Tryd.checked) (s := Rows.OpenSpec.upto Rows.sortNamesSpec) (k := Rows.uptoSmall) rfl own started (by kernel_rfl) Tryd.func3 globals_ok laidOut (by kernel_rfl) rfl (by kernel_rfl)
    (fun ds hds => by
      have h1 : ds.length = 1 := hds
      match ds, h1 with
      | [d], _ => exact ⟨rfl, rfl, rfl⟩)
    rfl (by kernel_rfl)
    (witness_row_atRef (enc := enc) (C := Tryd.checked) false (laidW2 Tryd.prog Rows.sortNamesUptoRow.laid os) #[.string ⟨#[]⟩] rfl (by kernel_rfl) (by kernel_rfl) (by kernel_rfl)
      (OpenSpec.preRow_of_cond 8 hx (by kernel_rfl) (fun k hk => by cases hk; kernel_rfl) (by kernel_rfl) (laid_met os _)))
    (fun W base args ds ps hg hval hA _ hL hsh hwt => names_calls hg hval hA hL hsh hwt)

theorem names_said : Rows.SortNamesUptoSaid :=
  OpenClaim.holds_of_cond 3 Tryd.f3 rfl rfl rfl rfl rfl rfl rfl ⟨rfl, rfl, rfl, rfl, rfl⟩ rfl rfl rfl rfl rfl (by kernel_rfl) Tryd.func3 (by kernel_rfl)
    (of_decide_eq_true (by kernel_rfl)) (by unfold Func.isWrapper; first | (rw [if_pos (by decide +kernel)]; kernel_rfl) | (rw [if_neg (by decide +kernel)]; exact ⟨rfl, rfl⟩))
    (fun os started H enc _ F => by rw [OpenClaim.pre_eq_preRow]; exact names_lifted os started H enc F)

theorem names_plain (f : FuncId) (fn : Func) (hf : Tryd.pinned.checked.prog.funcNamed "tribunal/tribunallaw04.SortNames" = some f) (hfn : Tryd.pinned.checked.prog.funcs[f]? = some fn) :
    false = Tryd.pinned.checked.prog.looks [] ∧ ∀ (j : Nat) t, fn.params[j]? = some t → Tryd.pinned.checked.prog.wantsStandIn t = false := by
  obtain rfl : f = 3 := Option.some.inj ((show Tryd.prog.funcNamed "tribunal/tribunallaw04.SortNames" = some 3 by kernel_rfl).symm.trans hf) |>.symm
  obtain rfl : fn = Tryd.f3 := (Option.some.inj (Tryd.func3.symm.trans hfn)).symm
  exact ⟨by kernel_rfl, fun j t ht => by
    have hall : (Tryd.f3.params.toList.all fun u => !Tryd.prog.wantsStandIn u) = true := by kernel_rfl
    have hm : t ∈ Tryd.f3.params.toList := by simpa using Array.mem_of_getElem? ht
    exact (show Tryd.prog.wantsStandIn t = false by simpa using List.all_eq_true.1 hall t hm)⟩

theorem sortNames_holds : Rows.SortNamesUptoCardSaid :=
  Claim7.holds_tied_plain_at .later [] _ _ _ _ names_said (fun _ h => by cases h) (by kernel_rfl) (fun _ h => by cases h) sortNamesUpto_row_tie rfl ⟨rfl, rfl⟩ (by kernel_rfl) rfl names_plain (by kernel_rfl)

#print axioms sortNames_holds
end Go.Proofs.YtccbilfbhecdaaaDoor

