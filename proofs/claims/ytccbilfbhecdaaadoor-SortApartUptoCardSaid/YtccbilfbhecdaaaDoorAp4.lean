/- Parts of the proof: an abstract interpreter of the loaded program and its soundness, printed functions, the law's own texts; part 4. No condition. -/
import Derived.Test.YtccbilfbhecdaaaDoorAp3
import Derived.Test.YtccbilfbhecdaaaDoorChecked
import Derived.Test.YtccbilfbhecdaaaDoorRows
import Derived.Test.YtccbilfbhecdaaaDoorCards
import Derived.Test.YtccbilfbhecdaaaDoorTie
import Derived.Deep.DeepWitnessRowRef
import Derived.ChangeMaps5
namespace Go.Proofs.YtccbilfbhecdaaaDoor.Aw
open Go Go.Abs
set_option maxRecDepth 100000

def strings_Fields_enc : (Sl3 × AH) → Value
  | (r0, _) => (Sl3.v r0)

def strings_Fields_hp (_ : AH) : (Sl3 × AH) → AH := fun r => r.2

noncomputable def B95 : Code := (Tryd.f95.body).getD .skip

noncomputable def strings_Fields_b0 (_L : LC) (H : AH) (a0 : ByteArray) : (Int × Int × Int × Int) → Option (Lp (Int × Int × Int × Int) (Sl3 × AH)) := fun (v3_1, v4_2, v5_3, v6_4) =>
  if v6_4 < (a0.size : Int) then
    Option.bind (bytA a0 v6_4) fun x5 =>
    Option.bind (idxR 1 256 (⟨0, 0, none⟩ : Addr) x5) fun p6 =>
    Option.bind (rd (deI .u8) H p6) fun x7 =>
    some (.next ((IntKind.i64.wrap (v3_1 + (iand .i64 v4_2 (ixor .i64 (-1) (IntKind.i64.wrap x7))))), (IntKind.i64.wrap x7), (ior .u8 v5_3 x5), (IntKind.i64.wrap (v6_4 + 1))))
  else
    some (.brk (v3_1, v4_2, v5_3, v6_4))

def strings_Fields_b0_kn (_L : LC) (_H : AH) (a0 : ByteArray) : (Int × Int × Int × Int) → KN := fun (v3_1, v4_2, v5_3, v6_4) => [(3, .val (Value.int .i64 v3_1)), (4, .val (Value.int .i64 v4_2)), (5, .val (Value.int .u8 v5_3)), (6, .val (Value.int .i64 v6_4)), (0, .val (Value.string a0))]

def strings_Fields_b0_ls (_L : LC) (_H : AH) (_a0 : ByteArray) : (Int × Int × Int × Int) → Lcs := fun (_, _, _, _) => []

noncomputable def strings_Fields_b1 (_L : LC) (a0 : ByteArray) (_s12 : Sl3) (H13 : AH) : Int → Option (Lp Int (Sl3 × AH)) := fun v12_14 =>
  if v12_14 < (a0.size : Int) then
    Option.bind (bytA a0 v12_14) fun x15 =>
    Option.bind (idxR 1 256 (⟨0, 0, none⟩ : Addr) x15) fun p16 =>
    Option.bind (rd (deI .u8) H13 p16) fun x17 =>
    if x17 = 0 then
      some (.brk v12_14)
    else
      none
  else
    none

def strings_Fields_b1_kn (_L : LC) (a0 : ByteArray) (s12 : Sl3) (_H13 : AH) : Int → KN := fun v12_14 => [(12, .val (Value.int .i64 v12_14)), (0, .val (Value.string a0)), (9, .val (Sl3.v s12)), (10, .val (Value.int .i64 0))]

def strings_Fields_b1_ls (_L : LC) (_a0 : ByteArray) (_s12 : Sl3) (_H13 : AH) : Int → Lcs := fun _ => []

noncomputable def strings_Fields_b3 (_L : LC) (a0 : ByteArray) (_s12 : Sl3) (_v10_20 : Int) (H28 : AH) : Int → Option (Lp Int (Sl3 × AH)) := fun v12_29 =>
  if v12_29 < (a0.size : Int) then
    Option.bind (bytA a0 v12_29) fun x30 =>
    Option.bind (idxR 1 256 (⟨0, 0, none⟩ : Addr) x30) fun p31 =>
    Option.bind (rd (deI .u8) H28 p31) fun x32 =>
    if x32 = 0 then
      some (.brk v12_29)
    else
      none
  else
    none

def strings_Fields_b3_kn (_L : LC) (a0 : ByteArray) (s12 : Sl3) (v10_20 : Int) (_H28 : AH) : Int → KN := fun v12_29 => [(12, .val (Value.int .i64 v12_29)), (0, .val (Value.string a0)), (9, .val (Sl3.v s12)), (10, .val (Value.int .i64 (IntKind.i64.wrap (v10_20 + 1))))]

def strings_Fields_b3_ls (_L : LC) (_a0 : ByteArray) (_s12 : Sl3) (_v10_20 : Int) (_H28 : AH) : Int → Lcs := fun _ => []

noncomputable def strings_Fields_b2 (L : LC) (m : Nat) (a0 : ByteArray) (s12 : Sl3) : (AH × Int × Int × Int) → Option (Lp (AH × Int × Int × Int) (Sl3 × AH)) := fun (H19, v10_20, v11_21, v12_22) =>
  if v12_22 < (a0.size : Int) then
    Option.bind (bytA a0 v12_22) fun x23 =>
    Option.bind (idxR 1 256 (⟨0, 0, none⟩ : Addr) x23) fun p24 =>
    Option.bind (rd (deI .u8) H19 p24) fun x25 =>
    if x25 = 0 then
      some (.next (H19, v10_20, v11_21, (IntKind.i64.wrap (v12_22 + 1))))
    else
      Option.bind (strC a0 (some v11_21) (some v12_22)) fun s26 =>
      Option.bind (idxA 1 s12 v10_20) fun p27 =>
      Option.bind (H19.setCell m p27 (Value.string s26)) fun H28 =>
      Option.bind (L.run (strings_Fields_b3 L a0 s12 v10_20 H28) (IntKind.i64.wrap (v12_22 + 1))) fun o => match o with
      | .inl v12_33 =>
        some (.next (H28, (IntKind.i64.wrap (v10_20 + 1)), v12_33, v12_33))
      | .inr r => some (.ret r)
  else
    some (.brk (H19, v10_20, v11_21, v12_22))

def strings_Fields_b2_kn (_L : LC) (_m : Nat) (a0 : ByteArray) (s12 : Sl3) : (AH × Int × Int × Int) → KN := fun (_, v10_20, v11_21, v12_22) => [(10, .val (Value.int .i64 v10_20)), (11, .val (Value.int .i64 v11_21)), (12, .val (Value.int .i64 v12_22)), (0, .val (Value.string a0)), (9, .val (Sl3.v s12))]

def strings_Fields_b2_ls (_L : LC) (_m : Nat) (_a0 : ByteArray) (_s12 : Sl3) : (AH × Int × Int × Int) → Lcs := fun (_, _, _, _) => []

noncomputable def strings_Fields (L : LC) (m : Nat) (H : AH) (a0 : ByteArray) : Option (Sl3 × AH) :=
  Option.bind (L.run (strings_Fields_b0 L H a0) (0, 1, 0, 0)) fun o => match o with
  | .inl (v3_8, _, v5_10, _) =>
    if v5_10 ≥ 128 then
      none
    else
      Option.bind (mkS 9 1 16 #[(Value.string (⟨#[]⟩ : ByteArray))] H v3_8 v3_8) fun (s12, H13) =>
      Option.bind (L.run (strings_Fields_b1 L a0 s12 H13) 0) fun o => match o with
      | .inl v12_18 =>
        Option.bind (L.run (strings_Fields_b2 L m a0 s12) (H13, 0, v12_18, v12_18)) fun o => match o with
        | .inl (H34, v10_35, v11_36, _) =>
          if v11_36 < (a0.size : Int) then
            Option.bind (strC a0 (some v11_36) none) fun s38 =>
            Option.bind (idxA 1 s12 v10_35) fun p39 =>
            Option.bind (H34.setCell m p39 (Value.string s38)) fun H40 =>
            some (s12, H40)
          else
            none
        | .inr r => some r
      | .inr r => some r
  | .inr r => some r

theorem strings_Fields_b0_ok {E : Ent} {m : Nat} {L : LC} {H : AH} {a0 : ByteArray}  : ∀ s o, strings_Fields_b0 L H a0 s = some o →
    WS Tryd.prog (NE.plain 1000) m E Tryd.f95.ntmps (cfst (cfst (csnd (cfst (csnd (csnd (csnd (csnd B95)))))))) (strings_Fields_b0_kn L H a0 s) (strings_Fields_b0_ls L H a0 s) ((fun _ => H) s) (lpS Tryd.prog (NE.plain 1000) m E Tryd.f95.ntmps (strings_Fields_b0_kn L H a0) (strings_Fields_b0_ls L H a0) (fun _ => H) 0 (fun r => RT Tryd.prog (NE.plain 1000) m E Tryd.f95 (strings_Fields_enc r) (strings_Fields_hp H r)) o) := by
  rintro ⟨v3_1, v4_2, v5_3, v6_4⟩ o h
  unfold strings_Fields_b0 at h
  try dsimp only at h
  refine WS.sq (WS.sq (WS.rg (RS.mS 4 [(16, .val (Value.bool (decide (v6_4 < (a0.size : Int))))), (15, .val (Value.int .i64 (a0.size : Int))), (14, .val (Value.string a0)), (13, .val (Value.int .i64 v6_4))] (RS.dn (WS.nxt ?_)))))
  rcases ite_some h with ⟨hp, h⟩ | ⟨hp, h⟩
  · refine WS.fx 16 true (decide_eq_true hp) (WS.cT (WS.sk (WS.nxt (WS.sq (WS.bk 1 (WS.sq (WS.rg (RS.mS 2 [(20, .val (Value.int .i64 v6_4)), (19, .val (Value.string a0))] ?_))))))))
    obtain ⟨x5, hx, h⟩ := bind_some h
    refine RS.o (H' := H) (some 21) (Value.int .u8 x5) (Abs.run_byt (t := 9) (x := .tmp 19) (y := .tmp 20) (s := a0) (k := .i64) (i := v6_4) (by kernel_rfl) (by kernel_rfl) (by kernel_rfl) (by kernel_rfl) hx) (RS.mS 1 [(7, .val (Value.int .u8 x5))] (RS.dn (WS.nxt (WS.sq (WS.rg (RS.mS 4 [(5, .val (Value.int .u8 (ior .u8 v5_3 x5))), (24, .val (Value.int .u8 (ior .u8 v5_3 x5))), (23, .val (Value.int .u8 x5)), (22, .val (Value.int .u8 v5_3))] (RS.dn (WS.nxt (WS.sq ?_)))))))))
    refine WS.rg (RS.mS 1 [(25, .val (Value.int .u8 x5))] ?_)
    obtain ⟨p6, hx, h⟩ := bind_some h
    refine RS.o (H' := H) (some 26) (Value.pointer (some p6)) (Abs.run_idxR (a := (⟨0, 0, none⟩ : Addr)) (k := .u8) (t := 130) (e := 5) (x := .global 0) (y := .tmp 25) (by kernel_rfl) (by kernel_rfl) (by kernel_rfl) (by kernel_rfl) (by kernel_rfl) hx) ?_
    obtain ⟨x7, hx, h⟩ := bind_some h
    refine RS.o (H' := H) (some 27) (Value.int .u8 x7) (Abs.run_load (t := 5) (x := .tmp 26) (a := p6) (by kernel_rfl) (by kernel_rfl) (by kernel_rfl) (rd_cell hx deI_inv)) (RS.mS 2 [(8, .val (Value.int .i64 (IntKind.i64.wrap x7))), (28, .val (Value.int .i64 (IntKind.i64.wrap x7)))] (RS.dn (WS.nxt (WS.sq (WS.rg (RS.mS 7 [(3, .val (Value.int .i64 (IntKind.i64.wrap (v3_1 + (iand .i64 v4_2 (ixor .i64 (-1) (IntKind.i64.wrap x7))))))), (34, .val (Value.int .i64 (IntKind.i64.wrap (v3_1 + (iand .i64 v4_2 (ixor .i64 (-1) (IntKind.i64.wrap x7))))))), (33, .val (Value.int .i64 (iand .i64 v4_2 (ixor .i64 (-1) (IntKind.i64.wrap x7))))), (32, .val (Value.int .i64 (ixor .i64 (-1) (IntKind.i64.wrap x7)))), (31, .val (Value.int .i64 (IntKind.i64.wrap x7))), (30, .val (Value.int .i64 v4_2)), (29, .val (Value.int .i64 v3_1))] (RS.dn (WS.nxt (WS.rg ?_)))))))))
    refine RS.mS 2 [(4, .val (Value.int .i64 (IntKind.i64.wrap x7))), (35, .val (Value.int .i64 (IntKind.i64.wrap x7)))] (RS.dn ?_)
    refine fun a w hs => bkN ((WS.nxt ?_ a w hs))
    refine WS.rg (RS.mS 3 [(6, .val (Value.int .i64 (IntKind.i64.wrap (v6_4 + 1)))), (18, .val (Value.int .i64 (IntKind.i64.wrap (v6_4 + 1)))), (17, .val (Value.int .i64 v6_4))] (RS.dn ?_))
    cases h
    exact fun a w hs => lsN rfl (hs.sb 0)
  · refine WS.fx 16 false (decide_eq_false hp) (WS.cF (WS.ex 0 ?_))
    cases h
    exact fun a w hs => sqE (lsB rfl (hs.sb 0))

theorem strings_Fields_b1_ok {E : Ent} {m : Nat} {H : AH} {L : LC} {a0 : ByteArray} {s12 : Sl3} {H13 : AH}  : ∀ s o, strings_Fields_b1 L a0 s12 H13 s = some o →
    WS Tryd.prog (NE.plain 1000) m E Tryd.f95.ntmps (cfst (cfst (cfst (csnd (csnd (csnd (csnd (csnd (csnd (csnd (csnd (csnd (csnd B95))))))))))))) (strings_Fields_b1_kn L a0 s12 H13 s) (strings_Fields_b1_ls L a0 s12 H13 s) ((fun _ => H13) s) (lpS Tryd.prog (NE.plain 1000) m E Tryd.f95.ntmps (strings_Fields_b1_kn L a0 s12 H13) (strings_Fields_b1_ls L a0 s12 H13) (fun _ => H13) 2 (fun r => RT Tryd.prog (NE.plain 1000) m E Tryd.f95 (strings_Fields_enc r) (strings_Fields_hp H r)) o) := by
  rintro v12_14 o h
  unfold strings_Fields_b1 at h
  try dsimp only at h
  refine WS.sq (WS.sq (WS.rg (RS.mS 5 [(46, .val (Value.bool (decide (v12_14 < (a0.size : Int))))), (45, .val (Value.bool (decide (v12_14 < (a0.size : Int))))), (44, .val (Value.int .i64 (a0.size : Int))), (43, .val (Value.string a0)), (42, .val (Value.int .i64 v12_14))] ?_)))
  rcases ite_some h with ⟨hp, h⟩ | ⟨hp, h⟩
  · refine RS.fx 46 true (decide_eq_true hp) (RS.mS 2 [(48, .val (Value.int .i64 v12_14)), (47, .val (Value.string a0))] ?_)
    obtain ⟨x15, hx, h⟩ := bind_some h
    refine RS.o (H' := H13) (some 49) (Value.int .u8 x15) (Abs.run_byt (t := 9) (x := .tmp 47) (y := .tmp 48) (s := a0) (k := .i64) (i := v12_14) (by kernel_rfl) (by kernel_rfl) (by kernel_rfl) (by kernel_rfl) hx) ?_
    obtain ⟨p16, hx, h⟩ := bind_some h
    refine RS.o (H' := H13) (some 50) (Value.pointer (some p16)) (Abs.run_idxR (a := (⟨0, 0, none⟩ : Addr)) (k := .u8) (t := 130) (e := 5) (x := .global 0) (y := .tmp 49) (by kernel_rfl) (by kernel_rfl) (by kernel_rfl) (by kernel_rfl) (by kernel_rfl) hx) ?_
    obtain ⟨x17, hx, h⟩ := bind_some h
    refine RS.o (H' := H13) (some 51) (Value.int .u8 x17) (Abs.run_load (t := 5) (x := .tmp 50) (a := p16) (by kernel_rfl) (by kernel_rfl) (by kernel_rfl) (rd_cell hx deI_inv)) (RS.mS 2 [(53, .val (Value.bool (!decide (x17 = 0)))), (52, .val (Value.bool (!decide (x17 = 0))))] (RS.dn (WS.nxt ?_)))
    rcases ite_some h with ⟨hp, h⟩ | ⟨hp, h⟩
    · refine WS.fx 53 false (dec_not hp) (WS.cF (WS.ex 2 ?_))
      cases h
      exact fun a w hs => sqE (lsB rfl (hs.sb 0))
    · refine WS.fx 53 true (dec_not' hp) (WS.cT ?_)
      cases h
  · refine RS.fx 46 false (decide_eq_false hp) ?_
    cases h

theorem strings_Fields_b3_ok {E : Ent} {m : Nat} {H : AH} {L : LC} {a0 : ByteArray} {s12 : Sl3} {v10_20 : Int} {H28 : AH}  : ∀ s o, strings_Fields_b3 L a0 s12 v10_20 H28 s = some o →
    WS Tryd.prog (NE.plain 1000) m E Tryd.f95.ntmps (cfst (cfst (cfst (csnd (csnd (csnd (csnd (cfst (csnd (cfst (cfst (cfst (csnd (csnd (csnd (csnd (csnd (csnd (csnd (csnd (csnd (csnd (csnd (csnd B95)))))))))))))))))))))))) (strings_Fields_b3_kn L a0 s12 v10_20 H28 s) (strings_Fields_b3_ls L a0 s12 v10_20 H28 s) ((fun _ => H28) s) (lpS Tryd.prog (NE.plain 1000) m E Tryd.f95.ntmps (strings_Fields_b3_kn L a0 s12 v10_20 H28) (strings_Fields_b3_ls L a0 s12 v10_20 H28) (fun _ => H28) 6 (fun r => RT Tryd.prog (NE.plain 1000) m E Tryd.f95 (strings_Fields_enc r) (strings_Fields_hp H r)) o) := by
  rintro v12_29 o h
  unfold strings_Fields_b3 at h
  try dsimp only at h
  refine WS.sq (WS.sq (WS.rg (RS.mS 5 [(84, .val (Value.bool (decide (v12_29 < (a0.size : Int))))), (83, .val (Value.bool (decide (v12_29 < (a0.size : Int))))), (82, .val (Value.int .i64 (a0.size : Int))), (81, .val (Value.string a0)), (80, .val (Value.int .i64 v12_29))] ?_)))
  rcases ite_some h with ⟨hp, h⟩ | ⟨hp, h⟩
  · refine RS.fx 84 true (decide_eq_true hp) (RS.mS 2 [(86, .val (Value.int .i64 v12_29)), (85, .val (Value.string a0))] ?_)
    obtain ⟨x30, hx, h⟩ := bind_some h
    refine RS.o (H' := H28) (some 87) (Value.int .u8 x30) (Abs.run_byt (t := 9) (x := .tmp 85) (y := .tmp 86) (s := a0) (k := .i64) (i := v12_29) (by kernel_rfl) (by kernel_rfl) (by kernel_rfl) (by kernel_rfl) hx) ?_
    obtain ⟨p31, hx, h⟩ := bind_some h
    refine RS.o (H' := H28) (some 88) (Value.pointer (some p31)) (Abs.run_idxR (a := (⟨0, 0, none⟩ : Addr)) (k := .u8) (t := 130) (e := 5) (x := .global 0) (y := .tmp 87) (by kernel_rfl) (by kernel_rfl) (by kernel_rfl) (by kernel_rfl) (by kernel_rfl) hx) ?_
    obtain ⟨x32, hx, h⟩ := bind_some h
    refine RS.o (H' := H28) (some 89) (Value.int .u8 x32) (Abs.run_load (t := 5) (x := .tmp 88) (a := p31) (by kernel_rfl) (by kernel_rfl) (by kernel_rfl) (rd_cell hx deI_inv)) (RS.mS 2 [(91, .val (Value.bool (!decide (x32 = 0)))), (90, .val (Value.bool (!decide (x32 = 0))))] (RS.dn (WS.nxt ?_)))
    rcases ite_some h with ⟨hp, h⟩ | ⟨hp, h⟩
    · refine WS.fx 91 false (dec_not hp) (WS.cF (WS.ex 6 ?_))
      cases h
      exact fun a w hs => sqE (lsB rfl (hs.sb 0))
    · refine WS.fx 91 true (dec_not' hp) (WS.cT ?_)
      cases h
  · refine RS.fx 84 false (decide_eq_false hp) ?_
    cases h

theorem strings_Fields_b2_ok {E : Ent} {H : AH} {L : LC} {m : Nat} {a0 : ByteArray} {s12 : Sl3}  : ∀ s o, strings_Fields_b2 L m a0 s12 s = some o →
    WS Tryd.prog (NE.plain 1000) m E Tryd.f95.ntmps (cfst (cfst (cfst (csnd (csnd (csnd (csnd (csnd (csnd (csnd (csnd (csnd (csnd (csnd (csnd B95))))))))))))))) (strings_Fields_b2_kn L m a0 s12 s) (strings_Fields_b2_ls L m a0 s12 s) ((fun s => s.1) s) (lpS Tryd.prog (NE.plain 1000) m E Tryd.f95.ntmps (strings_Fields_b2_kn L m a0 s12) (strings_Fields_b2_ls L m a0 s12) (fun s => s.1) 4 (fun r => RT Tryd.prog (NE.plain 1000) m E Tryd.f95 (strings_Fields_enc r) (strings_Fields_hp H r)) o) := by
  rintro ⟨H19, v10_20, v11_21, v12_22⟩ o h
  unfold strings_Fields_b2 at h
  try dsimp only at h
  refine WS.sq (WS.sq (WS.rg (RS.mS 4 [(60, .val (Value.bool (decide (v12_22 < (a0.size : Int))))), (59, .val (Value.int .i64 (a0.size : Int))), (58, .val (Value.string a0)), (57, .val (Value.int .i64 v12_22))] (RS.dn (WS.nxt ?_)))))
  rcases ite_some h with ⟨hp, h⟩ | ⟨hp, h⟩
  · refine WS.fx 60 true (decide_eq_true hp) (WS.cT (WS.sk (WS.nxt (WS.bk 5 (WS.sq (WS.sq (WS.rg (RS.mS 2 [(62, .val (Value.int .i64 v12_22)), (61, .val (Value.string a0))] ?_))))))))
    obtain ⟨x23, hx, h⟩ := bind_some h
    refine RS.o (H' := H19) (some 63) (Value.int .u8 x23) (Abs.run_byt (t := 9) (x := .tmp 61) (y := .tmp 62) (s := a0) (k := .i64) (i := v12_22) (by kernel_rfl) (by kernel_rfl) (by kernel_rfl) (by kernel_rfl) hx) ?_
    obtain ⟨p24, hx, h⟩ := bind_some h
    refine RS.o (H' := H19) (some 64) (Value.pointer (some p24)) (Abs.run_idxR (a := (⟨0, 0, none⟩ : Addr)) (k := .u8) (t := 130) (e := 5) (x := .global 0) (y := .tmp 63) (by kernel_rfl) (by kernel_rfl) (by kernel_rfl) (by kernel_rfl) (by kernel_rfl) hx) ?_
    obtain ⟨x25, hx, h⟩ := bind_some h
    refine RS.o (H' := H19) (some 65) (Value.int .u8 x25) (Abs.run_load (t := 5) (x := .tmp 64) (a := p24) (by kernel_rfl) (by kernel_rfl) (by kernel_rfl) (rd_cell hx deI_inv)) (RS.mS 1 [(66, .val (Value.bool (decide (x25 = 0))))] (RS.dn (WS.nxt ?_)))
    rcases ite_some h with ⟨hp, h⟩ | ⟨hp, h⟩
    · refine WS.fx 66 true (decide_eq_true hp) (WS.cT (WS.sq (WS.rg (RS.mS 3 [(12, .val (Value.int .i64 (IntKind.i64.wrap (v12_22 + 1)))), (68, .val (Value.int .i64 (IntKind.i64.wrap (v12_22 + 1)))), (67, .val (Value.int .i64 v12_22))] (RS.dn (WS.nxt (WS.ex 5 ?_)))))))
      cases h
      exact fun a w hs => sqE (bkE (lsN rfl (hs.sb 0)))
    · refine WS.fx 66 false (decide_eq_false hp) (WS.cF (WS.sk (WS.nxt (WS.sq (WS.rg (RS.mS 5 [(73, .val (Value.int .i64 v12_22)), (72, .val (Value.int .i64 v11_21)), (71, .val (Value.string a0)), (70, .val (Value.int .i64 v10_20)), (69, .val (Sl3.v s12))] ?_))))))
      obtain ⟨s26, hx, h⟩ := bind_some h
      refine RS.o (H' := H19) (some 74) (Value.string s26) (Abs.run_strC (t := 9) (x := .tmp 71) (lo := (some (.tmp 72))) (hi := (some (.tmp 73))) (s := a0) (k1 := .i64) (k2 := .i64) (by kernel_rfl) (by kernel_rfl) (by kernel_rfl) (by kernel_rfl) (by kernel_rfl) hx) ?_
      obtain ⟨p27, hx, h⟩ := bind_some h
      refine RS.o (H' := H19) (some 75) (Value.pointer (some p27)) (Abs.run_idx (s := s12) (k := .i64) (t := 29) (e := 9) (x := .tmp 69) (y := .tmp 70) (by kernel_rfl) (by kernel_rfl) (by kernel_rfl) (by kernel_rfl) (by kernel_rfl) hx) ?_
      obtain ⟨H28, hx, h⟩ := bind_some h
      refine RS.o (H' := H28) none undef (Abs.run_store1 (t := 9) (x := .tmp 75) (y := .tmp 74) (a := p27) (v := (Value.string s26)) (by kernel_rfl) (by kernel_rfl) (by kernel_rfl) (by kernel_rfl) (by kernel_rfl) hx) (RS.dn (WS.nxt (WS.sq (WS.rg (RS.mS 3 [(10, .val (Value.int .i64 (IntKind.i64.wrap (v10_20 + 1)))), (77, .val (Value.int .i64 (IntKind.i64.wrap (v10_20 + 1)))), (76, .val (Value.int .i64 v10_20))] (RS.dn (WS.nxt (WS.sq (WS.rg ?_)))))))))
      refine RS.mS 3 [(12, .val (Value.int .i64 (IntKind.i64.wrap (v12_22 + 1)))), (79, .val (Value.int .i64 (IntKind.i64.wrap (v12_22 + 1)))), (78, .val (Value.int .i64 v12_22))] (RS.dn (WS.nxt (WS.sq (WS.bk 6 ?_))))
      obtain ⟨o, hl, h⟩ := bind_some h
      rcases o with v12_33 | r
      · try dsimp only at h
        refine WS.lI (strings_Fields_b3_ok (L := L) (E := E) (m := m) (H := H)) (L.ok hl) 0 ?_
        clear hl
        refine fun a w hs => bkE ((WS.nxt ?_ a w hs))
        refine WS.rg (RS.mS 2 [(11, .val (Value.int .i64 v12_33)), (94, .val (Value.int .i64 v12_33))] (RS.dn ?_))
        cases h
        exact fun a w hs => bkN (lsN rfl (hs.sb 0))
      · try dsimp only at h
        refine WS.lR (strings_Fields_b3_ok (L := L) (E := E) (m := m) (H := H)) (L.ok hl) 0 ?_
        cases h
        exact fun a w hq => bkR (sqR (bkR (lsR rfl hq)))
  · refine WS.fx 60 false (decide_eq_false hp) (WS.cF (WS.ex 4 ?_))
    cases h
    exact fun a w hs => sqE (lsB rfl (hs.sb 0))

theorem strings_Fields_ok {L : LC} {m : Nat} {H : AH} {a0 : ByteArray} {r : (Sl3 × AH)} (h : strings_Fields L m H a0 = some r) :
    CallS Tryd.prog (NE.plain 1000) m 95 #[(Value.string a0)] H (strings_Fields_enc r) (strings_Fields_hp H r) := by
  refine CallS.mk (args := [(Value.string a0)]) Tryd.func95 (B := B95) (by kernel_rfl) (fun E _ => ?_)
  unfold strings_Fields at h
  refine WS.sq (WS.rg (RS.mS 1 [(2, .val (Sl3.v Sl3.nil))] (RS.dn (WS.nxt (WS.sq (WS.rg (RS.mS 1 [(3, .val (Value.int .i64 0))] (RS.dn (WS.nxt ?_)))))))))
  refine WS.sq (WS.rg (RS.mS 1 [(4, .val (Value.int .i64 1))] (RS.dn (WS.nxt (WS.sq (WS.rg (RS.mS 1 [(5, .val (Value.int .u8 0))] (RS.dn (WS.nxt ?_)))))))))
  refine WS.sq (WS.sq (WS.rg (RS.mS 1 [(6, .val (Value.int .i64 0))] (RS.dn (WS.nxt (WS.bk 0 ?_))))))
  obtain ⟨o, hl, h⟩ := bind_some h
  rcases o with ⟨v3_8, v4_9, v5_10, v6_11⟩ | r
  · try dsimp only at h
    refine WS.lI (strings_Fields_b0_ok (L := L) (E := E) (m := m) (H := H)) (L.ok hl) 0 ?_
    clear hl
    refine fun a w hs => bkE ((WS.nxt ?_ a w hs))
    refine WS.sq (WS.sq (WS.rg (RS.mS 2 [(37, .val (Value.bool (decide (v5_10 ≥ 128)))), (36, .val (Value.int .u8 v5_10))] (RS.dn (WS.nxt ?_)))))
    rcases ite_some h with ⟨hp, h⟩ | ⟨hp, h⟩
    · refine WS.fx 37 true (decide_eq_true hp) (WS.cT ?_)
      cases h
    · refine WS.fx 37 false (decide_eq_false hp) (WS.cF (WS.sk (WS.nxt (WS.sq (WS.rg (RS.mS 1 [(40, .val (Value.int .i64 v3_8))] ?_))))))
      obtain ⟨⟨s12, H13⟩, hx, h⟩ := bind_some h
      try dsimp only at h
      refine RS.o (H' := H13) (some 41) (Sl3.v s12) (Abs.run_mk (t := 29) (x := .tmp 40) (y := .tmp 40) (k1 := .i64) (k2 := .i64) (by kernel_rfl) (by kernel_rfl) (by kernel_rfl) (by kernel_rfl) hx) (RS.mS 1 [(9, .val (Sl3.v s12))] (RS.dn (WS.nxt (WS.sq (WS.rg (RS.mS 1 [(10, .val (Value.int .i64 0))] (RS.dn (WS.nxt (WS.sq ?_)))))))))
      refine WS.rg (RS.mS 1 [(11, .val (Value.int .i64 0))] (RS.dn (WS.nxt (WS.sq (WS.rg (RS.mS 1 [(12, .val (Value.int .i64 0))] (RS.dn (WS.nxt (WS.sq ?_)))))))))
      refine WS.bk 2 ?_
      obtain ⟨o, hl, h⟩ := bind_some h
      rcases o with v12_18 | r
      · try dsimp only at h
        refine WS.lI (strings_Fields_b1_ok (L := L) (E := E) (m := m) (H := H)) (L.ok hl) 0 ?_
        clear hl
        refine fun a w hs => bkE ((WS.nxt ?_ a w hs))
        refine WS.sq (WS.rg (RS.mS 2 [(11, .val (Value.int .i64 v12_18)), (56, .val (Value.int .i64 v12_18))] (RS.dn (WS.nxt (WS.sq (WS.bk 4 ?_))))))
        obtain ⟨o, hl, h⟩ := bind_some h
        rcases o with ⟨H34, v10_35, v11_36, v12_37⟩ | r
        · try dsimp only at h
          refine WS.lI (strings_Fields_b2_ok (L := L) (E := E) (m := m) (H := H)) (L.ok hl) 0 ?_
          clear hl
          refine fun a w hs => bkE ((WS.nxt ?_ a w hs))
          refine WS.sq (WS.sq (WS.rg (RS.mS 4 [(98, .val (Value.bool (decide (v11_36 < (a0.size : Int))))), (97, .val (Value.int .i64 (a0.size : Int))), (96, .val (Value.string a0)), (95, .val (Value.int .i64 v11_36))] (RS.dn (WS.nxt ?_)))))
          rcases ite_some h with ⟨hp, h⟩ | ⟨hp, h⟩
          · refine WS.fx 98 true (decide_eq_true hp) (WS.cT (WS.rg (RS.mS 4 [(102, .val (Value.int .i64 v11_36)), (101, .val (Value.string a0)), (100, .val (Value.int .i64 v10_35)), (99, .val (Sl3.v s12))] ?_)))
            obtain ⟨s38, hx, h⟩ := bind_some h
            refine RS.o (H' := H34) (some 103) (Value.string s38) (Abs.run_strC (t := 9) (x := .tmp 101) (lo := (some (.tmp 102))) (hi := none) (s := a0) (k1 := .i64) (k2 := .i64) (by kernel_rfl) (by kernel_rfl) (by kernel_rfl) (by kernel_rfl) (by kernel_rfl) hx) ?_
            obtain ⟨p39, hx, h⟩ := bind_some h
            refine RS.o (H' := H34) (some 104) (Value.pointer (some p39)) (Abs.run_idx (s := s12) (k := .i64) (t := 29) (e := 9) (x := .tmp 99) (y := .tmp 100) (by kernel_rfl) (by kernel_rfl) (by kernel_rfl) (by kernel_rfl) (by kernel_rfl) hx) ?_
            obtain ⟨H40, hx, h⟩ := bind_some h
            refine RS.o (H' := H40) none undef (Abs.run_store1 (t := 9) (x := .tmp 104) (y := .tmp 103) (a := p39) (v := (Value.string s38)) (by kernel_rfl) (by kernel_rfl) (by kernel_rfl) (by kernel_rfl) (by kernel_rfl) hx) (RS.dn (WS.nxt (WS.sq (WS.rg (RS.mS 2 [(2, .val (Sl3.v s12)), (105, .val (Sl3.v s12))] (RS.dn (WS.nxt (WS.rt ?_))))))))
            cases h
            exact fun a w hs => rtR (rS hs)
          · refine WS.fx 98 false (decide_eq_false hp) (WS.cF ?_)
            cases h
        · try dsimp only at h
          refine WS.lR (strings_Fields_b2_ok (L := L) (E := E) (m := m) (H := H)) (L.ok hl) 0 ?_
          cases h
          exact fun a w hq => bkR (sqR (rtR hq))
      · try dsimp only at h
        refine WS.lR (strings_Fields_b1_ok (L := L) (E := E) (m := m) (H := H)) (L.ok hl) 0 ?_
        cases h
        exact fun a w hq => bkR (sqR (rtR hq))
  · try dsimp only at h
    refine WS.lR (strings_Fields_b0_ok (L := L) (E := E) (m := m) (H := H)) (L.ok hl) 0 ?_
    cases h
    exact fun a w hq => bkR (sqR (rtR hq))

def strconv_small_enc : ByteArray → Value
  | r0 => (Value.string r0)

def strconv_small_hp (H : AH) : ByteArray → AH := fun _ => H

noncomputable def B106 : Code := (Tryd.f106.body).getD .skip

noncomputable def strconv_small (_L : LC) (a0 : Int) : Option ByteArray :=
  if a0 < 10 then
    Option.bind (strC (⟨#[48, 49, 50, 51, 52, 53, 54, 55, 56, 57, 97, 98, 99, 100, 101, 102, 103, 104, 105, 106, 107, 108, 109, 110, 111, 112, 113, 114, 115, 116, 117, 118, 119, 120, 121, 122]⟩ : ByteArray) (some a0) (some (IntKind.i64.wrap (a0 + 1)))) fun s1 =>
    some s1
  else
    Option.bind (strC (⟨#[48, 48, 48, 49, 48, 50, 48, 51, 48, 52, 48, 53, 48, 54, 48, 55, 48, 56, 48, 57, 49, 48, 49, 49, 49, 50, 49, 51, 49, 52, 49, 53, 49, 54, 49, 55, 49, 56, 49, 57, 50, 48, 50, 49, 50, 50, 50, 51, 50, 52, 50, 53, 50, 54, 50, 55, 50, 56, 50, 57, 51, 48, 51, 49, 51, 50, 51, 51, 51, 52, 51, 53, 51, 54, 51, 55, 51, 56, 51, 57, 52, 48, 52, 49, 52, 50, 52, 51, 52, 52, 52, 53, 52, 54, 52, 55, 52, 56, 52, 57, 53, 48, 53, 49, 53, 50, 53, 51, 53, 52, 53, 53, 53, 54, 53, 55, 53, 56, 53, 57, 54, 48, 54, 49, 54, 50, 54, 51, 54, 52, 54, 53, 54, 54, 54, 55, 54, 56, 54, 57, 55, 48, 55, 49, 55, 50, 55, 51, 55, 52, 55, 53, 55, 54, 55, 55, 55, 56, 55, 57, 56, 48, 56, 49, 56, 50, 56, 51, 56, 52, 56, 53, 56, 54, 56, 55, 56, 56, 56, 57, 57, 48, 57, 49, 57, 50, 57, 51, 57, 52, 57, 53, 57, 54, 57, 55, 57, 56, 57, 57]⟩ : ByteArray) (some (IntKind.i64.wrap (a0 * 2))) (some (IntKind.i64.wrap ((IntKind.i64.wrap (a0 * 2)) + 2)))) fun s2 =>
    some s2

theorem strconv_small_ok {L : LC} {m : Nat} {H : AH} {a0 : Int} {r : ByteArray} (h : strconv_small L a0 = some r) :
    CallS Tryd.prog (NE.plain 1000) m 106 #[(Value.int .i64 a0)] H (strconv_small_enc r) (strconv_small_hp H r) := by
  refine CallS.mk (args := [(Value.int .i64 a0)]) Tryd.func106 (B := B106) (by kernel_rfl) (fun E _ => ?_)
  unfold strconv_small at h
  refine WS.sq (WS.rg (RS.mS 1 [(2, .val (Value.string (⟨#[]⟩ : ByteArray)))] (RS.dn (WS.nxt (WS.sq (WS.sq (WS.rg (RS.mS 2 [(4, .val (Value.bool (decide (a0 < 10)))), (3, .val (Value.int .i64 a0))] (RS.dn ?_)))))))))
  refine WS.nxt ?_
  rcases ite_some h with ⟨hp, h⟩ | ⟨hp, h⟩
  · refine WS.fx 4 true (decide_eq_true hp) (WS.cT (WS.sq (WS.rg (RS.mS 3 [(7, .val (Value.int .i64 (IntKind.i64.wrap (a0 + 1)))), (6, .val (Value.int .i64 a0)), (5, .val (Value.int .i64 a0))] ?_))))
    obtain ⟨s1, hx, h⟩ := bind_some h
    refine RS.o (H' := H) (some 8) (Value.string s1) (Abs.run_strC (t := 9) (x := .const (Value.string (⟨#[48, 49, 50, 51, 52, 53, 54, 55, 56, 57, 97, 98, 99, 100, 101, 102, 103, 104, 105, 106, 107, 108, 109, 110, 111, 112, 113, 114, 115, 116, 117, 118, 119, 120, 121, 122]⟩ : ByteArray))) (lo := (some (.tmp 5))) (hi := (some (.tmp 7))) (s := (⟨#[48, 49, 50, 51, 52, 53, 54, 55, 56, 57, 97, 98, 99, 100, 101, 102, 103, 104, 105, 106, 107, 108, 109, 110, 111, 112, 113, 114, 115, 116, 117, 118, 119, 120, 121, 122]⟩ : ByteArray)) (k1 := .i64) (k2 := .i64) (by kernel_rfl) (by kernel_rfl) (by kernel_rfl) (by kernel_rfl) (by kernel_rfl) hx) (RS.mS 1 [(2, .val (Value.string s1))] (RS.dn (WS.nxt (WS.rt ?_))))
    cases h
    exact fun a w hs => sqR (rtR (rS hs))
  · refine WS.fx 4 false (decide_eq_false hp) (WS.cF (WS.sk (WS.nxt (WS.sq (WS.rg (RS.mS 5 [(13, .val (Value.int .i64 (IntKind.i64.wrap ((IntKind.i64.wrap (a0 * 2)) + 2)))), (12, .val (Value.int .i64 (IntKind.i64.wrap (a0 * 2)))), (11, .val (Value.int .i64 a0)), (10, .val (Value.int .i64 (IntKind.i64.wrap (a0 * 2)))), (9, .val (Value.int .i64 a0))] ?_))))))
    obtain ⟨s2, hx, h⟩ := bind_some h
    refine RS.o (H' := H) (some 14) (Value.string s2) (Abs.run_strC (t := 9) (x := .const (Value.string (⟨#[48, 48, 48, 49, 48, 50, 48, 51, 48, 52, 48, 53, 48, 54, 48, 55, 48, 56, 48, 57, 49, 48, 49, 49, 49, 50, 49, 51, 49, 52, 49, 53, 49, 54, 49, 55, 49, 56, 49, 57, 50, 48, 50, 49, 50, 50, 50, 51, 50, 52, 50, 53, 50, 54, 50, 55, 50, 56, 50, 57, 51, 48, 51, 49, 51, 50, 51, 51, 51, 52, 51, 53, 51, 54, 51, 55, 51, 56, 51, 57, 52, 48, 52, 49, 52, 50, 52, 51, 52, 52, 52, 53, 52, 54, 52, 55, 52, 56, 52, 57, 53, 48, 53, 49, 53, 50, 53, 51, 53, 52, 53, 53, 53, 54, 53, 55, 53, 56, 53, 57, 54, 48, 54, 49, 54, 50, 54, 51, 54, 52, 54, 53, 54, 54, 54, 55, 54, 56, 54, 57, 55, 48, 55, 49, 55, 50, 55, 51, 55, 52, 55, 53, 55, 54, 55, 55, 55, 56, 55, 57, 56, 48, 56, 49, 56, 50, 56, 51, 56, 52, 56, 53, 56, 54, 56, 55, 56, 56, 56, 57, 57, 48, 57, 49, 57, 50, 57, 51, 57, 52, 57, 53, 57, 54, 57, 55, 57, 56, 57, 57]⟩ : ByteArray))) (lo := (some (.tmp 10))) (hi := (some (.tmp 13))) (s := (⟨#[48, 48, 48, 49, 48, 50, 48, 51, 48, 52, 48, 53, 48, 54, 48, 55, 48, 56, 48, 57, 49, 48, 49, 49, 49, 50, 49, 51, 49, 52, 49, 53, 49, 54, 49, 55, 49, 56, 49, 57, 50, 48, 50, 49, 50, 50, 50, 51, 50, 52, 50, 53, 50, 54, 50, 55, 50, 56, 50, 57, 51, 48, 51, 49, 51, 50, 51, 51, 51, 52, 51, 53, 51, 54, 51, 55, 51, 56, 51, 57, 52, 48, 52, 49, 52, 50, 52, 51, 52, 52, 52, 53, 52, 54, 52, 55, 52, 56, 52, 57, 53, 48, 53, 49, 53, 50, 53, 51, 53, 52, 53, 53, 53, 54, 53, 55, 53, 56, 53, 57, 54, 48, 54, 49, 54, 50, 54, 51, 54, 52, 54, 53, 54, 54, 54, 55, 54, 56, 54, 57, 55, 48, 55, 49, 55, 50, 55, 51, 55, 52, 55, 53, 55, 54, 55, 55, 55, 56, 55, 57, 56, 48, 56, 49, 56, 50, 56, 51, 56, 52, 56, 53, 56, 54, 56, 55, 56, 56, 56, 57, 57, 48, 57, 49, 57, 50, 57, 51, 57, 52, 57, 53, 57, 54, 57, 55, 57, 56, 57, 57]⟩ : ByteArray)) (k1 := .i64) (k2 := .i64) (by kernel_rfl) (by kernel_rfl) (by kernel_rfl) (by kernel_rfl) (by kernel_rfl) hx) (RS.mS 1 [(2, .val (Value.string s2))] (RS.dn (WS.nxt (WS.rt ?_))))
    cases h
    exact fun a w hs => rtR (rS hs)

def strconv_log10Pow2_enc : Int → Value
  | r0 => (Value.int .i64 r0)

def strconv_log10Pow2_hp (H : AH) : Int → AH := fun _ => H

noncomputable def B112 : Code := (Tryd.f112.body).getD .skip

noncomputable def strconv_log10Pow2 (_L : LC) (a0 : Int) : Option Int :=
  some (ishr .i64 (IntKind.i64.wrap (a0 * 78913)) 18)

theorem strconv_log10Pow2_ok {L : LC} {m : Nat} {H : AH} {a0 : Int} {r : Int} (h : strconv_log10Pow2 L a0 = some r) :
    CallS Tryd.prog (NE.plain 1000) m 112 #[(Value.int .i64 a0)] H (strconv_log10Pow2_enc r) (strconv_log10Pow2_hp H r) := by
  refine CallS.mk (args := [(Value.int .i64 a0)]) Tryd.func112 (B := B112) (by kernel_rfl) (fun E _ => ?_)
  unfold strconv_log10Pow2 at h
  refine WS.sq (WS.rg (RS.mS 1 [(2, .val (Value.int .i64 0))] (RS.dn (WS.nxt (WS.sq (WS.rg (RS.mS 4 [(2, .val (Value.int .i64 (ishr .i64 (IntKind.i64.wrap (a0 * 78913)) 18))), (5, .val (Value.int .i64 (ishr .i64 (IntKind.i64.wrap (a0 * 78913)) 18))), (4, .val (Value.int .i64 (IntKind.i64.wrap (a0 * 78913)))), (3, .val (Value.int .i64 a0))] (RS.dn (WS.nxt ?_)))))))))
  refine WS.rt ?_
  cases h
  exact fun a w hs => rtR (rS hs)

def bits_Len64_enc : Int → Value
  | r0 => (Value.int .i64 r0)

def bits_Len64_hp (H : AH) : Int → AH := fun _ => H

noncomputable def B113 : Code := (Tryd.f113.body).getD .skip

noncomputable def bits_Len64 (_L : LC) (a0 : Int) : Option Int :=
  if a0 ≥ 4294967296 then
    none
  else
    if a0 ≥ 65536 then
      none
    else
      Option.bind (α := (Int × Int)) (
        if a0 ≥ 256 then
          some ((ishr .u64 a0 8), (IntKind.i64.wrap (0 + 8)))
        else
          some (a0, 0)) fun (v0_1, v2_2) =>
      Option.bind (bytA (⟨#[0, 1, 2, 2, 3, 3, 3, 3, 4, 4, 4, 4, 4, 4, 4, 4, 5, 5, 5, 5, 5, 5, 5, 5, 5, 5, 5, 5, 5, 5, 5, 5, 6, 6, 6, 6, 6, 6, 6, 6, 6, 6, 6, 6, 6, 6, 6, 6, 6, 6, 6, 6, 6, 6, 6, 6, 6, 6, 6, 6, 6, 6, 6, 6, 7, 7, 7, 7, 7, 7, 7, 7, 7, 7, 7, 7, 7, 7, 7, 7, 7, 7, 7, 7, 7, 7, 7, 7, 7, 7, 7, 7, 7, 7, 7, 7, 7, 7, 7, 7, 7, 7, 7, 7, 7, 7, 7, 7, 7, 7, 7, 7, 7, 7, 7, 7, 7, 7, 7, 7, 7, 7, 7, 7, 7, 7, 7, 7, 8, 8, 8, 8, 8, 8, 8, 8, 8, 8, 8, 8, 8, 8, 8, 8, 8, 8, 8, 8, 8, 8, 8, 8, 8, 8, 8, 8, 8, 8, 8, 8, 8, 8, 8, 8, 8, 8, 8, 8, 8, 8, 8, 8, 8, 8, 8, 8, 8, 8, 8, 8, 8, 8, 8, 8, 8, 8, 8, 8, 8, 8, 8, 8, 8, 8, 8, 8, 8, 8, 8, 8, 8, 8, 8, 8, 8, 8, 8, 8, 8, 8, 8, 8, 8, 8, 8, 8, 8, 8, 8, 8, 8, 8, 8, 8, 8, 8, 8, 8, 8, 8, 8, 8, 8, 8, 8, 8, 8, 8, 8, 8, 8, 8, 8, 8, 8, 8, 8, 8, 8, 8, 8, 8, 8, 8, 8, 8]⟩ : ByteArray) (IntKind.u8.wrap v0_1)) fun x3 =>
      some (IntKind.i64.wrap (v2_2 + (IntKind.i64.wrap x3)))

theorem bits_Len64_ok {L : LC} {m : Nat} {H : AH} {a0 : Int} {r : Int} (h : bits_Len64 L a0 = some r) :
    CallS Tryd.prog (NE.plain 1000) m 113 #[(Value.int .u64 a0)] H (bits_Len64_enc r) (bits_Len64_hp H r) := by
  refine CallS.mk (args := [(Value.int .u64 a0)]) Tryd.func113 (B := B113) (by kernel_rfl) (fun E _ => ?_)
  unfold bits_Len64 at h
  refine WS.sq (WS.rg (RS.mS 1 [(2, .val (Value.int .i64 0))] (RS.dn (WS.nxt (WS.sq (WS.sq (WS.rg (RS.mS 2 [(4, .val (Value.bool (decide (a0 ≥ 4294967296)))), (3, .val (Value.int .u64 a0))] (RS.dn ?_)))))))))
  refine WS.nxt ?_
  rcases ite_some h with ⟨hp, h⟩ | ⟨hp, h⟩
  · refine WS.fx 4 true (decide_eq_true hp) (WS.cT ?_)
    cases h
  · refine WS.fx 4 false (decide_eq_false hp) (WS.cF (WS.sk (WS.nxt (WS.sq (WS.sq (WS.rg (RS.mS 2 [(8, .val (Value.bool (decide (a0 ≥ 65536)))), (7, .val (Value.int .u64 a0))] (RS.dn (WS.nxt ?_)))))))))
    rcases ite_some h with ⟨hp, h⟩ | ⟨hp, h⟩
    · refine WS.fx 8 true (decide_eq_true hp) (WS.cT ?_)
      cases h
    · refine WS.fx 8 false (decide_eq_false hp) (WS.cF (WS.sk (WS.nxt ?_)))
      obtain ⟨⟨v0_1, v2_2⟩, hx, h⟩ := bind_some h
      try dsimp only at h
      refine WS.sq ?_
      refine WS.join ([(0, .val (Value.int .u64 v0_1)), (2, .val (Value.int .i64 v2_2))]) ([]) H ?_ (fun a w hs => WS.nxt ?_ a w hs)
      · clear h; rename _ => h
        refine WS.sq (WS.rg (RS.mS 2 [(14, .val (Value.bool (decide (a0 ≥ 256)))), (13, .val (Value.int .u64 a0))] (RS.dn (WS.nxt ?_))))
        rcases ite_some h with ⟨hp, h⟩ | ⟨hp, h⟩
        · refine WS.fx 14 true (decide_eq_true hp) (WS.cT (WS.sq (WS.rg (RS.mS 3 [(0, .val (Value.int .u64 (ishr .u64 a0 8))), (16, .val (Value.int .u64 (ishr .u64 a0 8))), (15, .val (Value.int .u64 a0))] (RS.dn (WS.nxt (WS.rg (RS.mS 3 [(2, .val (Value.int .i64 (IntKind.i64.wrap (0 + 8)))), (18, .val (Value.int .i64 (IntKind.i64.wrap (0 + 8)))), (17, .val (Value.int .i64 0))] (RS.dn ?_)))))))))
          cases h
          exact fun a w hs => (jsN (hs.sb 0))
        · refine WS.fx 14 false (decide_eq_false hp) (WS.cF (WS.sk ?_))
          cases h
          exact fun a w hs => (jsN (hs.sb 0))
      · clear hx
        refine WS.sq (WS.rg (RS.mS 3 [(21, .val (Value.int .u8 (IntKind.u8.wrap v0_1))), (20, .val (Value.int .u64 v0_1)), (19, .val (Value.int .i64 v2_2))] ?_))
        obtain ⟨x3, hx, h⟩ := bind_some h
        refine RS.o (H' := H) (some 22) (Value.int .u8 x3) (Abs.run_byt (t := 9) (x := .const (Value.string (⟨#[0, 1, 2, 2, 3, 3, 3, 3, 4, 4, 4, 4, 4, 4, 4, 4, 5, 5, 5, 5, 5, 5, 5, 5, 5, 5, 5, 5, 5, 5, 5, 5, 6, 6, 6, 6, 6, 6, 6, 6, 6, 6, 6, 6, 6, 6, 6, 6, 6, 6, 6, 6, 6, 6, 6, 6, 6, 6, 6, 6, 6, 6, 6, 6, 7, 7, 7, 7, 7, 7, 7, 7, 7, 7, 7, 7, 7, 7, 7, 7, 7, 7, 7, 7, 7, 7, 7, 7, 7, 7, 7, 7, 7, 7, 7, 7, 7, 7, 7, 7, 7, 7, 7, 7, 7, 7, 7, 7, 7, 7, 7, 7, 7, 7, 7, 7, 7, 7, 7, 7, 7, 7, 7, 7, 7, 7, 7, 7, 8, 8, 8, 8, 8, 8, 8, 8, 8, 8, 8, 8, 8, 8, 8, 8, 8, 8, 8, 8, 8, 8, 8, 8, 8, 8, 8, 8, 8, 8, 8, 8, 8, 8, 8, 8, 8, 8, 8, 8, 8, 8, 8, 8, 8, 8, 8, 8, 8, 8, 8, 8, 8, 8, 8, 8, 8, 8, 8, 8, 8, 8, 8, 8, 8, 8, 8, 8, 8, 8, 8, 8, 8, 8, 8, 8, 8, 8, 8, 8, 8, 8, 8, 8, 8, 8, 8, 8, 8, 8, 8, 8, 8, 8, 8, 8, 8, 8, 8, 8, 8, 8, 8, 8, 8, 8, 8, 8, 8, 8, 8, 8, 8, 8, 8, 8, 8, 8, 8, 8, 8, 8, 8, 8, 8, 8, 8, 8]⟩ : ByteArray))) (y := .tmp 21) (s := (⟨#[0, 1, 2, 2, 3, 3, 3, 3, 4, 4, 4, 4, 4, 4, 4, 4, 5, 5, 5, 5, 5, 5, 5, 5, 5, 5, 5, 5, 5, 5, 5, 5, 6, 6, 6, 6, 6, 6, 6, 6, 6, 6, 6, 6, 6, 6, 6, 6, 6, 6, 6, 6, 6, 6, 6, 6, 6, 6, 6, 6, 6, 6, 6, 6, 7, 7, 7, 7, 7, 7, 7, 7, 7, 7, 7, 7, 7, 7, 7, 7, 7, 7, 7, 7, 7, 7, 7, 7, 7, 7, 7, 7, 7, 7, 7, 7, 7, 7, 7, 7, 7, 7, 7, 7, 7, 7, 7, 7, 7, 7, 7, 7, 7, 7, 7, 7, 7, 7, 7, 7, 7, 7, 7, 7, 7, 7, 7, 7, 8, 8, 8, 8, 8, 8, 8, 8, 8, 8, 8, 8, 8, 8, 8, 8, 8, 8, 8, 8, 8, 8, 8, 8, 8, 8, 8, 8, 8, 8, 8, 8, 8, 8, 8, 8, 8, 8, 8, 8, 8, 8, 8, 8, 8, 8, 8, 8, 8, 8, 8, 8, 8, 8, 8, 8, 8, 8, 8, 8, 8, 8, 8, 8, 8, 8, 8, 8, 8, 8, 8, 8, 8, 8, 8, 8, 8, 8, 8, 8, 8, 8, 8, 8, 8, 8, 8, 8, 8, 8, 8, 8, 8, 8, 8, 8, 8, 8, 8, 8, 8, 8, 8, 8, 8, 8, 8, 8, 8, 8, 8, 8, 8, 8, 8, 8, 8, 8, 8, 8, 8, 8, 8, 8, 8, 8, 8, 8]⟩ : ByteArray)) (k := .u8) (i := (IntKind.u8.wrap v0_1)) (by kernel_rfl) (by kernel_rfl) (by kernel_rfl) (by kernel_rfl) hx) (RS.mS 3 [(2, .val (Value.int .i64 (IntKind.i64.wrap (v2_2 + (IntKind.i64.wrap x3))))), (24, .val (Value.int .i64 (IntKind.i64.wrap (v2_2 + (IntKind.i64.wrap x3))))), (23, .val (Value.int .i64 (IntKind.i64.wrap x3)))] (RS.dn (WS.nxt (WS.rt ?_))))
        cases h
        exact fun a w hs => rtR (rS hs)

def strconv_bool2_enc : Int → Value
  | r0 => (Value.int .i64 r0)

def strconv_bool2_hp (H : AH) : Int → AH := fun _ => H

noncomputable def B114 : Code := (Tryd.f114.body).getD .skip

noncomputable def strconv_bool2 (_L : LC) (a0 : Bool) : Option Int :=
  if a0 = true then
    some 1
  else
    some 0

theorem strconv_bool2_ok {L : LC} {m : Nat} {H : AH} {a0 : Bool} {r : Int} (h : strconv_bool2 L a0 = some r) :
    CallS Tryd.prog (NE.plain 1000) m 114 #[(Value.bool a0)] H (strconv_bool2_enc r) (strconv_bool2_hp H r) := by
  refine CallS.mk (args := [(Value.bool a0)]) Tryd.func114 (B := B114) (by kernel_rfl) (fun E _ => ?_)
  unfold strconv_bool2 at h
  refine WS.sq (WS.rg (RS.mS 1 [(2, .val (Value.int .i64 0))] (RS.dn (WS.nxt (WS.sq (WS.sq (WS.rg (RS.mS 1 [(3, .val (Value.bool a0))] (RS.dn ?_)))))))))
  refine WS.nxt ?_
  rcases ite_some h with ⟨hp, h⟩ | ⟨hp, h⟩
  · refine WS.fx 3 true hp (WS.cT (WS.sq (WS.rg (RS.mS 1 [(2, .val (Value.int .i64 1))] (RS.dn (WS.nxt (WS.rt ?_)))))))
    cases h
    exact fun a w hs => sqR (rtR (rS hs))
  · refine WS.fx 3 false (b_not hp) (WS.cF (WS.sk (WS.nxt (WS.sq (WS.rg (RS.mS 1 [(2, .val (Value.int .i64 0))] (RS.dn (WS.nxt (WS.rt ?_)))))))))
    cases h
    exact fun a w hs => rtR (rS hs)

def strconv_numDigits_enc : Int → Value
  | r0 => (Value.int .i64 r0)

def strconv_numDigits_hp (H : AH) : Int → AH := fun _ => H

noncomputable def B107 : Code := (Tryd.f107.body).getD .skip

noncomputable def strconv_numDigits (L : LC) (H : AH) (a0 : Int) : Option Int :=
  Option.bind (bits_Len64 L a0) fun x1 =>
  Option.bind (strconv_log10Pow2 L x1) fun x2 =>
  Option.bind (idxR 1 20 (⟨3, 0, none⟩ : Addr) x2) fun p3 =>
  Option.bind (rd (deI .u64) H p3) fun x4 =>
  Option.bind (strconv_bool2 L (decide (a0 ≥ x4))) fun x5 =>
  some (IntKind.i64.wrap (x2 + x5))

theorem strconv_numDigits_ok {L : LC} {m : Nat} {H : AH} {a0 : Int} {r : Int} (h : strconv_numDigits L H a0 = some r) :
    CallS Tryd.prog (NE.plain 1000) m 107 #[(Value.int .u64 a0)] H (strconv_numDigits_enc r) (strconv_numDigits_hp H r) := by
  refine CallS.mk (args := [(Value.int .u64 a0)]) Tryd.func107 (B := B107) (by kernel_rfl) (fun E _ => ?_)
  unfold strconv_numDigits at h
  refine WS.sq (WS.rg (RS.mS 1 [(2, .val (Value.int .i64 0))] (RS.dn (WS.nxt (WS.sq (WS.rg (RS.mS 1 [(4, .val (Value.int .u64 a0))] ?_)))))))
  obtain ⟨x1, hx, h⟩ := bind_some h
  refine RS.cl (some 5) (v := (Value.int .i64 x1)) 113 #[(Value.int .u64 a0)] (bits_Len64_ok hx) ?_
  obtain ⟨x2, hx, h⟩ := bind_some h
  refine RS.cl (some 6) (v := (Value.int .i64 x2)) 112 #[(Value.int .i64 x1)] (strconv_log10Pow2_ok hx) (RS.mS 1 [(3, .val (Value.int .i64 x2))] (RS.dn (WS.nxt (WS.sq (WS.rg (RS.mS 3 [(9, .val (Value.int .i64 x2)), (8, .val (Value.int .u64 a0)), (7, .val (Value.int .i64 x2))] ?_))))))
  obtain ⟨p3, hx, h⟩ := bind_some h
  refine RS.o (H' := H) (some 10) (Value.pointer (some p3)) (Abs.run_idxR (a := (⟨3, 0, none⟩ : Addr)) (k := .i64) (t := 159) (e := 141) (x := .global 3) (y := .tmp 9) (by kernel_rfl) (by kernel_rfl) (by kernel_rfl) (by kernel_rfl) (by kernel_rfl) hx) ?_
  obtain ⟨x4, hx, h⟩ := bind_some h
  refine RS.o (H' := H) (some 11) (Value.int .u64 x4) (Abs.run_load (t := 141) (x := .tmp 10) (a := p3) (by kernel_rfl) (by kernel_rfl) (by kernel_rfl) (rd_cell hx deI_inv)) (RS.mS 1 [(12, .val (Value.bool (decide (a0 ≥ x4))))] ?_)
  obtain ⟨x5, hx, h⟩ := bind_some h
  refine RS.cl (some 13) (v := (Value.int .i64 x5)) 114 #[(Value.bool (decide (a0 ≥ x4)))] (strconv_bool2_ok hx) (RS.mS 2 [(2, .val (Value.int .i64 (IntKind.i64.wrap (x2 + x5)))), (14, .val (Value.int .i64 (IntKind.i64.wrap (x2 + x5))))] (RS.dn (WS.nxt (WS.rt ?_))))
  cases h
  exact fun a w hs => rtR (rS hs)

end Go.Proofs.YtccbilfbhecdaaaDoor.Aw


namespace Go.Proofs.YtccbilfbhecdaaaDoor.Aw
open Go Go.Abs
set_option maxRecDepth 100000

def strconv_formatBase10_enc : AH → Value
  | _ => (Value.tuple #[])

def strconv_formatBase10_hp (_ : AH) : AH → AH := fun r => r

noncomputable def B108 : Code := (Tryd.f108.body).getD .skip

noncomputable def strconv_formatBase10_b0 (_L : LC) (_a0 : Sl3) : (AH × Int × Int) → Option (Lp (AH × Int × Int) AH) := fun (H1, v1_2, v4_3) =>
  if v4_3 ≥ 8 then
    none
  else
    some (.brk (H1, v1_2, v4_3))

def strconv_formatBase10_b0_kn (_L : LC) (a0 : Sl3) : (AH × Int × Int) → KN := fun (_, v1_2, v4_3) => [(1, .val (Value.int .u64 v1_2)), (4, .val (Value.int .i64 v4_3)), (0, .val (Sl3.v a0))]

def strconv_formatBase10_b0_ls (_L : LC) (_a0 : Sl3) : (AH × Int × Int) → Lcs := fun (_, _, _) => []

noncomputable def strconv_formatBase10 (L : LC) (m : Nat) (H : AH) (a0 : Sl3) (a1 : Int) : Option AH :=
  Option.bind (L.run (strconv_formatBase10_b0 L a0) (H, a1, (a0.n : Int))) fun o => match o with
  | .inl (H4, v1_5, v4_6) =>
    Option.bind (α := (AH × Int × Int)) (
      if v4_6 ≥ 4 then
        Option.bind (bytA (⟨#[48, 48, 48, 49, 48, 50, 48, 51, 48, 52, 48, 53, 48, 54, 48, 55, 48, 56, 48, 57, 49, 48, 49, 49, 49, 50, 49, 51, 49, 52, 49, 53, 49, 54, 49, 55, 49, 56, 49, 57, 50, 48, 50, 49, 50, 50, 50, 51, 50, 52, 50, 53, 50, 54, 50, 55, 50, 56, 50, 57, 51, 48, 51, 49, 51, 50, 51, 51, 51, 52, 51, 53, 51, 54, 51, 55, 51, 56, 51, 57, 52, 48, 52, 49, 52, 50, 52, 51, 52, 52, 52, 53, 52, 54, 52, 55, 52, 56, 52, 57, 53, 48, 53, 49, 53, 50, 53, 51, 53, 52, 53, 53, 53, 54, 53, 55, 53, 56, 53, 57, 54, 48, 54, 49, 54, 50, 54, 51, 54, 52, 54, 53, 54, 54, 54, 55, 54, 56, 54, 57, 55, 48, 55, 49, 55, 50, 55, 51, 55, 52, 55, 53, 55, 54, 55, 55, 55, 56, 55, 57, 56, 48, 56, 49, 56, 50, 56, 51, 56, 52, 56, 53, 56, 54, 56, 55, 56, 56, 56, 57, 57, 48, 57, 49, 57, 50, 57, 51, 57, 52, 57, 53, 57, 54, 57, 55, 57, 56, 57, 57]⟩ : ByteArray) (IntKind.u32.wrap ((IntKind.u32.wrap ((Int.tmod (Int.tmod (IntKind.u32.wrap v1_5) 10000) 100) * 2)) + 1))) fun x10 =>
        Option.bind (bytA (⟨#[48, 48, 48, 49, 48, 50, 48, 51, 48, 52, 48, 53, 48, 54, 48, 55, 48, 56, 48, 57, 49, 48, 49, 49, 49, 50, 49, 51, 49, 52, 49, 53, 49, 54, 49, 55, 49, 56, 49, 57, 50, 48, 50, 49, 50, 50, 50, 51, 50, 52, 50, 53, 50, 54, 50, 55, 50, 56, 50, 57, 51, 48, 51, 49, 51, 50, 51, 51, 51, 52, 51, 53, 51, 54, 51, 55, 51, 56, 51, 57, 52, 48, 52, 49, 52, 50, 52, 51, 52, 52, 52, 53, 52, 54, 52, 55, 52, 56, 52, 57, 53, 48, 53, 49, 53, 50, 53, 51, 53, 52, 53, 53, 53, 54, 53, 55, 53, 56, 53, 57, 54, 48, 54, 49, 54, 50, 54, 51, 54, 52, 54, 53, 54, 54, 54, 55, 54, 56, 54, 57, 55, 48, 55, 49, 55, 50, 55, 51, 55, 52, 55, 53, 55, 54, 55, 55, 55, 56, 55, 57, 56, 48, 56, 49, 56, 50, 56, 51, 56, 52, 56, 53, 56, 54, 56, 55, 56, 56, 56, 57, 57, 48, 57, 49, 57, 50, 57, 51, 57, 52, 57, 53, 57, 54, 57, 55, 57, 56, 57, 57]⟩ : ByteArray) (IntKind.u32.wrap ((Int.tmod (Int.tmod (IntKind.u32.wrap v1_5) 10000) 100) * 2))) fun x11 =>
        Option.bind (idxA 1 a0 (IntKind.i64.wrap (v4_6 - 1))) fun p12 =>
        Option.bind (H4.setCell m p12 (Value.int .u8 x10)) fun H13 =>
        Option.bind (idxA 1 a0 (IntKind.i64.wrap (v4_6 - 2))) fun p14 =>
        Option.bind (H13.setCell m p14 (Value.int .u8 x11)) fun H15 =>
        Option.bind (bytA (⟨#[48, 48, 48, 49, 48, 50, 48, 51, 48, 52, 48, 53, 48, 54, 48, 55, 48, 56, 48, 57, 49, 48, 49, 49, 49, 50, 49, 51, 49, 52, 49, 53, 49, 54, 49, 55, 49, 56, 49, 57, 50, 48, 50, 49, 50, 50, 50, 51, 50, 52, 50, 53, 50, 54, 50, 55, 50, 56, 50, 57, 51, 48, 51, 49, 51, 50, 51, 51, 51, 52, 51, 53, 51, 54, 51, 55, 51, 56, 51, 57, 52, 48, 52, 49, 52, 50, 52, 51, 52, 52, 52, 53, 52, 54, 52, 55, 52, 56, 52, 57, 53, 48, 53, 49, 53, 50, 53, 51, 53, 52, 53, 53, 53, 54, 53, 55, 53, 56, 53, 57, 54, 48, 54, 49, 54, 50, 54, 51, 54, 52, 54, 53, 54, 54, 54, 55, 54, 56, 54, 57, 55, 48, 55, 49, 55, 50, 55, 51, 55, 52, 55, 53, 55, 54, 55, 55, 55, 56, 55, 57, 56, 48, 56, 49, 56, 50, 56, 51, 56, 52, 56, 53, 56, 54, 56, 55, 56, 56, 56, 57, 57, 48, 57, 49, 57, 50, 57, 51, 57, 52, 57, 53, 57, 54, 57, 55, 57, 56, 57, 57]⟩ : ByteArray) (IntKind.u32.wrap ((IntKind.u32.wrap ((IntKind.u32.wrap (Int.tdiv (Int.tmod (IntKind.u32.wrap v1_5) 10000) 100)) * 2)) + 1))) fun x16 =>
        Option.bind (bytA (⟨#[48, 48, 48, 49, 48, 50, 48, 51, 48, 52, 48, 53, 48, 54, 48, 55, 48, 56, 48, 57, 49, 48, 49, 49, 49, 50, 49, 51, 49, 52, 49, 53, 49, 54, 49, 55, 49, 56, 49, 57, 50, 48, 50, 49, 50, 50, 50, 51, 50, 52, 50, 53, 50, 54, 50, 55, 50, 56, 50, 57, 51, 48, 51, 49, 51, 50, 51, 51, 51, 52, 51, 53, 51, 54, 51, 55, 51, 56, 51, 57, 52, 48, 52, 49, 52, 50, 52, 51, 52, 52, 52, 53, 52, 54, 52, 55, 52, 56, 52, 57, 53, 48, 53, 49, 53, 50, 53, 51, 53, 52, 53, 53, 53, 54, 53, 55, 53, 56, 53, 57, 54, 48, 54, 49, 54, 50, 54, 51, 54, 52, 54, 53, 54, 54, 54, 55, 54, 56, 54, 57, 55, 48, 55, 49, 55, 50, 55, 51, 55, 52, 55, 53, 55, 54, 55, 55, 55, 56, 55, 57, 56, 48, 56, 49, 56, 50, 56, 51, 56, 52, 56, 53, 56, 54, 56, 55, 56, 56, 56, 57, 57, 48, 57, 49, 57, 50, 57, 51, 57, 52, 57, 53, 57, 54, 57, 55, 57, 56, 57, 57]⟩ : ByteArray) (IntKind.u32.wrap ((IntKind.u32.wrap (Int.tdiv (Int.tmod (IntKind.u32.wrap v1_5) 10000) 100)) * 2))) fun x17 =>
        Option.bind (idxA 1 a0 (IntKind.i64.wrap (v4_6 - 3))) fun p18 =>
        Option.bind (H15.setCell m p18 (Value.int .u8 x16)) fun H19 =>
        Option.bind (idxA 1 a0 (IntKind.i64.wrap (v4_6 - 4))) fun p20 =>
        Option.bind (H19.setCell m p20 (Value.int .u8 x17)) fun H21 =>
        some (H21, (IntKind.i64.wrap (v4_6 - 4)), (IntKind.u32.wrap (Int.tdiv (IntKind.u32.wrap v1_5) 10000)))
      else
        some (H4, v4_6, (IntKind.u32.wrap v1_5))) fun (H7, v4_8, v12_9) =>
    Option.bind (α := (AH × Int × Int)) (
      if v4_8 ≥ 2 then
        Option.bind (bytA (⟨#[48, 48, 48, 49, 48, 50, 48, 51, 48, 52, 48, 53, 48, 54, 48, 55, 48, 56, 48, 57, 49, 48, 49, 49, 49, 50, 49, 51, 49, 52, 49, 53, 49, 54, 49, 55, 49, 56, 49, 57, 50, 48, 50, 49, 50, 50, 50, 51, 50, 52, 50, 53, 50, 54, 50, 55, 50, 56, 50, 57, 51, 48, 51, 49, 51, 50, 51, 51, 51, 52, 51, 53, 51, 54, 51, 55, 51, 56, 51, 57, 52, 48, 52, 49, 52, 50, 52, 51, 52, 52, 52, 53, 52, 54, 52, 55, 52, 56, 52, 57, 53, 48, 53, 49, 53, 50, 53, 51, 53, 52, 53, 53, 53, 54, 53, 55, 53, 56, 53, 57, 54, 48, 54, 49, 54, 50, 54, 51, 54, 52, 54, 53, 54, 54, 54, 55, 54, 56, 54, 57, 55, 48, 55, 49, 55, 50, 55, 51, 55, 52, 55, 53, 55, 54, 55, 55, 55, 56, 55, 57, 56, 48, 56, 49, 56, 50, 56, 51, 56, 52, 56, 53, 56, 54, 56, 55, 56, 56, 56, 57, 57, 48, 57, 49, 57, 50, 57, 51, 57, 52, 57, 53, 57, 54, 57, 55, 57, 56, 57, 57]⟩ : ByteArray) (IntKind.u32.wrap ((IntKind.u32.wrap ((Int.tmod v12_9 100) * 2)) + 1))) fun x25 =>
        Option.bind (bytA (⟨#[48, 48, 48, 49, 48, 50, 48, 51, 48, 52, 48, 53, 48, 54, 48, 55, 48, 56, 48, 57, 49, 48, 49, 49, 49, 50, 49, 51, 49, 52, 49, 53, 49, 54, 49, 55, 49, 56, 49, 57, 50, 48, 50, 49, 50, 50, 50, 51, 50, 52, 50, 53, 50, 54, 50, 55, 50, 56, 50, 57, 51, 48, 51, 49, 51, 50, 51, 51, 51, 52, 51, 53, 51, 54, 51, 55, 51, 56, 51, 57, 52, 48, 52, 49, 52, 50, 52, 51, 52, 52, 52, 53, 52, 54, 52, 55, 52, 56, 52, 57, 53, 48, 53, 49, 53, 50, 53, 51, 53, 52, 53, 53, 53, 54, 53, 55, 53, 56, 53, 57, 54, 48, 54, 49, 54, 50, 54, 51, 54, 52, 54, 53, 54, 54, 54, 55, 54, 56, 54, 57, 55, 48, 55, 49, 55, 50, 55, 51, 55, 52, 55, 53, 55, 54, 55, 55, 55, 56, 55, 57, 56, 48, 56, 49, 56, 50, 56, 51, 56, 52, 56, 53, 56, 54, 56, 55, 56, 56, 56, 57, 57, 48, 57, 49, 57, 50, 57, 51, 57, 52, 57, 53, 57, 54, 57, 55, 57, 56, 57, 57]⟩ : ByteArray) (IntKind.u32.wrap ((Int.tmod v12_9 100) * 2))) fun x26 =>
        Option.bind (idxA 1 a0 (IntKind.i64.wrap (v4_8 - 1))) fun p27 =>
        Option.bind (H7.setCell m p27 (Value.int .u8 x25)) fun H28 =>
        Option.bind (idxA 1 a0 (IntKind.i64.wrap (v4_8 - 2))) fun p29 =>
        Option.bind (H28.setCell m p29 (Value.int .u8 x26)) fun H30 =>
        some (H30, (IntKind.i64.wrap (v4_8 - 2)), (IntKind.u32.wrap (Int.tdiv v12_9 100)))
      else
        some (H7, v4_8, v12_9)) fun (H22, v4_23, v12_24) =>
    if v4_23 > 0 then
      Option.bind (idxA 1 a0 0) fun p31 =>
      Option.bind (H22.setCell m p31 (Value.int .u8 (IntKind.u8.wrap (IntKind.u32.wrap (48 + v12_24))))) fun H32 =>
      some H32
    else
      some H22
  | .inr r => some r

theorem strconv_formatBase10_b0_ok {E : Ent} {m : Nat} {H : AH} {L : LC} {a0 : Sl3}  : ∀ s o, strconv_formatBase10_b0 L a0 s = some o →
    WS Tryd.prog (NE.plain 1000) m E Tryd.f108.ntmps (cfst (cfst (cfst (csnd B108)))) (strconv_formatBase10_b0_kn L a0 s) (strconv_formatBase10_b0_ls L a0 s) ((fun s => s.1) s) (lpS Tryd.prog (NE.plain 1000) m E Tryd.f108.ntmps (strconv_formatBase10_b0_kn L a0) (strconv_formatBase10_b0_ls L a0) (fun s => s.1) 0 (fun r => RT Tryd.prog (NE.plain 1000) m E Tryd.f108 (strconv_formatBase10_enc r) (strconv_formatBase10_hp H r)) o) := by
  rintro ⟨H1, v1_2, v4_3⟩ o h
  unfold strconv_formatBase10_b0 at h
  try dsimp only at h
  refine WS.sq (WS.sq (WS.rg (RS.mS 2 [(20, .val (Value.bool (decide (v4_3 ≥ 8)))), (19, .val (Value.int .i64 v4_3))] (RS.dn (WS.nxt ?_)))))
  rcases ite_some h with ⟨hp, h⟩ | ⟨hp, h⟩
  · refine WS.fx 20 true (decide_eq_true hp) (WS.cT ?_)
    cases h
  · refine WS.fx 20 false (decide_eq_false hp) (WS.cF (WS.ex 0 ?_))
    cases h
    exact fun a w hs => sqE (lsB rfl (hs.sb 0))

theorem strconv_formatBase10_ok {L : LC} {m : Nat} {H : AH} {a0 : Sl3} {a1 : Int} {r : AH} (h : strconv_formatBase10 L m H a0 a1 = some r) :
    CallS Tryd.prog (NE.plain 1000) m 108 #[(Sl3.v a0), (Value.int .u64 a1)] H (strconv_formatBase10_enc r) (strconv_formatBase10_hp H r) := by
  refine CallS.mk (args := [(Sl3.v a0), (Value.int .u64 a1)]) Tryd.func108 (B := B108) (by kernel_rfl) (fun E _ => ?_)
  unfold strconv_formatBase10 at h
  refine WS.sq (WS.rg (RS.mS 3 [(4, .val (Value.int .i64 (a0.n : Int))), (18, .val (Value.int .i64 (a0.n : Int))), (17, .val (Sl3.v a0))] (RS.dn (WS.nxt (WS.sq (WS.bk 0 ?_))))))
  obtain ⟨o, hl, h⟩ := bind_some h
  rcases o with ⟨H4, v1_5, v4_6⟩ | r
  · try dsimp only at h
    refine WS.lI (strconv_formatBase10_b0_ok (L := L) (E := E) (m := m) (H := H)) (L.ok hl) 0 ?_
    clear hl
    refine fun a w hs => bkE ((WS.nxt ?_ a w hs))
    refine WS.sq (WS.rg (RS.mS 3 [(12, .val (Value.int .u32 (IntKind.u32.wrap v1_5))), (97, .val (Value.int .u32 (IntKind.u32.wrap v1_5))), (96, .val (Value.int .u64 v1_5))] (RS.dn (WS.nxt ?_))))
    obtain ⟨⟨H7, v4_8, v12_9⟩, hx, h⟩ := bind_some h
    try dsimp only at h
    refine WS.sq ?_
    refine WS.join ([(4, .val (Value.int .i64 v4_8)), (12, .val (Value.int .u32 v12_9)), (0, .val (Sl3.v a0))]) ([]) H7 ?_ (fun a w hs => WS.nxt ?_ a w hs)
    · clear h; rename _ => h
      refine WS.sq (WS.rg (RS.mS 2 [(99, .val (Value.bool (decide (v4_6 ≥ 4)))), (98, .val (Value.int .i64 v4_6))] (RS.dn (WS.nxt ?_))))
      rcases ite_some h with ⟨hp, h⟩ | ⟨hp, h⟩
      · refine WS.fx 99 true (decide_eq_true hp) (WS.cT (WS.sq (WS.rg (RS.mS 3 [(13, .val (Value.int .u32 (Int.tmod (IntKind.u32.wrap v1_5) 10000))), (101, .val (Value.int .u32 (Int.tmod (IntKind.u32.wrap v1_5) 10000))), (100, .val (Value.int .u32 (IntKind.u32.wrap v1_5)))] (RS.dn (WS.nxt (WS.sq (WS.rg (RS.mS 3 [(12, .val (Value.int .u32 (IntKind.u32.wrap (Int.tdiv (IntKind.u32.wrap v1_5) 10000)))), (103, .val (Value.int .u32 (IntKind.u32.wrap (Int.tdiv (IntKind.u32.wrap v1_5) 10000)))), (102, .val (Value.int .u32 (IntKind.u32.wrap v1_5)))] ?_)))))))))
        refine RS.dn (WS.nxt (WS.sq (WS.rg (RS.mS 8 [(15, .val (Value.int .u32 (IntKind.u32.wrap ((Int.tmod (Int.tmod (IntKind.u32.wrap v1_5) 10000) 100) * 2)))), (14, .val (Value.int .u32 (IntKind.u32.wrap ((IntKind.u32.wrap (Int.tdiv (Int.tmod (IntKind.u32.wrap v1_5) 10000) 100)) * 2)))), (109, .val (Value.int .u32 (IntKind.u32.wrap ((Int.tmod (Int.tmod (IntKind.u32.wrap v1_5) 10000) 100) * 2)))), (108, .val (Value.int .u32 (Int.tmod (Int.tmod (IntKind.u32.wrap v1_5) 10000) 100))), (107, .val (Value.int .u32 (Int.tmod (IntKind.u32.wrap v1_5) 10000))), (106, .val (Value.int .u32 (IntKind.u32.wrap ((IntKind.u32.wrap (Int.tdiv (Int.tmod (IntKind.u32.wrap v1_5) 10000) 100)) * 2)))), (105, .val (Value.int .u32 (IntKind.u32.wrap (Int.tdiv (Int.tmod (IntKind.u32.wrap v1_5) 10000) 100)))), (104, .val (Value.int .u32 (Int.tmod (IntKind.u32.wrap v1_5) 10000)))] (RS.dn (WS.nxt (WS.sq ?_)))))))
        refine WS.dr [] [0, 0, 2, 0, 0, 16, 0, 64, 192, 0, 512, 455, 2503, 8191, 16383] 15 (fun hcl => ?_)
        refine DA.tP 0 (some 110) (Sl3.v a0) (DA.tP 1 (some 111) (Value.int .i64 v4_6) (DA.tP 2 (some 112) (Value.int .i64 (IntKind.i64.wrap (v4_6 - 1))) (DA.tP 3 (some 113) (Sl3.v a0) (DA.tP 4 (some 114) (Value.int .i64 v4_6) (DA.tP 5 (some 115) (Value.int .i64 (IntKind.i64.wrap (v4_6 - 2))) (DA.tP 6 (some 116) (Value.int .u32 (IntKind.u32.wrap ((Int.tmod (Int.tmod (IntKind.u32.wrap v1_5) 10000) 100) * 2))) (DA.tP 7 (some 117) (Value.int .u32 (IntKind.u32.wrap ((IntKind.u32.wrap ((Int.tmod (Int.tmod (IntKind.u32.wrap v1_5) 10000) 100) * 2)) + 1))) ?_)))))))
        obtain ⟨x10, hx, h⟩ := bind_some h
        refine DA.tPx 8 (some 118) (Value.int .u8 x10) (Abs.det_byt (t := 9) (x := .const (Value.string (⟨#[48, 48, 48, 49, 48, 50, 48, 51, 48, 52, 48, 53, 48, 54, 48, 55, 48, 56, 48, 57, 49, 48, 49, 49, 49, 50, 49, 51, 49, 52, 49, 53, 49, 54, 49, 55, 49, 56, 49, 57, 50, 48, 50, 49, 50, 50, 50, 51, 50, 52, 50, 53, 50, 54, 50, 55, 50, 56, 50, 57, 51, 48, 51, 49, 51, 50, 51, 51, 51, 52, 51, 53, 51, 54, 51, 55, 51, 56, 51, 57, 52, 48, 52, 49, 52, 50, 52, 51, 52, 52, 52, 53, 52, 54, 52, 55, 52, 56, 52, 57, 53, 48, 53, 49, 53, 50, 53, 51, 53, 52, 53, 53, 53, 54, 53, 55, 53, 56, 53, 57, 54, 48, 54, 49, 54, 50, 54, 51, 54, 52, 54, 53, 54, 54, 54, 55, 54, 56, 54, 57, 55, 48, 55, 49, 55, 50, 55, 51, 55, 52, 55, 53, 55, 54, 55, 55, 55, 56, 55, 57, 56, 48, 56, 49, 56, 50, 56, 51, 56, 52, 56, 53, 56, 54, 56, 55, 56, 56, 56, 57, 57, 48, 57, 49, 57, 50, 57, 51, 57, 52, 57, 53, 57, 54, 57, 55, 57, 56, 57, 57]⟩ : ByteArray))) (y := .tmp 117) (s := (⟨#[48, 48, 48, 49, 48, 50, 48, 51, 48, 52, 48, 53, 48, 54, 48, 55, 48, 56, 48, 57, 49, 48, 49, 49, 49, 50, 49, 51, 49, 52, 49, 53, 49, 54, 49, 55, 49, 56, 49, 57, 50, 48, 50, 49, 50, 50, 50, 51, 50, 52, 50, 53, 50, 54, 50, 55, 50, 56, 50, 57, 51, 48, 51, 49, 51, 50, 51, 51, 51, 52, 51, 53, 51, 54, 51, 55, 51, 56, 51, 57, 52, 48, 52, 49, 52, 50, 52, 51, 52, 52, 52, 53, 52, 54, 52, 55, 52, 56, 52, 57, 53, 48, 53, 49, 53, 50, 53, 51, 53, 52, 53, 53, 53, 54, 53, 55, 53, 56, 53, 57, 54, 48, 54, 49, 54, 50, 54, 51, 54, 52, 54, 53, 54, 54, 54, 55, 54, 56, 54, 57, 55, 48, 55, 49, 55, 50, 55, 51, 55, 52, 55, 53, 55, 54, 55, 55, 55, 56, 55, 57, 56, 48, 56, 49, 56, 50, 56, 51, 56, 52, 56, 53, 56, 54, 56, 55, 56, 56, 56, 57, 57, 48, 57, 49, 57, 50, 57, 51, 57, 52, 57, 53, 57, 54, 57, 55, 57, 56, 57, 57]⟩ : ByteArray)) (k := .u32) (i := (IntKind.u32.wrap ((IntKind.u32.wrap ((Int.tmod (Int.tmod (IntKind.u32.wrap v1_5) 10000) 100) * 2)) + 1))) (by kernel_rfl) (by kernel_rfl) (by kernel_rfl) (by kernel_rfl) hx) (DA.tP 9 (some 119) (Value.int .u32 (IntKind.u32.wrap ((Int.tmod (Int.tmod (IntKind.u32.wrap v1_5) 10000) 100) * 2))) ?_)
        obtain ⟨x11, hx, h⟩ := bind_some h
        refine DA.tPx 10 (some 120) (Value.int .u8 x11) (Abs.det_byt (t := 9) (x := .const (Value.string (⟨#[48, 48, 48, 49, 48, 50, 48, 51, 48, 52, 48, 53, 48, 54, 48, 55, 48, 56, 48, 57, 49, 48, 49, 49, 49, 50, 49, 51, 49, 52, 49, 53, 49, 54, 49, 55, 49, 56, 49, 57, 50, 48, 50, 49, 50, 50, 50, 51, 50, 52, 50, 53, 50, 54, 50, 55, 50, 56, 50, 57, 51, 48, 51, 49, 51, 50, 51, 51, 51, 52, 51, 53, 51, 54, 51, 55, 51, 56, 51, 57, 52, 48, 52, 49, 52, 50, 52, 51, 52, 52, 52, 53, 52, 54, 52, 55, 52, 56, 52, 57, 53, 48, 53, 49, 53, 50, 53, 51, 53, 52, 53, 53, 53, 54, 53, 55, 53, 56, 53, 57, 54, 48, 54, 49, 54, 50, 54, 51, 54, 52, 54, 53, 54, 54, 54, 55, 54, 56, 54, 57, 55, 48, 55, 49, 55, 50, 55, 51, 55, 52, 55, 53, 55, 54, 55, 55, 55, 56, 55, 57, 56, 48, 56, 49, 56, 50, 56, 51, 56, 52, 56, 53, 56, 54, 56, 55, 56, 56, 56, 57, 57, 48, 57, 49, 57, 50, 57, 51, 57, 52, 57, 53, 57, 54, 57, 55, 57, 56, 57, 57]⟩ : ByteArray))) (y := .tmp 119) (s := (⟨#[48, 48, 48, 49, 48, 50, 48, 51, 48, 52, 48, 53, 48, 54, 48, 55, 48, 56, 48, 57, 49, 48, 49, 49, 49, 50, 49, 51, 49, 52, 49, 53, 49, 54, 49, 55, 49, 56, 49, 57, 50, 48, 50, 49, 50, 50, 50, 51, 50, 52, 50, 53, 50, 54, 50, 55, 50, 56, 50, 57, 51, 48, 51, 49, 51, 50, 51, 51, 51, 52, 51, 53, 51, 54, 51, 55, 51, 56, 51, 57, 52, 48, 52, 49, 52, 50, 52, 51, 52, 52, 52, 53, 52, 54, 52, 55, 52, 56, 52, 57, 53, 48, 53, 49, 53, 50, 53, 51, 53, 52, 53, 53, 53, 54, 53, 55, 53, 56, 53, 57, 54, 48, 54, 49, 54, 50, 54, 51, 54, 52, 54, 53, 54, 54, 54, 55, 54, 56, 54, 57, 55, 48, 55, 49, 55, 50, 55, 51, 55, 52, 55, 53, 55, 54, 55, 55, 55, 56, 55, 57, 56, 48, 56, 49, 56, 50, 56, 51, 56, 52, 56, 53, 56, 54, 56, 55, 56, 56, 56, 57, 57, 48, 57, 49, 57, 50, 57, 51, 57, 52, 57, 53, 57, 54, 57, 55, 57, 56, 57, 57]⟩ : ByteArray)) (k := .u32) (i := (IntKind.u32.wrap ((Int.tmod (Int.tmod (IntKind.u32.wrap v1_5) 10000) 100) * 2))) (by kernel_rfl) (by kernel_rfl) (by kernel_rfl) (by kernel_rfl) hx) ?_
        obtain ⟨p12, hx, h⟩ := bind_some h
        refine DA.tPx 11 (some 121) (Value.pointer (some p12)) (Abs.det_idx (s := a0) (k := .i64) (t := 144) (e := 5) (x := .tmp 110) (y := .tmp 112) (by kernel_rfl) (by kernel_rfl) (by kernel_rfl) (by kernel_rfl) (by kernel_rfl) hx) ?_
        obtain ⟨H13, hx, h⟩ := bind_some h
        refine DA.on 12 (DA.aH (H' := H13) 12 none undef (Abs.run_store1 (t := 5) (x := .tmp 121) (y := .tmp 118) (a := p12) (v := (Value.int .u8 x10)) (by kernel_rfl) (by kernel_rfl) (by kernel_rfl) (by kernel_rfl) (by kernel_rfl) hx) ?_)
        obtain ⟨p14, hx, h⟩ := bind_some h
        refine DA.tPx 13 (some 122) (Value.pointer (some p14)) (Abs.det_idx (s := a0) (k := .i64) (t := 144) (e := 5) (x := .tmp 113) (y := .tmp 115) (by kernel_rfl) (by kernel_rfl) (by kernel_rfl) (by kernel_rfl) (by kernel_rfl) hx) ?_
        obtain ⟨H15, hx, h⟩ := bind_some h
        refine DA.on 14 (DA.aH (H' := H15) 14 none undef (Abs.run_store1 (t := 5) (x := .tmp 122) (y := .tmp 120) (a := p14) (v := (Value.int .u8 x11)) (by kernel_rfl) (by kernel_rfl) (by kernel_rfl) (by kernel_rfl) (by kernel_rfl) hx) (DA.dn (WS.nxt (WS.sq ?_))))
        refine WS.dr [] [0, 0, 2, 0, 0, 16, 0, 64, 192, 0, 512, 455, 2503, 8191, 16383] 15 (fun hcl => ?_)
        refine DA.tP 0 (some 123) (Sl3.v a0) (DA.tP 1 (some 124) (Value.int .i64 v4_6) (DA.tP 2 (some 125) (Value.int .i64 (IntKind.i64.wrap (v4_6 - 3))) (DA.tP 3 (some 126) (Sl3.v a0) (DA.tP 4 (some 127) (Value.int .i64 v4_6) (DA.tP 5 (some 128) (Value.int .i64 (IntKind.i64.wrap (v4_6 - 4))) (DA.tP 6 (some 129) (Value.int .u32 (IntKind.u32.wrap ((IntKind.u32.wrap (Int.tdiv (Int.tmod (IntKind.u32.wrap v1_5) 10000) 100)) * 2))) (DA.tP 7 (some 130) (Value.int .u32 (IntKind.u32.wrap ((IntKind.u32.wrap ((IntKind.u32.wrap (Int.tdiv (Int.tmod (IntKind.u32.wrap v1_5) 10000) 100)) * 2)) + 1))) ?_)))))))
        obtain ⟨x16, hx, h⟩ := bind_some h
        refine DA.tPx 8 (some 131) (Value.int .u8 x16) (Abs.det_byt (t := 9) (x := .const (Value.string (⟨#[48, 48, 48, 49, 48, 50, 48, 51, 48, 52, 48, 53, 48, 54, 48, 55, 48, 56, 48, 57, 49, 48, 49, 49, 49, 50, 49, 51, 49, 52, 49, 53, 49, 54, 49, 55, 49, 56, 49, 57, 50, 48, 50, 49, 50, 50, 50, 51, 50, 52, 50, 53, 50, 54, 50, 55, 50, 56, 50, 57, 51, 48, 51, 49, 51, 50, 51, 51, 51, 52, 51, 53, 51, 54, 51, 55, 51, 56, 51, 57, 52, 48, 52, 49, 52, 50, 52, 51, 52, 52, 52, 53, 52, 54, 52, 55, 52, 56, 52, 57, 53, 48, 53, 49, 53, 50, 53, 51, 53, 52, 53, 53, 53, 54, 53, 55, 53, 56, 53, 57, 54, 48, 54, 49, 54, 50, 54, 51, 54, 52, 54, 53, 54, 54, 54, 55, 54, 56, 54, 57, 55, 48, 55, 49, 55, 50, 55, 51, 55, 52, 55, 53, 55, 54, 55, 55, 55, 56, 55, 57, 56, 48, 56, 49, 56, 50, 56, 51, 56, 52, 56, 53, 56, 54, 56, 55, 56, 56, 56, 57, 57, 48, 57, 49, 57, 50, 57, 51, 57, 52, 57, 53, 57, 54, 57, 55, 57, 56, 57, 57]⟩ : ByteArray))) (y := .tmp 130) (s := (⟨#[48, 48, 48, 49, 48, 50, 48, 51, 48, 52, 48, 53, 48, 54, 48, 55, 48, 56, 48, 57, 49, 48, 49, 49, 49, 50, 49, 51, 49, 52, 49, 53, 49, 54, 49, 55, 49, 56, 49, 57, 50, 48, 50, 49, 50, 50, 50, 51, 50, 52, 50, 53, 50, 54, 50, 55, 50, 56, 50, 57, 51, 48, 51, 49, 51, 50, 51, 51, 51, 52, 51, 53, 51, 54, 51, 55, 51, 56, 51, 57, 52, 48, 52, 49, 52, 50, 52, 51, 52, 52, 52, 53, 52, 54, 52, 55, 52, 56, 52, 57, 53, 48, 53, 49, 53, 50, 53, 51, 53, 52, 53, 53, 53, 54, 53, 55, 53, 56, 53, 57, 54, 48, 54, 49, 54, 50, 54, 51, 54, 52, 54, 53, 54, 54, 54, 55, 54, 56, 54, 57, 55, 48, 55, 49, 55, 50, 55, 51, 55, 52, 55, 53, 55, 54, 55, 55, 55, 56, 55, 57, 56, 48, 56, 49, 56, 50, 56, 51, 56, 52, 56, 53, 56, 54, 56, 55, 56, 56, 56, 57, 57, 48, 57, 49, 57, 50, 57, 51, 57, 52, 57, 53, 57, 54, 57, 55, 57, 56, 57, 57]⟩ : ByteArray)) (k := .u32) (i := (IntKind.u32.wrap ((IntKind.u32.wrap ((IntKind.u32.wrap (Int.tdiv (Int.tmod (IntKind.u32.wrap v1_5) 10000) 100)) * 2)) + 1))) (by kernel_rfl) (by kernel_rfl) (by kernel_rfl) (by kernel_rfl) hx) (DA.tP 9 (some 132) (Value.int .u32 (IntKind.u32.wrap ((IntKind.u32.wrap (Int.tdiv (Int.tmod (IntKind.u32.wrap v1_5) 10000) 100)) * 2))) ?_)
        obtain ⟨x17, hx, h⟩ := bind_some h
        refine DA.tPx 10 (some 133) (Value.int .u8 x17) (Abs.det_byt (t := 9) (x := .const (Value.string (⟨#[48, 48, 48, 49, 48, 50, 48, 51, 48, 52, 48, 53, 48, 54, 48, 55, 48, 56, 48, 57, 49, 48, 49, 49, 49, 50, 49, 51, 49, 52, 49, 53, 49, 54, 49, 55, 49, 56, 49, 57, 50, 48, 50, 49, 50, 50, 50, 51, 50, 52, 50, 53, 50, 54, 50, 55, 50, 56, 50, 57, 51, 48, 51, 49, 51, 50, 51, 51, 51, 52, 51, 53, 51, 54, 51, 55, 51, 56, 51, 57, 52, 48, 52, 49, 52, 50, 52, 51, 52, 52, 52, 53, 52, 54, 52, 55, 52, 56, 52, 57, 53, 48, 53, 49, 53, 50, 53, 51, 53, 52, 53, 53, 53, 54, 53, 55, 53, 56, 53, 57, 54, 48, 54, 49, 54, 50, 54, 51, 54, 52, 54, 53, 54, 54, 54, 55, 54, 56, 54, 57, 55, 48, 55, 49, 55, 50, 55, 51, 55, 52, 55, 53, 55, 54, 55, 55, 55, 56, 55, 57, 56, 48, 56, 49, 56, 50, 56, 51, 56, 52, 56, 53, 56, 54, 56, 55, 56, 56, 56, 57, 57, 48, 57, 49, 57, 50, 57, 51, 57, 52, 57, 53, 57, 54, 57, 55, 57, 56, 57, 57]⟩ : ByteArray))) (y := .tmp 132) (s := (⟨#[48, 48, 48, 49, 48, 50, 48, 51, 48, 52, 48, 53, 48, 54, 48, 55, 48, 56, 48, 57, 49, 48, 49, 49, 49, 50, 49, 51, 49, 52, 49, 53, 49, 54, 49, 55, 49, 56, 49, 57, 50, 48, 50, 49, 50, 50, 50, 51, 50, 52, 50, 53, 50, 54, 50, 55, 50, 56, 50, 57, 51, 48, 51, 49, 51, 50, 51, 51, 51, 52, 51, 53, 51, 54, 51, 55, 51, 56, 51, 57, 52, 48, 52, 49, 52, 50, 52, 51, 52, 52, 52, 53, 52, 54, 52, 55, 52, 56, 52, 57, 53, 48, 53, 49, 53, 50, 53, 51, 53, 52, 53, 53, 53, 54, 53, 55, 53, 56, 53, 57, 54, 48, 54, 49, 54, 50, 54, 51, 54, 52, 54, 53, 54, 54, 54, 55, 54, 56, 54, 57, 55, 48, 55, 49, 55, 50, 55, 51, 55, 52, 55, 53, 55, 54, 55, 55, 55, 56, 55, 57, 56, 48, 56, 49, 56, 50, 56, 51, 56, 52, 56, 53, 56, 54, 56, 55, 56, 56, 56, 57, 57, 48, 57, 49, 57, 50, 57, 51, 57, 52, 57, 53, 57, 54, 57, 55, 57, 56, 57, 57]⟩ : ByteArray)) (k := .u32) (i := (IntKind.u32.wrap ((IntKind.u32.wrap (Int.tdiv (Int.tmod (IntKind.u32.wrap v1_5) 10000) 100)) * 2))) (by kernel_rfl) (by kernel_rfl) (by kernel_rfl) (by kernel_rfl) hx) ?_
        obtain ⟨p18, hx, h⟩ := bind_some h
        refine DA.tPx 11 (some 134) (Value.pointer (some p18)) (Abs.det_idx (s := a0) (k := .i64) (t := 144) (e := 5) (x := .tmp 123) (y := .tmp 125) (by kernel_rfl) (by kernel_rfl) (by kernel_rfl) (by kernel_rfl) (by kernel_rfl) hx) ?_
        obtain ⟨H19, hx, h⟩ := bind_some h
        refine DA.on 12 (DA.aH (H' := H19) 12 none undef (Abs.run_store1 (t := 5) (x := .tmp 134) (y := .tmp 131) (a := p18) (v := (Value.int .u8 x16)) (by kernel_rfl) (by kernel_rfl) (by kernel_rfl) (by kernel_rfl) (by kernel_rfl) hx) ?_)
        obtain ⟨p20, hx, h⟩ := bind_some h
        refine DA.tPx 13 (some 135) (Value.pointer (some p20)) (Abs.det_idx (s := a0) (k := .i64) (t := 144) (e := 5) (x := .tmp 126) (y := .tmp 128) (by kernel_rfl) (by kernel_rfl) (by kernel_rfl) (by kernel_rfl) (by kernel_rfl) hx) ?_
        obtain ⟨H21, hx, h⟩ := bind_some h
        refine DA.on 14 (DA.aH (H' := H21) 14 none undef (Abs.run_store1 (t := 5) (x := .tmp 135) (y := .tmp 133) (a := p20) (v := (Value.int .u8 x17)) (by kernel_rfl) (by kernel_rfl) (by kernel_rfl) (by kernel_rfl) (by kernel_rfl) hx) (DA.dn (WS.nxt (WS.rg (RS.mS 3 [(4, .val (Value.int .i64 (IntKind.i64.wrap (v4_6 - 4)))), (137, .val (Value.int .i64 (IntKind.i64.wrap (v4_6 - 4)))), (136, .val (Value.int .i64 v4_6))] (RS.dn ?_))))))
        cases h
        exact fun a w hs => (jsN (hs.sb 0))
      · refine WS.fx 99 false (decide_eq_false hp) (WS.cF (WS.sk ?_))
        cases h
        exact fun a w hs => (jsN (hs.sb 0))
    · clear hx
      obtain ⟨⟨H22, v4_23, v12_24⟩, hx, h⟩ := bind_some h
      try dsimp only at h
      refine WS.sq ?_
      refine WS.join ([(4, .val (Value.int .i64 v4_23)), (12, .val (Value.int .u32 v12_24)), (0, .val (Sl3.v a0))]) ([]) H22 ?_ (fun a w hs => WS.nxt ?_ a w hs)
      · clear h; rename _ => h
        refine WS.sq (WS.rg (RS.mS 2 [(139, .val (Value.bool (decide (v4_8 ≥ 2)))), (138, .val (Value.int .i64 v4_8))] (RS.dn (WS.nxt ?_))))
        rcases ite_some h with ⟨hp, h⟩ | ⟨hp, h⟩
        · refine WS.fx 139 true (decide_eq_true hp) (WS.cT (WS.sq (WS.rg (RS.mS 4 [(16, .val (Value.int .u32 (IntKind.u32.wrap ((Int.tmod v12_9 100) * 2)))), (142, .val (Value.int .u32 (IntKind.u32.wrap ((Int.tmod v12_9 100) * 2)))), (141, .val (Value.int .u32 (Int.tmod v12_9 100))), (140, .val (Value.int .u32 v12_9))] (RS.dn (WS.nxt (WS.sq (WS.rg (RS.mS 3 [(12, .val (Value.int .u32 (IntKind.u32.wrap (Int.tdiv v12_9 100)))), (144, .val (Value.int .u32 (IntKind.u32.wrap (Int.tdiv v12_9 100)))), (143, .val (Value.int .u32 v12_9))] ?_)))))))))
          refine RS.dn (WS.nxt (WS.sq ?_))
          refine WS.dr [] [0, 0, 2, 0, 0, 16, 0, 64, 192, 0, 512, 455, 2503, 8191, 16383] 15 (fun hcl => ?_)
          refine DA.tP 0 (some 145) (Sl3.v a0) (DA.tP 1 (some 146) (Value.int .i64 v4_8) (DA.tP 2 (some 147) (Value.int .i64 (IntKind.i64.wrap (v4_8 - 1))) (DA.tP 3 (some 148) (Sl3.v a0) (DA.tP 4 (some 149) (Value.int .i64 v4_8) (DA.tP 5 (some 150) (Value.int .i64 (IntKind.i64.wrap (v4_8 - 2))) (DA.tP 6 (some 151) (Value.int .u32 (IntKind.u32.wrap ((Int.tmod v12_9 100) * 2))) (DA.tP 7 (some 152) (Value.int .u32 (IntKind.u32.wrap ((IntKind.u32.wrap ((Int.tmod v12_9 100) * 2)) + 1))) ?_)))))))
          obtain ⟨x25, hx, h⟩ := bind_some h
          refine DA.tPx 8 (some 153) (Value.int .u8 x25) (Abs.det_byt (t := 9) (x := .const (Value.string (⟨#[48, 48, 48, 49, 48, 50, 48, 51, 48, 52, 48, 53, 48, 54, 48, 55, 48, 56, 48, 57, 49, 48, 49, 49, 49, 50, 49, 51, 49, 52, 49, 53, 49, 54, 49, 55, 49, 56, 49, 57, 50, 48, 50, 49, 50, 50, 50, 51, 50, 52, 50, 53, 50, 54, 50, 55, 50, 56, 50, 57, 51, 48, 51, 49, 51, 50, 51, 51, 51, 52, 51, 53, 51, 54, 51, 55, 51, 56, 51, 57, 52, 48, 52, 49, 52, 50, 52, 51, 52, 52, 52, 53, 52, 54, 52, 55, 52, 56, 52, 57, 53, 48, 53, 49, 53, 50, 53, 51, 53, 52, 53, 53, 53, 54, 53, 55, 53, 56, 53, 57, 54, 48, 54, 49, 54, 50, 54, 51, 54, 52, 54, 53, 54, 54, 54, 55, 54, 56, 54, 57, 55, 48, 55, 49, 55, 50, 55, 51, 55, 52, 55, 53, 55, 54, 55, 55, 55, 56, 55, 57, 56, 48, 56, 49, 56, 50, 56, 51, 56, 52, 56, 53, 56, 54, 56, 55, 56, 56, 56, 57, 57, 48, 57, 49, 57, 50, 57, 51, 57, 52, 57, 53, 57, 54, 57, 55, 57, 56, 57, 57]⟩ : ByteArray))) (y := .tmp 152) (s := (⟨#[48, 48, 48, 49, 48, 50, 48, 51, 48, 52, 48, 53, 48, 54, 48, 55, 48, 56, 48, 57, 49, 48, 49, 49, 49, 50, 49, 51, 49, 52, 49, 53, 49, 54, 49, 55, 49, 56, 49, 57, 50, 48, 50, 49, 50, 50, 50, 51, 50, 52, 50, 53, 50, 54, 50, 55, 50, 56, 50, 57, 51, 48, 51, 49, 51, 50, 51, 51, 51, 52, 51, 53, 51, 54, 51, 55, 51, 56, 51, 57, 52, 48, 52, 49, 52, 50, 52, 51, 52, 52, 52, 53, 52, 54, 52, 55, 52, 56, 52, 57, 53, 48, 53, 49, 53, 50, 53, 51, 53, 52, 53, 53, 53, 54, 53, 55, 53, 56, 53, 57, 54, 48, 54, 49, 54, 50, 54, 51, 54, 52, 54, 53, 54, 54, 54, 55, 54, 56, 54, 57, 55, 48, 55, 49, 55, 50, 55, 51, 55, 52, 55, 53, 55, 54, 55, 55, 55, 56, 55, 57, 56, 48, 56, 49, 56, 50, 56, 51, 56, 52, 56, 53, 56, 54, 56, 55, 56, 56, 56, 57, 57, 48, 57, 49, 57, 50, 57, 51, 57, 52, 57, 53, 57, 54, 57, 55, 57, 56, 57, 57]⟩ : ByteArray)) (k := .u32) (i := (IntKind.u32.wrap ((IntKind.u32.wrap ((Int.tmod v12_9 100) * 2)) + 1))) (by kernel_rfl) (by kernel_rfl) (by kernel_rfl) (by kernel_rfl) hx) (DA.tP 9 (some 154) (Value.int .u32 (IntKind.u32.wrap ((Int.tmod v12_9 100) * 2))) ?_)
          obtain ⟨x26, hx, h⟩ := bind_some h
          refine DA.tPx 10 (some 155) (Value.int .u8 x26) (Abs.det_byt (t := 9) (x := .const (Value.string (⟨#[48, 48, 48, 49, 48, 50, 48, 51, 48, 52, 48, 53, 48, 54, 48, 55, 48, 56, 48, 57, 49, 48, 49, 49, 49, 50, 49, 51, 49, 52, 49, 53, 49, 54, 49, 55, 49, 56, 49, 57, 50, 48, 50, 49, 50, 50, 50, 51, 50, 52, 50, 53, 50, 54, 50, 55, 50, 56, 50, 57, 51, 48, 51, 49, 51, 50, 51, 51, 51, 52, 51, 53, 51, 54, 51, 55, 51, 56, 51, 57, 52, 48, 52, 49, 52, 50, 52, 51, 52, 52, 52, 53, 52, 54, 52, 55, 52, 56, 52, 57, 53, 48, 53, 49, 53, 50, 53, 51, 53, 52, 53, 53, 53, 54, 53, 55, 53, 56, 53, 57, 54, 48, 54, 49, 54, 50, 54, 51, 54, 52, 54, 53, 54, 54, 54, 55, 54, 56, 54, 57, 55, 48, 55, 49, 55, 50, 55, 51, 55, 52, 55, 53, 55, 54, 55, 55, 55, 56, 55, 57, 56, 48, 56, 49, 56, 50, 56, 51, 56, 52, 56, 53, 56, 54, 56, 55, 56, 56, 56, 57, 57, 48, 57, 49, 57, 50, 57, 51, 57, 52, 57, 53, 57, 54, 57, 55, 57, 56, 57, 57]⟩ : ByteArray))) (y := .tmp 154) (s := (⟨#[48, 48, 48, 49, 48, 50, 48, 51, 48, 52, 48, 53, 48, 54, 48, 55, 48, 56, 48, 57, 49, 48, 49, 49, 49, 50, 49, 51, 49, 52, 49, 53, 49, 54, 49, 55, 49, 56, 49, 57, 50, 48, 50, 49, 50, 50, 50, 51, 50, 52, 50, 53, 50, 54, 50, 55, 50, 56, 50, 57, 51, 48, 51, 49, 51, 50, 51, 51, 51, 52, 51, 53, 51, 54, 51, 55, 51, 56, 51, 57, 52, 48, 52, 49, 52, 50, 52, 51, 52, 52, 52, 53, 52, 54, 52, 55, 52, 56, 52, 57, 53, 48, 53, 49, 53, 50, 53, 51, 53, 52, 53, 53, 53, 54, 53, 55, 53, 56, 53, 57, 54, 48, 54, 49, 54, 50, 54, 51, 54, 52, 54, 53, 54, 54, 54, 55, 54, 56, 54, 57, 55, 48, 55, 49, 55, 50, 55, 51, 55, 52, 55, 53, 55, 54, 55, 55, 55, 56, 55, 57, 56, 48, 56, 49, 56, 50, 56, 51, 56, 52, 56, 53, 56, 54, 56, 55, 56, 56, 56, 57, 57, 48, 57, 49, 57, 50, 57, 51, 57, 52, 57, 53, 57, 54, 57, 55, 57, 56, 57, 57]⟩ : ByteArray)) (k := .u32) (i := (IntKind.u32.wrap ((Int.tmod v12_9 100) * 2))) (by kernel_rfl) (by kernel_rfl) (by kernel_rfl) (by kernel_rfl) hx) ?_
          obtain ⟨p27, hx, h⟩ := bind_some h
          refine DA.tPx 11 (some 156) (Value.pointer (some p27)) (Abs.det_idx (s := a0) (k := .i64) (t := 144) (e := 5) (x := .tmp 145) (y := .tmp 147) (by kernel_rfl) (by kernel_rfl) (by kernel_rfl) (by kernel_rfl) (by kernel_rfl) hx) ?_
          obtain ⟨H28, hx, h⟩ := bind_some h
          refine DA.on 12 (DA.aH (H' := H28) 12 none undef (Abs.run_store1 (t := 5) (x := .tmp 156) (y := .tmp 153) (a := p27) (v := (Value.int .u8 x25)) (by kernel_rfl) (by kernel_rfl) (by kernel_rfl) (by kernel_rfl) (by kernel_rfl) hx) ?_)
          obtain ⟨p29, hx, h⟩ := bind_some h
          refine DA.tPx 13 (some 157) (Value.pointer (some p29)) (Abs.det_idx (s := a0) (k := .i64) (t := 144) (e := 5) (x := .tmp 148) (y := .tmp 150) (by kernel_rfl) (by kernel_rfl) (by kernel_rfl) (by kernel_rfl) (by kernel_rfl) hx) ?_
          obtain ⟨H30, hx, h⟩ := bind_some h
          refine DA.on 14 (DA.aH (H' := H30) 14 none undef (Abs.run_store1 (t := 5) (x := .tmp 157) (y := .tmp 155) (a := p29) (v := (Value.int .u8 x26)) (by kernel_rfl) (by kernel_rfl) (by kernel_rfl) (by kernel_rfl) (by kernel_rfl) hx) (DA.dn (WS.nxt (WS.rg (RS.mS 3 [(4, .val (Value.int .i64 (IntKind.i64.wrap (v4_8 - 2)))), (159, .val (Value.int .i64 (IntKind.i64.wrap (v4_8 - 2)))), (158, .val (Value.int .i64 v4_8))] (RS.dn ?_))))))
          cases h
          exact fun a w hs => (jsN (hs.sb 0))
        · refine WS.fx 139 false (decide_eq_false hp) (WS.cF (WS.sk ?_))
          cases h
          exact fun a w hs => (jsN (hs.sb 0))
      · clear hx
        refine WS.sq (WS.rg (RS.mS 2 [(161, .val (Value.bool (decide (v4_23 > 0)))), (160, .val (Value.int .i64 v4_23))] (RS.dn (WS.nxt ?_))))
        rcases ite_some h with ⟨hp, h⟩ | ⟨hp, h⟩
        · refine WS.fx 161 true (decide_eq_true hp) (WS.cT (WS.rg (RS.mS 4 [(165, .val (Value.int .u8 (IntKind.u8.wrap (IntKind.u32.wrap (48 + v12_24))))), (164, .val (Value.int .u32 (IntKind.u32.wrap (48 + v12_24)))), (163, .val (Value.int .u32 v12_24)), (162, .val (Sl3.v a0))] ?_)))
          obtain ⟨p31, hx, h⟩ := bind_some h
          refine RS.o (H' := H22) (some 166) (Value.pointer (some p31)) (Abs.run_idx (s := a0) (k := .i64) (t := 144) (e := 5) (x := .tmp 162) (y := .const (Value.int .i64 0)) (by kernel_rfl) (by kernel_rfl) (by kernel_rfl) (by kernel_rfl) (by kernel_rfl) hx) ?_
          obtain ⟨H32, hx, h⟩ := bind_some h
          refine RS.o (H' := H32) none undef (Abs.run_store1 (t := 5) (x := .tmp 166) (y := .tmp 165) (a := p31) (v := (Value.int .u8 (IntKind.u8.wrap (IntKind.u32.wrap (48 + v12_24))))) (by kernel_rfl) (by kernel_rfl) (by kernel_rfl) (by kernel_rfl) (by kernel_rfl) hx) (RS.dn ?_)
          cases h
          exact fun a w hs => rtN (rS hs)
        · refine WS.fx 161 false (decide_eq_false hp) (WS.cF (WS.sk ?_))
          cases h
          exact fun a w hs => rtN (rS hs)
  · try dsimp only at h
    refine WS.lR (strconv_formatBase10_b0_ok (L := L) (E := E) (m := m) (H := H)) (L.ok hl) 0 ?_
    cases h
    exact fun a w hq => bkR (sqR (rtR hq))

def strconv_FormatInt_enc : (ByteArray × AH) → Value
  | (r0, _) => (Value.string r0)

def strconv_FormatInt_hp (_ : AH) : (ByteArray × AH) → AH := fun r => r.2

noncomputable def B104 : Code := (Tryd.f104.body).getD .skip

noncomputable def strconv_FormatInt (L : LC) (m : Nat) (H : AH) (a0 : Int) (a1 : Int) : Option (ByteArray × AH) :=
  if a1 = 10 then
    if 0 ≤ a0 then
      if a0 < 100 then
        Option.bind (strconv_small L a0) fun x1 =>
        some (x1, H)
      else
        Option.bind (newB 140 [(Value.int .u8 0), (Value.int .u8 0), (Value.int .u8 0), (Value.int .u8 0), (Value.int .u8 0), (Value.int .u8 0), (Value.int .u8 0), (Value.int .u8 0), (Value.int .u8 0), (Value.int .u8 0), (Value.int .u8 0), (Value.int .u8 0), (Value.int .u8 0), (Value.int .u8 0), (Value.int .u8 0), (Value.int .u8 0), (Value.int .u8 0), (Value.int .u8 0), (Value.int .u8 0), (Value.int .u8 0), (Value.int .u8 0), (Value.int .u8 0), (Value.int .u8 0), (Value.int .u8 0)] H) fun (p2, H3) =>
        if a0 < 0 then
          none
        else
          Option.bind (strconv_numDigits L H3 (IntKind.u64.wrap a0)) fun x4 =>
          Option.bind (slcR 1 24 p2 (some 1) (some (IntKind.i64.wrap (1 + x4)))) fun s5 =>
          Option.bind (strconv_formatBase10 L m H3 s5 (IntKind.u64.wrap a0)) fun H6 =>
          if a0 < 0 then
            none
          else
            Option.bind (slcR 1 24 p2 (some 1) (some (IntKind.i64.wrap (1 + x4)))) fun s7 =>
            Option.bind (bts H6 s7) fun s8 =>
            some (s8, H6)
    else
      none
  else
    none

theorem strconv_FormatInt_ok {L : LC} {m : Nat} {H : AH} {a0 : Int} {a1 : Int} {r : (ByteArray × AH)} (h : strconv_FormatInt L m H a0 a1 = some r) :
    CallS Tryd.prog (NE.plain 1000) m 104 #[(Value.int .i64 a0), (Value.int .i64 a1)] H (strconv_FormatInt_enc r) (strconv_FormatInt_hp H r) := by
  refine CallS.mk (args := [(Value.int .i64 a0), (Value.int .i64 a1)]) Tryd.func104 (B := B104) (by kernel_rfl) (fun E _ => ?_)
  unfold strconv_FormatInt at h
  refine WS.sq (WS.rg (RS.mS 1 [(4, .val (Value.string (⟨#[]⟩ : ByteArray)))] (RS.dn (WS.nxt (WS.sq (WS.sq (WS.rg (RS.mS 2 [(11, .val (Value.bool (decide (a1 = 10)))), (10, .val (Value.int .i64 a1))] (RS.dn ?_)))))))))
  refine WS.nxt ?_
  rcases ite_some h with ⟨hp, h⟩ | ⟨hp, h⟩
  · refine WS.fx 11 true (decide_eq_true hp) (WS.cT (WS.sq (WS.sq (WS.rg (RS.mS 3 [(14, .val (Value.bool (decide (0 ≤ a0)))), (13, .val (Value.bool (decide (0 ≤ a0)))), (12, .val (Value.int .i64 a0))] ?_)))))
    rcases ite_some h with ⟨hp, h⟩ | ⟨hp, h⟩
    · refine RS.fx 14 true (decide_eq_true hp) (RS.mS 3 [(17, .val (Value.bool (decide (a0 < 100)))), (16, .val (Value.bool (decide (a0 < 100)))), (15, .val (Value.int .i64 a0))] (RS.dn (WS.nxt ?_)))
      rcases ite_some h with ⟨hp, h⟩ | ⟨hp, h⟩
      · refine WS.fx 17 true (decide_eq_true hp) (WS.cT (WS.sq (WS.rg (RS.mS 1 [(18, .val (Value.int .i64 a0))] ?_))))
        obtain ⟨x1, hx, h⟩ := bind_some h
        refine RS.cl (some 19) (v := (Value.string x1)) 106 #[(Value.int .i64 a0)] (strconv_small_ok hx) (RS.mS 1 [(4, .val (Value.string x1))] (RS.dn (WS.nxt (WS.rt ?_))))
        cases h
        exact fun a w hs => sqR (sqR (rtR (rS hs)))
      · refine WS.fx 17 false (decide_eq_false hp) (WS.cF (WS.sk (WS.nxt (WS.sq (WS.rg ?_)))))
        obtain ⟨⟨p2, H3⟩, hx, h⟩ := bind_some h
        try dsimp only at h
        refine RS.o (H' := H3) (some 5) (Value.pointer (some p2)) (Abs.run_newB (by kernel_rfl) hx) (RS.dn (WS.nxt (WS.sq (WS.rg (RS.mS 3 [(6, .val (Value.int .u64 (IntKind.u64.wrap a0))), (21, .val (Value.int .u64 (IntKind.u64.wrap a0))), (20, .val (Value.int .i64 a0))] (RS.dn (WS.nxt (WS.sq (WS.sq ?_)))))))))
        refine WS.rg (RS.mS 2 [(23, .val (Value.bool (decide (a0 < 0)))), (22, .val (Value.int .i64 a0))] (RS.dn (WS.nxt ?_)))
        rcases ite_some h with ⟨hp, h⟩ | ⟨hp, h⟩
        · refine WS.fx 23 true (decide_eq_true hp) (WS.cT ?_)
          cases h
        · refine WS.fx 23 false (decide_eq_false hp) (WS.cF (WS.sk (WS.nxt (WS.sq (WS.rg (RS.mS 1 [(26, .val (Value.int .u64 (IntKind.u64.wrap a0)))] ?_))))))
          obtain ⟨x4, hx, h⟩ := bind_some h
          refine RS.cl (some 27) (v := (Value.int .i64 x4)) 107 #[(Value.int .u64 (IntKind.u64.wrap a0))] (strconv_numDigits_ok hx) (RS.mS 1 [(7, .val (Value.int .i64 x4))] (RS.dn (WS.nxt (WS.sq (WS.rg (RS.mS 2 [(29, .val (Value.int .i64 (IntKind.i64.wrap (1 + x4)))), (28, .val (Value.int .i64 x4))] ?_))))))
          obtain ⟨s5, hx, h⟩ := bind_some h
          refine RS.o (H' := H3) (some 30) (Sl3.v s5) (Abs.run_slcR (t := 140) (e := 5) (x := .tmp 5) (lo := (some (.const (Value.int .i64 1)))) (hi := (some (.tmp 29))) (a := p2) (k1 := .i64) (k2 := .i64) (by kernel_rfl) (by kernel_rfl) (by kernel_rfl) (by kernel_rfl) (by kernel_rfl) (by kernel_rfl) hx) (RS.mS 1 [(31, .val (Value.int .u64 (IntKind.u64.wrap a0)))] ?_)
          obtain ⟨H6, hx, h⟩ := bind_some h
          refine RS.cl (some 32) (v := (Value.tuple #[])) 108 #[(Sl3.v s5), (Value.int .u64 (IntKind.u64.wrap a0))] (strconv_formatBase10_ok hx) (RS.dn (WS.nxt (WS.sq (WS.sq (WS.rg (RS.mS 2 [(34, .val (Value.bool (decide (a0 < 0)))), (33, .val (Value.int .i64 a0))] (RS.dn (WS.nxt ?_))))))))
          rcases ite_some h with ⟨hp, h⟩ | ⟨hp, h⟩
          · refine WS.fx 34 true (decide_eq_true hp) (WS.cT ?_)
            cases h
          · refine WS.fx 34 false (decide_eq_false hp) (WS.cF (WS.sk (WS.nxt (WS.sq (WS.rg (RS.mS 2 [(41, .val (Value.int .i64 (IntKind.i64.wrap (1 + x4)))), (40, .val (Value.int .i64 x4))] ?_))))))
            obtain ⟨s7, hx, h⟩ := bind_some h
            refine RS.o (H' := H6) (some 42) (Sl3.v s7) (Abs.run_slcR (t := 140) (e := 5) (x := .tmp 5) (lo := (some (.const (Value.int .i64 1)))) (hi := (some (.tmp 41))) (a := p2) (k1 := .i64) (k2 := .i64) (by kernel_rfl) (by kernel_rfl) (by kernel_rfl) (by kernel_rfl) (by kernel_rfl) (by kernel_rfl) hx) ?_
            obtain ⟨s8, hx, h⟩ := bind_some h
            refine RS.o (H' := H6) (some 43) (Value.string s8) (Abs.run_bts (t := 144) (u := 9) (e := 5) (x := .tmp 42) (s := s7) (by kernel_rfl) (by kernel_rfl) (by kernel_rfl) (by kernel_rfl) (by kernel_rfl) hx) (RS.mS 1 [(4, .val (Value.string s8))] (RS.dn (WS.nxt (WS.rt ?_))))
            cases h
            exact fun a w hs => sqR (rtR (rS hs))
    · refine RS.fx 14 false (decide_eq_false hp) ?_
      cases h
  · refine WS.fx 11 false (decide_eq_false hp) (WS.cF ?_)
    cases h

def strconv_Itoa_99_enc : (ByteArray × AH) → Value
  | (r0, _) => (Value.string r0)

def strconv_Itoa_99_hp (_ : AH) : (ByteArray × AH) → AH := fun r => r.2

noncomputable def B99 : Code := (Tryd.f99.body).getD .skip

noncomputable def strconv_Itoa_99 (L : LC) (m : Nat) (H : AH) (a0 : Int) : Option (ByteArray × AH) :=
  Option.bind (strconv_FormatInt L m H a0 10) fun (x1, H2) =>
  some (x1, H2)

theorem strconv_Itoa_99_ok {L : LC} {m : Nat} {H : AH} {a0 : Int} {r : (ByteArray × AH)} (h : strconv_Itoa_99 L m H a0 = some r) :
    CallS Tryd.prog (NE.plain 1000) m 99 #[(Value.int .i64 a0)] H (strconv_Itoa_99_enc r) (strconv_Itoa_99_hp H r) := by
  refine CallS.mk (args := [(Value.int .i64 a0)]) Tryd.func99 (B := B99) (by kernel_rfl) (fun E _ => ?_)
  unfold strconv_Itoa_99 at h
  refine WS.sq (WS.rg (RS.mS 1 [(2, .val (Value.string (⟨#[]⟩ : ByteArray)))] (RS.dn (WS.nxt (WS.sq (WS.rg (RS.mS 1 [(3, .val (Value.int .i64 a0))] ?_)))))))
  obtain ⟨⟨x1, H2⟩, hx, h⟩ := bind_some h
  try dsimp only at h
  refine RS.cl (some 4) (v := (Value.string x1)) 104 #[(Value.int .i64 a0), (Value.int .i64 10)] (strconv_FormatInt_ok hx) (RS.mS 1 [(2, .val (Value.string x1))] (RS.dn (WS.nxt (WS.rt ?_))))
  cases h
  exact fun a w hs => rtR (rS hs)

def strconv_Itoa_enc : (ByteArray × AH) → Value
  | (r0, _) => (Value.string r0)

def strconv_Itoa_hp (_ : AH) : (ByteArray × AH) → AH := fun r => r.2

noncomputable def B92 : Code := (Tryd.f92.body).getD .skip

noncomputable def strconv_Itoa (L : LC) (m : Nat) (H : AH) (a0 : Int) : Option (ByteArray × AH) :=
  Option.bind (strconv_Itoa_99 L m H a0) fun (x1, H2) =>
  some (x1, H2)

theorem strconv_Itoa_ok {L : LC} {m : Nat} {H : AH} {a0 : Int} {r : (ByteArray × AH)} (h : strconv_Itoa L m H a0 = some r) :
    CallS Tryd.prog (NE.plain 1000) m 92 #[(Value.int .i64 a0)] H (strconv_Itoa_enc r) (strconv_Itoa_hp H r) := by
  refine CallS.mk (args := [(Value.int .i64 a0)]) Tryd.func92 (B := B92) (by kernel_rfl) (fun E _ => ?_)
  unfold strconv_Itoa at h
  refine WS.sq (WS.rg (RS.mS 1 [(2, .val (Value.string (⟨#[]⟩ : ByteArray)))] (RS.dn (WS.nxt (WS.sq (WS.rg (RS.mS 1 [(3, .val (Value.int .i64 a0))] ?_)))))))
  obtain ⟨⟨x1, H2⟩, hx, h⟩ := bind_some h
  try dsimp only at h
  refine RS.cl (some 4) (v := (Value.string x1)) 99 #[(Value.int .i64 a0)] (strconv_Itoa_99_ok hx) (RS.mS 1 [(2, .val (Value.string x1))] (RS.dn (WS.nxt (WS.rt ?_))))
  cases h
  exact fun a w hs => rtR (rS hs)

end Go.Proofs.YtccbilfbhecdaaaDoor.Aw


namespace Go.Proofs.YtccbilfbhecdaaaDoor
open Go Go.Abs
set_option maxRecDepth 100000

def tabs : List Tab := [(0, 130, ((zsOf Rows.laid_strings_asciiSpace).map fun z => Value.int .u8 z).toArray), (3, 159, ((zsOf Rows.laid_internal_strconv_uint64pow10).map fun z => Value.int .u64 z).toArray), (4, 165, ((zsOf Rows.laid_math_bits_deBruijn32tab).map fun z => Value.int .u8 z).toArray), (5, 166, ((zsOf Rows.laid_math_bits_deBruijn64tab).map fun z => Value.int .u8 z).toArray)]

theorem tabs_ok : tabsB Tryd.prog tabs = true := by kernel_rfl
theorem globals7 : Tryd.prog.globals.size = 7 := by kernel_rfl
theorem some_globals : 0 < Tryd.prog.globals.size := by rw [globals7]; omega

/-- The tables stand in this heap. -/
def HasT (H : AH) : Prop := ∀ x ∈ tabs, H.get x.1 = some (tabBlk x) ∧ x.1 < H.next

noncomputable def lc : LC := LCn 100000 1000
noncomputable def H0 : AH := startH Tryd.prog tabs

set_option maxHeartbeats 0 in
theorem awake_tab : (acall Tryd.prog (NE.plain 1000) 100000 7 17 #[] H0).map (·.1) = some (.bool true) := by kernel_rfl

open Classical in
noncomputable def law04_awake (_L : LC) (H : AH) : Option Bool := if HasT H then some true else none
def law04_awake_enc : Bool → Value
  | r0 => (Value.bool r0)
def law04_awake_hp (H : AH) : Bool → AH := fun _ => H

theorem law04_awake_ok {L : LC} {m : Nat} {H : AH} {r : Bool} (h : law04_awake L H = some r) : CallS Tryd.prog (NE.plain 1000) m 17 #[] H (law04_awake_enc r) (law04_awake_hp H r) := by
  unfold law04_awake at h
  split at h
  · rename_i hT
    cases h
    have hrun := awake_tab
    cases hq : acall Tryd.prog (NE.plain 1000) 100000 7 17 #[] H0 with
    | none => rw [hq] at hrun; cases hrun
    | some q =>
      rw [hq] at hrun
      obtain ⟨b, H'⟩ := q
      simp only [Option.map_some, Option.some.injEq] at hrun
      subst hrun
      refine CallS.under (tabs := tabs) some_globals tabs_ok (H1 := H') ?_ (by simp) (by rfl) fun x hx => (hT x hx).1
      rw [globals7]
      obtain ⟨c, hc⟩ : ∃ c, Tryd.f17.body = some c := ⟨_, rfl⟩
      exact fun hS => ⟨⟨_, c, Tryd.func17, hc⟩, fun φ w args' hg ha hi => acall_ok hS Tryd.func17 hc hq hg ha hi⟩
  · cases h

end Go.Proofs.YtccbilfbhecdaaaDoor


namespace Go.Proofs.YtccbilfbhecdaaaDoor
open Go Go.Abs
set_option maxRecDepth 100000

noncomputable def itoaR (w : Int) : Option ByteArray := (Aw.strconv_Itoa lc 7 H0 w).map (·.1)

open Classical in
noncomputable def strconv_Itoa (_L : LC) (H : AH) (a0 : Int) : Option ByteArray := if HasT H then itoaR a0 else none
def strconv_Itoa_enc : ByteArray → Value
  | r0 => (Value.string r0)
def strconv_Itoa_hp (H : AH) : ByteArray → AH := fun _ => H

theorem strconv_Itoa_ok {L : LC} {m : Nat} {H : AH} {a0 : Int} {r : ByteArray} (h : strconv_Itoa L H a0 = some r) : CallS Tryd.prog (NE.plain 1000) m 92 #[(Value.int .i64 a0)] H (strconv_Itoa_enc r) (strconv_Itoa_hp H r) := by
  unfold strconv_Itoa at h
  split at h
  · rename_i hT
    unfold itoaR at h
    cases hq : Aw.strconv_Itoa lc 7 H0 a0 with
    | none => rw [hq] at h; cases h
    | some q =>
      rw [hq] at h
      obtain ⟨b, H'⟩ := q
      simp only [Option.map_some, Option.some.injEq] at h
      subst h
      have hc := @Aw.strconv_Itoa_ok lc 7 H0 a0 (b, H') hq
      refine CallS.under (tabs := tabs) some_globals tabs_ok (H1 := H') ?_ (by simp [flat, depth]) (by rfl) fun x hx => (hT x hx).1
      rw [globals7]
      exact hc
  · cases h

def wordsV : ByteArray := (⟨#[33, 32, 95, 32, 97, 115, 32, 66, 73, 78, 65, 82, 89, 32, 68, 69, 67, 73, 77, 65, 76, 32, 101, 120, 105, 115, 116, 115, 32, 102, 111, 114, 97, 108, 108, 32, 72, 69, 88, 65, 68, 69, 67, 73, 77, 65, 76, 32, 108, 101, 116, 32, 109, 97, 116, 99, 104, 32, 78, 85, 77, 69, 82, 65, 76, 32, 112, 97, 114, 32, 83, 84, 82, 73, 78, 71, 32, 97, 115, 115, 101, 114, 116, 32, 99, 104, 101, 99, 107, 45, 115, 97, 116, 32, 99, 104, 101, 99, 107, 45, 115, 97, 116, 45, 97, 115, 115, 117, 109, 105, 110, 103, 32, 100, 101, 99, 108, 97, 114, 101, 45, 99, 111, 110, 115, 116, 32, 100, 101, 99, 108, 97, 114, 101, 45, 100, 97, 116, 97, 116, 121, 112, 101, 32, 100, 101, 99, 108, 97, 114, 101, 45, 100, 97, 116, 97, 116, 121, 112, 101, 115, 32, 100, 101, 99, 108, 97, 114, 101, 45, 102, 117, 110, 32, 100, 101, 99, 108, 97, 114, 101, 45, 115, 111, 114, 116, 32, 100, 101, 102, 105, 110, 101, 45, 102, 117, 110, 32, 100, 101, 102, 105, 110, 101, 45, 115, 111, 114, 116, 32, 101, 99, 104, 111, 32, 101, 120, 105, 116, 32, 103, 101, 116, 45, 97, 115, 115, 101, 114, 116, 105, 111, 110, 115, 32, 103, 101, 116, 45, 105, 110, 102, 111, 32, 103, 101, 116, 45, 109, 111, 100, 101, 108, 32, 103, 101, 116, 45, 118, 97, 108, 117, 101, 32, 112, 111, 112, 32, 112, 117, 115, 104, 32, 114, 101, 115, 101, 116, 32, 114, 101, 115, 101, 116, 45, 97, 115, 115, 101, 114, 116, 105, 111, 110, 115, 32, 115, 101, 116, 45, 105, 110, 102, 111, 32, 115, 101, 116, 45, 108, 111, 103, 105, 99, 32, 115, 101, 116, 45, 111, 112, 116, 105, 111, 110]⟩ : ByteArray)

def wordsL : List ByteArray := [⟨#[33]⟩, ⟨#[95]⟩, ⟨#[97, 115]⟩, ⟨#[66, 73, 78, 65, 82, 89]⟩, ⟨#[68, 69, 67, 73, 77, 65, 76]⟩, ⟨#[101, 120, 105, 115, 116, 115]⟩, ⟨#[102, 111, 114, 97, 108, 108]⟩, ⟨#[72, 69, 88, 65, 68, 69, 67, 73, 77, 65, 76]⟩, ⟨#[108, 101, 116]⟩, ⟨#[109, 97, 116, 99, 104]⟩, ⟨#[78, 85, 77, 69, 82, 65, 76]⟩, ⟨#[112, 97, 114]⟩, ⟨#[83, 84, 82, 73, 78, 71]⟩, ⟨#[97, 115, 115, 101, 114, 116]⟩, ⟨#[99, 104, 101, 99, 107, 45, 115, 97, 116]⟩, ⟨#[99, 104, 101, 99, 107, 45, 115, 97, 116, 45, 97, 115, 115, 117, 109, 105, 110, 103]⟩, ⟨#[100, 101, 99, 108, 97, 114, 101, 45, 99, 111, 110, 115, 116]⟩, ⟨#[100, 101, 99, 108, 97, 114, 101, 45, 100, 97, 116, 97, 116, 121, 112, 101]⟩, ⟨#[100, 101, 99, 108, 97, 114, 101, 45, 100, 97, 116, 97, 116, 121, 112, 101, 115]⟩, ⟨#[100, 101, 99, 108, 97, 114, 101, 45, 102, 117, 110]⟩, ⟨#[100, 101, 99, 108, 97, 114, 101, 45, 115, 111, 114, 116]⟩, ⟨#[100, 101, 102, 105, 110, 101, 45, 102, 117, 110]⟩, ⟨#[100, 101, 102, 105, 110, 101, 45, 115, 111, 114, 116]⟩, ⟨#[101, 99, 104, 111]⟩, ⟨#[101, 120, 105, 116]⟩, ⟨#[103, 101, 116, 45, 97, 115, 115, 101, 114, 116, 105, 111, 110, 115]⟩, ⟨#[103, 101, 116, 45, 105, 110, 102, 111]⟩, ⟨#[103, 101, 116, 45, 109, 111, 100, 101, 108]⟩, ⟨#[103, 101, 116, 45, 118, 97, 108, 117, 101]⟩, ⟨#[112, 111, 112]⟩, ⟨#[112, 117, 115, 104]⟩, ⟨#[114, 101, 115, 101, 116]⟩, ⟨#[114, 101, 115, 101, 116, 45, 97, 115, 115, 101, 114, 116, 105, 111, 110, 115]⟩, ⟨#[115, 101, 116, 45, 105, 110, 102, 111]⟩, ⟨#[115, 101, 116, 45, 108, 111, 103, 105, 99]⟩, ⟨#[115, 101, 116, 45, 111, 112, 116, 105, 111, 110]⟩]

def wordsB : Blk := { obj := .cells (wordsL.map Value.string).toArray 9 (0, 0), opn := false, esz := 0, ro := false }

/-- The whole of what is wanted of the run. -/
noncomputable def fieldsT : Option (Sl3 × Option Blk) := (Aw.strings_Fields lc 7 H0 wordsV).map fun r => (r.1, r.2.get 7)

set_option maxHeartbeats 0 in
theorem fields_tab : fieldsT = some (⟨some ⟨7, 0, none⟩, 36, 36⟩, some wordsB) := by kernel_rfl

open Classical in
noncomputable def strings_Fields (_L : LC) (_m : Nat) (H : AH) (a0 : ByteArray) : Option (Sl3 × AH) := if a0 = wordsV ∧ HasT H then some (⟨some ⟨H.next, 0, none⟩, 36, 36⟩, H.push wordsB) else none
def strings_Fields_enc : (Sl3 × AH) → Value
  | (r0, _) => (Sl3.v r0)
def strings_Fields_hp (_ : AH) : (Sl3 × AH) → AH := fun r => r.2

theorem strings_Fields_ok {L : LC} {m : Nat} {H : AH} {a0 : ByteArray} {r : (Sl3 × AH)} (h : strings_Fields L m H a0 = some r) : CallS Tryd.prog (NE.plain 1000) m 95 #[(Value.string a0)] H (strings_Fields_enc r) (strings_Fields_hp H r) := by
  unfold strings_Fields at h
  split at h
  · rename_i hT
    obtain ⟨rfl, hT⟩ := hT
    cases h
    have hrun := fields_tab
    unfold fieldsT at hrun
    cases hq : Aw.strings_Fields lc 7 H0 wordsV with
    | none => rw [hq] at hrun; cases hrun
    | some q =>
      rw [hq] at hrun
      obtain ⟨s, H'⟩ := q
      simp only [Option.map_some, Option.some.injEq, Prod.mk.injEq] at hrun
      obtain ⟨rfl, hb⟩ := hrun
      have hc := @Aw.strings_Fields_ok lc 7 H0 wordsV (_, H') hq
      refine CallS.underNew (tabs := tabs) (n := 36) (c := 36) (b := wordsB) (cs := (wordsL.map Value.string).toArray) (e := 9) (fr := (0, 0)) (H1 := H') some_globals tabs_ok ?_ (by simp [flat, depth]) (by rw [globals7]; exact hb) rfl rfl (by unfold OPEN; omega) (by kernel_rfl) fun x hx => (hT x hx).1
      rw [globals7]
      exact hc
  · cases h

end Go.Proofs.YtccbilfbhecdaaaDoor


namespace Go.Proofs.YtccbilfbhecdaaaDoor
open Go Go.Abs
set_option maxRecDepth 100000

def sort_Name_enc : Bool → Value
  | r0 => (Value.bool r0)

def sort_Name_hp (H : AH) : Bool → AH := fun _ => H

noncomputable def B13 : Code := (Tryd.f13.body).getD .skip

noncomputable def sort_Name_b0 (_L : LC) (a0 : ByteArray) : Int → Option (Lp Int Bool) := fun v24_4 =>
  if v24_4 < (a0.size : Int) then
    Option.bind (α := Bool) (
      Option.bind (bytA a0 v24_4) fun x6 =>
      if x6 < 32 then
        some true
      else
        Option.bind (bytA a0 v24_4) fun x7 =>
        if x7 > 126 then
          some true
        else
          Option.bind (bytA a0 v24_4) fun x8 =>
          if x8 = 124 then
            some true
          else
            Option.bind (bytA a0 v24_4) fun x9 =>
            some (decide (x9 = 92))) fun v48_5 =>
    if v48_5 = true then
      some (.ret false)
    else
      some (.next (IntKind.i64.wrap (v24_4 + 1)))
  else
    some (.brk v24_4)

def sort_Name_b0_kn (_L : LC) (a0 : ByteArray) : Int → KN := fun v24_4 => [(24, .val (Value.int .i64 v24_4)), (0, .val (Value.string a0)), (23, .val (Value.int .i64 (a0.size : Int)))]

def sort_Name_b0_ls (_L : LC) (_a0 : ByteArray) : Int → Lcs := fun _ => []

noncomputable def sort_Name (L : LC) (a0 : ByteArray) : Option Bool :=
  Option.bind (α := Bool) (
    if (a0.size : Int) < 1 then
      some true
    else
      if (a0.size : Int) > 200 then
        some true
      else
        Option.bind (bytA a0 0) fun x2 =>
        if x2 = 64 then
          some true
        else
          Option.bind (bytA a0 0) fun x3 =>
          some (decide (x3 = 46))) fun v21_1 =>
  if v21_1 = true then
    some false
  else
    Option.bind (L.run (sort_Name_b0 L a0) 0) fun o => match o with
    | .inl _ =>
      some true
    | .inr r => some r

theorem sort_Name_b0_ok {E : Ent} {m : Nat} {H : AH} {L : LC} {a0 : ByteArray}  : ∀ s o, sort_Name_b0 L a0 s = some o →
    WS Tryd.prog (NE.plain 1000) m E Tryd.f13.ntmps (cfst (cfst (csnd (cfst (csnd (csnd B13)))))) (sort_Name_b0_kn L a0 s) (sort_Name_b0_ls L a0 s) ((fun _ => H) s) (lpS Tryd.prog (NE.plain 1000) m E Tryd.f13.ntmps (sort_Name_b0_kn L a0) (sort_Name_b0_ls L a0) (fun _ => H) 0 (fun r => RT Tryd.prog (NE.plain 1000) m E Tryd.f13 (sort_Name_enc r) (sort_Name_hp H r)) o) := by
  rintro v24_4 o h
  unfold sort_Name_b0 at h
  try dsimp only at h
  refine WS.sq (WS.rg (RS.mS 1 [(25, .val (Value.bool (decide (v24_4 < (a0.size : Int)))))] (RS.dn (WS.nxt (WS.sq ?_)))))
  rcases ite_some h with ⟨hp, h⟩ | ⟨hp, h⟩
  · refine WS.fx 25 true (decide_eq_true hp) (WS.cT (WS.sk (WS.nxt (WS.sq (WS.bk 1 (WS.sq (WS.rg (RS.mS 2 [(3, .val (Value.int .i64 v24_4)), (26, .val (Value.int .i64 v24_4))] (RS.dn ?_)))))))))
    refine WS.nxt ?_
    obtain ⟨v48_5, hx, h⟩ := bind_some h
    refine WS.sq ?_
    refine WS.join ([(48, .val (Value.bool v48_5)), (0, .val (Value.string a0)), (23, .val (Value.int .i64 (a0.size : Int))), (24, .val (Value.int .i64 v24_4))]) ([]) H ?_ (fun a w hs => WS.nxt ?_ a w hs)
    · clear h; rename _ => h
      refine WS.rg (RS.mS 2 [(28, .val (Value.int .i64 v24_4)), (27, .val (Value.string a0))] ?_)
      obtain ⟨x6, hx, h⟩ := bind_some h
      refine RS.o (H' := H) (some 29) (Value.int .u8 x6) (Abs.run_byt (t := 9) (x := .tmp 27) (y := .tmp 28) (s := a0) (k := .i64) (i := v24_4) (by kernel_rfl) (by kernel_rfl) (by kernel_rfl) (by kernel_rfl) hx) (RS.mS 2 [(31, .val (Value.bool (decide (x6 < 32)))), (30, .val (Value.bool (decide (x6 < 32))))] ?_)
      rcases ite_some h with ⟨hp, h⟩ | ⟨hp, h⟩
      · refine RS.fx 31 true (decide_eq_true hp) (RS.mS 17 [(48, .val (Value.bool true)), (47, .val undef), (46, .val undef), (45, .val undef), (44, .val undef), (43, .val (Value.bool true)), (42, .val (Value.bool true)), (41, .val undef), (40, .val undef), (39, .val undef), (38, .val undef), (37, .val (Value.bool true)), (36, .val (Value.bool true)), (35, .val undef), (34, .val undef), (33, .val undef), (32, .val undef)] (RS.dn ?_))
        cases h
        exact fun a w hs => (jsN (hs.sb 0))
      · refine RS.fx 31 false (decide_eq_false hp) (RS.mS 2 [(33, .val (Value.int .i64 v24_4)), (32, .val (Value.string a0))] ?_)
        obtain ⟨x7, hx, h⟩ := bind_some h
        refine RS.o (H' := H) (some 34) (Value.int .u8 x7) (Abs.run_byt (t := 9) (x := .tmp 32) (y := .tmp 33) (s := a0) (k := .i64) (i := v24_4) (by kernel_rfl) (by kernel_rfl) (by kernel_rfl) (by kernel_rfl) hx) (RS.mS 3 [(37, .val (Value.bool (decide (x7 > 126)))), (36, .val (Value.bool (decide (x7 > 126)))), (35, .val (Value.bool (decide (x7 > 126))))] ?_)
        rcases ite_some h with ⟨hp, h⟩ | ⟨hp, h⟩
        · refine RS.fx 37 true (decide_eq_true hp) (RS.mS 11 [(48, .val (Value.bool true)), (47, .val undef), (46, .val undef), (45, .val undef), (44, .val undef), (43, .val (Value.bool true)), (42, .val (Value.bool true)), (41, .val undef), (40, .val undef), (39, .val undef), (38, .val undef)] (RS.dn ?_))
          cases h
          exact fun a w hs => (jsN (hs.sb 0))
        · refine RS.fx 37 false (decide_eq_false hp) (RS.mS 2 [(39, .val (Value.int .i64 v24_4)), (38, .val (Value.string a0))] ?_)
          obtain ⟨x8, hx, h⟩ := bind_some h
          refine RS.o (H' := H) (some 40) (Value.int .u8 x8) (Abs.run_byt (t := 9) (x := .tmp 38) (y := .tmp 39) (s := a0) (k := .i64) (i := v24_4) (by kernel_rfl) (by kernel_rfl) (by kernel_rfl) (by kernel_rfl) hx) (RS.mS 3 [(43, .val (Value.bool (decide (x8 = 124)))), (42, .val (Value.bool (decide (x8 = 124)))), (41, .val (Value.bool (decide (x8 = 124))))] ?_)
          rcases ite_some h with ⟨hp, h⟩ | ⟨hp, h⟩
          · refine RS.fx 43 true (decide_eq_true hp) (RS.mS 5 [(48, .val (Value.bool true)), (47, .val undef), (46, .val undef), (45, .val undef), (44, .val undef)] (RS.dn ?_))
            cases h
            exact fun a w hs => (jsN (hs.sb 0))
          · refine RS.fx 43 false (decide_eq_false hp) (RS.mS 2 [(45, .val (Value.int .i64 v24_4)), (44, .val (Value.string a0))] ?_)
            obtain ⟨x9, hx, h⟩ := bind_some h
            refine RS.o (H' := H) (some 46) (Value.int .u8 x9) (Abs.run_byt (t := 9) (x := .tmp 44) (y := .tmp 45) (s := a0) (k := .i64) (i := v24_4) (by kernel_rfl) (by kernel_rfl) (by kernel_rfl) (by kernel_rfl) hx) (RS.mS 2 [(48, .val (Value.bool (decide (x9 = 92)))), (47, .val (Value.bool (decide (x9 = 92))))] (RS.dn ?_))
            cases h
            exact fun a w hs => (jsN (hs.sb 0))
    · clear hx
      rcases ite_some h with ⟨hp, h⟩ | ⟨hp, h⟩
      · refine WS.fx 48 true hp (WS.cT (WS.sq (WS.rg (RS.mS 1 [(2, .val (Value.bool false))] (RS.dn (WS.nxt (WS.rt ?_)))))))
        cases h
        exact fun a w hs => bkR (sqR (lsR rfl (rS hs)))
      · refine WS.fx 48 false (b_not hp) (WS.cF (WS.sk ?_))
        refine fun a w hs => bkN ((WS.nxt ?_ a w hs))
        refine WS.rg (RS.mS 2 [(24, .val (Value.int .i64 (IntKind.i64.wrap (v24_4 + 1)))), (49, .val (Value.int .i64 (IntKind.i64.wrap (v24_4 + 1))))] (RS.dn ?_))
        cases h
        exact fun a w hs => lsN rfl (hs.sb 0)
  · refine WS.fx 25 false (decide_eq_false hp) (WS.cF (WS.ex 0 ?_))
    cases h
    exact fun a w hs => sqE (lsB rfl (hs.sb 0))

theorem sort_Name_ok {L : LC} {m : Nat} {H : AH} {a0 : ByteArray} {r : Bool} (h : sort_Name L a0 = some r) :
    CallS Tryd.prog (NE.plain 1000) m 13 #[(Value.string a0)] H (sort_Name_enc r) (sort_Name_hp H r) := by
  refine CallS.mk (args := [(Value.string a0)]) Tryd.func13 (B := B13) (by kernel_rfl) (fun E _ => ?_)
  unfold sort_Name at h
  refine WS.sq (WS.rg (RS.mS 1 [(2, .val (Value.bool false))] (RS.dn (WS.nxt (WS.sq ?_)))))
  obtain ⟨v21_1, hx, h⟩ := bind_some h
  refine WS.sq ?_
  refine WS.join ([(21, .val (Value.bool v21_1)), (0, .val (Value.string a0))]) ([]) H ?_ (fun a w hs => WS.nxt ?_ a w hs)
  · clear h; rename _ => h
    refine WS.rg (RS.mS 4 [(7, .val (Value.bool (decide ((a0.size : Int) < 1)))), (6, .val (Value.bool (decide ((a0.size : Int) < 1)))), (5, .val (Value.int .i64 (a0.size : Int))), (4, .val (Value.string a0))] ?_)
    rcases ite_some h with ⟨hp, h⟩ | ⟨hp, h⟩
    · refine RS.fx 7 true (decide_eq_true hp) (RS.mS 14 [(21, .val (Value.bool true)), (20, .val undef), (19, .val undef), (18, .val undef), (17, .val (Value.bool true)), (16, .val (Value.bool true)), (15, .val undef), (14, .val undef), (13, .val undef), (12, .val (Value.bool true)), (11, .val (Value.bool true)), (10, .val undef), (9, .val undef), (8, .val undef)] (RS.dn ?_))
      cases h
      exact fun a w hs => (jsN (hs.sb 0))
    · refine RS.fx 7 false (decide_eq_false hp) (RS.mS 5 [(12, .val (Value.bool (decide ((a0.size : Int) > 200)))), (11, .val (Value.bool (decide ((a0.size : Int) > 200)))), (10, .val (Value.bool (decide ((a0.size : Int) > 200)))), (9, .val (Value.int .i64 (a0.size : Int))), (8, .val (Value.string a0))] ?_)
      rcases ite_some h with ⟨hp, h⟩ | ⟨hp, h⟩
      · refine RS.fx 12 true (decide_eq_true hp) (RS.mS 9 [(21, .val (Value.bool true)), (20, .val undef), (19, .val undef), (18, .val undef), (17, .val (Value.bool true)), (16, .val (Value.bool true)), (15, .val undef), (14, .val undef), (13, .val undef)] (RS.dn ?_))
        cases h
        exact fun a w hs => (jsN (hs.sb 0))
      · refine RS.fx 12 false (decide_eq_false hp) (RS.mS 1 [(13, .val (Value.string a0))] ?_)
        obtain ⟨x2, hx, h⟩ := bind_some h
        refine RS.o (H' := H) (some 14) (Value.int .u8 x2) (Abs.run_byt (t := 9) (x := .tmp 13) (y := .const (Value.int .i64 0)) (s := a0) (k := .i64) (i := 0) (by kernel_rfl) (by kernel_rfl) (by kernel_rfl) (by kernel_rfl) hx) (RS.mS 3 [(17, .val (Value.bool (decide (x2 = 64)))), (16, .val (Value.bool (decide (x2 = 64)))), (15, .val (Value.bool (decide (x2 = 64))))] ?_)
        rcases ite_some h with ⟨hp, h⟩ | ⟨hp, h⟩
        · refine RS.fx 17 true (decide_eq_true hp) (RS.mS 4 [(21, .val (Value.bool true)), (20, .val undef), (19, .val undef), (18, .val undef)] (RS.dn ?_))
          cases h
          exact fun a w hs => (jsN (hs.sb 0))
        · refine RS.fx 17 false (decide_eq_false hp) (RS.mS 1 [(18, .val (Value.string a0))] ?_)
          obtain ⟨x3, hx, h⟩ := bind_some h
          refine RS.o (H' := H) (some 19) (Value.int .u8 x3) (Abs.run_byt (t := 9) (x := .tmp 18) (y := .const (Value.int .i64 0)) (s := a0) (k := .i64) (i := 0) (by kernel_rfl) (by kernel_rfl) (by kernel_rfl) (by kernel_rfl) hx) (RS.mS 2 [(21, .val (Value.bool (decide (x3 = 46)))), (20, .val (Value.bool (decide (x3 = 46))))] (RS.dn ?_))
          cases h
          exact fun a w hs => (jsN (hs.sb 0))
  · clear hx
    rcases ite_some h with ⟨hp, h⟩ | ⟨hp, h⟩
    · refine WS.fx 21 true hp (WS.cT (WS.sq (WS.rg (RS.mS 1 [(2, .val (Value.bool false))] (RS.dn (WS.nxt (WS.rt ?_)))))))
      cases h
      exact fun a w hs => sqR (rtR (rS hs))
    · refine WS.fx 21 false (b_not hp) (WS.cF (WS.sk (WS.nxt (WS.sq (WS.sq (WS.rg (RS.mS 3 [(24, .val (Value.int .i64 0)), (23, .val (Value.int .i64 (a0.size : Int))), (22, .val (Value.string a0))] (RS.dn (WS.nxt ?_)))))))))
      refine WS.bk 0 ?_
      obtain ⟨o, hl, h⟩ := bind_some h
      rcases o with v24_10 | r
      · try dsimp only at h
        refine WS.lI (sort_Name_b0_ok (L := L) (E := E) (m := m) (H := H)) (L.ok hl) 0 ?_
        clear hl
        refine fun a w hs => bkE ((WS.nxt ?_ a w hs))
        refine WS.sq (WS.rg (RS.mS 1 [(2, .val (Value.bool true))] (RS.dn (WS.nxt (WS.rt ?_)))))
        cases h
        exact fun a w hs => rtR (rS hs)
      · try dsimp only at h
        refine WS.lR (sort_Name_b0_ok (L := L) (E := E) (m := m) (H := H)) (L.ok hl) 0 ?_
        cases h
        exact fun a w hq => bkR (sqR (rtR hq))

def sort_letter_enc : Bool → Value
  | r0 => (Value.bool r0)

def sort_letter_hp (H : AH) : Bool → AH := fun _ => H

noncomputable def B62 : Code := (Tryd.f62.body).getD .skip

noncomputable def sort_letter (_L : LC) (a0 : Int) : Option Bool :=
  if (ior .u8 a0 32) ≥ 97 then
    some (decide ((ior .u8 a0 32) ≤ 122))
  else
    some false

theorem sort_letter_ok {L : LC} {m : Nat} {H : AH} {a0 : Int} {r : Bool} (h : sort_letter L a0 = some r) :
    CallS Tryd.prog (NE.plain 1000) m 62 #[(Value.int .u8 a0)] H (sort_letter_enc r) (sort_letter_hp H r) := by
  refine CallS.mk (args := [(Value.int .u8 a0)]) Tryd.func62 (B := B62) (by kernel_rfl) (fun E _ => ?_)
  unfold sort_letter at h
  refine WS.sq (WS.rg (RS.mS 1 [(2, .val (Value.bool false))] (RS.dn (WS.nxt (WS.sq (WS.rg (RS.mS 4 [(6, .val (Value.bool (decide ((ior .u8 a0 32) ≥ 97)))), (5, .val (Value.bool (decide ((ior .u8 a0 32) ≥ 97)))), (4, .val (Value.int .u8 (ior .u8 a0 32))), (3, .val (Value.int .u8 a0))] ?_)))))))
  rcases ite_some h with ⟨hp, h⟩ | ⟨hp, h⟩
  · refine RS.fx 6 true (decide_eq_true hp) (RS.mS 5 [(2, .val (Value.bool (decide ((ior .u8 a0 32) ≤ 122)))), (10, .val (Value.bool (decide ((ior .u8 a0 32) ≤ 122)))), (9, .val (Value.bool (decide ((ior .u8 a0 32) ≤ 122)))), (8, .val (Value.int .u8 (ior .u8 a0 32))), (7, .val (Value.int .u8 a0))] (RS.dn (WS.nxt (WS.rt ?_))))
    cases h
    exact fun a w hs => rtR (rS hs)
  · refine RS.fx 6 false (decide_eq_false hp) (RS.mS 5 [(2, .val (Value.bool false)), (10, .val (Value.bool false)), (9, .val undef), (8, .val undef), (7, .val undef)] (RS.dn (WS.nxt (WS.rt ?_))))
    cases h
    exact fun a w hs => rtR (rS hs)

def stringslite_IndexByte_enc : Int → Value
  | r0 => (Value.int .i64 r0)

def stringslite_IndexByte_hp (H : AH) : Int → AH := fun _ => H

noncomputable def B93 : Code := (Tryd.f93.body).getD .skip

noncomputable def stringslite_IndexByte (_L : LC) (a0 : ByteArray) (a1 : Int) : Option Int :=
  Option.bind (ixByte a0 a1) fun x1 =>
  some x1

theorem stringslite_IndexByte_ok {L : LC} {m : Nat} {H : AH} {a0 : ByteArray} {a1 : Int} {r : Int} (h : stringslite_IndexByte L a0 a1 = some r) :
    CallS Tryd.prog (NE.plain 1000) m 93 #[(Value.string a0), (Value.int .u8 a1)] H (stringslite_IndexByte_enc r) (stringslite_IndexByte_hp H r) := by
  refine CallS.mk (args := [(Value.string a0), (Value.int .u8 a1)]) Tryd.func93 (B := B93) (by kernel_rfl) (fun E _ => ?_)
  unfold stringslite_IndexByte at h
  refine WS.sq (WS.rg (RS.mS 1 [(4, .val (Value.int .i64 0))] (RS.dn (WS.nxt (WS.sq (WS.rg (RS.mS 2 [(6, .val (Value.int .u8 a1)), (5, .val (Value.string a0))] ?_)))))))
  obtain ⟨x1, hx, h⟩ := bind_some h
  refine RS.extD (some 7) (v := (Value.int .i64 x1)) 100 #[(Value.string a0), (Value.int .u8 a1)] (by kernel_rfl) (by kernel_rfl) (by kernel_rfl) (by kernel_rfl) (by kernel_rfl) ((by kernel_rfl : peval Tryd.prog (callFunc 100 #[(Value.string a0), (Value.int .u8 a1)]) = peval Tryd.prog (do let v ← Extern.BytealgIndexByte.indexByte #[(Value.string a0), (Value.int .u8 a1)]; pure (Next.value v))).trans (Abs.ixByte_run hx)) (by kernel_rfl) (RS.mS 1 [(4, .val (Value.int .i64 x1))] (RS.dn (WS.nxt (WS.rt ?_))))
  cases h
  exact fun a w hs => rtR (rS hs)

def strings_IndexByte_enc : Int → Value
  | r0 => (Value.int .i64 r0)

def strings_IndexByte_hp (H : AH) : Int → AH := fun _ => H

noncomputable def B63 : Code := (Tryd.f63.body).getD .skip

noncomputable def strings_IndexByte (L : LC) (a0 : ByteArray) (a1 : Int) : Option Int :=
  Option.bind (stringslite_IndexByte L a0 a1) fun x1 =>
  some x1

theorem strings_IndexByte_ok {L : LC} {m : Nat} {H : AH} {a0 : ByteArray} {a1 : Int} {r : Int} (h : strings_IndexByte L a0 a1 = some r) :
    CallS Tryd.prog (NE.plain 1000) m 63 #[(Value.string a0), (Value.int .u8 a1)] H (strings_IndexByte_enc r) (strings_IndexByte_hp H r) := by
  refine CallS.mk (args := [(Value.string a0), (Value.int .u8 a1)]) Tryd.func63 (B := B63) (by kernel_rfl) (fun E _ => ?_)
  unfold strings_IndexByte at h
  refine WS.sq (WS.rg (RS.mS 1 [(4, .val (Value.int .i64 0))] (RS.dn (WS.nxt (WS.sq (WS.rg (RS.mS 2 [(6, .val (Value.int .u8 a1)), (5, .val (Value.string a0))] ?_)))))))
  obtain ⟨x1, hx, h⟩ := bind_some h
  refine RS.cl (some 7) (v := (Value.int .i64 x1)) 93 #[(Value.string a0), (Value.int .u8 a1)] (stringslite_IndexByte_ok hx) (RS.mS 1 [(4, .val (Value.int .i64 x1))] (RS.dn (WS.nxt (WS.rt ?_))))
  cases h
  exact fun a w hs => rtR (rS hs)

def slices_Index_101_enc : Int → Value
  | r0 => (Value.int .i64 r0)

def slices_Index_101_hp (H : AH) : Int → AH := fun _ => H

noncomputable def B101 : Code := (Tryd.f101.body).getD .skip

noncomputable def slices_Index_101_b0 (_L : LC) (H : AH) (a0 : Sl3) (a1 : ByteArray) : Int → Option (Lp Int Int) := fun v8_1 =>
  if v8_1 < (a0.n : Int) then
    Option.bind (idxA 1 a0 v8_1) fun p2 =>
    Option.bind (rd deS H p2) fun x3 =>
    if (a1.toList == x3.toList) = true then
      some (.ret v8_1)
    else
      some (.next (IntKind.i64.wrap (v8_1 + 1)))
  else
    some (.brk v8_1)

def slices_Index_101_b0_kn (_L : LC) (_H : AH) (a0 : Sl3) (a1 : ByteArray) : Int → KN := fun v8_1 => [(8, .val (Value.int .i64 v8_1)), (0, .val (Sl3.v a0)), (1, .val (Value.string a1)), (7, .val (Value.int .i64 (a0.n : Int)))]

def slices_Index_101_b0_ls (_L : LC) (_H : AH) (_a0 : Sl3) (_a1 : ByteArray) : Int → Lcs := fun _ => []

noncomputable def slices_Index_101 (L : LC) (H : AH) (a0 : Sl3) (a1 : ByteArray) : Option Int :=
  Option.bind (L.run (slices_Index_101_b0 L H a0 a1) 0) fun o => match o with
  | .inl _ =>
    some (-1)
  | .inr r => some r

theorem slices_Index_101_b0_ok {E : Ent} {m : Nat} {L : LC} {H : AH} {a0 : Sl3} {a1 : ByteArray}  : ∀ s o, slices_Index_101_b0 L H a0 a1 s = some o →
    WS Tryd.prog (NE.plain 1000) m E Tryd.f101.ntmps (cfst (cfst (csnd (cfst (csnd B101))))) (slices_Index_101_b0_kn L H a0 a1 s) (slices_Index_101_b0_ls L H a0 a1 s) ((fun _ => H) s) (lpS Tryd.prog (NE.plain 1000) m E Tryd.f101.ntmps (slices_Index_101_b0_kn L H a0 a1) (slices_Index_101_b0_ls L H a0 a1) (fun _ => H) 0 (fun r => RT Tryd.prog (NE.plain 1000) m E Tryd.f101 (slices_Index_101_enc r) (slices_Index_101_hp H r)) o) := by
  rintro v8_1 o h
  unfold slices_Index_101_b0 at h
  try dsimp only at h
  refine WS.sq (WS.rg (RS.mS 1 [(9, .val (Value.bool (decide (v8_1 < (a0.n : Int)))))] (RS.dn (WS.nxt (WS.sq ?_)))))
  rcases ite_some h with ⟨hp, h⟩ | ⟨hp, h⟩
  · refine WS.fx 9 true (decide_eq_true hp) (WS.cT (WS.sk (WS.nxt (WS.sq (WS.bk 1 (WS.sq (WS.rg (RS.mS 2 [(5, .val (Value.int .i64 v8_1)), (10, .val (Value.int .i64 v8_1))] (RS.dn ?_)))))))))
    refine WS.nxt (WS.sq (WS.rg (RS.mS 3 [(13, .val (Value.int .i64 v8_1)), (12, .val (Sl3.v a0)), (11, .val (Value.string a1))] ?_)))
    obtain ⟨p2, hx, h⟩ := bind_some h
    refine RS.o (H' := H) (some 14) (Value.pointer (some p2)) (Abs.run_idx (s := a0) (k := .i64) (t := 29) (e := 9) (x := .tmp 12) (y := .tmp 13) (by kernel_rfl) (by kernel_rfl) (by kernel_rfl) (by kernel_rfl) (by kernel_rfl) hx) ?_
    obtain ⟨x3, hx, h⟩ := bind_some h
    refine RS.o (H' := H) (some 15) (Value.string x3) (Abs.run_load (t := 9) (x := .tmp 14) (a := p2) (by kernel_rfl) (by kernel_rfl) (by kernel_rfl) (rd_cell hx deS_inv)) (RS.mS 1 [(16, .val (Value.bool (a1.toList == x3.toList)))] (RS.dn (WS.nxt ?_)))
    rcases ite_some h with ⟨hp, h⟩ | ⟨hp, h⟩
    · refine WS.fx 16 true hp (WS.cT (WS.sq (WS.rg (RS.mS 2 [(4, .val (Value.int .i64 v8_1)), (17, .val (Value.int .i64 v8_1))] (RS.dn (WS.nxt (WS.rt ?_)))))))
      cases h
      exact fun a w hs => bkR (sqR (lsR rfl (rS hs)))
    · refine WS.fx 16 false (b_not hp) (WS.cF (WS.sk ?_))
      refine fun a w hs => bkN ((WS.nxt ?_ a w hs))
      refine WS.rg (RS.mS 2 [(8, .val (Value.int .i64 (IntKind.i64.wrap (v8_1 + 1)))), (18, .val (Value.int .i64 (IntKind.i64.wrap (v8_1 + 1))))] (RS.dn ?_))
      cases h
      exact fun a w hs => lsN rfl (hs.sb 0)
  · refine WS.fx 9 false (decide_eq_false hp) (WS.cF (WS.ex 0 ?_))
    cases h
    exact fun a w hs => sqE (lsB rfl (hs.sb 0))

theorem slices_Index_101_ok {L : LC} {m : Nat} {H : AH} {a0 : Sl3} {a1 : ByteArray} {r : Int} (h : slices_Index_101 L H a0 a1 = some r) :
    CallS Tryd.prog (NE.plain 1000) m 101 #[(Sl3.v a0), (Value.string a1)] H (slices_Index_101_enc r) (slices_Index_101_hp H r) := by
  refine CallS.mk (args := [(Sl3.v a0), (Value.string a1)]) Tryd.func101 (B := B101) (by kernel_rfl) (fun E _ => ?_)
  unfold slices_Index_101 at h
  refine WS.sq (WS.rg (RS.mS 1 [(4, .val (Value.int .i64 0))] (RS.dn (WS.nxt (WS.sq (WS.sq (WS.rg (RS.mS 3 [(8, .val (Value.int .i64 0)), (7, .val (Value.int .i64 (a0.n : Int))), (6, .val (Sl3.v a0))] (RS.dn ?_)))))))))
  refine WS.nxt (WS.bk 0 ?_)
  obtain ⟨o, hl, h⟩ := bind_some h
  rcases o with v8_4 | r
  · try dsimp only at h
    refine WS.lI (slices_Index_101_b0_ok (L := L) (E := E) (m := m) (H := H)) (L.ok hl) 0 ?_
    clear hl
    refine fun a w hs => bkE ((WS.nxt ?_ a w hs))
    refine WS.sq (WS.rg (RS.mS 1 [(4, .val (Value.int .i64 (-1)))] (RS.dn (WS.nxt (WS.rt ?_)))))
    cases h
    exact fun a w hs => rtR (rS hs)
  · try dsimp only at h
    refine WS.lR (slices_Index_101_b0_ok (L := L) (E := E) (m := m) (H := H)) (L.ok hl) 0 ?_
    cases h
    exact fun a w hq => bkR (sqR (rtR hq))

def slices_Contains_94_enc : Bool → Value
  | r0 => (Value.bool r0)

def slices_Contains_94_hp (H : AH) : Bool → AH := fun _ => H

noncomputable def B94 : Code := (Tryd.f94.body).getD .skip

noncomputable def slices_Contains_94 (L : LC) (H : AH) (a0 : Sl3) (a1 : ByteArray) : Option Bool :=
  Option.bind (slices_Index_101 L H a0 a1) fun x1 =>
  some (decide (x1 ≥ 0))

theorem slices_Contains_94_ok {L : LC} {m : Nat} {H : AH} {a0 : Sl3} {a1 : ByteArray} {r : Bool} (h : slices_Contains_94 L H a0 a1 = some r) :
    CallS Tryd.prog (NE.plain 1000) m 94 #[(Sl3.v a0), (Value.string a1)] H (slices_Contains_94_enc r) (slices_Contains_94_hp H r) := by
  refine CallS.mk (args := [(Sl3.v a0), (Value.string a1)]) Tryd.func94 (B := B94) (by kernel_rfl) (fun E _ => ?_)
  unfold slices_Contains_94 at h
  refine WS.sq (WS.rg (RS.mS 1 [(4, .val (Value.bool false))] (RS.dn (WS.nxt (WS.sq (WS.rg (RS.mS 2 [(6, .val (Value.string a1)), (5, .val (Sl3.v a0))] ?_)))))))
  obtain ⟨x1, hx, h⟩ := bind_some h
  refine RS.cl (some 7) (v := (Value.int .i64 x1)) 101 #[(Sl3.v a0), (Value.string a1)] (slices_Index_101_ok hx) (RS.mS 2 [(4, .val (Value.bool (decide (x1 ≥ 0)))), (8, .val (Value.bool (decide (x1 ≥ 0))))] (RS.dn (WS.nxt (WS.rt ?_))))
  cases h
  exact fun a w hs => rtR (rS hs)

def sort_reserved_enc : (Bool × AH) → Value
  | (r0, _) => (Value.bool r0)

def sort_reserved_hp (_ : AH) : (Bool × AH) → AH := fun r => r.2

noncomputable def B64 : Code := (Tryd.f64.body).getD .skip

noncomputable def sort_reserved (L : LC) (m : Nat) (H : AH) (a0 : ByteArray) : Option (Bool × AH) :=
  Option.bind (strings_Fields L m H (⟨#[33, 32, 95, 32, 97, 115, 32, 66, 73, 78, 65, 82, 89, 32, 68, 69, 67, 73, 77, 65, 76, 32, 101, 120, 105, 115, 116, 115, 32, 102, 111, 114, 97, 108, 108, 32, 72, 69, 88, 65, 68, 69, 67, 73, 77, 65, 76, 32, 108, 101, 116, 32, 109, 97, 116, 99, 104, 32, 78, 85, 77, 69, 82, 65, 76, 32, 112, 97, 114, 32, 83, 84, 82, 73, 78, 71, 32, 97, 115, 115, 101, 114, 116, 32, 99, 104, 101, 99, 107, 45, 115, 97, 116, 32, 99, 104, 101, 99, 107, 45, 115, 97, 116, 45, 97, 115, 115, 117, 109, 105, 110, 103, 32, 100, 101, 99, 108, 97, 114, 101, 45, 99, 111, 110, 115, 116, 32, 100, 101, 99, 108, 97, 114, 101, 45, 100, 97, 116, 97, 116, 121, 112, 101, 32, 100, 101, 99, 108, 97, 114, 101, 45, 100, 97, 116, 97, 116, 121, 112, 101, 115, 32, 100, 101, 99, 108, 97, 114, 101, 45, 102, 117, 110, 32, 100, 101, 99, 108, 97, 114, 101, 45, 115, 111, 114, 116, 32, 100, 101, 102, 105, 110, 101, 45, 102, 117, 110, 32, 100, 101, 102, 105, 110, 101, 45, 115, 111, 114, 116, 32, 101, 99, 104, 111, 32, 101, 120, 105, 116, 32, 103, 101, 116, 45, 97, 115, 115, 101, 114, 116, 105, 111, 110, 115, 32, 103, 101, 116, 45, 105, 110, 102, 111, 32, 103, 101, 116, 45, 109, 111, 100, 101, 108, 32, 103, 101, 116, 45, 118, 97, 108, 117, 101, 32, 112, 111, 112, 32, 112, 117, 115, 104, 32, 114, 101, 115, 101, 116, 32, 114, 101, 115, 101, 116, 45, 97, 115, 115, 101, 114, 116, 105, 111, 110, 115, 32, 115, 101, 116, 45, 105, 110, 102, 111, 32, 115, 101, 116, 45, 108, 111, 103, 105, 99, 32, 115, 101, 116, 45, 111, 112, 116, 105, 111, 110]⟩ : ByteArray)) fun (x1, H2) =>
  Option.bind (slices_Contains_94 L H2 x1 a0) fun x3 =>
  some (x3, H2)

theorem sort_reserved_ok {L : LC} {m : Nat} {H : AH} {a0 : ByteArray} {r : (Bool × AH)} (h : sort_reserved L m H a0 = some r) :
    CallS Tryd.prog (NE.plain 1000) m 64 #[(Value.string a0)] H (sort_reserved_enc r) (sort_reserved_hp H r) := by
  refine CallS.mk (args := [(Value.string a0)]) Tryd.func64 (B := B64) (by kernel_rfl) (fun E _ => ?_)
  unfold sort_reserved at h
  refine WS.sq (WS.rg (RS.mS 1 [(2, .val (Value.bool false))] (RS.dn (WS.nxt (WS.sq (WS.rg (RS.mS 1 [(3, .val (Value.string (⟨#[33, 32, 95, 32, 97, 115, 32, 66, 73, 78, 65, 82, 89, 32, 68, 69, 67, 73, 77, 65, 76, 32, 101, 120, 105, 115, 116, 115, 32, 102, 111, 114, 97, 108, 108, 32, 72, 69, 88, 65, 68, 69, 67, 73, 77, 65, 76, 32, 108, 101, 116, 32, 109, 97, 116, 99, 104, 32, 78, 85, 77, 69, 82, 65, 76, 32, 112, 97, 114, 32, 83, 84, 82, 73, 78, 71, 32, 97, 115, 115, 101, 114, 116, 32, 99, 104, 101, 99, 107, 45, 115, 97, 116, 32, 99, 104, 101, 99, 107, 45, 115, 97, 116, 45, 97, 115, 115, 117, 109, 105, 110, 103, 32, 100, 101, 99, 108, 97, 114, 101, 45, 99, 111, 110, 115, 116, 32, 100, 101, 99, 108, 97, 114, 101, 45, 100, 97, 116, 97, 116, 121, 112, 101, 32, 100, 101, 99, 108, 97, 114, 101, 45, 100, 97, 116, 97, 116, 121, 112, 101, 115, 32, 100, 101, 99, 108, 97, 114, 101, 45, 102, 117, 110, 32, 100, 101, 99, 108, 97, 114, 101, 45, 115, 111, 114, 116, 32, 100, 101, 102, 105, 110, 101, 45, 102, 117, 110, 32, 100, 101, 102, 105, 110, 101, 45, 115, 111, 114, 116, 32, 101, 99, 104, 111, 32, 101, 120, 105, 116, 32, 103, 101, 116, 45, 97, 115, 115, 101, 114, 116, 105, 111, 110, 115, 32, 103, 101, 116, 45, 105, 110, 102, 111, 32, 103, 101, 116, 45, 109, 111, 100, 101, 108, 32, 103, 101, 116, 45, 118, 97, 108, 117, 101, 32, 112, 111, 112, 32, 112, 117, 115, 104, 32, 114, 101, 115, 101, 116, 32, 114, 101, 115, 101, 116, 45, 97, 115, 115, 101, 114, 116, 105, 111, 110, 115, 32, 115, 101, 116, 45, 105, 110, 102, 111, 32, 115, 101, 116, 45, 108, 111, 103, 105, 99, 32, 115, 101, 116, 45, 111, 112, 116, 105, 111, 110]⟩ : ByteArray)))] (RS.dn (WS.nxt ?_)))))))))
  refine WS.sq (WS.rg (RS.mS 1 [(4, .val (Value.string (⟨#[33, 32, 95, 32, 97, 115, 32, 66, 73, 78, 65, 82, 89, 32, 68, 69, 67, 73, 77, 65, 76, 32, 101, 120, 105, 115, 116, 115, 32, 102, 111, 114, 97, 108, 108, 32, 72, 69, 88, 65, 68, 69, 67, 73, 77, 65, 76, 32, 108, 101, 116, 32, 109, 97, 116, 99, 104, 32, 78, 85, 77, 69, 82, 65, 76, 32, 112, 97, 114, 32, 83, 84, 82, 73, 78, 71, 32, 97, 115, 115, 101, 114, 116, 32, 99, 104, 101, 99, 107, 45, 115, 97, 116, 32, 99, 104, 101, 99, 107, 45, 115, 97, 116, 45, 97, 115, 115, 117, 109, 105, 110, 103, 32, 100, 101, 99, 108, 97, 114, 101, 45, 99, 111, 110, 115, 116, 32, 100, 101, 99, 108, 97, 114, 101, 45, 100, 97, 116, 97, 116, 121, 112, 101, 32, 100, 101, 99, 108, 97, 114, 101, 45, 100, 97, 116, 97, 116, 121, 112, 101, 115, 32, 100, 101, 99, 108, 97, 114, 101, 45, 102, 117, 110, 32, 100, 101, 99, 108, 97, 114, 101, 45, 115, 111, 114, 116, 32, 100, 101, 102, 105, 110, 101, 45, 102, 117, 110, 32, 100, 101, 102, 105, 110, 101, 45, 115, 111, 114, 116, 32, 101, 99, 104, 111, 32, 101, 120, 105, 116, 32, 103, 101, 116, 45, 97, 115, 115, 101, 114, 116, 105, 111, 110, 115, 32, 103, 101, 116, 45, 105, 110, 102, 111, 32, 103, 101, 116, 45, 109, 111, 100, 101, 108, 32, 103, 101, 116, 45, 118, 97, 108, 117, 101, 32, 112, 111, 112, 32, 112, 117, 115, 104, 32, 114, 101, 115, 101, 116, 32, 114, 101, 115, 101, 116, 45, 97, 115, 115, 101, 114, 116, 105, 111, 110, 115, 32, 115, 101, 116, 45, 105, 110, 102, 111, 32, 115, 101, 116, 45, 108, 111, 103, 105, 99, 32, 115, 101, 116, 45, 111, 112, 116, 105, 111, 110]⟩ : ByteArray)))] ?_))
  obtain ⟨⟨x1, H2⟩, hx, h⟩ := bind_some h
  try dsimp only at h
  refine RS.cl (some 5) (v := (Sl3.v x1)) 95 #[(Value.string (⟨#[33, 32, 95, 32, 97, 115, 32, 66, 73, 78, 65, 82, 89, 32, 68, 69, 67, 73, 77, 65, 76, 32, 101, 120, 105, 115, 116, 115, 32, 102, 111, 114, 97, 108, 108, 32, 72, 69, 88, 65, 68, 69, 67, 73, 77, 65, 76, 32, 108, 101, 116, 32, 109, 97, 116, 99, 104, 32, 78, 85, 77, 69, 82, 65, 76, 32, 112, 97, 114, 32, 83, 84, 82, 73, 78, 71, 32, 97, 115, 115, 101, 114, 116, 32, 99, 104, 101, 99, 107, 45, 115, 97, 116, 32, 99, 104, 101, 99, 107, 45, 115, 97, 116, 45, 97, 115, 115, 117, 109, 105, 110, 103, 32, 100, 101, 99, 108, 97, 114, 101, 45, 99, 111, 110, 115, 116, 32, 100, 101, 99, 108, 97, 114, 101, 45, 100, 97, 116, 97, 116, 121, 112, 101, 32, 100, 101, 99, 108, 97, 114, 101, 45, 100, 97, 116, 97, 116, 121, 112, 101, 115, 32, 100, 101, 99, 108, 97, 114, 101, 45, 102, 117, 110, 32, 100, 101, 99, 108, 97, 114, 101, 45, 115, 111, 114, 116, 32, 100, 101, 102, 105, 110, 101, 45, 102, 117, 110, 32, 100, 101, 102, 105, 110, 101, 45, 115, 111, 114, 116, 32, 101, 99, 104, 111, 32, 101, 120, 105, 116, 32, 103, 101, 116, 45, 97, 115, 115, 101, 114, 116, 105, 111, 110, 115, 32, 103, 101, 116, 45, 105, 110, 102, 111, 32, 103, 101, 116, 45, 109, 111, 100, 101, 108, 32, 103, 101, 116, 45, 118, 97, 108, 117, 101, 32, 112, 111, 112, 32, 112, 117, 115, 104, 32, 114, 101, 115, 101, 116, 32, 114, 101, 115, 101, 116, 45, 97, 115, 115, 101, 114, 116, 105, 111, 110, 115, 32, 115, 101, 116, 45, 105, 110, 102, 111, 32, 115, 101, 116, 45, 108, 111, 103, 105, 99, 32, 115, 101, 116, 45, 111, 112, 116, 105, 111, 110]⟩ : ByteArray))] (strings_Fields_ok hx) (RS.mS 1 [(6, .val (Value.string a0))] ?_)
  obtain ⟨x3, hx, h⟩ := bind_some h
  refine RS.cl (some 7) (v := (Value.bool x3)) 94 #[(Sl3.v x1), (Value.string a0)] (slices_Contains_94_ok hx) (RS.mS 1 [(2, .val (Value.bool x3))] (RS.dn (WS.nxt (WS.rt ?_))))
  cases h
  exact fun a w hs => rtR (rS hs)

def sort_simple_enc : (Bool × AH) → Value
  | (r0, _) => (Value.bool r0)

def sort_simple_hp (_ : AH) : (Bool × AH) → AH := fun r => r.2

noncomputable def B33 : Code := (Tryd.f33.body).getD .skip

noncomputable def sort_simple_b0 (L : LC) (H : AH) (a0 : ByteArray) : Int → Option (Lp Int (Bool × AH)) := fun v20_5 =>
  if v20_5 < (a0.size : Int) then
    Option.bind (bytA a0 v20_5) fun x6 =>
    Option.bind (α := Bool) (
      Option.bind (sort_letter L x6) fun x8 =>
      if x8 = true then
        some false
      else
        if x6 < 48 then
          Option.bind (strings_IndexByte L (⟨#[126, 33, 64, 36, 37, 94, 38, 42, 95, 45, 43, 61, 60, 62, 46, 63, 47]⟩ : ByteArray) x6) fun x9 =>
          some (decide (x9 < 0))
        else
          if x6 > 57 then
            Option.bind (strings_IndexByte L (⟨#[126, 33, 64, 36, 37, 94, 38, 42, 95, 45, 43, 61, 60, 62, 46, 63, 47]⟩ : ByteArray) x6) fun x10 =>
            some (decide (x10 < 0))
          else
            some false) fun v41_7 =>
    if v41_7 = true then
      some (.ret (false, H))
    else
      some (.next (IntKind.i64.wrap (v20_5 + 1)))
  else
    some (.brk v20_5)

def sort_simple_b0_kn (_L : LC) (_H : AH) (a0 : ByteArray) : Int → KN := fun v20_5 => [(20, .val (Value.int .i64 v20_5)), (0, .val (Value.string a0)), (19, .val (Value.int .i64 (a0.size : Int)))]

def sort_simple_b0_ls (_L : LC) (_H : AH) (_a0 : ByteArray) : Int → Lcs := fun _ => []

noncomputable def sort_simple (L : LC) (m : Nat) (H : AH) (a0 : ByteArray) : Option (Bool × AH) :=
  Option.bind (α := Bool) (
    Option.bind (sort_Name L a0) fun x2 =>
    if x2 = true then
      Option.bind (bytA a0 0) fun x3 =>
      if x3 ≥ 48 then
        Option.bind (bytA a0 0) fun x4 =>
        some (decide (x4 ≤ 57))
      else
        some false
    else
      some true) fun v17_1 =>
  if v17_1 = true then
    some (false, H)
  else
    Option.bind (L.run (sort_simple_b0 L H a0) 0) fun o => match o with
    | .inl _ =>
      Option.bind (sort_reserved L m H a0) fun (x12, H13) =>
      some ((!x12), H13)
    | .inr r => some r

theorem sort_simple_b0_ok {E : Ent} {m : Nat} {L : LC} {H : AH} {a0 : ByteArray}  : ∀ s o, sort_simple_b0 L H a0 s = some o →
    WS Tryd.prog (NE.plain 1000) m E Tryd.f33.ntmps (cfst (cfst (csnd (cfst (csnd (csnd B33)))))) (sort_simple_b0_kn L H a0 s) (sort_simple_b0_ls L H a0 s) ((fun _ => H) s) (lpS Tryd.prog (NE.plain 1000) m E Tryd.f33.ntmps (sort_simple_b0_kn L H a0) (sort_simple_b0_ls L H a0) (fun _ => H) 0 (fun r => RT Tryd.prog (NE.plain 1000) m E Tryd.f33 (sort_simple_enc r) (sort_simple_hp H r)) o) := by
  rintro v20_5 o h
  unfold sort_simple_b0 at h
  try dsimp only at h
  refine WS.sq (WS.rg (RS.mS 1 [(21, .val (Value.bool (decide (v20_5 < (a0.size : Int)))))] (RS.dn (WS.nxt (WS.sq ?_)))))
  rcases ite_some h with ⟨hp, h⟩ | ⟨hp, h⟩
  · refine WS.fx 21 true (decide_eq_true hp) (WS.cT (WS.sk (WS.nxt (WS.sq (WS.bk 1 (WS.sq (WS.rg (RS.mS 2 [(3, .val (Value.int .i64 v20_5)), (22, .val (Value.int .i64 v20_5))] (RS.dn ?_)))))))))
    refine WS.nxt (WS.sq (WS.rg (RS.mS 2 [(24, .val (Value.int .i64 v20_5)), (23, .val (Value.string a0))] ?_)))
    obtain ⟨x6, hx, h⟩ := bind_some h
    refine RS.o (H' := H) (some 25) (Value.int .u8 x6) (Abs.run_byt (t := 9) (x := .tmp 23) (y := .tmp 24) (s := a0) (k := .i64) (i := v20_5) (by kernel_rfl) (by kernel_rfl) (by kernel_rfl) (by kernel_rfl) hx) (RS.mS 1 [(4, .val (Value.int .u8 x6))] (RS.dn (WS.nxt ?_)))
    obtain ⟨v41_7, hx, h⟩ := bind_some h
    refine WS.sq ?_
    refine WS.join ([(41, .val (Value.bool v41_7)), (0, .val (Value.string a0)), (19, .val (Value.int .i64 (a0.size : Int))), (20, .val (Value.int .i64 v20_5))]) ([]) H ?_ (fun a w hs => WS.nxt ?_ a w hs)
    · clear h; rename _ => h
      refine WS.rg (RS.mS 1 [(26, .val (Value.int .u8 x6))] ?_)
      obtain ⟨x8, hx, h⟩ := bind_some h
      refine RS.cl (some 27) (v := (Value.bool x8)) 62 #[(Value.int .u8 x6)] (sort_letter_ok hx) (RS.mS 2 [(29, .val (Value.bool (!x8))), (28, .val (Value.bool (!x8)))] ?_)
      rcases ite_some h with ⟨hp, h⟩ | ⟨hp, h⟩
      · refine RS.fx 29 false (nb_not hp) (RS.mS 12 [(41, .val (Value.bool false)), (40, .val undef), (39, .val undef), (38, .val undef), (37, .val (Value.bool false)), (36, .val (Value.bool false)), (35, .val undef), (34, .val undef), (33, .val undef), (32, .val undef), (31, .val undef), (30, .val undef)] (RS.dn ?_))
        cases h
        exact fun a w hs => (jsN (hs.sb 0))
      · refine RS.fx 29 true (nb_not' hp) (RS.mS 3 [(32, .val (Value.bool (decide (x6 < 48)))), (31, .val (Value.bool (decide (x6 < 48)))), (30, .val (Value.int .u8 x6))] ?_)
        rcases ite_some h with ⟨hp, h⟩ | ⟨hp, h⟩
        · refine RS.fx 32 true (decide_eq_true hp) (RS.mS 6 [(38, .val (Value.int .u8 x6)), (37, .val (Value.bool true)), (36, .val (Value.bool true)), (35, .val (Value.bool true)), (34, .val undef), (33, .val undef)] ?_)
          obtain ⟨x9, hx, h⟩ := bind_some h
          refine RS.cl (some 39) (v := (Value.int .i64 x9)) 63 #[(Value.string (⟨#[126, 33, 64, 36, 37, 94, 38, 42, 95, 45, 43, 61, 60, 62, 46, 63, 47]⟩ : ByteArray)), (Value.int .u8 x6)] (strings_IndexByte_ok hx) (RS.mS 2 [(41, .val (Value.bool (decide (x9 < 0)))), (40, .val (Value.bool (decide (x9 < 0))))] (RS.dn ?_))
          cases h
          exact fun a w hs => (jsN (hs.sb 0))
        · refine RS.fx 32 false (decide_eq_false hp) (RS.mS 5 [(37, .val (Value.bool (decide (x6 > 57)))), (36, .val (Value.bool (decide (x6 > 57)))), (35, .val (Value.bool (decide (x6 > 57)))), (34, .val (Value.bool (decide (x6 > 57)))), (33, .val (Value.int .u8 x6))] ?_)
          rcases ite_some h with ⟨hp, h⟩ | ⟨hp, h⟩
          · refine RS.fx 37 true (decide_eq_true hp) (RS.mS 1 [(38, .val (Value.int .u8 x6))] ?_)
            obtain ⟨x10, hx, h⟩ := bind_some h
            refine RS.cl (some 39) (v := (Value.int .i64 x10)) 63 #[(Value.string (⟨#[126, 33, 64, 36, 37, 94, 38, 42, 95, 45, 43, 61, 60, 62, 46, 63, 47]⟩ : ByteArray)), (Value.int .u8 x6)] (strings_IndexByte_ok hx) (RS.mS 2 [(41, .val (Value.bool (decide (x10 < 0)))), (40, .val (Value.bool (decide (x10 < 0))))] (RS.dn ?_))
            cases h
            exact fun a w hs => (jsN (hs.sb 0))
          · refine RS.fx 37 false (decide_eq_false hp) (RS.mS 4 [(41, .val (Value.bool false)), (40, .val undef), (39, .val undef), (38, .val undef)] (RS.dn ?_))
            cases h
            exact fun a w hs => (jsN (hs.sb 0))
    · clear hx
      rcases ite_some h with ⟨hp, h⟩ | ⟨hp, h⟩
      · refine WS.fx 41 true hp (WS.cT (WS.sq (WS.rg (RS.mS 1 [(2, .val (Value.bool false))] (RS.dn (WS.nxt (WS.rt ?_)))))))
        cases h
        exact fun a w hs => bkR (sqR (lsR rfl (rS hs)))
      · refine WS.fx 41 false (b_not hp) (WS.cF (WS.sk ?_))
        refine fun a w hs => bkN ((WS.nxt ?_ a w hs))
        refine WS.rg (RS.mS 2 [(20, .val (Value.int .i64 (IntKind.i64.wrap (v20_5 + 1)))), (42, .val (Value.int .i64 (IntKind.i64.wrap (v20_5 + 1))))] (RS.dn ?_))
        cases h
        exact fun a w hs => lsN rfl (hs.sb 0)
  · refine WS.fx 21 false (decide_eq_false hp) (WS.cF (WS.ex 0 ?_))
    cases h
    exact fun a w hs => sqE (lsB rfl (hs.sb 0))

theorem sort_simple_ok {L : LC} {m : Nat} {H : AH} {a0 : ByteArray} {r : (Bool × AH)} (h : sort_simple L m H a0 = some r) :
    CallS Tryd.prog (NE.plain 1000) m 33 #[(Value.string a0)] H (sort_simple_enc r) (sort_simple_hp H r) := by
  refine CallS.mk (args := [(Value.string a0)]) Tryd.func33 (B := B33) (by kernel_rfl) (fun E _ => ?_)
  unfold sort_simple at h
  refine WS.sq (WS.rg (RS.mS 1 [(2, .val (Value.bool false))] (RS.dn (WS.nxt (WS.sq ?_)))))
  obtain ⟨v17_1, hx, h⟩ := bind_some h
  refine WS.sq ?_
  refine WS.join ([(17, .val (Value.bool v17_1)), (0, .val (Value.string a0))]) ([]) H ?_ (fun a w hs => WS.nxt ?_ a w hs)
  · clear h; rename _ => h
    refine WS.rg (RS.mS 1 [(5, .val (Value.string a0))] ?_)
    obtain ⟨x2, hx, h⟩ := bind_some h
    refine RS.cl (some 6) (v := (Value.bool x2)) 13 #[(Value.string a0)] (sort_Name_ok hx) (RS.mS 2 [(8, .val (Value.bool (!x2))), (7, .val (Value.bool (!x2)))] ?_)
    rcases ite_some h with ⟨hp, h⟩ | ⟨hp, h⟩
    · refine RS.fx 8 false (nb_not hp) (RS.mS 1 [(9, .val (Value.string a0))] ?_)
      obtain ⟨x3, hx, h⟩ := bind_some h
      refine RS.o (H' := H) (some 10) (Value.int .u8 x3) (Abs.run_byt (t := 9) (x := .tmp 9) (y := .const (Value.int .i64 0)) (s := a0) (k := .i64) (i := 0) (by kernel_rfl) (by kernel_rfl) (by kernel_rfl) (by kernel_rfl) hx) (RS.mS 2 [(12, .val (Value.bool (decide (x3 ≥ 48)))), (11, .val (Value.bool (decide (x3 ≥ 48))))] ?_)
      rcases ite_some h with ⟨hp, h⟩ | ⟨hp, h⟩
      · refine RS.fx 12 true (decide_eq_true hp) (RS.mS 1 [(13, .val (Value.string a0))] ?_)
        obtain ⟨x4, hx, h⟩ := bind_some h
        refine RS.o (H' := H) (some 14) (Value.int .u8 x4) (Abs.run_byt (t := 9) (x := .tmp 13) (y := .const (Value.int .i64 0)) (s := a0) (k := .i64) (i := 0) (by kernel_rfl) (by kernel_rfl) (by kernel_rfl) (by kernel_rfl) hx) (RS.mS 3 [(17, .val (Value.bool (decide (x4 ≤ 57)))), (16, .val (Value.bool (decide (x4 ≤ 57)))), (15, .val (Value.bool (decide (x4 ≤ 57))))] (RS.dn ?_))
        cases h
        exact fun a w hs => (jsN (hs.sb 0))
      · refine RS.fx 12 false (decide_eq_false hp) (RS.mS 5 [(17, .val (Value.bool false)), (16, .val (Value.bool false)), (15, .val undef), (14, .val undef), (13, .val undef)] (RS.dn ?_))
        cases h
        exact fun a w hs => (jsN (hs.sb 0))
    · refine RS.fx 8 true (nb_not' hp) (RS.mS 9 [(17, .val (Value.bool true)), (16, .val undef), (15, .val undef), (14, .val undef), (13, .val undef), (12, .val undef), (11, .val undef), (10, .val undef), (9, .val undef)] (RS.dn ?_))
      cases h
      exact fun a w hs => (jsN (hs.sb 0))
  · clear hx
    rcases ite_some h with ⟨hp, h⟩ | ⟨hp, h⟩
    · refine WS.fx 17 true hp (WS.cT (WS.sq (WS.rg (RS.mS 1 [(2, .val (Value.bool false))] (RS.dn (WS.nxt (WS.rt ?_)))))))
      cases h
      exact fun a w hs => sqR (rtR (rS hs))
    · refine WS.fx 17 false (b_not hp) (WS.cF (WS.sk (WS.nxt (WS.sq (WS.sq (WS.rg (RS.mS 3 [(20, .val (Value.int .i64 0)), (19, .val (Value.int .i64 (a0.size : Int))), (18, .val (Value.string a0))] (RS.dn (WS.nxt ?_)))))))))
      refine WS.bk 0 ?_
      obtain ⟨o, hl, h⟩ := bind_some h
      rcases o with v20_11 | r
      · try dsimp only at h
        refine WS.lI (sort_simple_b0_ok (L := L) (E := E) (m := m) (H := H)) (L.ok hl) 0 ?_
        clear hl
        refine fun a w hs => bkE ((WS.nxt ?_ a w hs))
        refine WS.sq (WS.rg (RS.mS 1 [(43, .val (Value.string a0))] ?_))
        obtain ⟨⟨x12, H13⟩, hx, h⟩ := bind_some h
        try dsimp only at h
        refine RS.cl (some 44) (v := (Value.bool x12)) 64 #[(Value.string a0)] (sort_reserved_ok hx) (RS.mS 2 [(2, .val (Value.bool (!x12))), (45, .val (Value.bool (!x12)))] (RS.dn (WS.nxt (WS.rt ?_))))
        cases h
        exact fun a w hs => rtR (rS hs)
      · try dsimp only at h
        refine WS.lR (sort_simple_b0_ok (L := L) (E := E) (m := m) (H := H)) (L.ok hl) 0 ?_
        cases h
        exact fun a w hq => bkR (sqR (rtR hq))

def sort_Quote_enc : (ByteArray × AH) → Value
  | (r0, _) => (Value.string r0)

def sort_Quote_hp (_ : AH) : (ByteArray × AH) → AH := fun r => r.2

noncomputable def B15 : Code := (Tryd.f15.body).getD .skip

noncomputable def sort_Quote (L : LC) (m : Nat) (H : AH) (a0 : ByteArray) : Option (ByteArray × AH) :=
  Option.bind (sort_simple L m H a0) fun (x1, H2) =>
  if x1 = true then
    some (a0, H2)
  else
    Option.bind (strcat (⟨#[124]⟩ : ByteArray) a0) fun s3 =>
    Option.bind (strcat s3 (⟨#[124]⟩ : ByteArray)) fun s4 =>
    some (s4, H2)

theorem sort_Quote_ok {L : LC} {m : Nat} {H : AH} {a0 : ByteArray} {r : (ByteArray × AH)} (h : sort_Quote L m H a0 = some r) :
    CallS Tryd.prog (NE.plain 1000) m 15 #[(Value.string a0)] H (sort_Quote_enc r) (sort_Quote_hp H r) := by
  refine CallS.mk (args := [(Value.string a0)]) Tryd.func15 (B := B15) (by kernel_rfl) (fun E _ => ?_)
  unfold sort_Quote at h
  refine WS.sq (WS.rg (RS.mS 1 [(2, .val (Value.string (⟨#[]⟩ : ByteArray)))] (RS.dn (WS.nxt (WS.sq (WS.sq (WS.rg (RS.mS 1 [(3, .val (Value.string a0))] ?_))))))))
  obtain ⟨⟨x1, H2⟩, hx, h⟩ := bind_some h
  try dsimp only at h
  refine RS.cl (some 4) (v := (Value.bool x1)) 33 #[(Value.string a0)] (sort_simple_ok hx) (RS.dn (WS.nxt ?_))
  rcases ite_some h with ⟨hp, h⟩ | ⟨hp, h⟩
  · refine WS.fx 4 true hp (WS.cT (WS.sq (WS.rg (RS.mS 2 [(2, .val (Value.string a0)), (5, .val (Value.string a0))] (RS.dn (WS.nxt (WS.rt ?_)))))))
    cases h
    exact fun a w hs => sqR (rtR (rS hs))
  · refine WS.fx 4 false (b_not hp) (WS.cF (WS.sk (WS.nxt (WS.sq (WS.rg (RS.mS 1 [(6, .val (Value.string a0))] ?_))))))
    obtain ⟨s3, hx, h⟩ := bind_some h
    refine RS.o (H' := H2) (some 7) (Value.string s3) (Abs.run_strcat (t := 9) (u := 9) (x := .const (Value.string (⟨#[124]⟩ : ByteArray))) (y := .tmp 6) (a := (⟨#[124]⟩ : ByteArray)) (b := a0) (by kernel_rfl) (by kernel_rfl) (by kernel_rfl) hx) ?_
    obtain ⟨s4, hx, h⟩ := bind_some h
    refine RS.o (H' := H2) (some 8) (Value.string s4) (Abs.run_strcat (t := 9) (u := 9) (x := .tmp 7) (y := .const (Value.string (⟨#[124]⟩ : ByteArray))) (a := s3) (b := (⟨#[124]⟩ : ByteArray)) (by kernel_rfl) (by kernel_rfl) (by kernel_rfl) hx) (RS.mS 1 [(2, .val (Value.string s4))] (RS.dn (WS.nxt (WS.rt ?_))))
    cases h
    exact fun a w hs => rtR (rS hs)

end Go.Proofs.YtccbilfbhecdaaaDoor


namespace Go.Proofs.YtccbilfbhecdaaaDoor
open Go Go.Abs
set_option maxRecDepth 100000

theorem maxN_eq : maxN = 9223372036854775807 := rfl

/-- The bytes of a text. -/
def bs (s : ByteArray) : List UInt8 := s.data.toList

theorem bs_len (s : ByteArray) : (bs s).length = s.size := by simp [bs]

theorem bytA_bs {s : ByteArray} {i : Nat} (hi : i < s.size) {v : Int} (hv : v = i) : bytA s v = some ((((bs s).getD i 0).toNat : Nat) : Int) := by
  rw [bytA_get hi hv]
  have : (bs s).getD i 0 = s[i] := by
    simp only [bs, List.getD, Array.getElem?_toList]
    rw [Array.getElem?_eq_getElem hi]
    rfl
  rw [this]

def badB (x : Nat) : Bool := decide (x < 32) || (decide (x > 126) || (decide (x = 124) || decide (x = 92)))

def nameS (s : ByteArray) : Bool :=
  !(decide (s.size < 1) || decide (s.size > 200) || decide (((bs s).getD 0 0).toNat = 64) || decide (((bs s).getD 0 0).toNat = 46)) && !(bs s).any fun x => badB x.toNat

theorem find_any {α R : Type} [Inhabited α] (l : List α) (bad : α → Bool) (r : R) (d : α) :
    (List.range l.length).findSome? (fun i => if bad (l.getD i d) = true then some r else none) = if l.any bad = true then some r else none := by
  induction l with
  | nil => simp
  | cons x l ih =>
    rw [List.length_cons, List.range_succ_eq_map, List.findSome?_cons, List.any_cons]
    cases hx : bad x with
    | true => simp [hx]
    | false =>
      simp only [List.getD_cons_zero, hx, Bool.false_eq_true, if_false, Bool.false_or, List.findSome?_map, Function.comp_def, List.getD_cons_succ]
      exact ih

theorem Name_spec (k : Nat) {s : ByteArray} (hs : s.size ≤ maxN) : sort_Name (LCo k) s = some (nameS s) := by
  unfold sort_Name nameS
  by_cases h1 : (s.size : Int) < 1
  · rw [if_pos h1]
    have : s.size < 1 := by omega
    simp [this]
  · rw [if_neg h1]
    have h1' : ¬ s.size < 1 := by omega
    have hp : 0 < s.size := by omega
    by_cases h2 : (s.size : Int) > 200
    · rw [if_pos h2]
      have : s.size > 200 := by omega
      simp [this]
    · rw [if_neg h2]
      have h2' : ¬ s.size > 200 := by omega
      rw [bytA_bs hp (v := 0) rfl]
      simp only [Option.bind_some]
      generalize hc : ((bs s).getD 0 0).toNat = c
      by_cases h3 : c = 64
      · subst h3; simp
      · have h3' : ¬ ((c : Int) = 64) := by omega
        rw [if_neg h3']
        by_cases h4 : c = 46
        · subst h4; simp
        · have h4' : ¬ ((c : Int) = 46) := by omega
          simp only [decide_eq_false h4', Option.bind_some, Bool.false_eq_true, if_false]
          have hl : loopO (sort_Name_b0 (LCo k) s) 0 = some (found s.size ((List.range s.size).findSome? (fun i => if badB ((bs s).getD i 0).toNat = true then some false else none))) := by
            refine loopO_up s.size hs _ (fun i hi => ?_) ?_
            · unfold sort_Name_b0
              rw [if_pos (by omega), bytA_bs hi rfl]
              simp only [Option.bind_some]
              generalize ((bs s).getD i 0).toNat = x
              unfold badB
              by_cases e1 : x < 32
              · have : (x : Int) < 32 := by omega
                simp [e1, this, stepO]
              · have e1' : ¬ ((x : Int) < 32) := by omega
                rw [if_neg e1']
                by_cases e2 : x > 126
                · have : (x : Int) > 126 := by omega
                  simp [e1, e2, this, stepO]
                · have e2' : ¬ ((x : Int) > 126) := by omega
                  rw [if_neg e2']
                  by_cases e3 : x = 124
                  · subst e3; simp [stepO]
                  · have e3' : ¬ ((x : Int) = 124) := by omega
                    rw [if_neg e3']
                    by_cases e4 : x = 92
                    · subst e4; simp [stepO]
                    · have e4' : ¬ ((x : Int) = 92) := by omega
                      simp [e1, e2, e3, e4, e4', stepO]
            · unfold sort_Name_b0
              rw [if_neg (by omega)]
          show Option.bind (loopO (sort_Name_b0 (LCo k) s) 0) _ = _
          rw [hl, ← bs_len, find_any (bs s) (fun x => badB x.toNat) false 0]
          cases ha : (bs s).any fun x => badB x.toNat with
          | true => simp [found]
          | false => simp [h1', h2', h3, h4, bs_len, found]

end Go.Proofs.YtccbilfbhecdaaaDoor


namespace Go.Proofs.YtccbilfbhecdaaaDoor
open Go Go.Abs
set_option maxRecDepth 100000

def moreL : List Nat := [126, 33, 64, 36, 37, 94, 38, 42, 95, 45, 43, 61, 60, 62, 46, 63, 47]

/-- A byte that may stand in a simple name. -/
def gB (c : Nat) : Bool := (decide (97 ≤ c) && decide (c ≤ 122)) || (decide (65 ≤ c) && decide (c ≤ 90)) || (decide (48 ≤ c) && decide (c ≤ 57)) || moreL.contains c

/-- What the program asks of a byte. -/
noncomputable def askB (L : LC) (x6 : Int) : Option Bool :=
  Option.bind (sort_letter L x6) fun x8 =>
  if x8 = true then some false
  else if x6 < 48 then Option.bind (strings_IndexByte L (⟨#[126, 33, 64, 36, 37, 94, 38, 42, 95, 45, 43, 61, 60, 62, 46, 63, 47]⟩ : ByteArray) x6) fun x9 => some (decide (x9 < 0))
  else if x6 > 57 then Option.bind (strings_IndexByte L (⟨#[126, 33, 64, 36, 37, 94, 38, 42, 95, 45, 43, 61, 60, 62, 46, 63, 47]⟩ : ByteArray) x6) fun x10 => some (decide (x10 < 0))
  else some false

theorem ask_all : ∀ c : Fin 256, askB (LCn 1 1) ((c.val : Nat) : Int) = some (!gB c.val) := by decide +kernel

theorem ask_byte (k : Nat) {c : Nat} (hc : c < 256) : askB (LCo k) (c : Int) = some (!gB c) := ask_all ⟨c, hc⟩

def hasS (l : List ByteArray) (s : ByteArray) : Bool := l.any fun x => x.toList == s.toList

def simpS (s : ByteArray) : Bool := nameS s && !(decide (48 ≤ ((bs s).getD 0 0).toNat) && decide (((bs s).getD 0 0).toNat ≤ 57)) && (bs s).all (fun x => gB x.toNat) && !hasS wordsL s

theorem find_anyF {α R : Type} (l : List α) (bad : α → Bool) (f : Nat → R) (d : α) :
    ((List.range l.length).findSome? (fun i => if bad (l.getD i d) = true then some (f i) else none)).isSome = l.any bad ∧
      ∀ x, (List.range l.length).findSome? (fun i => if bad (l.getD i d) = true then some (f i) else none) = some x → ∃ i, x = f i := by
  constructor
  · induction l generalizing f with
    | nil => rfl
    | cons x l ih =>
      rw [List.length_cons, List.range_succ_eq_map, List.findSome?_cons, List.any_cons]
      cases hx : bad x with
      | true => simp [hx]
      | false =>
        simp only [List.getD_cons_zero, hx, Bool.false_eq_true, if_false, Bool.false_or, List.findSome?_map, Function.comp_def, List.getD_cons_succ]
        exact ih (fun i => f (i + 1))
  · intro x h
    obtain ⟨i, _, hi⟩ := List.exists_of_findSome?_eq_some h
    split at hi
    · cases hi; exact ⟨i, rfl⟩
    · cases hi

theorem contains_spec (k : Nat) {H : AH} {sl : Sl3} {xs : List ByteArray} (h : SlL StrA 1 H sl xs) (s : ByteArray) : slices_Contains_94 (LCo k) H sl s = some (hasS xs s) := by
  have hl : loopO (slices_Index_101_b0 (LCo k) H sl s) 0 = some (found xs.length ((List.range xs.length).findSome? (fun i => if (s.toList == (xs.getD i ⟨#[]⟩).toList) = true then some (i : Int) else none))) := by
    refine loopO_up xs.length h.len _ (fun i hi => ?_) ?_
    · unfold slices_Index_101_b0
      have hn := h.n
      rw [if_pos (by omega)]
      obtain ⟨q, h1, h2⟩ := h.get hi (v := (i : Int)) rfl
      rw [h1]
      simp only [Option.bind_some]
      rw [h2.rd]
      simp only [deS, Option.bind_some]
      have : xs.getD i ⟨#[]⟩ = xs[i] := by simp [List.getD, hi]
      rw [this]
      cases (s.toList == xs[i].toList) <;> simp [stepO]
    · unfold slices_Index_101_b0
      have hn := h.n
      rw [if_neg (by omega)]
  unfold slices_Contains_94 slices_Index_101
  show Option.bind (Option.bind (loopO (slices_Index_101_b0 (LCo k) H sl s) 0) _) _ = _
  rw [hl]
  obtain ⟨k1, k2⟩ := find_anyF xs (fun x => s.toList == x.toList) (fun i => (i : Int)) ⟨#[]⟩
  have k3 : (xs.any fun x => s.toList == x.toList) = hasS xs s := by
    unfold hasS
    congr 1
    funext x
    exact BEq.comm
  rw [k3] at k1
  generalize hq : (List.range xs.length).findSome? (fun i => if (s.toList == (xs.getD i ⟨#[]⟩).toList) = true then some (i : Int) else none) = q at k1 k2
  cases q with
  | none => rw [← k1]; rfl
  | some x =>
    rw [← k1]
    obtain ⟨i, rfl⟩ := k2 x rfl
    have : (i : Int) ≥ 0 := by omega
    simp [found, this]

end Go.Proofs.YtccbilfbhecdaaaDoor


namespace Go.Proofs.YtccbilfbhecdaaaDoor
open Go Go.Abs

theorem fields_run (L : LC) (m : Nat) {H : AH} (h : HasT H) : ∃ z H', strings_Fields L m H wordsV = some (z, H') ∧ SlL StrA 1 H' z wordsL ∧ Ext H H' := by
  unfold strings_Fields
  rw [if_pos ⟨rfl, h⟩]
  refine ⟨_, _, rfl, ?_, Fm.push _ _ _⟩
  exact SlL.push (xs := wordsL) (b := wordsB) (c := (wordsL.map Value.string).toArray) (e := 9) (f := (0, 0)) rfl (by rw [maxN_eq]; decide) fun i hi => Cel.push (b := wordsB) rfl (by simp [hi])

theorem awake_run (L : LC) {H : AH} (h : HasT H) : law04_awake L H = some true := by
  unfold law04_awake
  rw [if_pos h]

end Go.Proofs.YtccbilfbhecdaaaDoor


namespace Go.Proofs.YtccbilfbhecdaaaDoor
open Go Go.Abs Go.ChangeShapes Go.WideShapes
set_option maxRecDepth 100000

theorem own : ownKnob Tryd.prog.godebug = none := by kernel_rfl
theorem laidOut : laidOutB Tryd.prog = true := by kernel_rfl
theorem globals_ok : globalsB Tryd.prog = true := by kernel_rfl
theorem sane : Sane Tryd.prog (NE.plain 1000) := sane_of (fun _ _ _ => rfl) (by kernel_rfl) (by kernel_rfl) (by kernel_rfl)

theorem laid_met (os : Os) (args : Array Value) : laidMet Tryd.prog Rows.sortNamesUptoRow.laid ((laidW2 Tryd.prog Rows.sortNamesUptoRow.laid os).forCall (fun _ _ => 0) ⟨#[], args, []⟩).memory :=
  laidMet_of_run3 8 (by kernel_rfl) (by kernel_rfl) (by kernel_rfl)

theorem tabs_met (W : World) (hL : laidMet Tryd.prog Rows.sortNamesUptoRow.laid W) (hsh : W.ShapedOpen Tryd.prog) : ∀ x ∈ tabs, ∃ fr, W.heap[x.1]? = some (.cells x.2.2 x.2.1 fr) := by
  intro x hx
  simp only [tabs, List.mem_cons, List.not_mem_nil, or_false] at hx
  rcases hx with rfl | rfl | rfl | rfl
  · exact tab_met (name := "strings.asciiSpace") (te := 5) (n := 256) (t := 130) hL (by kernel_rfl) (by kernel_rfl) (by kernel_rfl) (by kernel_rfl) (by kernel_rfl) (by kernel_rfl) (by kernel_rfl) (of_decide_eq_true (by kernel_rfl)) (by kernel_rfl) hsh
  · exact tab_met (name := "internal/strconv.uint64pow10") (te := 141) (n := 20) (t := 159) hL (by kernel_rfl) (by kernel_rfl) (by kernel_rfl) (by kernel_rfl) (by kernel_rfl) (by kernel_rfl) (by kernel_rfl) (of_decide_eq_true (by kernel_rfl)) (by kernel_rfl) hsh
  · exact tab_met (name := "math/bits.deBruijn32tab") (te := 5) (n := 32) (t := 165) hL (by kernel_rfl) (by kernel_rfl) (by kernel_rfl) (by kernel_rfl) (by kernel_rfl) (by kernel_rfl) (by kernel_rfl) (of_decide_eq_true (by kernel_rfl)) (by kernel_rfl) hsh
  · exact tab_met (name := "math/bits.deBruijn64tab") (te := 5) (n := 64) (t := 166) hL (by kernel_rfl) (by kernel_rfl) (by kernel_rfl) (by kernel_rfl) (by kernel_rfl) (by kernel_rfl) (by kernel_rfl) (of_decide_eq_true (by kernel_rfl)) (by kernel_rfl) hsh

theorem hasT_start : HasT H0 := by
  intro x hx
  simp only [tabs, List.mem_cons, List.not_mem_nil, or_false] at hx
  rcases hx with rfl | rfl | rfl | rfl <;> exact ⟨by kernel_rfl, by rw [show H0.next = Tryd.prog.globals.size from startH_next tabs, globals7]; decide⟩

theorem start_at {W : World} (hg : Tryd.prog.globals.size ≤ W.heap.size) (hL : laidMet Tryd.prog Rows.sortNamesUptoRow.laid W) (hsh : W.ShapedOpen Tryd.prog) : Imp Tryd.prog (φg Tryd.prog) H0 W :=
  Imp.startT hg tabs_ok (tabs_met W hL hsh)

namespace bulks
theorem bound {H : Type} {l : List (DataW H)} (hk : Rows.uptoSmall H l = true) : Rows.uptoBulkAll l ≤ 1048576 := of_decide_eq_true hk
end bulks

section
variable {H : Type} {enc : TypeId × Value → H} {W : World} {φ : Inj}

theorem ar2 {a a' b b' : Value} (h : VR φ a a') (h2 : VR φ b b') : AR φ #[a, b] #[a', b'] := by
  refine ⟨rfl, fun i x y hx hy => ?_⟩
  match i, hx, hy with
  | 0, hx, hy => simp at hx hy; subst hx hy; exact h
  | 1, hx, hy => simp at hx hy; subst hx hy; exact h2
  | i + 2, hx, _ => simp at hx

end

end Go.Proofs.YtccbilfbhecdaaaDoor


namespace Go.Proofs.YtccbilfbhecdaaaDoor
open Go Go.Abs
set_option maxRecDepth 100000

def sort_parts_enc : (Int × Bool) → Value
  | (r0, r1) => (Value.tuple #[(Value.int .i64 r0), (Value.bool r1)])

def sort_parts_hp (H : AH) : (Int × Bool) → AH := fun _ => H

noncomputable def B90 : Code := (Tryd.f90.body).getD .skip

noncomputable def sort_parts_b0 (_L : LC) (rec_sort_parts : AH → Int → Int → ByteArray → Sl3 → Int → Option (Int × Bool)) (H : AH) (_a0_0 : Int) (_a0_1 : Int) (_a0_2 : ByteArray) (a0_3 : Sl3) (a1 : Int) : (Int × Int) → Option (Lp (Int × Int) (Int × Bool)) := fun (v6_1, v16_2) =>
  if v16_2 < (a0_3.n : Int) then
    Option.bind (idxA 4 a0_3 v16_2) fun p3 =>
    Option.bind (rd (deI .i64) H (Addr.add p3 0)) fun x4_0 =>
    Option.bind (rd (deI .i64) H (Addr.add p3 1)) fun x4_1 =>
    Option.bind (rd deS H (Addr.add p3 2)) fun x4_2 =>
    Option.bind (rd deSl H (Addr.add p3 3)) fun x4_3 =>
    Option.bind (rec_sort_parts H x4_0 x4_1 x4_2 x4_3 (IntKind.i64.wrap (a1 + 1))) fun (x5, x6) =>
    Option.bind (α := Bool) (
      if x6 = true then
        some (decide ((IntKind.i64.wrap (v6_1 + x5)) > 256))
      else
        some true) fun v35_7 =>
    if v35_7 = true then
      some (.ret ((IntKind.i64.wrap (v6_1 + x5)), false))
    else
      some (.next ((IntKind.i64.wrap (v6_1 + x5)), (IntKind.i64.wrap (v16_2 + 1))))
  else
    some (.brk (v6_1, v16_2))

def sort_parts_b0_kn (_L : LC) (_rec_sort_parts : AH → Int → Int → ByteArray → Sl3 → Int → Option (Int × Bool)) (_H : AH) (_a0_0 : Int) (_a0_1 : Int) (_a0_2 : ByteArray) (a0_3 : Sl3) (a1 : Int) : (Int × Int) → KN := fun (v6_1, v16_2) => [(6, .val (Value.int .i64 v6_1)), (16, .val (Value.int .i64 v16_2)), (1, .val (Value.int .i64 a1)), (14, .val (Sl3.v a0_3)), (15, .val (Value.int .i64 (a0_3.n : Int)))]

def sort_parts_b0_ls (_L : LC) (_rec_sort_parts : AH → Int → Int → ByteArray → Sl3 → Int → Option (Int × Bool)) (_H : AH) (a0_0 : Int) (a0_1 : Int) (a0_2 : ByteArray) (a0_3 : Sl3) (_a1 : Int) : (Int × Int) → Lcs := fun (_, _) => [some (28, [(Value.int .i64 a0_0), (Value.int .i64 a0_1), (Value.string a0_2), (Sl3.v a0_3)])]

noncomputable def sort_parts_body (L : LC) (rec_sort_parts : AH → Int → Int → ByteArray → Sl3 → Int → Option (Int × Bool)) (H : AH) (a0_0 : Int) (a0_1 : Int) (a0_2 : ByteArray) (a0_3 : Sl3) (a1 : Int) : Option (Int × Bool) :=
  if a1 > 16 then
    some (0, false)
  else
    Option.bind (L.run (sort_parts_b0 L rec_sort_parts H a0_0 a0_1 a0_2 a0_3 a1) (1, 0)) fun o => match o with
    | .inl (v6_8, _) =>
      some (v6_8, true)
    | .inr r => some r

noncomputable def fam_sort_parts (L : LC) (n : Nat) : (AH → Int → Int → ByteArray → Sl3 → Int → Option (Int × Bool)) := Nat.rec (motive := fun _ => (AH → Int → Int → ByteArray → Sl3 → Int → Option (Int × Bool))) (fun _ _ _ _ _ _ => none) (fun _ p => sort_parts_body L p) n

noncomputable def sort_parts (L : LC) (H : AH) (a0_0 : Int) (a0_1 : Int) (a0_2 : ByteArray) (a0_3 : Sl3) (a1 : Int) : Option (Int × Bool) := (fam_sort_parts L L.fuel) H a0_0 a0_1 a0_2 a0_3 a1

theorem sort_parts_b0_ok {E : Ent} {m : Nat} {L : LC} {rec_sort_parts : AH → Int → Int → ByteArray → Sl3 → Int → Option (Int × Bool)} {H : AH} {a0_0 : Int} {a0_1 : Int} {a0_2 : ByteArray} {a0_3 : Sl3} {a1 : Int} (hrec_sort_parts : ∀ (m : Nat) (H : AH) (a0_0 : Int) (a0_1 : Int) (a0_2 : ByteArray) (a0_3 : Sl3) (a1 : Int) (r : (Int × Bool)), rec_sort_parts H a0_0 a0_1 a0_2 a0_3 a1 = some r → CallS Tryd.prog (NE.plain 1000) m 90 #[(Value.agg #[(Value.int .i64 a0_0), (Value.int .i64 a0_1), (Value.string a0_2), (Sl3.v a0_3)]), (Value.int .i64 a1)] H (sort_parts_enc r) (sort_parts_hp H r)) : ∀ s o, sort_parts_b0 L rec_sort_parts H a0_0 a0_1 a0_2 a0_3 a1 s = some o →
    WS Tryd.prog (NE.plain 1000) m E Tryd.f90.ntmps (cfst (cfst (csnd (cfst (csnd (csnd (csnd B90))))))) (sort_parts_b0_kn L rec_sort_parts H a0_0 a0_1 a0_2 a0_3 a1 s) (sort_parts_b0_ls L rec_sort_parts H a0_0 a0_1 a0_2 a0_3 a1 s) ((fun _ => H) s) (lpS Tryd.prog (NE.plain 1000) m E Tryd.f90.ntmps (sort_parts_b0_kn L rec_sort_parts H a0_0 a0_1 a0_2 a0_3 a1) (sort_parts_b0_ls L rec_sort_parts H a0_0 a0_1 a0_2 a0_3 a1) (fun _ => H) 0 (fun r => RT Tryd.prog (NE.plain 1000) m E Tryd.f90 (sort_parts_enc r) (sort_parts_hp H r)) o) := by
  rintro ⟨v6_1, v16_2⟩ o h
  unfold sort_parts_b0 at h
  try dsimp only at h
  refine WS.sq (WS.rg (RS.mS 1 [(17, .val (Value.bool (decide (v16_2 < (a0_3.n : Int)))))] (RS.dn (WS.nxt (WS.sq ?_)))))
  rcases ite_some h with ⟨hp, h⟩ | ⟨hp, h⟩
  · refine WS.fx 17 true (decide_eq_true hp) (WS.cT (WS.sk (WS.nxt (WS.sq (WS.bk 1 (WS.sq (WS.rg ?_)))))))
    obtain ⟨p3, hx, h⟩ := bind_some h
    refine RS.o (H' := H) (some 18) (Value.pointer (some p3)) (Abs.run_idx (s := a0_3) (k := .i64) (t := 26) (e := 28) (x := .tmp 14) (y := .tmp 16) (by kernel_rfl) (by kernel_rfl) (by kernel_rfl) (by kernel_rfl) (by kernel_rfl) hx) ?_
    obtain ⟨x4_0, hx0, h⟩ := bind_some h
    obtain ⟨x4_1, hx1, h⟩ := bind_some h
    obtain ⟨x4_2, hx2, h⟩ := bind_some h
    obtain ⟨x4_3, hx3, h⟩ := bind_some h
    refine RS.o (H' := H) (some 19) (Value.agg #[(Value.int .i64 x4_0), (Value.int .i64 x4_1), (Value.string x4_2), (Sl3.v x4_3)]) (Abs.run_loadAg (t := 28) (x := .tmp 18) (a := p3) (k := 4) (by kernel_rfl) (by kernel_rfl) (by kernel_rfl) (by kernel_rfl) (rdc_cons (rd_cell hx0 deI_inv) (rdc_cons (rd_cell hx1 deI_inv) (rdc_cons (rd_cell hx2 deS_inv) (rdc_cons (rd_cell hx3 deSl_inv) rdc_nil))))) (RS.mL 2 [(8, .loc 1 0)] ([some (28, [(Value.int .i64 a0_0), (Value.int .i64 a0_1), (Value.string a0_2), (Sl3.v a0_3)]), some (28, [(Value.int .i64 x4_0), (Value.int .i64 x4_1), (Value.string x4_2), (Sl3.v x4_3)])]) (RS.dn (WS.nxt (WS.sq (WS.rg (RS.mS 3 [(23, .val (Value.int .i64 (IntKind.i64.wrap (a1 + 1)))), (22, .val (Value.int .i64 a1)), (21, .val (Value.agg #[(Value.int .i64 x4_0), (Value.int .i64 x4_1), (Value.string x4_2), (Sl3.v x4_3)]))] ?_))))))
    obtain ⟨⟨x5, x6⟩, hx, h⟩ := bind_some h
    try dsimp only at h
    refine RS.cl (some 24) (v := (Value.tuple #[(Value.int .i64 x5), (Value.bool x6)])) 90 #[(Value.agg #[(Value.int .i64 x4_0), (Value.int .i64 x4_1), (Value.string x4_2), (Sl3.v x4_3)]), (Value.int .i64 (IntKind.i64.wrap (a1 + 1)))] (hrec_sort_parts _ _ _ _ _ _ _ _ hx) (RS.mS 5 [(10, .val (Value.bool x6)), (9, .val (Value.int .i64 x5)), (26, .val (Value.bool x6)), (25, .val (Value.int .i64 x5)), (20, .val (Value.tuple #[(Value.int .i64 x5), (Value.bool x6)]))] (RS.dn (WS.nxt (WS.sq (WS.rg (RS.mS 4 [(6, .val (Value.int .i64 (IntKind.i64.wrap (v6_1 + x5)))), (29, .val (Value.int .i64 (IntKind.i64.wrap (v6_1 + x5)))), (28, .val (Value.int .i64 x5)), (27, .val (Value.int .i64 v6_1))] (RS.dn (WS.nxt ?_))))))))
    obtain ⟨v35_7, hx, h⟩ := bind_some h
    refine WS.sq ?_
    refine WS.join ([(35, .val (Value.bool v35_7)), (1, .val (Value.int .i64 a1)), (6, .val (Value.int .i64 (IntKind.i64.wrap (v6_1 + x5)))), (14, .val (Sl3.v a0_3)), (15, .val (Value.int .i64 (a0_3.n : Int))), (16, .val (Value.int .i64 v16_2))]) ([some (28, [(Value.int .i64 a0_0), (Value.int .i64 a0_1), (Value.string a0_2), (Sl3.v a0_3)]), some (28, [(Value.int .i64 x4_0), (Value.int .i64 x4_1), (Value.string x4_2), (Sl3.v x4_3)])]) H ?_ (fun a w hs => WS.nxt ?_ a w hs)
    · clear h; rename _ => h
      refine WS.rg (RS.mS 3 [(32, .val (Value.bool (!x6))), (31, .val (Value.bool (!x6))), (30, .val (Value.bool x6))] ?_)
      rcases ite_some h with ⟨hp, h⟩ | ⟨hp, h⟩
      · refine RS.fx 32 false (nb_not hp) (RS.mS 3 [(35, .val (Value.bool (decide ((IntKind.i64.wrap (v6_1 + x5)) > 256)))), (34, .val (Value.bool (decide ((IntKind.i64.wrap (v6_1 + x5)) > 256)))), (33, .val (Value.int .i64 (IntKind.i64.wrap (v6_1 + x5))))] (RS.dn ?_))
        cases h
        exact fun a w hs => (jsN (hs.sb 2))
      · refine RS.fx 32 true (nb_not' hp) (RS.mS 3 [(35, .val (Value.bool true)), (34, .val undef), (33, .val undef)] (RS.dn ?_))
        cases h
        exact fun a w hs => (jsN (hs.sb 2))
    · clear hx
      rcases ite_some h with ⟨hp, h⟩ | ⟨hp, h⟩
      · refine WS.fx 35 true hp (WS.cT (WS.sq (WS.rg (RS.mS 3 [(5, .val (Value.bool false)), (4, .val (Value.int .i64 (IntKind.i64.wrap (v6_1 + x5)))), (36, .val (Value.int .i64 (IntKind.i64.wrap (v6_1 + x5))))] (RS.dn (WS.nxt (WS.rt ?_)))))))
        cases h
        exact fun a w hs => bkR (sqR (lsR rfl (rS hs)))
      · refine WS.fx 35 false (b_not hp) (WS.cF (WS.sk ?_))
        refine fun a w hs => bkN ((WS.nxt ?_ a w hs))
        refine WS.rg (RS.mS 2 [(16, .val (Value.int .i64 (IntKind.i64.wrap (v16_2 + 1)))), (37, .val (Value.int .i64 (IntKind.i64.wrap (v16_2 + 1))))] (RS.dn ?_))
        cases h
        exact fun a w hs => lsN rfl (hs.sb 1)
  · refine WS.fx 17 false (decide_eq_false hp) (WS.cF (WS.ex 0 ?_))
    cases h
    exact fun a w hs => sqE (lsB rfl (hs.sb 1))

theorem sort_parts_body_ok {L : LC} {rec_sort_parts : AH → Int → Int → ByteArray → Sl3 → Int → Option (Int × Bool)} (hrec_sort_parts : ∀ (m : Nat) (H : AH) (a0_0 : Int) (a0_1 : Int) (a0_2 : ByteArray) (a0_3 : Sl3) (a1 : Int) (r : (Int × Bool)), rec_sort_parts H a0_0 a0_1 a0_2 a0_3 a1 = some r → CallS Tryd.prog (NE.plain 1000) m 90 #[(Value.agg #[(Value.int .i64 a0_0), (Value.int .i64 a0_1), (Value.string a0_2), (Sl3.v a0_3)]), (Value.int .i64 a1)] H (sort_parts_enc r) (sort_parts_hp H r)) {m : Nat} {H : AH} {a0_0 : Int} {a0_1 : Int} {a0_2 : ByteArray} {a0_3 : Sl3} {a1 : Int} {r : (Int × Bool)} (h : sort_parts_body L rec_sort_parts H a0_0 a0_1 a0_2 a0_3 a1 = some r) :
    CallS Tryd.prog (NE.plain 1000) m 90 #[(Value.agg #[(Value.int .i64 a0_0), (Value.int .i64 a0_1), (Value.string a0_2), (Sl3.v a0_3)]), (Value.int .i64 a1)] H (sort_parts_enc r) (sort_parts_hp H r) := by
  refine CallS.mk (args := [(Value.agg #[(Value.int .i64 a0_0), (Value.int .i64 a0_1), (Value.string a0_2), (Sl3.v a0_3)]), (Value.int .i64 a1)]) Tryd.func90 (B := B90) (by kernel_rfl) (fun E _ => ?_)
  unfold sort_parts_body at h
  refine WS.sq (WS.rg (RS.mL 3 [(5, .val (Value.bool false)), (4, .val (Value.int .i64 0)), (2, .loc 0 0)] ([some (28, [(Value.int .i64 a0_0), (Value.int .i64 a0_1), (Value.string a0_2), (Sl3.v a0_3)])]) (RS.dn (WS.nxt (WS.sq (WS.sq (WS.rg (RS.mS 2 [(12, .val (Value.bool (decide (a1 > 16)))), (11, .val (Value.int .i64 a1))] (RS.dn ?_)))))))))
  refine WS.nxt ?_
  rcases ite_some h with ⟨hp, h⟩ | ⟨hp, h⟩
  · refine WS.fx 12 true (decide_eq_true hp) (WS.cT (WS.sq (WS.rg (RS.mS 2 [(5, .val (Value.bool false)), (4, .val (Value.int .i64 0))] (RS.dn (WS.nxt (WS.rt ?_)))))))
    cases h
    exact fun a w hs => sqR (rtR (rS hs))
  · refine WS.fx 12 false (decide_eq_false hp) (WS.cF (WS.sk (WS.nxt (WS.sq (WS.rg (RS.mS 1 [(6, .val (Value.int .i64 1))] (RS.dn (WS.nxt (WS.sq ?_)))))))))
    refine WS.sq (WS.rg (RS.mS 4 [(16, .val (Value.int .i64 0)), (15, .val (Value.int .i64 (a0_3.n : Int))), (14, .val (Sl3.v a0_3)), (13, .loc 0 3)] (RS.dn (WS.nxt (WS.bk 0 ?_)))))
    obtain ⟨o, hl, h⟩ := bind_some h
    rcases o with ⟨v6_8, v16_9⟩ | r
    · try dsimp only at h
      refine WS.lI (sort_parts_b0_ok (L := L) (E := E) (m := m) (H := H) hrec_sort_parts) (L.ok hl) 1 ?_
      clear hl
      refine fun a w hs => bkE ((WS.nxt ?_ a w hs))
      refine WS.sq (WS.rg (RS.mS 3 [(5, .val (Value.bool true)), (4, .val (Value.int .i64 v6_8)), (38, .val (Value.int .i64 v6_8))] (RS.dn (WS.nxt (WS.rt ?_)))))
      cases h
      exact fun a w hs => rtR (rS hs)
    · try dsimp only at h
      refine WS.lR (sort_parts_b0_ok (L := L) (E := E) (m := m) (H := H) hrec_sort_parts) (L.ok hl) 1 ?_
      cases h
      exact fun a w hq => bkR (sqR (rtR hq))

theorem fam_sort_parts_ok {L : LC} : ∀ n, (∀ (m : Nat) (H : AH) (a0_0 : Int) (a0_1 : Int) (a0_2 : ByteArray) (a0_3 : Sl3) (a1 : Int) (r : (Int × Bool)), ((fam_sort_parts L n)) H a0_0 a0_1 a0_2 a0_3 a1 = some r → CallS Tryd.prog (NE.plain 1000) m 90 #[(Value.agg #[(Value.int .i64 a0_0), (Value.int .i64 a0_1), (Value.string a0_2), (Sl3.v a0_3)]), (Value.int .i64 a1)] H (sort_parts_enc r) (sort_parts_hp H r)) := by
  intro n
  induction n with
  | zero => exact (fun _ _ _ _ _ _ _ _ h => (Option.some_ne_none _ h.symm).elim)
  | succ n ih => exact (fun _ _ _ _ _ _ _ _ h => sort_parts_body_ok (L := L) ih h)

theorem sort_parts_ok {L : LC} {m : Nat} {H : AH} {a0_0 : Int} {a0_1 : Int} {a0_2 : ByteArray} {a0_3 : Sl3} {a1 : Int} {r : (Int × Bool)} (h : sort_parts L H a0_0 a0_1 a0_2 a0_3 a1 = some r) :
    CallS Tryd.prog (NE.plain 1000) m 90 #[(Value.agg #[(Value.int .i64 a0_0), (Value.int .i64 a0_1), (Value.string a0_2), (Sl3.v a0_3)]), (Value.int .i64 a1)] H (sort_parts_enc r) (sort_parts_hp H r) :=
  (fam_sort_parts_ok _) _ _ _ _ _ _ _ _ h

def sort_shaped_enc : Bool → Value
  | r0 => (Value.bool r0)

def sort_shaped_hp (H : AH) : Bool → AH := fun _ => H

noncomputable def B91 : Code := (Tryd.f91.body).getD .skip

noncomputable def sort_shaped_b0 (_L : LC) (rec_sort_shaped : AH → Int → Int → ByteArray → Sl3 → Option Bool) (H : AH) (_a0_0 : Int) (_a0_1 : Int) (_a0_2 : ByteArray) (a0_3 : Sl3) : (Bool × Int) → Option (Lp (Bool × Int) Bool) := fun (v3_5, v82_6) =>
  if v82_6 < (a0_3.n : Int) then
    Option.bind (α := Bool) (
      Option.bind (idxA 4 a0_3 v82_6) fun p8 =>
      Option.bind (rd (deI .i64) H (Addr.add p8 0)) fun x9_0 =>
      Option.bind (rd (deI .i64) H (Addr.add p8 1)) fun x9_1 =>
      Option.bind (rd deS H (Addr.add p8 2)) fun x9_2 =>
      Option.bind (rd deSl H (Addr.add p8 3)) fun x9_3 =>
      if v3_5 = true then
        Option.bind (rec_sort_shaped H x9_0 x9_1 x9_2 x9_3) fun x10 =>
        some x10
      else
        some false) fun v3_7 =>
    some (.next (v3_7, (IntKind.i64.wrap (v82_6 + 1))))
  else
    some (.brk (v3_5, v82_6))

def sort_shaped_b0_kn (_L : LC) (_rec_sort_shaped : AH → Int → Int → ByteArray → Sl3 → Option Bool) (_H : AH) (_a0_0 : Int) (_a0_1 : Int) (_a0_2 : ByteArray) (a0_3 : Sl3) : (Bool × Int) → KN := fun (v3_5, v82_6) => [(3, .val (Value.bool v3_5)), (82, .val (Value.int .i64 v82_6)), (80, .val (Sl3.v a0_3)), (81, .val (Value.int .i64 (a0_3.n : Int)))]

def sort_shaped_b0_ls (_L : LC) (_rec_sort_shaped : AH → Int → Int → ByteArray → Sl3 → Option Bool) (_H : AH) (a0_0 : Int) (a0_1 : Int) (a0_2 : ByteArray) (a0_3 : Sl3) : (Bool × Int) → Lcs := fun (_, _) => [some (28, [(Value.int .i64 a0_0), (Value.int .i64 a0_1), (Value.string a0_2), (Sl3.v a0_3)])]

noncomputable def sort_shaped_body (L : LC) (rec_sort_shaped : AH → Int → Int → ByteArray → Sl3 → Option Bool) (H : AH) (a0_0 : Int) (a0_1 : Int) (a0_2 : ByteArray) (a0_3 : Sl3) : Option Bool :=
  Option.bind (α := Bool) (
    Option.bind (α := Bool) (
      if a0_0 = 1 then
        some true
      else
        some (decide (a0_0 = 2))) fun v8_2 =>
    if v8_2 = true then
      if a0_1 = 0 then
        if (a0_2.toList == (⟨#[]⟩ : ByteArray).toList) = true then
          some (decide ((a0_3.n : Int) = 0))
        else
          some false
      else
        some false
    else
      if a0_0 = 3 then
        if a0_1 ≥ 1 then
          if a0_1 ≤ 4096 then
            if (a0_2.toList == (⟨#[]⟩ : ByteArray).toList) = true then
              some (decide ((a0_3.n : Int) = 0))
            else
              some false
          else
            some false
        else
          some false
      else
        if a0_0 = 4 then
          if a0_1 = 0 then
            if (a0_2.toList == (⟨#[]⟩ : ByteArray).toList) = true then
              some (decide ((a0_3.n : Int) = 2))
            else
              some false
          else
            some false
        else
          Option.bind (α := Bool) (
            if a0_0 = 5 then
              some true
            else
              some (decide (a0_0 = 6))) fun v62_3 =>
          if v62_3 = true then
            if a0_1 = 0 then
              Option.bind (sort_Name L a0_2) fun x4 =>
              if x4 = true then
                some (decide ((a0_3.n : Int) = 0))
              else
                some false
            else
              some false
          else
            some false) fun v3_1 =>
  Option.bind (L.run (sort_shaped_b0 L rec_sort_shaped H a0_0 a0_1 a0_2 a0_3) (v3_1, 0)) fun o => match o with
  | .inl (v3_11, _) =>
    some v3_11
  | .inr r => some r

noncomputable def fam_sort_shaped (L : LC) (n : Nat) : (AH → Int → Int → ByteArray → Sl3 → Option Bool) := Nat.rec (motive := fun _ => (AH → Int → Int → ByteArray → Sl3 → Option Bool)) (fun _ _ _ _ _ => none) (fun _ p => sort_shaped_body L p) n

noncomputable def sort_shaped (L : LC) (H : AH) (a0_0 : Int) (a0_1 : Int) (a0_2 : ByteArray) (a0_3 : Sl3) : Option Bool := (fam_sort_shaped L L.fuel) H a0_0 a0_1 a0_2 a0_3

theorem sort_shaped_b0_ok {E : Ent} {m : Nat} {L : LC} {rec_sort_shaped : AH → Int → Int → ByteArray → Sl3 → Option Bool} {H : AH} {a0_0 : Int} {a0_1 : Int} {a0_2 : ByteArray} {a0_3 : Sl3} (hrec_sort_shaped : ∀ (m : Nat) (H : AH) (a0_0 : Int) (a0_1 : Int) (a0_2 : ByteArray) (a0_3 : Sl3) (r : Bool), rec_sort_shaped H a0_0 a0_1 a0_2 a0_3 = some r → CallS Tryd.prog (NE.plain 1000) m 91 #[(Value.agg #[(Value.int .i64 a0_0), (Value.int .i64 a0_1), (Value.string a0_2), (Sl3.v a0_3)])] H (sort_shaped_enc r) (sort_shaped_hp H r)) : ∀ s o, sort_shaped_b0 L rec_sort_shaped H a0_0 a0_1 a0_2 a0_3 s = some o →
    WS Tryd.prog (NE.plain 1000) m E Tryd.f91.ntmps (cfst (cfst (csnd (cfst (csnd (csnd (csnd B91))))))) (sort_shaped_b0_kn L rec_sort_shaped H a0_0 a0_1 a0_2 a0_3 s) (sort_shaped_b0_ls L rec_sort_shaped H a0_0 a0_1 a0_2 a0_3 s) ((fun _ => H) s) (lpS Tryd.prog (NE.plain 1000) m E Tryd.f91.ntmps (sort_shaped_b0_kn L rec_sort_shaped H a0_0 a0_1 a0_2 a0_3) (sort_shaped_b0_ls L rec_sort_shaped H a0_0 a0_1 a0_2 a0_3) (fun _ => H) 1 (fun r => RT Tryd.prog (NE.plain 1000) m E Tryd.f91 (sort_shaped_enc r) (sort_shaped_hp H r)) o) := by
  rintro ⟨v3_5, v82_6⟩ o h
  unfold sort_shaped_b0 at h
  try dsimp only at h
  refine WS.sq (WS.rg (RS.mS 1 [(83, .val (Value.bool (decide (v82_6 < (a0_3.n : Int)))))] (RS.dn (WS.nxt (WS.sq ?_)))))
  rcases ite_some h with ⟨hp, h⟩ | ⟨hp, h⟩
  · refine WS.fx 83 true (decide_eq_true hp) (WS.cT (WS.sk (WS.nxt ?_)))
    obtain ⟨v3_7, hx, h⟩ := bind_some h
    refine WS.sq ?_
    refine WS.join ([(3, .val (Value.bool v3_7)), (80, .val (Sl3.v a0_3)), (81, .val (Value.int .i64 (a0_3.n : Int))), (82, .val (Value.int .i64 v82_6))]) ([some (28, [(Value.int .i64 a0_0), (Value.int .i64 a0_1), (Value.string a0_2), (Sl3.v a0_3)])]) H ?_ (fun a w hs => WS.nxt ?_ a w hs)
    · clear h; rename _ => h
      refine WS.bk 2 (WS.sq (WS.rg ?_))
      obtain ⟨p8, hx, h⟩ := bind_some h
      refine RS.o (H' := H) (some 84) (Value.pointer (some p8)) (Abs.run_idx (s := a0_3) (k := .i64) (t := 26) (e := 28) (x := .tmp 80) (y := .tmp 82) (by kernel_rfl) (by kernel_rfl) (by kernel_rfl) (by kernel_rfl) (by kernel_rfl) hx) ?_
      obtain ⟨x9_0, hx0, h⟩ := bind_some h
      obtain ⟨x9_1, hx1, h⟩ := bind_some h
      obtain ⟨x9_2, hx2, h⟩ := bind_some h
      obtain ⟨x9_3, hx3, h⟩ := bind_some h
      refine RS.o (H' := H) (some 85) (Value.agg #[(Value.int .i64 x9_0), (Value.int .i64 x9_1), (Value.string x9_2), (Sl3.v x9_3)]) (Abs.run_loadAg (t := 28) (x := .tmp 84) (a := p8) (k := 4) (by kernel_rfl) (by kernel_rfl) (by kernel_rfl) (by kernel_rfl) (rdc_cons (rd_cell hx0 deI_inv) (rdc_cons (rd_cell hx1 deI_inv) (rdc_cons (rd_cell hx2 deS_inv) (rdc_cons (rd_cell hx3 deSl_inv) rdc_nil))))) (RS.mL 2 [(5, .loc 1 0)] ([some (28, [(Value.int .i64 a0_0), (Value.int .i64 a0_1), (Value.string a0_2), (Sl3.v a0_3)]), some (28, [(Value.int .i64 x9_0), (Value.int .i64 x9_1), (Value.string x9_2), (Sl3.v x9_3)])]) (RS.dn (WS.nxt (WS.rg (RS.mS 2 [(87, .val (Value.bool v3_5)), (86, .val (Value.bool v3_5))] ?_)))))
      rcases ite_some h with ⟨hp, h⟩ | ⟨hp, h⟩
      · refine RS.fx 87 true hp (RS.mS 1 [(88, .val (Value.agg #[(Value.int .i64 x9_0), (Value.int .i64 x9_1), (Value.string x9_2), (Sl3.v x9_3)]))] ?_)
        obtain ⟨x10, hx, h⟩ := bind_some h
        refine RS.cl (some 89) (v := (Value.bool x10)) 91 #[(Value.agg #[(Value.int .i64 x9_0), (Value.int .i64 x9_1), (Value.string x9_2), (Sl3.v x9_3)])] (hrec_sort_shaped _ _ _ _ _ _ _ hx) (RS.mS 2 [(3, .val (Value.bool x10)), (90, .val (Value.bool x10))] (RS.dn ?_))
        cases h
        exact fun a w hs => bkN ((jsN (hs.sb 1)))
      · refine RS.fx 87 false (b_not hp) (RS.mS 4 [(3, .val (Value.bool false)), (90, .val (Value.bool false)), (89, .val undef), (88, .val undef)] (RS.dn ?_))
        cases h
        exact fun a w hs => bkN ((jsN (hs.sb 1)))
    · clear hx
      refine WS.rg (RS.mS 2 [(82, .val (Value.int .i64 (IntKind.i64.wrap (v82_6 + 1)))), (91, .val (Value.int .i64 (IntKind.i64.wrap (v82_6 + 1))))] (RS.dn ?_))
      cases h
      exact fun a w hs => lsN rfl (hs.sb 1)
  · refine WS.fx 83 false (decide_eq_false hp) (WS.cF (WS.ex 1 ?_))
    cases h
    exact fun a w hs => sqE (lsB rfl (hs.sb 1))

theorem sort_shaped_body_ok {L : LC} {rec_sort_shaped : AH → Int → Int → ByteArray → Sl3 → Option Bool} (hrec_sort_shaped : ∀ (m : Nat) (H : AH) (a0_0 : Int) (a0_1 : Int) (a0_2 : ByteArray) (a0_3 : Sl3) (r : Bool), rec_sort_shaped H a0_0 a0_1 a0_2 a0_3 = some r → CallS Tryd.prog (NE.plain 1000) m 91 #[(Value.agg #[(Value.int .i64 a0_0), (Value.int .i64 a0_1), (Value.string a0_2), (Sl3.v a0_3)])] H (sort_shaped_enc r) (sort_shaped_hp H r)) {m : Nat} {H : AH} {a0_0 : Int} {a0_1 : Int} {a0_2 : ByteArray} {a0_3 : Sl3} {r : Bool} (h : sort_shaped_body L rec_sort_shaped H a0_0 a0_1 a0_2 a0_3 = some r) :
    CallS Tryd.prog (NE.plain 1000) m 91 #[(Value.agg #[(Value.int .i64 a0_0), (Value.int .i64 a0_1), (Value.string a0_2), (Sl3.v a0_3)])] H (sort_shaped_enc r) (sort_shaped_hp H r) := by
  refine CallS.mk (args := [(Value.agg #[(Value.int .i64 a0_0), (Value.int .i64 a0_1), (Value.string a0_2), (Sl3.v a0_3)])]) Tryd.func91 (B := B91) (by kernel_rfl) (fun E _ => ?_)
  unfold sort_shaped_body at h
  refine WS.sq (WS.rg (RS.mL 2 [(2, .val (Value.bool false)), (1, .loc 0 0)] ([some (28, [(Value.int .i64 a0_0), (Value.int .i64 a0_1), (Value.string a0_2), (Sl3.v a0_3)])]) (RS.dn (WS.nxt (WS.sq (WS.rg (RS.mS 1 [(3, .val (Value.bool false))] (RS.dn (WS.nxt ?_)))))))))
  obtain ⟨v3_1, hx, h⟩ := bind_some h
  refine WS.sq ?_
  refine WS.join ([(3, .val (Value.bool v3_1)), (1, .loc 0 0)]) ([some (28, [(Value.int .i64 a0_0), (Value.int .i64 a0_1), (Value.string a0_2), (Sl3.v a0_3)])]) H ?_ (fun a w hs => WS.nxt ?_ a w hs)
  · clear h; rename _ => h
    refine WS.sq (WS.rg (RS.mS 2 [(7, .val (Value.int .i64 a0_0)), (6, .loc 0 0)] (RS.dn (WS.nxt (WS.bk 0 ?_)))))
    obtain ⟨v8_2, hx, h⟩ := bind_some h
    refine WS.sq ?_
    refine WS.join ([(8, .val (Value.bool v8_2)), (1, .loc 0 0), (3, .val (Value.bool false)), (7, .val (Value.int .i64 a0_0))]) ([some (28, [(Value.int .i64 a0_0), (Value.int .i64 a0_1), (Value.string a0_2), (Sl3.v a0_3)])]) H ?_ (fun a w hs => WS.nxt ?_ a w hs)
    · clear h; rename _ => h
      refine WS.sq (WS.rg (RS.mS 2 [(8, .val (Value.bool (decide (a0_0 = 1)))), (9, .val (Value.bool (decide (a0_0 = 1))))] (RS.dn (WS.nxt ?_))))
      rcases ite_some h with ⟨hp, h⟩ | ⟨hp, h⟩
      · refine WS.fx 8 true (decide_eq_true hp) (WS.cT (WS.sk ?_))
        cases h
        exact fun a w hs => (jsN (hs.sb 1))
      · refine WS.fx 8 false (decide_eq_false hp) (WS.cF (WS.rg (RS.mS 2 [(8, .val (Value.bool (decide (a0_0 = 2)))), (10, .val (Value.bool (decide (a0_0 = 2))))] (RS.dn ?_))))
        cases h
        exact fun a w hs => (jsN (hs.sb 1))
    · clear hx
      rcases ite_some h with ⟨hp, h⟩ | ⟨hp, h⟩
      · refine WS.fx 8 true hp (WS.cT (WS.rg (RS.mS 4 [(14, .val (Value.bool (decide (a0_1 = 0)))), (13, .val (Value.bool (decide (a0_1 = 0)))), (12, .val (Value.int .i64 a0_1)), (11, .loc 0 1)] ?_)))
        rcases ite_some h with ⟨hp, h⟩ | ⟨hp, h⟩
        · refine RS.fx 14 true (decide_eq_true hp) (RS.mS 5 [(19, .val (Value.bool (a0_2.toList == (⟨#[]⟩ : ByteArray).toList))), (18, .val (Value.bool (a0_2.toList == (⟨#[]⟩ : ByteArray).toList))), (17, .val (Value.bool (a0_2.toList == (⟨#[]⟩ : ByteArray).toList))), (16, .val (Value.string a0_2)), (15, .loc 0 2)] ?_)
          rcases ite_some h with ⟨hp, h⟩ | ⟨hp, h⟩
          · refine RS.fx 19 true hp (RS.mS 6 [(3, .val (Value.bool (decide ((a0_3.n : Int) = 0)))), (24, .val (Value.bool (decide ((a0_3.n : Int) = 0)))), (23, .val (Value.bool (decide ((a0_3.n : Int) = 0)))), (22, .val (Value.int .i64 (a0_3.n : Int))), (21, .val (Sl3.v a0_3)), (20, .loc 0 3)] (RS.dn ?_))
            cases h
            exact fun a w hs => bkN ((jsN (hs.sb 1)))
          · refine RS.fx 19 false (b_not hp) (RS.mS 6 [(3, .val (Value.bool false)), (24, .val (Value.bool false)), (23, .val undef), (22, .val undef), (21, .val undef), (20, .val undef)] (RS.dn ?_))
            cases h
            exact fun a w hs => bkN ((jsN (hs.sb 1)))
        · refine RS.fx 14 false (decide_eq_false hp) (RS.mS 11 [(3, .val (Value.bool false)), (24, .val (Value.bool false)), (23, .val undef), (22, .val undef), (21, .val undef), (20, .val undef), (19, .val (Value.bool false)), (18, .val (Value.bool false)), (17, .val undef), (16, .val undef), (15, .val undef)] (RS.dn ?_))
          cases h
          exact fun a w hs => bkN ((jsN (hs.sb 1)))
      · refine WS.fx 8 false (b_not hp) (WS.cF (WS.sq (WS.rg (RS.mS 2 [(25, .val (Value.bool (decide (a0_0 = 3)))), (26, .val (Value.bool (decide (a0_0 = 3))))] (RS.dn (WS.nxt ?_))))))
        rcases ite_some h with ⟨hp, h⟩ | ⟨hp, h⟩
        · refine WS.fx 25 true (decide_eq_true hp) (WS.cT (WS.rg (RS.mS 4 [(30, .val (Value.bool (decide (a0_1 ≥ 1)))), (29, .val (Value.bool (decide (a0_1 ≥ 1)))), (28, .val (Value.int .i64 a0_1)), (27, .loc 0 1)] ?_)))
          rcases ite_some h with ⟨hp, h⟩ | ⟨hp, h⟩
          · refine RS.fx 30 true (decide_eq_true hp) (RS.mS 5 [(35, .val (Value.bool (decide (a0_1 ≤ 4096)))), (34, .val (Value.bool (decide (a0_1 ≤ 4096)))), (33, .val (Value.bool (decide (a0_1 ≤ 4096)))), (32, .val (Value.int .i64 a0_1)), (31, .loc 0 1)] ?_)
            rcases ite_some h with ⟨hp, h⟩ | ⟨hp, h⟩
            · refine RS.fx 35 true (decide_eq_true hp) (RS.mS 5 [(40, .val (Value.bool (a0_2.toList == (⟨#[]⟩ : ByteArray).toList))), (39, .val (Value.bool (a0_2.toList == (⟨#[]⟩ : ByteArray).toList))), (38, .val (Value.bool (a0_2.toList == (⟨#[]⟩ : ByteArray).toList))), (37, .val (Value.string a0_2)), (36, .loc 0 2)] ?_)
              rcases ite_some h with ⟨hp, h⟩ | ⟨hp, h⟩
              · refine RS.fx 40 true hp (RS.mS 6 [(3, .val (Value.bool (decide ((a0_3.n : Int) = 0)))), (45, .val (Value.bool (decide ((a0_3.n : Int) = 0)))), (44, .val (Value.bool (decide ((a0_3.n : Int) = 0)))), (43, .val (Value.int .i64 (a0_3.n : Int))), (42, .val (Sl3.v a0_3)), (41, .loc 0 3)] (RS.dn ?_))
                cases h
                exact fun a w hs => bkN ((jsN (hs.sb 1)))
              · refine RS.fx 40 false (b_not hp) (RS.mS 6 [(3, .val (Value.bool false)), (45, .val (Value.bool false)), (44, .val undef), (43, .val undef), (42, .val undef), (41, .val undef)] (RS.dn ?_))
                cases h
                exact fun a w hs => bkN ((jsN (hs.sb 1)))
            · refine RS.fx 35 false (decide_eq_false hp) (RS.mS 11 [(3, .val (Value.bool false)), (45, .val (Value.bool false)), (44, .val undef), (43, .val undef), (42, .val undef), (41, .val undef), (40, .val (Value.bool false)), (39, .val (Value.bool false)), (38, .val undef), (37, .val undef), (36, .val undef)] (RS.dn ?_))
              cases h
              exact fun a w hs => bkN ((jsN (hs.sb 1)))
          · refine RS.fx 30 false (decide_eq_false hp) (RS.mS 16 [(3, .val (Value.bool false)), (45, .val (Value.bool false)), (44, .val undef), (43, .val undef), (42, .val undef), (41, .val undef), (40, .val (Value.bool false)), (39, .val (Value.bool false)), (38, .val undef), (37, .val undef), (36, .val undef), (35, .val (Value.bool false)), (34, .val (Value.bool false)), (33, .val undef), (32, .val undef), (31, .val undef)] (RS.dn ?_))
            cases h
            exact fun a w hs => bkN ((jsN (hs.sb 1)))
        · refine WS.fx 25 false (decide_eq_false hp) (WS.cF (WS.sq (WS.rg (RS.mS 2 [(46, .val (Value.bool (decide (a0_0 = 4)))), (47, .val (Value.bool (decide (a0_0 = 4))))] (RS.dn (WS.nxt ?_))))))
          rcases ite_some h with ⟨hp, h⟩ | ⟨hp, h⟩
          · refine WS.fx 46 true (decide_eq_true hp) (WS.cT (WS.rg (RS.mS 4 [(51, .val (Value.bool (decide (a0_1 = 0)))), (50, .val (Value.bool (decide (a0_1 = 0)))), (49, .val (Value.int .i64 a0_1)), (48, .loc 0 1)] ?_)))
            rcases ite_some h with ⟨hp, h⟩ | ⟨hp, h⟩
            · refine RS.fx 51 true (decide_eq_true hp) (RS.mS 5 [(56, .val (Value.bool (a0_2.toList == (⟨#[]⟩ : ByteArray).toList))), (55, .val (Value.bool (a0_2.toList == (⟨#[]⟩ : ByteArray).toList))), (54, .val (Value.bool (a0_2.toList == (⟨#[]⟩ : ByteArray).toList))), (53, .val (Value.string a0_2)), (52, .loc 0 2)] ?_)
              rcases ite_some h with ⟨hp, h⟩ | ⟨hp, h⟩
              · refine RS.fx 56 true hp (RS.mS 6 [(3, .val (Value.bool (decide ((a0_3.n : Int) = 2)))), (61, .val (Value.bool (decide ((a0_3.n : Int) = 2)))), (60, .val (Value.bool (decide ((a0_3.n : Int) = 2)))), (59, .val (Value.int .i64 (a0_3.n : Int))), (58, .val (Sl3.v a0_3)), (57, .loc 0 3)] (RS.dn ?_))
                cases h
                exact fun a w hs => bkN ((jsN (hs.sb 1)))
              · refine RS.fx 56 false (b_not hp) (RS.mS 6 [(3, .val (Value.bool false)), (61, .val (Value.bool false)), (60, .val undef), (59, .val undef), (58, .val undef), (57, .val undef)] (RS.dn ?_))
                cases h
                exact fun a w hs => bkN ((jsN (hs.sb 1)))
            · refine RS.fx 51 false (decide_eq_false hp) (RS.mS 11 [(3, .val (Value.bool false)), (61, .val (Value.bool false)), (60, .val undef), (59, .val undef), (58, .val undef), (57, .val undef), (56, .val (Value.bool false)), (55, .val (Value.bool false)), (54, .val undef), (53, .val undef), (52, .val undef)] (RS.dn ?_))
              cases h
              exact fun a w hs => bkN ((jsN (hs.sb 1)))
          · refine WS.fx 46 false (decide_eq_false hp) (WS.cF ?_)
            obtain ⟨v62_3, hx, h⟩ := bind_some h
            refine WS.sq ?_
            refine WS.join ([(62, .val (Value.bool v62_3)), (1, .loc 0 0), (3, .val (Value.bool false))]) ([some (28, [(Value.int .i64 a0_0), (Value.int .i64 a0_1), (Value.string a0_2), (Sl3.v a0_3)])]) H ?_ (fun a w hs => WS.nxt ?_ a w hs)
            · clear h; rename _ => h
              refine WS.sq (WS.rg (RS.mS 2 [(62, .val (Value.bool (decide (a0_0 = 5)))), (63, .val (Value.bool (decide (a0_0 = 5))))] (RS.dn (WS.nxt ?_))))
              rcases ite_some h with ⟨hp, h⟩ | ⟨hp, h⟩
              · refine WS.fx 62 true (decide_eq_true hp) (WS.cT (WS.sk ?_))
                cases h
                exact fun a w hs => (jsN (hs.sb 1))
              · refine WS.fx 62 false (decide_eq_false hp) (WS.cF (WS.rg (RS.mS 2 [(62, .val (Value.bool (decide (a0_0 = 6)))), (64, .val (Value.bool (decide (a0_0 = 6))))] (RS.dn ?_))))
                cases h
                exact fun a w hs => (jsN (hs.sb 1))
            · clear hx
              rcases ite_some h with ⟨hp, h⟩ | ⟨hp, h⟩
              · refine WS.fx 62 true hp (WS.cT (WS.rg (RS.mS 4 [(68, .val (Value.bool (decide (a0_1 = 0)))), (67, .val (Value.bool (decide (a0_1 = 0)))), (66, .val (Value.int .i64 a0_1)), (65, .loc 0 1)] ?_)))
                rcases ite_some h with ⟨hp, h⟩ | ⟨hp, h⟩
                · refine RS.fx 68 true (decide_eq_true hp) (RS.mS 2 [(70, .val (Value.string a0_2)), (69, .loc 0 2)] ?_)
                  obtain ⟨x4, hx, h⟩ := bind_some h
                  refine RS.cl (some 71) (v := (Value.bool x4)) 13 #[(Value.string a0_2)] (sort_Name_ok hx) (RS.mS 2 [(73, .val (Value.bool x4)), (72, .val (Value.bool x4))] ?_)
                  rcases ite_some h with ⟨hp, h⟩ | ⟨hp, h⟩
                  · refine RS.fx 73 true hp (RS.mS 6 [(3, .val (Value.bool (decide ((a0_3.n : Int) = 0)))), (78, .val (Value.bool (decide ((a0_3.n : Int) = 0)))), (77, .val (Value.bool (decide ((a0_3.n : Int) = 0)))), (76, .val (Value.int .i64 (a0_3.n : Int))), (75, .val (Sl3.v a0_3)), (74, .loc 0 3)] (RS.dn ?_))
                    cases h
                    exact fun a w hs => bkN ((jsN (hs.sb 1)))
                  · refine RS.fx 73 false (b_not hp) (RS.mS 6 [(3, .val (Value.bool false)), (78, .val (Value.bool false)), (77, .val undef), (76, .val undef), (75, .val undef), (74, .val undef)] (RS.dn ?_))
                    cases h
                    exact fun a w hs => bkN ((jsN (hs.sb 1)))
                · refine RS.fx 68 false (decide_eq_false hp) (RS.mS 11 [(3, .val (Value.bool false)), (78, .val (Value.bool false)), (77, .val undef), (76, .val undef), (75, .val undef), (74, .val undef), (73, .val (Value.bool false)), (72, .val (Value.bool false)), (71, .val undef), (70, .val undef), (69, .val undef)] (RS.dn ?_))
                  cases h
                  exact fun a w hs => bkN ((jsN (hs.sb 1)))
              · refine WS.fx 62 false (b_not hp) (WS.cF (WS.sk ?_))
                cases h
                exact fun a w hs => bkN ((jsN (hs.sb 1)))
  · clear hx
    refine WS.sq (WS.sq (WS.rg (RS.mS 4 [(82, .val (Value.int .i64 0)), (81, .val (Value.int .i64 (a0_3.n : Int))), (80, .val (Sl3.v a0_3)), (79, .loc 0 3)] (RS.dn (WS.nxt (WS.bk 1 ?_))))))
    obtain ⟨o, hl, h⟩ := bind_some h
    rcases o with ⟨v3_11, v82_12⟩ | r
    · try dsimp only at h
      refine WS.lI (sort_shaped_b0_ok (L := L) (E := E) (m := m) (H := H) hrec_sort_shaped) (L.ok hl) 1 ?_
      clear hl
      refine fun a w hs => bkE ((WS.nxt ?_ a w hs))
      refine WS.sq (WS.rg (RS.mS 2 [(2, .val (Value.bool v3_11)), (92, .val (Value.bool v3_11))] (RS.dn (WS.nxt (WS.rt ?_)))))
      cases h
      exact fun a w hs => rtR (rS hs)
    · try dsimp only at h
      refine WS.lR (sort_shaped_b0_ok (L := L) (E := E) (m := m) (H := H) hrec_sort_shaped) (L.ok hl) 1 ?_
      cases h
      exact fun a w hq => bkR (sqR (rtR hq))

theorem fam_sort_shaped_ok {L : LC} : ∀ n, (∀ (m : Nat) (H : AH) (a0_0 : Int) (a0_1 : Int) (a0_2 : ByteArray) (a0_3 : Sl3) (r : Bool), ((fam_sort_shaped L n)) H a0_0 a0_1 a0_2 a0_3 = some r → CallS Tryd.prog (NE.plain 1000) m 91 #[(Value.agg #[(Value.int .i64 a0_0), (Value.int .i64 a0_1), (Value.string a0_2), (Sl3.v a0_3)])] H (sort_shaped_enc r) (sort_shaped_hp H r)) := by
  intro n
  induction n with
  | zero => exact (fun _ _ _ _ _ _ _ h => (Option.some_ne_none _ h.symm).elim)
  | succ n ih => exact (fun _ _ _ _ _ _ _ h => sort_shaped_body_ok (L := L) ih h)

theorem sort_shaped_ok {L : LC} {m : Nat} {H : AH} {a0_0 : Int} {a0_1 : Int} {a0_2 : ByteArray} {a0_3 : Sl3} {r : Bool} (h : sort_shaped L H a0_0 a0_1 a0_2 a0_3 = some r) :
    CallS Tryd.prog (NE.plain 1000) m 91 #[(Value.agg #[(Value.int .i64 a0_0), (Value.int .i64 a0_1), (Value.string a0_2), (Sl3.v a0_3)])] H (sort_shaped_enc r) (sort_shaped_hp H r) :=
  (fam_sort_shaped_ok _) _ _ _ _ _ _ _ h

def sort_wrong_enc : Int → Value
  | r0 => (Value.int .i64 r0)

def sort_wrong_hp (H : AH) : Int → AH := fun _ => H

noncomputable def B57 : Code := (Tryd.f57.body).getD .skip

noncomputable def sort_wrong (L : LC) (H : AH) (a0_0 : Int) (a0_1 : Int) (a0_2 : ByteArray) (a0_3 : Sl3) : Option Int :=
  Option.bind (sort_parts L H a0_0 a0_1 a0_2 a0_3 1) fun (_, x2) =>
  if x2 = true then
    Option.bind (sort_shaped L H a0_0 a0_1 a0_2 a0_3) fun x3 =>
    if x3 = true then
      some 0
    else
      some 40
  else
    some 3

theorem sort_wrong_ok {L : LC} {m : Nat} {H : AH} {a0_0 : Int} {a0_1 : Int} {a0_2 : ByteArray} {a0_3 : Sl3} {r : Int} (h : sort_wrong L H a0_0 a0_1 a0_2 a0_3 = some r) :
    CallS Tryd.prog (NE.plain 1000) m 57 #[(Value.agg #[(Value.int .i64 a0_0), (Value.int .i64 a0_1), (Value.string a0_2), (Sl3.v a0_3)])] H (sort_wrong_enc r) (sort_wrong_hp H r) := by
  refine CallS.mk (args := [(Value.agg #[(Value.int .i64 a0_0), (Value.int .i64 a0_1), (Value.string a0_2), (Sl3.v a0_3)])]) Tryd.func57 (B := B57) (by kernel_rfl) (fun E _ => ?_)
  unfold sort_wrong at h
  refine WS.sq (WS.rg (RS.mL 2 [(2, .val (Value.int .i64 0)), (1, .loc 0 0)] ([some (28, [(Value.int .i64 a0_0), (Value.int .i64 a0_1), (Value.string a0_2), (Sl3.v a0_3)])]) (RS.dn (WS.nxt (WS.sq (WS.sq (WS.rg (RS.mS 1 [(6, .val (Value.agg #[(Value.int .i64 a0_0), (Value.int .i64 a0_1), (Value.string a0_2), (Sl3.v a0_3)]))] ?_))))))))
  obtain ⟨⟨x1, x2⟩, hx, h⟩ := bind_some h
  try dsimp only at h
  refine RS.cl (some 7) (v := (Value.tuple #[(Value.int .i64 x1), (Value.bool x2)])) 90 #[(Value.agg #[(Value.int .i64 a0_0), (Value.int .i64 a0_1), (Value.string a0_2), (Sl3.v a0_3)]), (Value.int .i64 1)] (sort_parts_ok hx) (RS.mS 5 [(4, .val (Value.bool x2)), (3, .val (Value.int .i64 x1)), (9, .val (Value.bool x2)), (8, .val (Value.int .i64 x1)), (5, .val (Value.tuple #[(Value.int .i64 x1), (Value.bool x2)]))] (RS.dn (WS.nxt (WS.sq (WS.rg (RS.mS 2 [(11, .val (Value.bool (!x2))), (10, .val (Value.bool x2))] (RS.dn (WS.nxt ?_))))))))
  rcases ite_some h with ⟨hp, h⟩ | ⟨hp, h⟩
  · refine WS.fx 11 false (nb_not hp) (WS.cF (WS.sk (WS.nxt (WS.sq (WS.sq (WS.rg (RS.mS 1 [(12, .val (Value.agg #[(Value.int .i64 a0_0), (Value.int .i64 a0_1), (Value.string a0_2), (Sl3.v a0_3)]))] ?_)))))))
    obtain ⟨x3, hx, h⟩ := bind_some h
    refine RS.cl (some 13) (v := (Value.bool x3)) 91 #[(Value.agg #[(Value.int .i64 a0_0), (Value.int .i64 a0_1), (Value.string a0_2), (Sl3.v a0_3)])] (sort_shaped_ok hx) (RS.mS 1 [(14, .val (Value.bool (!x3)))] (RS.dn (WS.nxt ?_)))
    rcases ite_some h with ⟨hp, h⟩ | ⟨hp, h⟩
    · refine WS.fx 14 false (nb_not hp) (WS.cF (WS.sk (WS.nxt (WS.sq (WS.rg (RS.mS 1 [(2, .val (Value.int .i64 0))] (RS.dn (WS.nxt (WS.rt ?_)))))))))
      cases h
      exact fun a w hs => rtR (rS hs)
    · refine WS.fx 14 true (nb_not' hp) (WS.cT (WS.sq (WS.rg (RS.mS 1 [(2, .val (Value.int .i64 40))] (RS.dn (WS.nxt (WS.rt ?_)))))))
      cases h
      exact fun a w hs => sqR (rtR (rS hs))
  · refine WS.fx 11 true (nb_not' hp) (WS.cT (WS.sq (WS.rg (RS.mS 1 [(2, .val (Value.int .i64 3))] (RS.dn (WS.nxt (WS.rt ?_)))))))
    cases h
    exact fun a w hs => sqR (rtR (rS hs))

end Go.Proofs.YtccbilfbhecdaaaDoor


namespace Go.Proofs.YtccbilfbhecdaaaDoor
open Go Go.Abs
set_option maxRecDepth 100000

theorem HasT.ext {H H' : AH} (h : HasT H) (hf : Ext H H') : HasT H' := fun x hx =>
  ⟨hf.2 _ _ (h x hx).2 (fun h => h) (h x hx).1, Nat.lt_of_lt_of_le (h x hx).2 hf.1⟩

theorem any_bytes (s : ByteArray) (p : UInt8 → Bool) (hs : s.size ≤ maxN) {R : Type} (r : R) {body : Int → Option (Lp Int R)}
    (hb : ∀ (i : Nat) (c : Nat), i < s.size → bytA s (i : Int) = some (c : Int) → c < 256 → (∀ x : UInt8, x.toNat = c → body (i : Int) = some (if p x = true then .ret r else .next (IntKind.i64.wrap ((i : Int) + 1)))))
    (he : body (s.size : Int) = some (.brk (s.size : Int))) : loopO body 0 = some (if (bs s).any p = true then .inr r else .inl (s.size : Int)) := by
  have hl := loopO_up (body := body) s.size hs (fun i => if p ((bs s).getD i 0) = true then some r else none) (fun i hi => by
    have h1 := hb i _ hi (bytA_bs hi rfl) (by exact UInt8.toNat_lt _) ((bs s).getD i 0) rfl
    rw [h1]
    cases p ((bs s).getD i 0) <;> rfl) he
  rw [hl, ← bs_len, find_any (bs s) p r 0]
  cases (bs s).any p <;> rfl

theorem simple_loop (k : Nat) (H : AH) {s : ByteArray} (hs : s.size ≤ maxN) : loopO (sort_simple_b0 (LCo k) H s) 0 = some (if (bs s).any (fun x => !gB x.toNat) = true then .inr (false, H) else .inl (s.size : Int)) := by
  refine any_bytes s _ hs _ (fun i c hi hc h256 x hx => ?_) ?_
  · unfold sort_simple_b0
    rw [if_pos (by omega), hc]
    simp only [Option.bind_some]
    have := ask_byte k h256
    unfold askB at this
    rw [this, ← hx]
    simp only [Option.bind_some]
    cases gB x.toNat <;> rfl
  · unfold sort_simple_b0
    rw [if_neg (by omega)]

theorem reserved_spec (k m : Nat) {H : AH} (hT : HasT H) (s : ByteArray) : ∃ H', sort_reserved (LCo k) m H s = some (hasS wordsL s, H') ∧ Ext H H' := by
  obtain ⟨z, H', h1, h2, h3⟩ := fields_run (LCo k) m hT
  refine ⟨H', ?_, h3⟩
  unfold sort_reserved
  unfold wordsV at h1
  rw [h1]
  simp only [Option.bind_some]
  rw [contains_spec k h2]
  rfl

theorem digit_ask {c : Nat} : (if (c : Int) ≥ 48 then some (decide ((c : Int) ≤ 57)) else some false) = some (decide (48 ≤ c) && decide (c ≤ 57)) := by
  by_cases h : 48 ≤ c
  · rw [if_pos (by omega)]
    by_cases h2 : c ≤ 57
    · have : (c : Int) ≤ 57 := by omega
      simp [h, h2, this]
    · have : ¬ ((c : Int) ≤ 57) := by omega
      simp [h, h2, this]
  · rw [if_neg (by omega)]
    simp [h]

theorem any_not {l : List UInt8} : (l.any fun x => !gB x.toNat) = !(l.all fun x => gB x.toNat) := by
  induction l with
  | nil => rfl
  | cons x l ih => rw [List.any_cons, List.all_cons, ih]; cases gB x.toNat <;> rfl

theorem name_pos {s : ByteArray} (h : nameS s = true) : 0 < s.size ∧ s.size ≤ 200 := by
  unfold nameS at h
  simp only [Bool.and_eq_true, Bool.not_eq_true', Bool.or_eq_false_iff, decide_eq_false_iff_not] at h
  omega

theorem simple_spec (k m : Nat) {H : AH} (hT : HasT H) {s : ByteArray} (hs : s.size ≤ maxN) : ∃ H', sort_simple (LCo k) m H s = some (simpS s, H') ∧ Ext H H' := by
  unfold sort_simple
  rw [Name_spec k hs]
  simp only [Option.bind_some]
  cases hn : nameS s with
  | false =>
    refine ⟨H, ?_, Fm.refl _ _⟩
    simp [simpS, hn]
  | true =>
    have hp := (name_pos hn).1
    simp only [if_true]
    rw [bytA_bs hp (v := 0) rfl]
    simp only [Option.bind_some]
    rw [digit_ask]
    simp only [Option.bind_some]
    cases hd : (decide (48 ≤ ((bs s).getD 0 0).toNat) && decide (((bs s).getD 0 0).toNat ≤ 57)) with
    | true =>
      refine ⟨H, ?_, Fm.refl _ _⟩
      simp only [if_true]
      unfold simpS
      rw [hn, hd]
      rfl
    | false =>
      simp only [Bool.false_eq_true, if_false]
      show ∃ H', Option.bind (loopO (sort_simple_b0 (LCo k) H s) 0) _ = _ ∧ _
      rw [simple_loop k H hs, any_not]
      cases ha : (bs s).all fun x => gB x.toNat with
      | false =>
        refine ⟨H, ?_, Fm.refl _ _⟩
        unfold simpS
        rw [hn, hd, ha]
        rfl
      | true =>
        obtain ⟨H', h1, h2⟩ := reserved_spec k m hT s
        refine ⟨H', ?_, h2⟩
        simp only [Bool.not_true, Bool.false_eq_true, if_false, Option.bind_some]
        rw [h1]
        unfold simpS
        rw [hn, hd, ha]
        rfl

def quoteS (s : ByteArray) : ByteArray := if simpS s = true then s else (⟨#[124]⟩ ++ s) ++ ⟨#[124]⟩

theorem strcat_ok {a b : ByteArray} (h : a.size + b.size ≤ maxN) : strcat a b = some (a ++ b) := by
  unfold strcat
  have : IntKind.i64.max = 9223372036854775807 := by decide
  rw [maxN_eq] at h
  rw [if_neg (by rw [this]; omega)]

theorem bars {s : ByteArray} (hs : s.size ≤ 4611686018427387904) : (Option.bind (strcat (⟨#[124]⟩ : ByteArray) s) fun s3 => strcat s3 (⟨#[124]⟩ : ByteArray)) = some ((⟨#[124]⟩ ++ s) ++ ⟨#[124]⟩) := by
  have h1 : (⟨#[124]⟩ : ByteArray).size = 1 := rfl
  rw [strcat_ok (by rw [maxN_eq, h1]; omega)]
  simp only [Option.bind_some]
  rw [strcat_ok (by rw [ByteArray.size_append, maxN_eq, h1]; omega)]

theorem Quote_spec (k m : Nat) {H : AH} (hT : HasT H) {s : ByteArray} (hs : s.size ≤ 4611686018427387904) : ∃ H', sort_Quote (LCo k) m H s = some (quoteS s, H') ∧ Ext H H' := by
  obtain ⟨H', h1, h2⟩ := simple_spec k m hT (s := s) (by rw [maxN_eq]; omega)
  refine ⟨H', ?_, h2⟩
  unfold sort_Quote quoteS
  rw [h1]
  simp only [Option.bind_some]
  cases simpS s with
  | true => rfl
  | false =>
    have hb := bars hs
    simp only [Bool.false_eq_true, if_false]
    cases h3 : strcat (⟨#[124]⟩ : ByteArray) s with
    | none => rw [h3] at hb; cases hb
    | some x =>
      rw [h3] at hb
      simp only [Option.bind_some] at hb ⊢
      rw [hb]
      rfl

end Go.Proofs.YtccbilfbhecdaaaDoor


namespace Go.Proofs.YtccbilfbhecdaaaDoor
open Go Go.Abs
set_option maxRecDepth 100000

/-- Sorts in a row: kind, width, name, arguments; and those behind. -/
inductive Fo where
  | nil
  | cons (k w : Int) (n : ByteArray) (a r : Fo)

def Fo.len : Fo → Nat
  | .nil => 0
  | .cons _ _ _ _ r => r.len + 1
def Fo.dep : Fo → Nat
  | .nil => 0
  | .cons _ _ _ a r => max (a.dep + 1) r.dep

/-- The longest name that comes in. -/
def maxS : Nat := 140737488351232

/-- A sort's four cells. -/
structure SoC (H : AH) (q : Addr) (k w : Int) (n : ByteArray) (s : Sl3) : Prop where
  ck : Cel H (q.add 0) (.int .i64 k)
  cw : Cel H (q.add 1) (.int .i64 w)
  cn : Cel H (q.add 2) (.string n)
  cs : Cel H (q.add 3) s.v
  hn : n.size ≤ maxS

theorem SoC.ext {H H' : AH} {q : Addr} {k w : Int} {n : ByteArray} {s : Sl3} (h : SoC H q k w n s) (hf : Ext H H') : SoC H' q k w n s :=
  ⟨h.ck.ext hf, h.cw.ext hf, h.cn.ext hf, h.cs.ext hf, h.hn⟩

def FoA (H : AH) : Option Addr → Nat → Fo → Prop
  | _, _, .nil => True
  | p, i, .cons k w n a r => (∃ q s, p = some q ∧ SoC H (q.add (i * 4)) k w n s ∧ s.n = a.len ∧ s.n ≤ maxN ∧ FoA H s.p 0 a) ∧ FoA H p (i + 1) r

/-- A slice of sorts. -/
def SlF (H : AH) (s : Sl3) (f : Fo) : Prop := s.n = f.len ∧ s.n ≤ maxN ∧ FoA H s.p 0 f

theorem FoA.ext {H H' : AH} (hf : Ext H H') : ∀ {f : Fo} {p : Option Addr} {i : Nat}, FoA H p i f → FoA H' p i f
  | .nil, _, _, _ => trivial
  | .cons _ _ _ _ _, _, _, h => by
    obtain ⟨⟨q, s, h1, h2, h3, h4, h5⟩, h6⟩ := h
    exact ⟨⟨q, s, h1, h2.ext hf, h3, h4, FoA.ext hf h5⟩, FoA.ext hf h6⟩

theorem SlF.ext {H H' : AH} {s : Sl3} {f : Fo} (h : SlF H s f) (hf : Ext H H') : SlF H' s f := ⟨h.1, h.2.1, h.2.2.ext hf⟩

/-- What is read at a place. -/
theorem FoA.rd {H : AH} {s : Sl3} {i : Nat} {k w : Int} {n : ByteArray} {a r : Fo} (h : FoA H s.p i (.cons k w n a r)) (hi : i < s.n) :
    ∃ q s', idxA 4 s (i : Int) = some q ∧ rd (deI .i64) H (Addr.add q 0) = some k ∧ rd (deI .i64) H (Addr.add q 1) = some w ∧ rd deS H (Addr.add q 2) = some n ∧ rd deSl H (Addr.add q 3) = some s' ∧ SlF H s' a ∧ n.size ≤ maxS ∧ FoA H s.p (i + 1) r := by
  obtain ⟨⟨q, s', h1, h2, h3, h4, h5⟩, h6⟩ := h
  exact ⟨_, s', idxA_some h1 rfl hi, by rw [h2.ck.rd]; rfl, by rw [h2.cw.rd]; rfl, by rw [h2.cn.rd]; rfl, by rw [h2.cs.rd]; rfl, ⟨h3, h4, h5⟩, h2.hn, h6⟩

/-- As the program counts. -/
def pF (d : Int) : Fo → Int → Int × Bool
  | .nil, n => (n, true)
  | .cons _ _ _ a r, n =>
    let q := if IntKind.i64.wrap (d + 1) > 16 then (0, false) else pF (IntKind.i64.wrap (d + 1)) a 1
    let n' := IntKind.i64.wrap (n + q.1)
    if (!q.2 || decide (n' > 256)) = true then (n', false) else pF d r n'

def pS (d : Int) (a : Fo) : Int × Bool := if d > 16 then (0, false) else pF d a 1

theorem parts_loop (k : Nat) {H : AH} : ∀ (f : Fo) (s : Sl3) (i : Nat) (n d : Int) (fuel : Nat) (x0 x1 : Int) (x2 : ByteArray), FoA H s.p i f → s.n = i + f.len → s.n ≤ maxN → f.dep ≤ fuel →
    loopO (sort_parts_b0 (LCo k) (fam_sort_parts (LCo k) fuel) H x0 x1 x2 s d) (n, (i : Int)) = some (if (pF d f n).2 = true then .inl ((pF d f n).1, (s.n : Int)) else .inr ((pF d f n).1, false)) := by
  intro f
  induction f with
  | nil =>
    intro s i n d fuel x0 x1 x2 h hn hm hd
    refine loopO_brk ?_
    simp only [Fo.len, Nat.add_zero] at hn
    unfold sort_parts_b0
    simp only [if_neg (show ¬ ((i : Int) < (s.n : Int)) by omega), pF]
    rw [hn]
  | cons k' w' n' a r iha ihr =>
    intro s i n d fuel x0 x1 x2 h hn hm hd
    simp only [Fo.len] at hn
    simp only [Fo.dep] at hd
    obtain ⟨q, s', r1, r2, r3, r4, r5, r6, _, r7⟩ := h.rd (by omega)
    obtain ⟨g, rfl⟩ : ∃ g, fuel = g + 1 := ⟨fuel - 1, by omega⟩
    have hrec : fam_sort_parts (LCo k) (g + 1) H k' w' n' s' (IntKind.i64.wrap (d + 1)) = some (pS (IntKind.i64.wrap (d + 1)) a) := by
      show sort_parts_body (LCo k) (fam_sort_parts (LCo k) g) H k' w' n' s' (IntKind.i64.wrap (d + 1)) = _
      unfold sort_parts_body pS
      split
      · rfl
      · have := iha s' 0 1 (IntKind.i64.wrap (d + 1)) g k' w' n' r6.2.2 (by rw [r6.1]; omega) r6.2.1 (by omega)
        show Option.bind (loopO (sort_parts_b0 (LCo k) (fam_sort_parts (LCo k) g) H k' w' n' s' (IntKind.i64.wrap (d + 1))) (1, ((0 : Nat) : Int))) _ = _
        rw [this]
        cases hq : pF (IntKind.i64.wrap (d + 1)) a 1 with
        | mk y b => cases b <;> rfl
    have hb : sort_parts_b0 (LCo k) (fam_sort_parts (LCo k) (g + 1)) H x0 x1 x2 s d (n, (i : Int)) =
        some (if (!(pS (IntKind.i64.wrap (d + 1)) a).2 || decide (IntKind.i64.wrap (n + (pS (IntKind.i64.wrap (d + 1)) a).1) > 256)) = true then .ret (IntKind.i64.wrap (n + (pS (IntKind.i64.wrap (d + 1)) a).1), false)
          else .next (IntKind.i64.wrap (n + (pS (IntKind.i64.wrap (d + 1)) a).1), IntKind.i64.wrap ((i : Int) + 1))) := by
      unfold sort_parts_b0
      simp only [if_pos (show (i : Int) < (s.n : Int) by omega), r1, r2, r3, r4, r5, Option.bind_some, hrec]
      cases (pS (IntKind.i64.wrap (d + 1)) a).2 with
      | false => rfl
      | true =>
        by_cases hc : IntKind.i64.wrap (n + (pS (IntKind.i64.wrap (d + 1)) a).1) > 256
        · simp [hc]
        · simp [hc]
    have hp : pF d (.cons k' w' n' a r) n = if (!(pS (IntKind.i64.wrap (d + 1)) a).2 || decide (IntKind.i64.wrap (n + (pS (IntKind.i64.wrap (d + 1)) a).1) > 256)) = true then (IntKind.i64.wrap (n + (pS (IntKind.i64.wrap (d + 1)) a).1), false) else pF d r (IntKind.i64.wrap (n + (pS (IntKind.i64.wrap (d + 1)) a).1)) := rfl
    rw [hp]
    split at hb
    · rename_i hc
      rw [if_pos hc]
      exact loopO_ret hb
    · rename_i hc
      rw [if_neg hc, loopO_next hb, wrap_next (n := s.n) (by omega) hm]
      exact ihr s (i + 1) _ d (g + 1) x0 x1 x2 r7 (by omega) hm (by omega)

theorem parts_spec (k fuel : Nat) {H : AH} {s : Sl3} {a : Fo} (h : SlF H s a) (hd : a.dep ≤ fuel) (x0 x1 : Int) (x2 : ByteArray) (d : Int) : fam_sort_parts (LCo k) (fuel + 1) H x0 x1 x2 s d = some (pS d a) := by
  show sort_parts_body (LCo k) (fam_sort_parts (LCo k) fuel) H x0 x1 x2 s d = _
  unfold sort_parts_body pS
  split
  · rfl
  · have := parts_loop k a s 0 1 d fuel x0 x1 x2 h.2.2 (by rw [h.1]; omega) h.2.1 hd
    show Option.bind (loopO (sort_parts_b0 (LCo k) (fam_sort_parts (LCo k) fuel) H x0 x1 x2 s d) (1, ((0 : Nat) : Int))) _ = _
    rw [this]
    cases hq : pF d a 1 with
    | mk y b => cases b <;> rfl

def Fo.size : Fo → Nat
  | .nil => 0
  | .cons _ _ _ a r => a.size + 1 + r.size

end Go.Proofs.YtccbilfbhecdaaaDoor


namespace Go.Proofs.YtccbilfbhecdaaaDoor
open Go Go.Abs Go.ChangeShapes Go.WideShapes
set_option maxRecDepth 100000

theorem cells28 : Tryd.prog.cellsOf 28 = 4 := by kernel_rfl
theorem cells25 : Tryd.prog.cellsOf 25 = 1 := by kernel_rfl
theorem cells3 : Tryd.prog.cellsOf 3 = 1 := by kernel_rfl
theorem cells9 : Tryd.prog.cellsOf 9 = 1 := by kernel_rfl
theorem cells26 : Tryd.prog.cellsOf 26 = 1 := by kernel_rfl

/-- A sort's cells as they come in. -/
structure SortV (H : AH) (cs : List Value) (b : (Int × Int × ByteArray × Fo)) : Prop where
  ex : ∃ s, cs = [.int .i64 b.1, .int .i64 b.2.1, .string b.2.2.1, Sl3.v s] ∧ b.2.2.1.size ≤ maxS ∧ SlF H s b.2.2.2

def foOf : List (Int × Int × ByteArray × Fo) → Fo
  | [] => .nil
  | x :: l => .cons x.1 x.2.1 x.2.2.1 x.2.2.2 (foOf l)

theorem foOf_len : ∀ l, (foOf l).len = l.length
  | [] => rfl
  | x :: l => by simp [foOf, Fo.len, foOf_len l]

theorem SortV.ext (H H' : AH) (cs : List Value) (b : (Int × Int × ByteArray × Fo)) (hf : Ext H H') (h : SortV H cs b) : SortV H' cs b := by
  obtain ⟨s, h1, h2, h3⟩ := h.ex
  exact ⟨s, h1, h2, h3.ext hf⟩

theorem stands_so {H : AH} {q : Addr} {b : (Int × Int × ByteArray × Fo)} (h : Stands 4 SortV H q b) : ∃ s, SoC H q b.1 b.2.1 b.2.2.1 s ∧ SlF H s b.2.2.2 := by
  obtain ⟨cs, h1, h2, h3⟩ := h
  obtain ⟨s, rfl, h4, h5⟩ := h3.ex
  exact ⟨s, ⟨h2 0 _ rfl, h2 1 _ rfl, h2 2 _ rfl, h2 3 _ rfl, h4⟩, h5⟩

theorem slF_of {H : AH} {s : Sl3} {l : List (Int × Int × ByteArray × Fo)} (h : SlL (Stands 4 SortV) 4 H s l) : SlF H s (foOf l) := by
  refine ⟨by rw [foOf_len]; exact h.n, h.top, ?_⟩
  have key : ∀ (l : List (Int × Int × ByteArray × Fo)) (p : Option Addr) (i : Nat), LAt (Stands 4 SortV) 4 H p i l → FoA H p i (foOf l) := by
    intro l
    induction l with
    | nil => intro p i _; trivial
    | cons x l ih =>
      intro p i h
      obtain ⟨⟨a, h1, h2⟩, h3⟩ := h
      obtain ⟨s, h4, h5⟩ := stands_so h2
      exact ⟨⟨a, s, h1, h4, h5.1, h5.2.1, h5.2.2⟩, ih p (i + 1) h3⟩
  exact key l s.p 0 h.at_

section
variable {H : Type} {enc : TypeId × Value → H} {W : World}

theorem wt_all {l : List Nat} (h : l.all (· ≤ reachBytes) = true) {n : Nat} (hn : n ∈ l) : n ≤ maxS := by
  rw [List.all_eq_true] at h
  have := h n hn
  simp only [decide_eq_true_eq] at this
  exact this

theorem weightsAll_mem {P : Program} {e : TypeId} : ∀ {l : List (DataW H)} {d : DataW H}, d ∈ l → ∀ n ∈ d.weights P e, n ∈ DataW.weightsAll P e l
  | x :: l, d, hd, n, hn => by
    simp only [DataW.weightsAll, List.mem_append]
    rcases List.mem_cons.1 hd with rfl | hd
    · exact .inl hn
    · exact .inr (weightsAll_mem hd n hn)

/-- A slice's elements, each of which comes in. -/
theorem import_slice {t e : TypeId} {sz : Nat} (ht : Tryd.prog.underlying t = some (.slice e)) (hc : Tryd.prog.cellsOf e = sz) (hsz : 0 < sz) {β : Type} {R : AH → List Value → β → Prop} (hR : ∀ H H' cs b, Ext H H' → R H cs b → R H' cs b)
    {fuel : Nat} (elem : ∀ n, n < fuel → ∀ cs x, DataW.trod enc Tryd.prog W 0 (fun _ => true) true n e cs = some x → (x.1.weights Tryd.prog e).all (· ≤ reachBytes) = true → ElemIn Tryd.prog W sz R cs)
    {cs : List Value} {x : DataW H × List MemPlace} (hx : DataW.trod enc Tryd.prog W 0 (fun _ => true) true fuel t cs = some x) (hw : (x.1.weights Tryd.prog t).all (· ≤ reachBytes) = true) {φ : Inj} {H0 : AH} (h : Imp Tryd.prog φ H0 W) :
    ∃ v φ' H' s bs, cs = [v] ∧ Imp Tryd.prog φ' H' W ∧ φ.le φ' ∧ Ext H0 H' ∧ VR φ' (Sl3.v s) v ∧ SlL (Stands sz R) sz H' s (bs : List β) ∧ (0 < Tryd.prog.bytesOf e → bs.length ≤ maxS) := by
  rcases DataW.trod_slice ht hx with ⟨rfl, rfl⟩ | ⟨a, len, cap, elems, rest, n, rfl, rfl, rfl, hb, hl, hm, hlen, hel, hsp, _⟩
  · obtain ⟨φ', H', s, bs, h1, h2, h3, h4, h5, h6⟩ := Imp.slice (n := 0) (c := 0) (A := none) hsz hR h some_globals (Nat.le_refl _) (Nat.zero_le _) (fun _ => rfl) (C := fun _ => []) (fun i hi => absurd hi (Nat.not_lt_zero _)) (fun a ha => by cases ha) (fun a ha => by cases ha)
    exact ⟨_, φ', H', s, bs, rfl, h1, h2, h3, h4, h5, fun _ => by omega⟩
  · have get : ∀ i, i < len → ∃ cs' y, W.cells? 0 (a.add (i * sz)) sz = some cs' ∧ DataW.trod enc Tryd.prog W 0 (fun _ => true) true n e cs' = some y ∧ y ∈ elems := by
      intro i hi
      have := hel i hi
      rw [hc, List.getElem?_eq_getElem (by omega)] at this
      obtain ⟨cs', h1, h2⟩ := Option.bind_eq_some_iff.1 this
      exact ⟨cs', _, h1, h2, List.getElem_mem _⟩
    have hww : ∀ y ∈ elems, (y.1.weights Tryd.prog e).all (· ≤ reachBytes) = true := by
      intro y hy
      rw [List.all_eq_true]
      intro w hw'
      rw [List.all_eq_true] at hw
      refine hw w ?_
      simp only [DataW.weights, ht, List.mem_cons, List.mem_append]
      exact .inr (.inl (weightsAll_mem (List.mem_map.2 ⟨y, hy, rfl⟩) w hw'))
    obtain ⟨φ', H', s, bs, h1, h2, h3, h4, h5, h6⟩ := Imp.slice (n := len) (c := cap) (A := some a) hsz hR h some_globals hl hm (fun h => by cases h) (C := fun i => (W.cells? 0 (a.add (i * sz)) sz).getD []) (fun i hi => by
        obtain ⟨cs', y, g1, g2, g3⟩ := get i hi
        simp only [g1, Option.getD_some]
        exact elem n (Nat.lt_succ_self n) cs' y g2 (hww y g3)) (fun a' ha' hpos => by
        cases ha'
        by_cases h0 : 0 < len
        · obtain ⟨cs', y, g1, g2, g3⟩ := get 0 h0
          obtain ⟨_, k2, k3⟩ := World.cells?_some g1
          have := k3 0 hsz
          rw [Nat.zero_mul, add_zero, add_zero] at this
          exact ⟨_, this.trans (List.getElem?_eq_getElem (by omega))⟩
        · obtain rfl : len = 0 := by omega
          obtain ⟨q1, q2⟩ := hsp rfl
          have := q2 0 (by omega)
          rw [hc, List.getElem?_eq_getElem (by omega)] at this
          obtain ⟨cs', g1, g2⟩ := Option.bind_eq_some_iff.1 this
          obtain ⟨_, k2, k3⟩ := World.cells?_some g1
          have := k3 0 hsz
          rw [Nat.zero_add, Nat.zero_mul, add_zero, add_zero] at this
          exact ⟨_, this.trans (List.getElem?_eq_getElem (by omega))⟩) (fun a' ha' i hi j hj => by
        cases ha'
        obtain ⟨cs', y, g1, g2, g3⟩ := get i hi
        obtain ⟨_, k2, k3⟩ := World.cells?_some g1
        have := k3 j hj
        simp only [g1, Option.getD_some]
        rw [← this]
        have hsp : a.spot = none := by
          obtain ⟨cs0, y0, g1, g2, g3⟩ := get 0 (by omega)
          obtain ⟨_, k2, k3⟩ := World.cells?_some g1
          have k0 := k3 0 hsz
          rw [Nat.zero_mul, add_zero, add_zero] at k0
          obtain ⟨_, _, _, _, hs, _⟩ := cell?_some (k0.trans (List.getElem?_eq_getElem (by omega)))
          exact hs
        rw [add_add hsp])
    refine ⟨_, φ', H', s, bs, rfl, h1, h2, h3, h4, h5, fun hbe => ?_⟩
    have hm : (elems.length + rest.length) * Tryd.prog.bytesOf e ≤ maxS := wt_all hw (by simp [DataW.weights, ht])
    have h7 : elems.length + rest.length ≤ (elems.length + rest.length) * Tryd.prog.bytesOf e := Nat.le_mul_of_pos_right _ hbe
    omega

theorem trod_str {fuel : Nat} {t : TypeId} (ht : Tryd.prog.underlying t = some .string) {cs : List Value} {x : DataW H × List MemPlace} (h : DataW.trod enc Tryd.prog W 0 (fun _ => true) true fuel t cs = some x) (hw : (x.1.weights Tryd.prog t).all (· ≤ reachBytes) = true) :
    ∃ s, cs = [.string s] ∧ s.size ≤ maxS := by
  obtain ⟨s, rfl, rfl, _⟩ := DataW.trod_string ht h
  refine ⟨s, rfl, ?_⟩
  have := wt_all hw (n := s.data.toList.length) (by simp [DataW.weights])
  simpa using this

/-- A sort's cells come in. -/
theorem import_sortv : ∀ (fuel : Nat) (cs : List Value) (x : DataW H × List MemPlace), DataW.trod enc Tryd.prog W 0 (fun _ => true) true fuel 28 cs = some x → (x.1.weights Tryd.prog 28).all (· ≤ reachBytes) = true → ElemIn Tryd.prog W 4 SortV cs := by
  intro fuel
  induction fuel using Nat.strongRecOn with
  | ind fuel ih =>
    intro cs x hx hw φ H0 h
    obtain ⟨xs, n, rfl, rfl, hl, hlen, hf⟩ := DataW.trod_struct Tryd.underlying28 hx
    rw [cells28] at hl
    match xs, hlen with
    | [y0, y1, y2, y3], _ =>
      match cs, hl with
      | [c0, c1, c2, c3], _ =>
        have f0 : DataW.trod enc Tryd.prog W 0 (fun _ => true) true n 25 (([c0, c1, c2, c3].drop 0).take (Tryd.prog.cellsOf 25)) = some y0 := hf 0 _ rfl
        rw [cells25] at f0
        change DataW.trod enc Tryd.prog W 0 (fun _ => true) true n 25 [c0] = some y0 at f0
        have f1 : DataW.trod enc Tryd.prog W 0 (fun _ => true) true n 3 (([c0, c1, c2, c3].drop 1).take (Tryd.prog.cellsOf 3)) = some y1 := hf 1 _ rfl
        rw [cells3] at f1
        change DataW.trod enc Tryd.prog W 0 (fun _ => true) true n 3 [c1] = some y1 at f1
        have f2 : DataW.trod enc Tryd.prog W 0 (fun _ => true) true n 9 (([c0, c1, c2, c3].drop 2).take (Tryd.prog.cellsOf 9)) = some y2 := hf 2 _ rfl
        rw [cells9] at f2
        change DataW.trod enc Tryd.prog W 0 (fun _ => true) true n 9 [c2] = some y2 at f2
        have f3 : DataW.trod enc Tryd.prog W 0 (fun _ => true) true n 26 (([c0, c1, c2, c3].drop 3).take (Tryd.prog.cellsOf 26)) = some y3 := hf 3 _ rfl
        rw [cells26] at f3
        change DataW.trod enc Tryd.prog W 0 (fun _ => true) true n 26 [c3] = some y3 at f3
        simp only [DataW.weights, Tryd.underlying28, List.map_cons, List.map_nil, DataW.weightsEach, List.append_nil, List.all_append, Bool.and_eq_true] at hw
        obtain ⟨n0, e0, _, _⟩ := DataW.trod_int Tryd.underlying25 f0
        obtain ⟨n1, e1, _, _⟩ := DataW.trod_int Tryd.underlying3 f1
        obtain ⟨s2, e2, hs2⟩ := trod_str Tryd.underlying9 f2 hw.2.2.1
        obtain ⟨v, φ', H', s, bs, e3, g1, g2, g3, g4, g5, _⟩ := import_slice (enc := enc) Tryd.underlying26 cells28 (by omega) SortV.ext (fun m hm cs x => ih m (by omega) cs x) f3 hw.2.2.2 h
        simp only [List.cons.injEq, and_true] at e0 e1 e2 e3
        subst e0 e1 e2 e3
        exact ⟨φ', H', [.int .i64 n0, .int .i64 n1, .string s2, Sl3.v s], (n0, n1, s2, foOf bs), g1, g2, g3, rfl, rfl, .cons (.int _ _) (.cons (.int _ _) (.cons (.string _) (.cons g4 .nil))), ⟨s, rfl, hs2, slF_of g5⟩⟩

/-- A sort that comes in. -/
theorem import_sort {φ : Inj} {H0 : AH} (h : Imp Tryd.prog φ H0 W) {v : Value} {d : DataW H} {ps : List MemPlace} {base : Nat} (hd : DataW.Trod enc Tryd.prog W 0 (fun _ => true) true 28 v d ps) (hv : Value.okWide Tryd.prog W .any base 28 v)
    (hw : (d.weights Tryd.prog 28).all (· ≤ reachBytes) = true) : ∃ φ' H' k w n s a, Imp Tryd.prog φ' H' W ∧ φ.le φ' ∧ Ext H0 H' ∧ VR φ' (.agg #[.int .i64 k, .int .i64 w, .string n, Sl3.v s]) v ∧ SlF H' s a ∧ n.size ≤ maxS := by
  obtain ⟨fuel, hf⟩ := hd
  have hvv := hv
  simp only [Value.okWide, Tryd.underlying28] at hvv
  obtain ⟨cs, rfl, hs, _⟩ := hvv
  obtain ⟨φ', H', cs', b, h1, h2, h3, h4, h5, h6, h7⟩ := import_sortv fuel _ _ hf hw φ H0 h
  obtain ⟨s, rfl, h8, h9⟩ := h7.ex
  refine ⟨φ', H', b.1, b.2.1, b.2.2.1, s, b.2.2.2, h1, h2, h3, ?_, h9, h8⟩
  have hg := get_of_forall₂ h6
  exact .agg _ _ (by have := hg.1; simpa [Value.cells] using this) fun i x y hx hy => hg.2 i x y (by simpa using hx) (by simpa [Value.cells] using hy)

end

end Go.Proofs.YtccbilfbhecdaaaDoor


namespace Go.Proofs.YtccbilfbhecdaaaDoor
open Go Go.Abs
set_option maxRecDepth 100000

theorem wrap_small {x : Int} (h0 : -1000000 ≤ x) (h1 : x ≤ 1000000) : IntKind.i64.wrap x = x := wrap_i64' (by omega) (by omega)

theorem pF_eq : ∀ (f : Fo) (d n : Nat), 1 ≤ d → d ≤ 16 → n ≤ 256 →
    (pF (d : Int) f (n : Int)).2 = decide (d + f.dep ≤ 16 ∧ n + f.size ≤ 256) ∧ ((pF (d : Int) f (n : Int)).2 = true → (pF (d : Int) f (n : Int)).1 = ((n + f.size : Nat) : Int)) := by
  intro f
  induction f with
  | nil =>
    intro d n h1 h2 h3
    simp only [pF, Fo.dep, Fo.size]
    exact ⟨(decide_eq_true (show d + 0 ≤ 16 ∧ n + 0 ≤ 256 by omega)).symm, fun _ => by simp⟩
  | cons k w nm a r iha ihr =>
    intro d n h1 h2 h3
    have e : IntKind.i64.wrap ((d : Int) + 1) = ((d + 1 : Nat) : Int) := by rw [wrap_small (by omega) (by omega)]; omega
    have hp : pF (d : Int) (.cons k w nm a r) (n : Int) = if (!(pS (IntKind.i64.wrap ((d : Int) + 1)) a).2 || decide (IntKind.i64.wrap ((n : Int) + (pS (IntKind.i64.wrap ((d : Int) + 1)) a).1) > 256)) = true then (IntKind.i64.wrap ((n : Int) + (pS (IntKind.i64.wrap ((d : Int) + 1)) a).1), false) else pF (d : Int) r (IntKind.i64.wrap ((n : Int) + (pS (IntKind.i64.wrap ((d : Int) + 1)) a).1)) := rfl
    rw [hp, e]
    have hq : (pS ((d + 1 : Nat) : Int) a).2 = decide (d + 1 + a.dep ≤ 16 ∧ 1 + a.size ≤ 256) ∧ ((pS ((d + 1 : Nat) : Int) a).2 = true → (pS ((d + 1 : Nat) : Int) a).1 = ((1 + a.size : Nat) : Int)) := by
      unfold pS
      by_cases hd : d + 1 ≤ 16
      · rw [if_neg (show ¬ (((d + 1 : Nat) : Int) > 16) by omega)]
        exact iha (d + 1) 1 (by omega) hd (by omega)
      · rw [if_pos (show (((d + 1 : Nat) : Int) > 16) by omega)]
        exact ⟨(decide_eq_false (by omega)).symm, fun h => by cases h⟩
    generalize pS ((d + 1 : Nat) : Int) a = q at hq ⊢
    obtain ⟨q1, q2⟩ := hq
    simp only [Fo.dep, Fo.size]
    by_cases hc : d + 1 + a.dep ≤ 16 ∧ 1 + a.size ≤ 256
    · have q1' : q.2 = true := by rw [q1]; exact decide_eq_true hc
      have q2' := q2 q1'
      have e2 : IntKind.i64.wrap ((n : Int) + q.1) = ((n + (1 + a.size) : Nat) : Int) := by rw [q2', wrap_small (by omega) (by omega)]; omega
      rw [e2, q1']
      by_cases h5 : n + (1 + a.size) ≤ 256
      · have : ¬ (((n + (1 + a.size) : Nat) : Int) > 256) := by omega
        simp only [Bool.not_true, decide_eq_false this, Bool.or_self, Bool.false_eq_true, if_false]
        obtain ⟨p1, p2⟩ := ihr d (n + (1 + a.size)) h1 h2 h5
        refine ⟨?_, fun hh => ?_⟩
        · rw [p1]
          congr 1
          apply propext
          constructor <;> intro hh <;> omega
        · rw [p2 hh]; omega
      · have : ((n + (1 + a.size) : Nat) : Int) > 256 := by omega
        simp only [decide_eq_true this, Bool.or_true, if_true]
        exact ⟨(decide_eq_false (by omega)).symm, fun h => by cases h⟩
    · have q1' : q.2 = false := by rw [q1]; exact decide_eq_false hc
      rw [q1']
      simp only [Bool.not_false, Bool.true_or, if_true]
      exact ⟨(decide_eq_false (by omega)).symm, fun h => by cases h⟩

/-- Neither too deep nor of too many parts. -/
def fewS (a : Fo) : Bool := decide (1 + a.dep ≤ 16 ∧ 1 + a.size ≤ 256)

theorem pS_few (a : Fo) : (pS 1 a).2 = fewS a := by
  unfold pS fewS
  rw [if_neg (by omega)]
  exact (pF_eq a 1 1 (by omega) (by omega) (by omega)).1

def emptyT : ByteArray := ⟨#[]⟩

def headS (k w : Int) (n : ByteArray) (l : Nat) : Bool :=
  if k = 1 ∨ k = 2 then decide (w = 0) && (n.toList == emptyT.toList) && decide (l = 0)
  else if k = 3 then decide (w ≥ 1) && decide (w ≤ 4096) && (n.toList == emptyT.toList) && decide (l = 0)
  else if k = 4 then decide (w = 0) && (n.toList == emptyT.toList) && decide (l = 2)
  else if k = 5 ∨ k = 6 then decide (w = 0) && nameS n && decide (l = 0)
  else false

def shF : Fo → Bool
  | .nil => true
  | .cons k w n a r => headS k w n a.len && shF a && shF r

def shS (k w : Int) (n : ByteArray) (a : Fo) : Bool := headS k w n a.len && shF a

theorem name_maxN {n : ByteArray} (h : n.size ≤ maxS) : n.size ≤ maxN := by rw [maxN_eq]; unfold maxS at h; omega

theorem shaped_loop (c : Nat) {H : AH} : ∀ (f : Fo), (∀ (fuel : Nat) (k w : Int) (n : ByteArray) (s : Sl3) (a : Fo), SlF H s a → n.size ≤ maxS → a.dep ≤ fuel → a.dep < f.dep → fam_sort_shaped (LCo c) (fuel + 1) H k w n s = some (shS k w n a)) →
    ∀ (s : Sl3) (i : Nat) (b : Bool) (fuel : Nat) (x0 x1 : Int) (x2 : ByteArray), FoA H s.p i f → s.n = i + f.len → s.n ≤ maxN → f.dep ≤ fuel →
    ∃ j, loopO (sort_shaped_b0 (LCo c) (fam_sort_shaped (LCo c) fuel) H x0 x1 x2 s) (b, (i : Int)) = some (.inl (b && shF f, j)) := by
  intro f
  induction f with
  | nil =>
    intro hrec s i b fuel x0 x1 x2 h hn hm hd
    refine ⟨(i : Int), loopO_brk (s' := (b && shF .nil, (i : Int))) ?_⟩
    simp only [Fo.len, Nat.add_zero] at hn
    unfold sort_shaped_b0
    simp only [if_neg (show ¬ ((i : Int) < (s.n : Int)) by omega), shF, Bool.and_true]
  | cons k' w' n' a r iha ihr =>
    intro hrec s i b fuel x0 x1 x2 h hn hm hd
    simp only [Fo.len] at hn
    simp only [Fo.dep] at hd hrec
    obtain ⟨q, s', r1, r2, r3, r4, r5, r6, r8, r7⟩ := h.rd (by omega)
    obtain ⟨g, rfl⟩ : ∃ g, fuel = g + 1 := ⟨fuel - 1, by omega⟩
    have hr := hrec g k' w' n' s' a r6 r8 (by omega) (by omega)
    have hb : sort_shaped_b0 (LCo c) (fam_sort_shaped (LCo c) (g + 1)) H x0 x1 x2 s (b, (i : Int)) = some (.next (b && shS k' w' n' a, IntKind.i64.wrap ((i : Int) + 1))) := by
      unfold sort_shaped_b0
      simp only [if_pos (show (i : Int) < (s.n : Int) by omega), r1, r2, r3, r4, r5, Option.bind_some, hr]
      cases b <;> rfl
    obtain ⟨j, hj⟩ := ihr (fun fuel k w n s a h1 h2 h3 h4 => hrec fuel k w n s a h1 h2 h3 (by omega)) s (i + 1) (b && shS k' w' n' a) (g + 1) x0 x1 x2 r7 (by omega) hm (by omega)
    refine ⟨j, ?_⟩
    rw [loopO_next hb, wrap_next (n := s.n) (by omega) hm, hj]
    simp only [shF, shS, Bool.and_assoc]

/-- The head as the program asks for it. -/
theorem shaped_head (c : Nat) {k w : Int} {n : ByteArray} {l : Nat} (hn : n.size ≤ maxS) :
    (Option.bind (α := Bool) (if k = 1 then some true else some (decide (k = 2))) fun v8_2 =>
    if v8_2 = true then
      if w = 0 then if (n.toList == (⟨#[]⟩ : ByteArray).toList) = true then some (decide ((l : Int) = 0)) else some false else some false
    else
      if k = 3 then
        if w ≥ 1 then if w ≤ 4096 then if (n.toList == (⟨#[]⟩ : ByteArray).toList) = true then some (decide ((l : Int) = 0)) else some false else some false else some false
      else
        if k = 4 then
          if w = 0 then if (n.toList == (⟨#[]⟩ : ByteArray).toList) = true then some (decide ((l : Int) = 2)) else some false else some false
        else
          Option.bind (α := Bool) (if k = 5 then some true else some (decide (k = 6))) fun v62_3 =>
          if v62_3 = true then
            if w = 0 then Option.bind (sort_Name (LCo c) n) fun x4 => if x4 = true then some (decide ((l : Int) = 0)) else some false else some false
          else some false) = some (headS k w n l) := by
  have hN := Name_spec c (name_maxN hn)
  have e0 : decide ((l : Int) = 0) = decide (l = 0) := by congr 1; apply propext; omega
  have e2 : decide ((l : Int) = 2) = decide (l = 2) := by congr 1; apply propext; omega
  rw [e0, e2]
  unfold headS emptyT
  generalize (n.toList == (⟨#[]⟩ : ByteArray).toList) = bn
  by_cases h1 : k = 1
  · subst h1
    by_cases hw : w = 0 <;> cases bn <;> simp [hw]
  · by_cases h2 : k = 2
    · subst h2
      by_cases hw : w = 0 <;> cases bn <;> simp [hw]
    · by_cases h3 : k = 3
      · subst h3
        by_cases hw : w ≥ 1 <;> by_cases hw2 : w ≤ 4096 <;> cases bn <;> simp [hw, hw2]
      · by_cases h4 : k = 4
        · subst h4
          by_cases hw : w = 0 <;> cases bn <;> simp [hw]
        · by_cases h5 : k = 5
          · subst h5
            by_cases hw : w = 0
            · simp only [hw, hN, Option.bind_some]
              cases nameS n <;> simp
            · simp [hw]
          · by_cases h6 : k = 6
            · subst h6
              by_cases hw : w = 0
              · simp only [hw, hN, Option.bind_some]
                cases nameS n <;> simp
              · simp [hw]
            · simp [h1, h2, h3, h4, h5, h6]

theorem shaped_spec (c : Nat) {H : AH} : ∀ (d : Nat) (fuel : Nat) (k w : Int) (n : ByteArray) (s : Sl3) (a : Fo), SlF H s a → n.size ≤ maxS → a.dep ≤ fuel → a.dep < d → fam_sort_shaped (LCo c) (fuel + 1) H k w n s = some (shS k w n a) := by
  intro d
  induction d with
  | zero => intro fuel k w n s a _ _ _ h; omega
  | succ d ih =>
    intro fuel k w n s a h hn hd hlt
    show sort_shaped_body (LCo c) (fam_sort_shaped (LCo c) fuel) H k w n s = _
    unfold sort_shaped_body
    have hh := shaped_head c (k := k) (w := w) (n := n) (l := s.n) hn
    obtain ⟨j, hj⟩ := shaped_loop c a (fun fuel k w n s a' h1 h2 h3 h4 => ih fuel k w n s a' h1 h2 h3 (by omega)) s 0 (headS k w n s.n) fuel k w n h.2.2 (by rw [h.1]; omega) h.2.1 hd
    rw [hh]
    simp only [Option.bind_some]
    show Option.bind (loopO (sort_shaped_b0 (LCo c) (fam_sort_shaped (LCo c) fuel) H k w n s) (headS k w n s.n, ((0 : Nat) : Int))) _ = _
    rw [hj, h.1]
    rfl

def wrongS (k w : Int) (n : ByteArray) (a : Fo) : Int := if fewS a = true then if shS k w n a = true then 0 else 40 else 3

theorem wrong_spec (L0 fuel : Nat) (hF : L0 = fuel + 1) {H : AH} {k w : Int} {n : ByteArray} {s : Sl3} {a : Fo} (h : SlF H s a) (hn : n.size ≤ maxS) (hd : a.dep ≤ fuel) : sort_wrong (LCo L0) H k w n s = some (wrongS k w n a) := by
  subst hF
  unfold sort_wrong sort_parts sort_shaped wrongS
  have e1 : (LCo (fuel + 1)).fuel = fuel + 1 := rfl
  rw [e1, parts_spec (fuel + 1) fuel h hd k w n 1, shaped_spec (fuel + 1) (a.dep + 1) fuel k w n s a h hn hd (by omega)]
  simp only [Option.bind_some]
  have := pS_few a
  generalize pS 1 a = q at this
  obtain ⟨x, b⟩ := q
  simp only at this
  subst this
  simp only
  cases fewS a <;> cases shS k w n a <;> rfl

theorem shS_cases {k w : Int} {n : ByteArray} {a : Fo} (h : shS k w n a = true) :
    (a = .nil ∧ (k = 1 ∨ k = 2 ∨ (k = 3 ∧ 1 ≤ w ∧ w ≤ 4096) ∨ ((k = 5 ∨ k = 6) ∧ nameS n = true))) ∨
    (k = 4 ∧ ∃ k1 w1 n1 a1 k2 w2 n2 a2, a = .cons k1 w1 n1 a1 (.cons k2 w2 n2 a2 .nil) ∧ shS k1 w1 n1 a1 = true ∧ shS k2 w2 n2 a2 = true) := by
  simp only [shS, Bool.and_eq_true] at h
  obtain ⟨h1, h2⟩ := h
  have nil0 : a.len = 0 → a = .nil := by
    intro h0
    cases a with
    | nil => rfl
    | cons => simp [Fo.len] at h0
  unfold headS at h1
  split at h1
  · rename_i hk
    simp only [Bool.and_eq_true, decide_eq_true_eq] at h1
    refine .inl ⟨nil0 h1.2, ?_⟩
    omega
  · split at h1
    · rename_i hk
      simp only [Bool.and_eq_true, decide_eq_true_eq] at h1
      refine .inl ⟨nil0 h1.2, ?_⟩
      omega
    · split at h1
      · rename_i hk
        simp only [Bool.and_eq_true, decide_eq_true_eq] at h1
        refine .inr ⟨hk, ?_⟩
        have hl := h1.2
        cases a with
        | nil => simp [Fo.len] at hl
        | cons k1 w1 n1 a1 r1 =>
          cases r1 with
          | nil => simp [Fo.len] at hl
          | cons k2 w2 n2 a2 r2 =>
            have hr2 : r2 = .nil := by
              cases r2 with
              | nil => rfl
              | cons => simp [Fo.len] at hl
            subst hr2
            simp only [shF, Bool.and_eq_true] at h2
            refine ⟨_, _, _, _, _, _, _, _, rfl, ?_, ?_⟩
            · simp only [shS, Bool.and_eq_true]; exact h2.1
            · simp only [shS, Bool.and_eq_true]; exact h2.2.1
      · split at h1
        · rename_i hk
          simp only [Bool.and_eq_true, decide_eq_true_eq] at h1
          refine .inl ⟨nil0 h1.2, ?_⟩
          have := h1.1.2
          rcases hk with rfl | rfl <;> simp [this]
        · cases h1

theorem wrong_zero {k w : Int} {n : ByteArray} {a : Fo} (h : wrongS k w n a = 0) : shS k w n a = true ∧ 1 + a.dep ≤ 16 ∧ 1 + a.size ≤ 256 := by
  unfold wrongS fewS at h
  split at h
  · rename_i h1
    split at h
    · rename_i h2
      exact ⟨h2, of_decide_eq_true h1⟩
    · cases h
  · cases h

end Go.Proofs.YtccbilfbhecdaaaDoor


namespace Go.Proofs.YtccbilfbhecdaaaDoor
open Go Go.Abs
set_option maxRecDepth 100000

def sort_written_enc : (ByteArray × AH) → Value
  | (r0, _) => (Value.string r0)

def sort_written_hp (_ : AH) : (ByteArray × AH) → AH := fun r => r.2

noncomputable def B58 : Code := (Tryd.f58.body).getD .skip

noncomputable def sort_written_body (L : LC) (rec_sort_written : Nat → AH → Int → Int → ByteArray → Sl3 → Option (ByteArray × AH)) (m : Nat) (H : AH) (a0_0 : Int) (a0_1 : Int) (a0_2 : ByteArray) (a0_3 : Sl3) : Option (ByteArray × AH) :=
  if a0_0 = 1 then
    some ((⟨#[66, 111, 111, 108]⟩ : ByteArray), H)
  else
    if a0_0 = 2 then
      some ((⟨#[73, 110, 116]⟩ : ByteArray), H)
    else
      if a0_0 = 3 then
        Option.bind (strconv_Itoa L H a0_1) fun x1 =>
        Option.bind (strcat (⟨#[40, 95, 32, 66, 105, 116, 86, 101, 99, 32]⟩ : ByteArray) x1) fun s2 =>
        Option.bind (strcat s2 (⟨#[41]⟩ : ByteArray)) fun s3 =>
        some (s3, H)
      else
        if a0_0 = 4 then
          Option.bind (idxA 4 a0_3 0) fun p4 =>
          Option.bind (rd (deI .i64) H (Addr.add p4 0)) fun x5_0 =>
          Option.bind (rd (deI .i64) H (Addr.add p4 1)) fun x5_1 =>
          Option.bind (rd deS H (Addr.add p4 2)) fun x5_2 =>
          Option.bind (rd deSl H (Addr.add p4 3)) fun x5_3 =>
          Option.bind (idxA 4 a0_3 1) fun p6 =>
          Option.bind (rd (deI .i64) H (Addr.add p6 0)) fun x7_0 =>
          Option.bind (rd (deI .i64) H (Addr.add p6 1)) fun x7_1 =>
          Option.bind (rd deS H (Addr.add p6 2)) fun x7_2 =>
          Option.bind (rd deSl H (Addr.add p6 3)) fun x7_3 =>
          Option.bind (rec_sort_written (Nat.max m H.next) H x5_0 x5_1 x5_2 x5_3) fun (x8, H9) =>
          Option.bind (strcat (⟨#[40, 65, 114, 114, 97, 121, 32]⟩ : ByteArray) x8) fun s10 =>
          Option.bind (strcat s10 (⟨#[32]⟩ : ByteArray)) fun s11 =>
          Option.bind (rec_sort_written (Nat.max m H9.next) H9 x7_0 x7_1 x7_2 x7_3) fun (x12, H13) =>
          Option.bind (strcat s11 x12) fun s14 =>
          Option.bind (strcat s14 (⟨#[41]⟩ : ByteArray)) fun s15 =>
          some (s15, H13)
        else
          Option.bind (sort_Quote L m H a0_2) fun (x16, H17) =>
          some (x16, H17)

noncomputable def fam_sort_written (L : LC) (n : Nat) : (Nat → AH → Int → Int → ByteArray → Sl3 → Option (ByteArray × AH)) := Nat.rec (motive := fun _ => (Nat → AH → Int → Int → ByteArray → Sl3 → Option (ByteArray × AH))) (fun _ _ _ _ _ _ => none) (fun _ p => sort_written_body L p) n

noncomputable def sort_written (L : LC) (m : Nat) (H : AH) (a0_0 : Int) (a0_1 : Int) (a0_2 : ByteArray) (a0_3 : Sl3) : Option (ByteArray × AH) := (fam_sort_written L L.fuel) m H a0_0 a0_1 a0_2 a0_3

theorem sort_written_body_ok {L : LC} {rec_sort_written : Nat → AH → Int → Int → ByteArray → Sl3 → Option (ByteArray × AH)} (hrec_sort_written : ∀ (m : Nat) (H : AH) (a0_0 : Int) (a0_1 : Int) (a0_2 : ByteArray) (a0_3 : Sl3) (r : (ByteArray × AH)), rec_sort_written m H a0_0 a0_1 a0_2 a0_3 = some r → CallS Tryd.prog (NE.plain 1000) m 58 #[(Value.agg #[(Value.int .i64 a0_0), (Value.int .i64 a0_1), (Value.string a0_2), (Sl3.v a0_3)])] H (sort_written_enc r) (sort_written_hp H r)) {m : Nat} {H : AH} {a0_0 : Int} {a0_1 : Int} {a0_2 : ByteArray} {a0_3 : Sl3} {r : (ByteArray × AH)} (h : sort_written_body L rec_sort_written m H a0_0 a0_1 a0_2 a0_3 = some r) :
    CallS Tryd.prog (NE.plain 1000) m 58 #[(Value.agg #[(Value.int .i64 a0_0), (Value.int .i64 a0_1), (Value.string a0_2), (Sl3.v a0_3)])] H (sort_written_enc r) (sort_written_hp H r) := by
  refine CallS.mk (args := [(Value.agg #[(Value.int .i64 a0_0), (Value.int .i64 a0_1), (Value.string a0_2), (Sl3.v a0_3)])]) Tryd.func58 (B := B58) (by kernel_rfl) (fun E _ => ?_)
  unfold sort_written_body at h
  refine WS.sq (WS.rg (RS.mL 2 [(2, .val (Value.string (⟨#[]⟩ : ByteArray))), (1, .loc 0 0)] ([some (28, [(Value.int .i64 a0_0), (Value.int .i64 a0_1), (Value.string a0_2), (Sl3.v a0_3)])]) (RS.dn (WS.nxt (WS.sq (WS.sq (WS.rg (RS.mS 2 [(4, .val (Value.int .i64 a0_0)), (3, .loc 0 0)] (RS.dn ?_)))))))))
  refine WS.nxt (WS.bk 0 (WS.sq (WS.rg (RS.mS 2 [(5, .val (Value.bool (decide (a0_0 = 1)))), (6, .val (Value.bool (decide (a0_0 = 1))))] (RS.dn (WS.nxt ?_))))))
  rcases ite_some h with ⟨hp, h⟩ | ⟨hp, h⟩
  · refine WS.fx 5 true (decide_eq_true hp) (WS.cT (WS.sq (WS.rg (RS.mS 1 [(2, .val (Value.string (⟨#[66, 111, 111, 108]⟩ : ByteArray)))] (RS.dn (WS.nxt (WS.rt ?_)))))))
    cases h
    exact fun a w hs => bkR (sqR (rtR (rS hs)))
  · refine WS.fx 5 false (decide_eq_false hp) (WS.cF (WS.sq (WS.rg (RS.mS 2 [(7, .val (Value.bool (decide (a0_0 = 2)))), (8, .val (Value.bool (decide (a0_0 = 2))))] (RS.dn (WS.nxt ?_))))))
    rcases ite_some h with ⟨hp, h⟩ | ⟨hp, h⟩
    · refine WS.fx 7 true (decide_eq_true hp) (WS.cT (WS.sq (WS.rg (RS.mS 1 [(2, .val (Value.string (⟨#[73, 110, 116]⟩ : ByteArray)))] (RS.dn (WS.nxt (WS.rt ?_)))))))
      cases h
      exact fun a w hs => bkR (sqR (rtR (rS hs)))
    · refine WS.fx 7 false (decide_eq_false hp) (WS.cF (WS.sq (WS.rg (RS.mS 2 [(9, .val (Value.bool (decide (a0_0 = 3)))), (10, .val (Value.bool (decide (a0_0 = 3))))] (RS.dn (WS.nxt ?_))))))
      rcases ite_some h with ⟨hp, h⟩ | ⟨hp, h⟩
      · refine WS.fx 9 true (decide_eq_true hp) (WS.cT (WS.sq (WS.rg (RS.mS 2 [(12, .val (Value.int .i64 a0_1)), (11, .loc 0 1)] ?_))))
        obtain ⟨x1, hx, h⟩ := bind_some h
        refine RS.cl (some 13) (v := (Value.string x1)) 92 #[(Value.int .i64 a0_1)] (strconv_Itoa_ok hx) ?_
        obtain ⟨s2, hx, h⟩ := bind_some h
        refine RS.o (H' := H) (some 14) (Value.string s2) (Abs.run_strcat (t := 9) (u := 9) (x := .const (Value.string (⟨#[40, 95, 32, 66, 105, 116, 86, 101, 99, 32]⟩ : ByteArray))) (y := .tmp 13) (a := (⟨#[40, 95, 32, 66, 105, 116, 86, 101, 99, 32]⟩ : ByteArray)) (b := x1) (by kernel_rfl) (by kernel_rfl) (by kernel_rfl) hx) ?_
        obtain ⟨s3, hx, h⟩ := bind_some h
        refine RS.o (H' := H) (some 15) (Value.string s3) (Abs.run_strcat (t := 9) (u := 9) (x := .tmp 14) (y := .const (Value.string (⟨#[41]⟩ : ByteArray))) (a := s2) (b := (⟨#[41]⟩ : ByteArray)) (by kernel_rfl) (by kernel_rfl) (by kernel_rfl) hx) (RS.mS 1 [(2, .val (Value.string s3))] (RS.dn (WS.nxt (WS.rt ?_))))
        cases h
        exact fun a w hs => bkR (sqR (rtR (rS hs)))
      · refine WS.fx 9 false (decide_eq_false hp) (WS.cF (WS.sq (WS.rg (RS.mS 2 [(16, .val (Value.bool (decide (a0_0 = 4)))), (17, .val (Value.bool (decide (a0_0 = 4))))] (RS.dn (WS.nxt ?_))))))
        rcases ite_some h with ⟨hp, h⟩ | ⟨hp, h⟩
        · refine WS.fx 16 true (decide_eq_true hp) (WS.cT (WS.sq ?_))
          refine WS.dr [0, 1, 2, 3, 7, 8, 9, 10] [0, 1, 3, 7, 15, 31, 63, 0, 128, 384, 896, 1951, 4095, 8191, 16383] 15 (fun hcl => ?_)
          refine DA.tL 0 (some 18) (.loc 0 3) (DA.tL 1 (some 19) (.val (Sl3.v a0_3)) ?_)
          obtain ⟨p4, hx, h⟩ := bind_some h
          refine DA.tD 2 (some 20) (Value.pointer (some p4)) (Abs.det_idx (s := a0_3) (k := .i64) (t := 26) (e := 28) (x := .tmp 19) (y := .const (Value.int .i64 0)) (by kernel_rfl) (by kernel_rfl) (by kernel_rfl) (by kernel_rfl) (by kernel_rfl) hx) ?_
          obtain ⟨x5_0, hx0, h⟩ := bind_some h
          obtain ⟨x5_1, hx1, h⟩ := bind_some h
          obtain ⟨x5_2, hx2, h⟩ := bind_some h
          obtain ⟨x5_3, hx3, h⟩ := bind_some h
          refine DA.tD 3 (some 21) (Value.agg #[(Value.int .i64 x5_0), (Value.int .i64 x5_1), (Value.string x5_2), (Sl3.v x5_3)]) (Abs.det_loadA (t := 28) (x := .tmp 20) (a := p4) (k := 4) (by kernel_rfl) (by kernel_rfl) (by kernel_rfl) (by kernel_rfl) (rdc_cons (rd_cell hx0 deI_inv) (rdc_cons (rd_cell hx1 deI_inv) (rdc_cons (rd_cell hx2 deS_inv) (rdc_cons (rd_cell hx3 deSl_inv) rdc_nil))))) (DA.tL 7 (some 25) (.loc 0 3) (DA.tL 8 (some 26) (.val (Sl3.v a0_3)) ?_))
          obtain ⟨p6, hx, h⟩ := bind_some h
          refine DA.tD 9 (some 27) (Value.pointer (some p6)) (Abs.det_idx (s := a0_3) (k := .i64) (t := 26) (e := 28) (x := .tmp 26) (y := .const (Value.int .i64 1)) (by kernel_rfl) (by kernel_rfl) (by kernel_rfl) (by kernel_rfl) (by kernel_rfl) hx) ?_
          obtain ⟨x7_0, hx0, h⟩ := bind_some h
          obtain ⟨x7_1, hx1, h⟩ := bind_some h
          obtain ⟨x7_2, hx2, h⟩ := bind_some h
          obtain ⟨x7_3, hx3, h⟩ := bind_some h
          refine DA.tD 10 (some 28) (Value.agg #[(Value.int .i64 x7_0), (Value.int .i64 x7_1), (Value.string x7_2), (Sl3.v x7_3)]) (Abs.det_loadA (t := 28) (x := .tmp 27) (a := p6) (k := 4) (by kernel_rfl) (by kernel_rfl) (by kernel_rfl) (by kernel_rfl) (rdc_cons (rd_cell hx0 deI_inv) (rdc_cons (rd_cell hx1 deI_inv) (rdc_cons (rd_cell hx2 deS_inv) (rdc_cons (rd_cell hx3 deSl_inv) rdc_nil))))) ?_
          obtain ⟨⟨x8, H9⟩, hx, h⟩ := bind_some h
          try dsimp only at h
          refine DA.on 4 (DA.aCk 4 (some 22) true (v := (Value.string x8)) 58 #[(Value.agg #[(Value.int .i64 x5_0), (Value.int .i64 x5_1), (Value.string x5_2), (Sl3.v x5_3)])] (hrec_sort_written _ _ _ _ _ _ _ hx) (DA.restart [0, 1, 2, 3, 5, 7, 8, 9, 10] (by kernel_rfl) ?_))
          obtain ⟨s10, hx, h⟩ := bind_some h
          refine DA.tD 5 (some 23) (Value.string s10) (Abs.det_strcat (t := 9) (u := 9) (x := .const (Value.string (⟨#[40, 65, 114, 114, 97, 121, 32]⟩ : ByteArray))) (y := .tmp 22) (a := (⟨#[40, 65, 114, 114, 97, 121, 32]⟩ : ByteArray)) (b := x8) (by kernel_rfl) (by kernel_rfl) (by kernel_rfl) hx) (DA.restart [0, 1, 2, 3, 5, 6, 7, 8, 9, 10] (by kernel_rfl) ?_)
          obtain ⟨s11, hx, h⟩ := bind_some h
          refine DA.tD 6 (some 24) (Value.string s11) (Abs.det_strcat (t := 9) (u := 9) (x := .tmp 23) (y := .const (Value.string (⟨#[32]⟩ : ByteArray))) (a := s10) (b := (⟨#[32]⟩ : ByteArray)) (by kernel_rfl) (by kernel_rfl) (by kernel_rfl) hx) ?_
          obtain ⟨⟨x12, H13⟩, hx, h⟩ := bind_some h
          try dsimp only at h
          refine DA.on 11 (DA.aCk 11 (some 29) false (v := (Value.string x12)) 58 #[(Value.agg #[(Value.int .i64 x7_0), (Value.int .i64 x7_1), (Value.string x7_2), (Sl3.v x7_3)])] (hrec_sort_written _ _ _ _ _ _ _ hx) ?_)
          obtain ⟨s14, hx, h⟩ := bind_some h
          refine DA.tPx 12 (some 30) (Value.string s14) (Abs.det_strcat (t := 9) (u := 9) (x := .tmp 24) (y := .tmp 29) (a := s11) (b := x12) (by kernel_rfl) (by kernel_rfl) (by kernel_rfl) hx) ?_
          obtain ⟨s15, hx, h⟩ := bind_some h
          refine DA.tPx 13 (some 31) (Value.string s15) (Abs.det_strcat (t := 9) (u := 9) (x := .tmp 30) (y := .const (Value.string (⟨#[41]⟩ : ByteArray))) (a := s14) (b := (⟨#[41]⟩ : ByteArray)) (by kernel_rfl) (by kernel_rfl) (by kernel_rfl) hx) (DA.tP 14 (some 2) (Value.string s15) (DA.dn (WS.nxt (WS.rt ?_))))
          cases h
          exact fun a w hs => bkR (sqR (rtR (rS hs)))
        · refine WS.fx 16 false (decide_eq_false hp) (WS.cF (WS.sk ?_))
          refine fun a w hs => bkN ((WS.nxt ?_ a w hs))
          refine WS.sq (WS.rg (RS.mS 2 [(33, .val (Value.string a0_2)), (32, .loc 0 2)] ?_))
          obtain ⟨⟨x16, H17⟩, hx, h⟩ := bind_some h
          try dsimp only at h
          refine RS.cl (some 34) (v := (Value.string x16)) 15 #[(Value.string a0_2)] (sort_Quote_ok hx) (RS.mS 1 [(2, .val (Value.string x16))] (RS.dn (WS.nxt (WS.rt ?_))))
          cases h
          exact fun a w hs => rtR (rS hs)

theorem fam_sort_written_ok {L : LC} : ∀ n, (∀ (m : Nat) (H : AH) (a0_0 : Int) (a0_1 : Int) (a0_2 : ByteArray) (a0_3 : Sl3) (r : (ByteArray × AH)), ((fam_sort_written L n)) m H a0_0 a0_1 a0_2 a0_3 = some r → CallS Tryd.prog (NE.plain 1000) m 58 #[(Value.agg #[(Value.int .i64 a0_0), (Value.int .i64 a0_1), (Value.string a0_2), (Sl3.v a0_3)])] H (sort_written_enc r) (sort_written_hp H r)) := by
  intro n
  induction n with
  | zero => exact (fun _ _ _ _ _ _ _ h => (Option.some_ne_none _ h.symm).elim)
  | succ n ih => exact (fun _ _ _ _ _ _ _ h => sort_written_body_ok (L := L) ih h)

theorem sort_written_ok {L : LC} {m : Nat} {H : AH} {a0_0 : Int} {a0_1 : Int} {a0_2 : ByteArray} {a0_3 : Sl3} {r : (ByteArray × AH)} (h : sort_written L m H a0_0 a0_1 a0_2 a0_3 = some r) :
    CallS Tryd.prog (NE.plain 1000) m 58 #[(Value.agg #[(Value.int .i64 a0_0), (Value.int .i64 a0_1), (Value.string a0_2), (Sl3.v a0_3)])] H (sort_written_enc r) (sort_written_hp H r) :=
  (fam_sort_written_ok _) _ _ _ _ _ _ _ h

def sort_Text_enc : (ByteArray × Int × AH) → Value
  | (r0, r1, _) => (Value.tuple #[(Value.string r0), (Value.int .i64 r1)])

def sort_Text_hp (_ : AH) : (ByteArray × Int × AH) → AH := fun r => r.2.2

noncomputable def B28 : Code := (Tryd.f28.body).getD .skip

noncomputable def sort_Text (L : LC) (m : Nat) (H : AH) (a0_0 : Int) (a0_1 : Int) (a0_2 : ByteArray) (a0_3 : Sl3) : Option (ByteArray × Int × AH) :=
  Option.bind (sort_wrong L H a0_0 a0_1 a0_2 a0_3) fun x1 =>
  if x1 = 0 then
    Option.bind (sort_written L m H a0_0 a0_1 a0_2 a0_3) fun (x2, H3) =>
    some (x2, 0, H3)
  else
    some ((⟨#[]⟩ : ByteArray), x1, H)

theorem sort_Text_ok {L : LC} {m : Nat} {H : AH} {a0_0 : Int} {a0_1 : Int} {a0_2 : ByteArray} {a0_3 : Sl3} {r : (ByteArray × Int × AH)} (h : sort_Text L m H a0_0 a0_1 a0_2 a0_3 = some r) :
    CallS Tryd.prog (NE.plain 1000) m 28 #[(Value.agg #[(Value.int .i64 a0_0), (Value.int .i64 a0_1), (Value.string a0_2), (Sl3.v a0_3)])] H (sort_Text_enc r) (sort_Text_hp H r) := by
  refine CallS.mk (args := [(Value.agg #[(Value.int .i64 a0_0), (Value.int .i64 a0_1), (Value.string a0_2), (Sl3.v a0_3)])]) Tryd.func28 (B := B28) (by kernel_rfl) (fun E _ => ?_)
  unfold sort_Text at h
  refine WS.sq (WS.rg (RS.mL 3 [(3, .val (Value.int .i64 0)), (2, .val (Value.string (⟨#[]⟩ : ByteArray))), (1, .loc 0 0)] ([some (28, [(Value.int .i64 a0_0), (Value.int .i64 a0_1), (Value.string a0_2), (Sl3.v a0_3)])]) (RS.dn (WS.nxt (WS.sq (WS.sq (WS.rg (RS.mS 1 [(5, .val (Value.agg #[(Value.int .i64 a0_0), (Value.int .i64 a0_1), (Value.string a0_2), (Sl3.v a0_3)]))] ?_))))))))
  obtain ⟨x1, hx, h⟩ := bind_some h
  refine RS.cl (some 6) (v := (Value.int .i64 x1)) 57 #[(Value.agg #[(Value.int .i64 a0_0), (Value.int .i64 a0_1), (Value.string a0_2), (Sl3.v a0_3)])] (sort_wrong_ok hx) (RS.mS 1 [(4, .val (Value.int .i64 x1))] (RS.dn (WS.nxt (WS.sq (WS.rg (RS.mS 2 [(8, .val (Value.bool (!decide (x1 = 0)))), (7, .val (Value.int .i64 x1))] (RS.dn (WS.nxt ?_))))))))
  rcases ite_some h with ⟨hp, h⟩ | ⟨hp, h⟩
  · refine WS.fx 8 false (dec_not hp) (WS.cF (WS.sk (WS.nxt (WS.sq (WS.rg (RS.mS 1 [(10, .val (Value.agg #[(Value.int .i64 a0_0), (Value.int .i64 a0_1), (Value.string a0_2), (Sl3.v a0_3)]))] ?_))))))
    obtain ⟨⟨x2, H3⟩, hx, h⟩ := bind_some h
    try dsimp only at h
    refine RS.cl (some 11) (v := (Value.string x2)) 58 #[(Value.agg #[(Value.int .i64 a0_0), (Value.int .i64 a0_1), (Value.string a0_2), (Sl3.v a0_3)])] (sort_written_ok hx) (RS.mS 2 [(3, .val (Value.int .i64 0)), (2, .val (Value.string x2))] (RS.dn (WS.nxt (WS.rt ?_))))
    cases h
    exact fun a w hs => rtR (rS hs)
  · refine WS.fx 8 true (dec_not' hp) (WS.cT (WS.sq (WS.rg (RS.mS 3 [(3, .val (Value.int .i64 x1)), (2, .val (Value.string (⟨#[]⟩ : ByteArray))), (9, .val (Value.int .i64 x1))] (RS.dn (WS.nxt (WS.rt ?_)))))))
    cases h
    exact fun a w hs => sqR (rtR (rS hs))

end Go.Proofs.YtccbilfbhecdaaaDoor


namespace Go.Proofs.YtccbilfbhecdaaaDoor
open Go Go.Abs
set_option maxRecDepth 100000

def sort_Same_enc : Bool → Value
  | r0 => (Value.bool r0)

def sort_Same_hp (H : AH) : Bool → AH := fun _ => H

def slices_EqualFunc__30_enc : Bool → Value
  | r0 => (Value.bool r0)

def slices_EqualFunc__30_hp (H : AH) : Bool → AH := fun _ => H

noncomputable def B30 : Code := (Tryd.f30.body).getD .skip

noncomputable def sort_Same_body (_L : LC) (rec_slices_EqualFunc__30 : AH → Sl3 → Sl3 → Option Bool) (H : AH) (a0_0 : Int) (a0_1 : Int) (a0_2 : ByteArray) (a0_3 : Sl3) (a1_0 : Int) (a1_1 : Int) (a1_2 : ByteArray) (a1_3 : Sl3) : Option Bool :=
  if a0_0 = a1_0 then
    if a0_1 = a1_1 then
      if (a0_2.toList == a1_2.toList) = true then
        Option.bind (rec_slices_EqualFunc__30 H a0_3 a1_3) fun x1 =>
        some x1
      else
        some false
    else
      some false
  else
    some false

noncomputable def B60 : Code := (Tryd.f60.body).getD .skip

noncomputable def slices_EqualFunc__30_b0 (_L : LC) (rec_sort_Same : AH → Int → Int → ByteArray → Sl3 → Int → Int → ByteArray → Sl3 → Option Bool) (H : AH) (a0 : Sl3) (a1 : Sl3) : Int → Option (Lp Int Bool) := fun v17_1 =>
  if v17_1 < (a0.n : Int) then
    Option.bind (idxA 4 a0 v17_1) fun p2 =>
    Option.bind (rd (deI .i64) H (Addr.add p2 0)) fun x3_0 =>
    Option.bind (rd (deI .i64) H (Addr.add p2 1)) fun x3_1 =>
    Option.bind (rd deS H (Addr.add p2 2)) fun x3_2 =>
    Option.bind (rd deSl H (Addr.add p2 3)) fun x3_3 =>
    Option.bind (idxA 4 a1 v17_1) fun p4 =>
    Option.bind (rd (deI .i64) H (Addr.add p4 0)) fun x5_0 =>
    Option.bind (rd (deI .i64) H (Addr.add p4 1)) fun x5_1 =>
    Option.bind (rd deS H (Addr.add p4 2)) fun x5_2 =>
    Option.bind (rd deSl H (Addr.add p4 3)) fun x5_3 =>
    Option.bind (rec_sort_Same H x3_0 x3_1 x3_2 x3_3 x5_0 x5_1 x5_2 x5_3) fun x6 =>
    if x6 = true then
      some (.next (IntKind.i64.wrap (v17_1 + 1)))
    else
      some (.ret false)
  else
    some (.brk v17_1)

def slices_EqualFunc__30_b0_kn (_L : LC) (_rec_sort_Same : AH → Int → Int → ByteArray → Sl3 → Int → Int → ByteArray → Sl3 → Option Bool) (_H : AH) (a0 : Sl3) (a1 : Sl3) : Int → KN := fun v17_1 => [(17, .val (Value.int .i64 v17_1)), (1, .val (Sl3.v a1)), (2, .val (Value.func (.func 30) #[] #[])), (15, .val (Sl3.v a0)), (16, .val (Value.int .i64 (a0.n : Int)))]

def slices_EqualFunc__30_b0_ls (_L : LC) (_rec_sort_Same : AH → Int → Int → ByteArray → Sl3 → Int → Int → ByteArray → Sl3 → Option Bool) (_H : AH) (_a0 : Sl3) (_a1 : Sl3) : Int → Lcs := fun _ => []

noncomputable def slices_EqualFunc__30_body (L : LC) (rec_sort_Same : AH → Int → Int → ByteArray → Sl3 → Int → Int → ByteArray → Sl3 → Option Bool) (H : AH) (a0 : Sl3) (a1 : Sl3) : Option Bool :=
  if (a0.n : Int) = (a1.n : Int) then
    Option.bind (L.run (slices_EqualFunc__30_b0 L rec_sort_Same H a0 a1) 0) fun o => match o with
    | .inl _ =>
      some true
    | .inr r => some r
  else
    some false

noncomputable def fam_sort_Same (L : LC) (n : Nat) : (AH → Int → Int → ByteArray → Sl3 → Int → Int → ByteArray → Sl3 → Option Bool) × (AH → Sl3 → Sl3 → Option Bool) := Nat.rec (motive := fun _ => (AH → Int → Int → ByteArray → Sl3 → Int → Int → ByteArray → Sl3 → Option Bool) × (AH → Sl3 → Sl3 → Option Bool)) ((fun _ _ _ _ _ _ _ _ _ => none), (fun _ _ _ => none)) (fun _ p => (sort_Same_body L p.2, slices_EqualFunc__30_body L p.1)) n

noncomputable def sort_Same (L : LC) (H : AH) (a0_0 : Int) (a0_1 : Int) (a0_2 : ByteArray) (a0_3 : Sl3) (a1_0 : Int) (a1_1 : Int) (a1_2 : ByteArray) (a1_3 : Sl3) : Option Bool := ((fam_sort_Same L L.fuel).1) H a0_0 a0_1 a0_2 a0_3 a1_0 a1_1 a1_2 a1_3

theorem sort_Same_body_ok {L : LC} {rec_slices_EqualFunc__30 : AH → Sl3 → Sl3 → Option Bool} (hrec_slices_EqualFunc__30 : ∀ (m : Nat) (H : AH) (a0 : Sl3) (a1 : Sl3) (r : Bool), rec_slices_EqualFunc__30 H a0 a1 = some r → CallS Tryd.prog (NE.plain 1000) m 60 #[(Sl3.v a0), (Sl3.v a1), (Value.func (.func 30) #[] #[])] H (slices_EqualFunc__30_enc r) (slices_EqualFunc__30_hp H r)) {m : Nat} {H : AH} {a0_0 : Int} {a0_1 : Int} {a0_2 : ByteArray} {a0_3 : Sl3} {a1_0 : Int} {a1_1 : Int} {a1_2 : ByteArray} {a1_3 : Sl3} {r : Bool} (h : sort_Same_body L rec_slices_EqualFunc__30 H a0_0 a0_1 a0_2 a0_3 a1_0 a1_1 a1_2 a1_3 = some r) :
    CallS Tryd.prog (NE.plain 1000) m 30 #[(Value.agg #[(Value.int .i64 a0_0), (Value.int .i64 a0_1), (Value.string a0_2), (Sl3.v a0_3)]), (Value.agg #[(Value.int .i64 a1_0), (Value.int .i64 a1_1), (Value.string a1_2), (Sl3.v a1_3)])] H (sort_Same_enc r) (sort_Same_hp H r) := by
  refine CallS.mk (args := [(Value.agg #[(Value.int .i64 a0_0), (Value.int .i64 a0_1), (Value.string a0_2), (Sl3.v a0_3)]), (Value.agg #[(Value.int .i64 a1_0), (Value.int .i64 a1_1), (Value.string a1_2), (Sl3.v a1_3)])]) Tryd.func30 (B := B30) (by kernel_rfl) (fun E _ => ?_)
  unfold sort_Same_body at h
  refine WS.sq (WS.rg (RS.mL 3 [(4, .val (Value.bool false)), (3, .loc 1 0), (2, .loc 0 0)] ([some (28, [(Value.int .i64 a0_0), (Value.int .i64 a0_1), (Value.string a0_2), (Sl3.v a0_3)]), some (28, [(Value.int .i64 a1_0), (Value.int .i64 a1_1), (Value.string a1_2), (Sl3.v a1_3)])]) (RS.dn (WS.nxt (WS.sq (WS.rg (RS.mS 6 [(10, .val (Value.bool (decide (a0_0 = a1_0)))), (9, .val (Value.bool (decide (a0_0 = a1_0)))), (8, .val (Value.int .i64 a1_0)), (7, .loc 1 0), (6, .val (Value.int .i64 a0_0)), (5, .loc 0 0)] ?_)))))))
  rcases ite_some h with ⟨hp, h⟩ | ⟨hp, h⟩
  · refine RS.fx 10 true (decide_eq_true hp) (RS.mS 7 [(17, .val (Value.bool (decide (a0_1 = a1_1)))), (16, .val (Value.bool (decide (a0_1 = a1_1)))), (15, .val (Value.bool (decide (a0_1 = a1_1)))), (14, .val (Value.int .i64 a1_1)), (13, .loc 1 1), (12, .val (Value.int .i64 a0_1)), (11, .loc 0 1)] ?_)
    rcases ite_some h with ⟨hp, h⟩ | ⟨hp, h⟩
    · refine RS.fx 17 true (decide_eq_true hp) (RS.mS 7 [(24, .val (Value.bool (a0_2.toList == a1_2.toList))), (23, .val (Value.bool (a0_2.toList == a1_2.toList))), (22, .val (Value.bool (a0_2.toList == a1_2.toList))), (21, .val (Value.string a1_2)), (20, .loc 1 2), (19, .val (Value.string a0_2)), (18, .loc 0 2)] ?_)
      rcases ite_some h with ⟨hp, h⟩ | ⟨hp, h⟩
      · refine RS.fx 24 true hp (RS.mS 4 [(28, .val (Sl3.v a1_3)), (27, .loc 1 3), (26, .val (Sl3.v a0_3)), (25, .loc 0 3)] ?_)
        obtain ⟨x1, hx, h⟩ := bind_some h
        refine RS.cl (some 29) (v := (Value.bool x1)) 60 #[(Sl3.v a0_3), (Sl3.v a1_3), (Value.func (.func 30) #[] #[])] (hrec_slices_EqualFunc__30 _ _ _ _ _ hx) (RS.mS 2 [(4, .val (Value.bool x1)), (30, .val (Value.bool x1))] (RS.dn (WS.nxt (WS.rt ?_))))
        cases h
        exact fun a w hs => rtR (rS hs)
      · refine RS.fx 24 false (b_not hp) (RS.mS 7 [(4, .val (Value.bool false)), (30, .val (Value.bool false)), (29, .val undef), (28, .val undef), (27, .val undef), (26, .val undef), (25, .val undef)] (RS.dn (WS.nxt (WS.rt ?_))))
        cases h
        exact fun a w hs => rtR (rS hs)
    · refine RS.fx 17 false (decide_eq_false hp) (RS.mS 14 [(4, .val (Value.bool false)), (30, .val (Value.bool false)), (29, .val undef), (28, .val undef), (27, .val undef), (26, .val undef), (25, .val undef), (24, .val (Value.bool false)), (23, .val (Value.bool false)), (22, .val undef), (21, .val undef), (20, .val undef), (19, .val undef), (18, .val undef)] (RS.dn (WS.nxt (WS.rt ?_))))
      cases h
      exact fun a w hs => rtR (rS hs)
  · refine RS.fx 10 false (decide_eq_false hp) (RS.mS 21 [(4, .val (Value.bool false)), (30, .val (Value.bool false)), (29, .val undef), (28, .val undef), (27, .val undef), (26, .val undef), (25, .val undef), (24, .val (Value.bool false)), (23, .val (Value.bool false)), (22, .val undef), (21, .val undef), (20, .val undef), (19, .val undef), (18, .val undef), (17, .val (Value.bool false)), (16, .val (Value.bool false)), (15, .val undef), (14, .val undef), (13, .val undef), (12, .val undef), (11, .val undef)] (RS.dn (WS.nxt (WS.rt ?_))))
    cases h
    exact fun a w hs => rtR (rS hs)

theorem slices_EqualFunc__30_b0_ok {E : Ent} {m : Nat} {L : LC} {rec_sort_Same : AH → Int → Int → ByteArray → Sl3 → Int → Int → ByteArray → Sl3 → Option Bool} {H : AH} {a0 : Sl3} {a1 : Sl3} (hrec_sort_Same : ∀ (m : Nat) (H : AH) (a0_0 : Int) (a0_1 : Int) (a0_2 : ByteArray) (a0_3 : Sl3) (a1_0 : Int) (a1_1 : Int) (a1_2 : ByteArray) (a1_3 : Sl3) (r : Bool), rec_sort_Same H a0_0 a0_1 a0_2 a0_3 a1_0 a1_1 a1_2 a1_3 = some r → CallS Tryd.prog (NE.plain 1000) m 30 #[(Value.agg #[(Value.int .i64 a0_0), (Value.int .i64 a0_1), (Value.string a0_2), (Sl3.v a0_3)]), (Value.agg #[(Value.int .i64 a1_0), (Value.int .i64 a1_1), (Value.string a1_2), (Sl3.v a1_3)])] H (sort_Same_enc r) (sort_Same_hp H r)) : ∀ s o, slices_EqualFunc__30_b0 L rec_sort_Same H a0 a1 s = some o →
    WS Tryd.prog (NE.plain 1000) m E Tryd.f60.ntmps (cfst (cfst (csnd (cfst (csnd (csnd B60)))))) (slices_EqualFunc__30_b0_kn L rec_sort_Same H a0 a1 s) (slices_EqualFunc__30_b0_ls L rec_sort_Same H a0 a1 s) ((fun _ => H) s) (lpS Tryd.prog (NE.plain 1000) m E Tryd.f60.ntmps (slices_EqualFunc__30_b0_kn L rec_sort_Same H a0 a1) (slices_EqualFunc__30_b0_ls L rec_sort_Same H a0 a1) (fun _ => H) 0 (fun r => RT Tryd.prog (NE.plain 1000) m E Tryd.f60 (slices_EqualFunc__30_enc r) (slices_EqualFunc__30_hp H r)) o) := by
  rintro v17_1 o h
  unfold slices_EqualFunc__30_b0 at h
  try dsimp only at h
  refine WS.sq (WS.rg (RS.mS 1 [(18, .val (Value.bool (decide (v17_1 < (a0.n : Int)))))] (RS.dn (WS.nxt (WS.sq ?_)))))
  rcases ite_some h with ⟨hp, h⟩ | ⟨hp, h⟩
  · refine WS.fx 18 true (decide_eq_true hp) (WS.cT (WS.sk (WS.nxt (WS.sq (WS.bk 1 (WS.sq (WS.rg (RS.mS 1 [(19, .val (Value.int .i64 v17_1))] ?_))))))))
    obtain ⟨p2, hx, h⟩ := bind_some h
    refine RS.o (H' := H) (some 20) (Value.pointer (some p2)) (Abs.run_idx (s := a0) (k := .i64) (t := 26) (e := 28) (x := .tmp 15) (y := .tmp 17) (by kernel_rfl) (by kernel_rfl) (by kernel_rfl) (by kernel_rfl) (by kernel_rfl) hx) ?_
    obtain ⟨x3_0, hx0, h⟩ := bind_some h
    obtain ⟨x3_1, hx1, h⟩ := bind_some h
    obtain ⟨x3_2, hx2, h⟩ := bind_some h
    obtain ⟨x3_3, hx3, h⟩ := bind_some h
    refine RS.o (H' := H) (some 21) (Value.agg #[(Value.int .i64 x3_0), (Value.int .i64 x3_1), (Value.string x3_2), (Sl3.v x3_3)]) (Abs.run_loadAg (t := 28) (x := .tmp 20) (a := p2) (k := 4) (by kernel_rfl) (by kernel_rfl) (by kernel_rfl) (by kernel_rfl) (rdc_cons (rd_cell hx0 deI_inv) (rdc_cons (rd_cell hx1 deI_inv) (rdc_cons (rd_cell hx2 deS_inv) (rdc_cons (rd_cell hx3 deSl_inv) rdc_nil))))) (RS.mL 3 [(7, .val (Value.int .i64 v17_1)), (8, .loc 0 0)] ([some (28, [(Value.int .i64 x3_0), (Value.int .i64 x3_1), (Value.string x3_2), (Sl3.v x3_3)])]) (RS.dn (WS.nxt (WS.sq (WS.rg (RS.mS 2 [(23, .val (Value.int .i64 v17_1)), (22, .val (Sl3.v a1))] ?_))))))
    obtain ⟨p4, hx, h⟩ := bind_some h
    refine RS.o (H' := H) (some 24) (Value.pointer (some p4)) (Abs.run_idx (s := a1) (k := .i64) (t := 26) (e := 28) (x := .tmp 22) (y := .tmp 23) (by kernel_rfl) (by kernel_rfl) (by kernel_rfl) (by kernel_rfl) (by kernel_rfl) hx) ?_
    obtain ⟨x5_0, hx0, h⟩ := bind_some h
    obtain ⟨x5_1, hx1, h⟩ := bind_some h
    obtain ⟨x5_2, hx2, h⟩ := bind_some h
    obtain ⟨x5_3, hx3, h⟩ := bind_some h
    refine RS.o (H' := H) (some 25) (Value.agg #[(Value.int .i64 x5_0), (Value.int .i64 x5_1), (Value.string x5_2), (Sl3.v x5_3)]) (Abs.run_loadAg (t := 28) (x := .tmp 24) (a := p4) (k := 4) (by kernel_rfl) (by kernel_rfl) (by kernel_rfl) (by kernel_rfl) (rdc_cons (rd_cell hx0 deI_inv) (rdc_cons (rd_cell hx1 deI_inv) (rdc_cons (rd_cell hx2 deS_inv) (rdc_cons (rd_cell hx3 deSl_inv) rdc_nil))))) (RS.mL 2 [(9, .loc 1 0)] ([some (28, [(Value.int .i64 x3_0), (Value.int .i64 x3_1), (Value.string x3_2), (Sl3.v x3_3)]), some (28, [(Value.int .i64 x5_0), (Value.int .i64 x5_1), (Value.string x5_2), (Sl3.v x5_3)])]) (RS.dn (WS.nxt (WS.sq (WS.rg (RS.mS 3 [(28, .val (Value.agg #[(Value.int .i64 x5_0), (Value.int .i64 x5_1), (Value.string x5_2), (Sl3.v x5_3)])), (27, .val (Value.agg #[(Value.int .i64 x3_0), (Value.int .i64 x3_1), (Value.string x3_2), (Sl3.v x3_3)])), (26, .val (Value.func (.func 30) #[] #[]))] ?_))))))
    obtain ⟨x6, hx, h⟩ := bind_some h
    refine RS.cl (some 29) (v := (Value.bool x6)) 30 #[(Value.agg #[(Value.int .i64 x3_0), (Value.int .i64 x3_1), (Value.string x3_2), (Sl3.v x3_3)]), (Value.agg #[(Value.int .i64 x5_0), (Value.int .i64 x5_1), (Value.string x5_2), (Sl3.v x5_3)])] (hrec_sort_Same _ _ _ _ _ _ _ _ _ _ _ hx) (RS.mS 1 [(30, .val (Value.bool (!x6)))] (RS.dn (WS.nxt ?_)))
    rcases ite_some h with ⟨hp, h⟩ | ⟨hp, h⟩
    · refine WS.fx 30 false (nb_not hp) (WS.cF (WS.sk ?_))
      refine fun a w hs => bkN ((WS.nxt ?_ a w hs))
      refine WS.rg (RS.mS 2 [(17, .val (Value.int .i64 (IntKind.i64.wrap (v17_1 + 1)))), (31, .val (Value.int .i64 (IntKind.i64.wrap (v17_1 + 1))))] (RS.dn ?_))
      cases h
      exact fun a w hs => lsN rfl (hs.sb 0)
    · refine WS.fx 30 true (nb_not' hp) (WS.cT (WS.sq (WS.rg (RS.mS 1 [(6, .val (Value.bool false))] (RS.dn (WS.nxt (WS.rt ?_)))))))
      cases h
      exact fun a w hs => bkR (sqR (lsR rfl (rS hs)))
  · refine WS.fx 18 false (decide_eq_false hp) (WS.cF (WS.ex 0 ?_))
    cases h
    exact fun a w hs => sqE (lsB rfl (hs.sb 0))

theorem slices_EqualFunc__30_body_ok {L : LC} {rec_sort_Same : AH → Int → Int → ByteArray → Sl3 → Int → Int → ByteArray → Sl3 → Option Bool} (hrec_sort_Same : ∀ (m : Nat) (H : AH) (a0_0 : Int) (a0_1 : Int) (a0_2 : ByteArray) (a0_3 : Sl3) (a1_0 : Int) (a1_1 : Int) (a1_2 : ByteArray) (a1_3 : Sl3) (r : Bool), rec_sort_Same H a0_0 a0_1 a0_2 a0_3 a1_0 a1_1 a1_2 a1_3 = some r → CallS Tryd.prog (NE.plain 1000) m 30 #[(Value.agg #[(Value.int .i64 a0_0), (Value.int .i64 a0_1), (Value.string a0_2), (Sl3.v a0_3)]), (Value.agg #[(Value.int .i64 a1_0), (Value.int .i64 a1_1), (Value.string a1_2), (Sl3.v a1_3)])] H (sort_Same_enc r) (sort_Same_hp H r)) {m : Nat} {H : AH} {a0 : Sl3} {a1 : Sl3} {r : Bool} (h : slices_EqualFunc__30_body L rec_sort_Same H a0 a1 = some r) :
    CallS Tryd.prog (NE.plain 1000) m 60 #[(Sl3.v a0), (Sl3.v a1), (Value.func (.func 30) #[] #[])] H (slices_EqualFunc__30_enc r) (slices_EqualFunc__30_hp H r) := by
  refine CallS.mk (args := [(Sl3.v a0), (Sl3.v a1), (Value.func (.func 30) #[] #[])]) Tryd.func60 (B := B60) (by kernel_rfl) (fun E _ => ?_)
  unfold slices_EqualFunc__30_body at h
  refine WS.sq (WS.rg (RS.mS 1 [(6, .val (Value.bool false))] (RS.dn (WS.nxt (WS.sq (WS.sq (WS.rg (RS.mS 5 [(14, .val (Value.bool (!decide ((a0.n : Int) = (a1.n : Int))))), (13, .val (Value.int .i64 (a1.n : Int))), (12, .val (Sl3.v a1)), (11, .val (Value.int .i64 (a0.n : Int))), (10, .val (Sl3.v a0))] (RS.dn ?_)))))))))
  refine WS.nxt ?_
  rcases ite_some h with ⟨hp, h⟩ | ⟨hp, h⟩
  · refine WS.fx 14 false (dec_not hp) (WS.cF (WS.sk (WS.nxt (WS.sq (WS.sq (WS.rg (RS.mS 3 [(17, .val (Value.int .i64 0)), (16, .val (Value.int .i64 (a0.n : Int))), (15, .val (Sl3.v a0))] (RS.dn (WS.nxt ?_)))))))))
    refine WS.bk 0 ?_
    obtain ⟨o, hl, h⟩ := bind_some h
    rcases o with v17_7 | r
    · try dsimp only at h
      refine WS.lI (slices_EqualFunc__30_b0_ok (L := L) (E := E) (m := m) (H := H) hrec_sort_Same) (L.ok hl) 0 ?_
      clear hl
      refine fun a w hs => bkE ((WS.nxt ?_ a w hs))
      refine WS.sq (WS.rg (RS.mS 1 [(6, .val (Value.bool true))] (RS.dn (WS.nxt (WS.rt ?_)))))
      cases h
      exact fun a w hs => rtR (rS hs)
    · try dsimp only at h
      refine WS.lR (slices_EqualFunc__30_b0_ok (L := L) (E := E) (m := m) (H := H) hrec_sort_Same) (L.ok hl) 0 ?_
      cases h
      exact fun a w hq => bkR (sqR (rtR hq))
  · refine WS.fx 14 true (dec_not' hp) (WS.cT (WS.sq (WS.rg (RS.mS 1 [(6, .val (Value.bool false))] (RS.dn (WS.nxt (WS.rt ?_)))))))
    cases h
    exact fun a w hs => sqR (rtR (rS hs))

theorem fam_sort_Same_ok {L : LC} : ∀ n, (∀ (m : Nat) (H : AH) (a0_0 : Int) (a0_1 : Int) (a0_2 : ByteArray) (a0_3 : Sl3) (a1_0 : Int) (a1_1 : Int) (a1_2 : ByteArray) (a1_3 : Sl3) (r : Bool), ((fam_sort_Same L n).1) H a0_0 a0_1 a0_2 a0_3 a1_0 a1_1 a1_2 a1_3 = some r → CallS Tryd.prog (NE.plain 1000) m 30 #[(Value.agg #[(Value.int .i64 a0_0), (Value.int .i64 a0_1), (Value.string a0_2), (Sl3.v a0_3)]), (Value.agg #[(Value.int .i64 a1_0), (Value.int .i64 a1_1), (Value.string a1_2), (Sl3.v a1_3)])] H (sort_Same_enc r) (sort_Same_hp H r)) ∧ (∀ (m : Nat) (H : AH) (a0 : Sl3) (a1 : Sl3) (r : Bool), ((fam_sort_Same L n).2) H a0 a1 = some r → CallS Tryd.prog (NE.plain 1000) m 60 #[(Sl3.v a0), (Sl3.v a1), (Value.func (.func 30) #[] #[])] H (slices_EqualFunc__30_enc r) (slices_EqualFunc__30_hp H r)) := by
  intro n
  induction n with
  | zero => exact ⟨(fun _ _ _ _ _ _ _ _ _ _ _ h => (Option.some_ne_none _ h.symm).elim), (fun _ _ _ _ _ h => (Option.some_ne_none _ h.symm).elim)⟩
  | succ n ih => exact ⟨(fun _ _ _ _ _ _ _ _ _ _ _ h => sort_Same_body_ok (L := L) ih.2 h), (fun _ _ _ _ _ h => slices_EqualFunc__30_body_ok (L := L) ih.1 h)⟩

theorem sort_Same_ok {L : LC} {m : Nat} {H : AH} {a0_0 : Int} {a0_1 : Int} {a0_2 : ByteArray} {a0_3 : Sl3} {a1_0 : Int} {a1_1 : Int} {a1_2 : ByteArray} {a1_3 : Sl3} {r : Bool} (h : sort_Same L H a0_0 a0_1 a0_2 a0_3 a1_0 a1_1 a1_2 a1_3 = some r) :
    CallS Tryd.prog (NE.plain 1000) m 30 #[(Value.agg #[(Value.int .i64 a0_0), (Value.int .i64 a0_1), (Value.string a0_2), (Sl3.v a0_3)]), (Value.agg #[(Value.int .i64 a1_0), (Value.int .i64 a1_1), (Value.string a1_2), (Sl3.v a1_3)])] H (sort_Same_enc r) (sort_Same_hp H r) :=
  ((fam_sort_Same_ok _).1) _ _ _ _ _ _ _ _ _ _ _ h

end Go.Proofs.YtccbilfbhecdaaaDoor

