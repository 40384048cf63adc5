/- Parts of the proof: an abstract interpreter of the loaded program and its soundness, printed functions, the law's own texts; part 4. No condition. -/
import Derived.Test.YtccbilfbhecdaaaDoorTx3
import Derived.Test.YtccbilfbhecdaaaDoorChecked
import Derived.Test.YtccbilfbhecdaaaDoorRows
import Derived.Test.YtccbilfbhecdaaaDoorCards
import Derived.Test.YtccbilfbhecdaaaDoorTie
import Derived.Deep.DeepWitnessRowRef
import Derived.ChangeMaps5
namespace Go.Proofs.YtccbilfbhecdaaaDoor.Aw
open Go Go.Abs
set_option maxRecDepth 100000

def strings_Fields_enc : (Sl3 × AH) → Value
  | (r0, _) => (Sl3.v r0)

def strings_Fields_hp (_ : AH) : (Sl3 × AH) → AH := fun r => r.2

noncomputable def B95 : Code := (Tryd.f95.body).getD .skip

noncomputable def strings_Fields_b0 (_L : LC) (H : AH) (a0 : ByteArray) : (Int × Int × Int × Int) → Option (Lp (Int × Int × Int × Int) (Sl3 × AH)) := fun (v3_1, v4_2, v5_3, v6_4) =>
  if v6_4 < (a0.size : Int) then
    Option.bind (bytA a0 v6_4) fun x5 =>
    Option.bind (idxR 1 256 (⟨0, 0, none⟩ : Addr) x5) fun p6 =>
    Option.bind (rd (deI .u8) H p6) fun x7 =>
    some (.next ((IntKind.i64.wrap (v3_1 + (iand .i64 v4_2 (ixor .i64 (-1) (IntKind.i64.wrap x7))))), (IntKind.i64.wrap x7), (ior .u8 v5_3 x5), (IntKind.i64.wrap (v6_4 + 1))))
  else
    some (.brk (v3_1, v4_2, v5_3, v6_4))

def strings_Fields_b0_kn (_L : LC) (_H : AH) (a0 : ByteArray) : (Int × Int × Int × Int) → KN := fun (v3_1, v4_2, v5_3, v6_4) => [(3, .val (Value.int .i64 v3_1)), (4, .val (Value.int .i64 v4_2)), (5, .val (Value.int .u8 v5_3)), (6, .val (Value.int .i64 v6_4)), (0, .val (Value.string a0))]

def strings_Fields_b0_ls (_L : LC) (_H : AH) (_a0 : ByteArray) : (Int × Int × Int × Int) → Lcs := fun (_, _, _, _) => []

noncomputable def strings_Fields_b1 (_L : LC) (a0 : ByteArray) (_s12 : Sl3) (H13 : AH) : Int → Option (Lp Int (Sl3 × AH)) := fun v12_14 =>
  if v12_14 < (a0.size : Int) then
    Option.bind (bytA a0 v12_14) fun x15 =>
    Option.bind (idxR 1 256 (⟨0, 0, none⟩ : Addr) x15) fun p16 =>
    Option.bind (rd (deI .u8) H13 p16) fun x17 =>
    if x17 = 0 then
      some (.brk v12_14)
    else
      none
  else
    none

def strings_Fields_b1_kn (_L : LC) (a0 : ByteArray) (s12 : Sl3) (_H13 : AH) : Int → KN := fun v12_14 => [(12, .val (Value.int .i64 v12_14)), (0, .val (Value.string a0)), (9, .val (Sl3.v s12)), (10, .val (Value.int .i64 0))]

def strings_Fields_b1_ls (_L : LC) (_a0 : ByteArray) (_s12 : Sl3) (_H13 : AH) : Int → Lcs := fun _ => []

noncomputable def strings_Fields_b3 (_L : LC) (a0 : ByteArray) (_s12 : Sl3) (_v10_20 : Int) (H28 : AH) : Int → Option (Lp Int (Sl3 × AH)) := fun v12_29 =>
  if v12_29 < (a0.size : Int) then
    Option.bind (bytA a0 v12_29) fun x30 =>
    Option.bind (idxR 1 256 (⟨0, 0, none⟩ : Addr) x30) fun p31 =>
    Option.bind (rd (deI .u8) H28 p31) fun x32 =>
    if x32 = 0 then
      some (.brk v12_29)
    else
      none
  else
    none

def strings_Fields_b3_kn (_L : LC) (a0 : ByteArray) (s12 : Sl3) (v10_20 : Int) (_H28 : AH) : Int → KN := fun v12_29 => [(12, .val (Value.int .i64 v12_29)), (0, .val (Value.string a0)), (9, .val (Sl3.v s12)), (10, .val (Value.int .i64 (IntKind.i64.wrap (v10_20 + 1))))]

def strings_Fields_b3_ls (_L : LC) (_a0 : ByteArray) (_s12 : Sl3) (_v10_20 : Int) (_H28 : AH) : Int → Lcs := fun _ => []

noncomputable def strings_Fields_b2 (L : LC) (m : Nat) (a0 : ByteArray) (s12 : Sl3) : (AH × Int × Int × Int) → Option (Lp (AH × Int × Int × Int) (Sl3 × AH)) := fun (H19, v10_20, v11_21, v12_22) =>
  if v12_22 < (a0.size : Int) then
    Option.bind (bytA a0 v12_22) fun x23 =>
    Option.bind (idxR 1 256 (⟨0, 0, none⟩ : Addr) x23) fun p24 =>
    Option.bind (rd (deI .u8) H19 p24) fun x25 =>
    if x25 = 0 then
      some (.next (H19, v10_20, v11_21, (IntKind.i64.wrap (v12_22 + 1))))
    else
      Option.bind (strC a0 (some v11_21) (some v12_22)) fun s26 =>
      Option.bind (idxA 1 s12 v10_20) fun p27 =>
      Option.bind (H19.setCell m p27 (Value.string s26)) fun H28 =>
      Option.bind (L.run (strings_Fields_b3 L a0 s12 v10_20 H28) (IntKind.i64.wrap (v12_22 + 1))) fun o => match o with
      | .inl v12_33 =>
        some (.next (H28, (IntKind.i64.wrap (v10_20 + 1)), v12_33, v12_33))
      | .inr r => some (.ret r)
  else
    some (.brk (H19, v10_20, v11_21, v12_22))

def strings_Fields_b2_kn (_L : LC) (_m : Nat) (a0 : ByteArray) (s12 : Sl3) : (AH × Int × Int × Int) → KN := fun (_, v10_20, v11_21, v12_22) => [(10, .val (Value.int .i64 v10_20)), (11, .val (Value.int .i64 v11_21)), (12, .val (Value.int .i64 v12_22)), (0, .val (Value.string a0)), (9, .val (Sl3.v s12))]

def strings_Fields_b2_ls (_L : LC) (_m : Nat) (_a0 : ByteArray) (_s12 : Sl3) : (AH × Int × Int × Int) → Lcs := fun (_, _, _, _) => []

noncomputable def strings_Fields (L : LC) (m : Nat) (H : AH) (a0 : ByteArray) : Option (Sl3 × AH) :=
  Option.bind (L.run (strings_Fields_b0 L H a0) (0, 1, 0, 0)) fun o => match o with
  | .inl (v3_8, _, v5_10, _) =>
    if v5_10 ≥ 128 then
      none
    else
      Option.bind (mkS 9 1 16 #[(Value.string (⟨#[]⟩ : ByteArray))] H v3_8 v3_8) fun (s12, H13) =>
      Option.bind (L.run (strings_Fields_b1 L a0 s12 H13) 0) fun o => match o with
      | .inl v12_18 =>
        Option.bind (L.run (strings_Fields_b2 L m a0 s12) (H13, 0, v12_18, v12_18)) fun o => match o with
        | .inl (H34, v10_35, v11_36, _) =>
          if v11_36 < (a0.size : Int) then
            Option.bind (strC a0 (some v11_36) none) fun s38 =>
            Option.bind (idxA 1 s12 v10_35) fun p39 =>
            Option.bind (H34.setCell m p39 (Value.string s38)) fun H40 =>
            some (s12, H40)
          else
            none
        | .inr r => some r
      | .inr r => some r
  | .inr r => some r

theorem strings_Fields_b0_ok {E : Ent} {m : Nat} {L : LC} {H : AH} {a0 : ByteArray}  : ∀ s o, strings_Fields_b0 L H a0 s = some o →
    WS Tryd.prog (NE.plain 1000) m E Tryd.f95.ntmps (cfst (cfst (csnd (cfst (csnd (csnd (csnd (csnd B95)))))))) (strings_Fields_b0_kn L H a0 s) (strings_Fields_b0_ls L H a0 s) ((fun _ => H) s) (lpS Tryd.prog (NE.plain 1000) m E Tryd.f95.ntmps (strings_Fields_b0_kn L H a0) (strings_Fields_b0_ls L H a0) (fun _ => H) 0 (fun r => RT Tryd.prog (NE.plain 1000) m E Tryd.f95 (strings_Fields_enc r) (strings_Fields_hp H r)) o) := by
  rintro ⟨v3_1, v4_2, v5_3, v6_4⟩ o h
  unfold strings_Fields_b0 at h
  try dsimp only at h
  refine WS.sq (WS.sq (WS.rg (RS.mS 4 [(16, .val (Value.bool (decide (v6_4 < (a0.size : Int))))), (15, .val (Value.int .i64 (a0.size : Int))), (14, .val (Value.string a0)), (13, .val (Value.int .i64 v6_4))] (RS.dn (WS.nxt ?_)))))
  rcases ite_some h with ⟨hp, h⟩ | ⟨hp, h⟩
  · refine WS.fx 16 true (decide_eq_true hp) (WS.cT (WS.sk (WS.nxt (WS.sq (WS.bk 1 (WS.sq (WS.rg (RS.mS 2 [(20, .val (Value.int .i64 v6_4)), (19, .val (Value.string a0))] ?_))))))))
    obtain ⟨x5, hx, h⟩ := bind_some h
    refine RS.o (H' := H) (some 21) (Value.int .u8 x5) (Abs.run_byt (t := 9) (x := .tmp 19) (y := .tmp 20) (s := a0) (k := .i64) (i := v6_4) (by kernel_rfl) (by kernel_rfl) (by kernel_rfl) (by kernel_rfl) hx) (RS.mS 1 [(7, .val (Value.int .u8 x5))] (RS.dn (WS.nxt (WS.sq (WS.rg (RS.mS 4 [(5, .val (Value.int .u8 (ior .u8 v5_3 x5))), (24, .val (Value.int .u8 (ior .u8 v5_3 x5))), (23, .val (Value.int .u8 x5)), (22, .val (Value.int .u8 v5_3))] (RS.dn (WS.nxt (WS.sq ?_)))))))))
    refine WS.rg (RS.mS 1 [(25, .val (Value.int .u8 x5))] ?_)
    obtain ⟨p6, hx, h⟩ := bind_some h
    refine RS.o (H' := H) (some 26) (Value.pointer (some p6)) (Abs.run_idxR (a := (⟨0, 0, none⟩ : Addr)) (k := .u8) (t := 130) (e := 5) (x := .global 0) (y := .tmp 25) (by kernel_rfl) (by kernel_rfl) (by kernel_rfl) (by kernel_rfl) (by kernel_rfl) hx) ?_
    obtain ⟨x7, hx, h⟩ := bind_some h
    refine RS.o (H' := H) (some 27) (Value.int .u8 x7) (Abs.run_load (t := 5) (x := .tmp 26) (a := p6) (by kernel_rfl) (by kernel_rfl) (by kernel_rfl) (rd_cell hx deI_inv)) (RS.mS 2 [(8, .val (Value.int .i64 (IntKind.i64.wrap x7))), (28, .val (Value.int .i64 (IntKind.i64.wrap x7)))] (RS.dn (WS.nxt (WS.sq (WS.rg (RS.mS 7 [(3, .val (Value.int .i64 (IntKind.i64.wrap (v3_1 + (iand .i64 v4_2 (ixor .i64 (-1) (IntKind.i64.wrap x7))))))), (34, .val (Value.int .i64 (IntKind.i64.wrap (v3_1 + (iand .i64 v4_2 (ixor .i64 (-1) (IntKind.i64.wrap x7))))))), (33, .val (Value.int .i64 (iand .i64 v4_2 (ixor .i64 (-1) (IntKind.i64.wrap x7))))), (32, .val (Value.int .i64 (ixor .i64 (-1) (IntKind.i64.wrap x7)))), (31, .val (Value.int .i64 (IntKind.i64.wrap x7))), (30, .val (Value.int .i64 v4_2)), (29, .val (Value.int .i64 v3_1))] (RS.dn (WS.nxt (WS.rg ?_)))))))))
    refine RS.mS 2 [(4, .val (Value.int .i64 (IntKind.i64.wrap x7))), (35, .val (Value.int .i64 (IntKind.i64.wrap x7)))] (RS.dn ?_)
    refine fun a w hs => bkN ((WS.nxt ?_ a w hs))
    refine WS.rg (RS.mS 3 [(6, .val (Value.int .i64 (IntKind.i64.wrap (v6_4 + 1)))), (18, .val (Value.int .i64 (IntKind.i64.wrap (v6_4 + 1)))), (17, .val (Value.int .i64 v6_4))] (RS.dn ?_))
    cases h
    exact fun a w hs => lsN rfl (hs.sb 0)
  · refine WS.fx 16 false (decide_eq_false hp) (WS.cF (WS.ex 0 ?_))
    cases h
    exact fun a w hs => sqE (lsB rfl (hs.sb 0))

theorem strings_Fields_b1_ok {E : Ent} {m : Nat} {H : AH} {L : LC} {a0 : ByteArray} {s12 : Sl3} {H13 : AH}  : ∀ s o, strings_Fields_b1 L a0 s12 H13 s = some o →
    WS Tryd.prog (NE.plain 1000) m E Tryd.f95.ntmps (cfst (cfst (cfst (csnd (csnd (csnd (csnd (csnd (csnd (csnd (csnd (csnd (csnd B95))))))))))))) (strings_Fields_b1_kn L a0 s12 H13 s) (strings_Fields_b1_ls L a0 s12 H13 s) ((fun _ => H13) s) (lpS Tryd.prog (NE.plain 1000) m E Tryd.f95.ntmps (strings_Fields_b1_kn L a0 s12 H13) (strings_Fields_b1_ls L a0 s12 H13) (fun _ => H13) 2 (fun r => RT Tryd.prog (NE.plain 1000) m E Tryd.f95 (strings_Fields_enc r) (strings_Fields_hp H r)) o) := by
  rintro v12_14 o h
  unfold strings_Fields_b1 at h
  try dsimp only at h
  refine WS.sq (WS.sq (WS.rg (RS.mS 5 [(46, .val (Value.bool (decide (v12_14 < (a0.size : Int))))), (45, .val (Value.bool (decide (v12_14 < (a0.size : Int))))), (44, .val (Value.int .i64 (a0.size : Int))), (43, .val (Value.string a0)), (42, .val (Value.int .i64 v12_14))] ?_)))
  rcases ite_some h with ⟨hp, h⟩ | ⟨hp, h⟩
  · refine RS.fx 46 true (decide_eq_true hp) (RS.mS 2 [(48, .val (Value.int .i64 v12_14)), (47, .val (Value.string a0))] ?_)
    obtain ⟨x15, hx, h⟩ := bind_some h
    refine RS.o (H' := H13) (some 49) (Value.int .u8 x15) (Abs.run_byt (t := 9) (x := .tmp 47) (y := .tmp 48) (s := a0) (k := .i64) (i := v12_14) (by kernel_rfl) (by kernel_rfl) (by kernel_rfl) (by kernel_rfl) hx) ?_
    obtain ⟨p16, hx, h⟩ := bind_some h
    refine RS.o (H' := H13) (some 50) (Value.pointer (some p16)) (Abs.run_idxR (a := (⟨0, 0, none⟩ : Addr)) (k := .u8) (t := 130) (e := 5) (x := .global 0) (y := .tmp 49) (by kernel_rfl) (by kernel_rfl) (by kernel_rfl) (by kernel_rfl) (by kernel_rfl) hx) ?_
    obtain ⟨x17, hx, h⟩ := bind_some h
    refine RS.o (H' := H13) (some 51) (Value.int .u8 x17) (Abs.run_load (t := 5) (x := .tmp 50) (a := p16) (by kernel_rfl) (by kernel_rfl) (by kernel_rfl) (rd_cell hx deI_inv)) (RS.mS 2 [(53, .val (Value.bool (!decide (x17 = 0)))), (52, .val (Value.bool (!decide (x17 = 0))))] (RS.dn (WS.nxt ?_)))
    rcases ite_some h with ⟨hp, h⟩ | ⟨hp, h⟩
    · refine WS.fx 53 false (dec_not hp) (WS.cF (WS.ex 2 ?_))
      cases h
      exact fun a w hs => sqE (lsB rfl (hs.sb 0))
    · refine WS.fx 53 true (dec_not' hp) (WS.cT ?_)
      cases h
  · refine RS.fx 46 false (decide_eq_false hp) ?_
    cases h

theorem strings_Fields_b3_ok {E : Ent} {m : Nat} {H : AH} {L : LC} {a0 : ByteArray} {s12 : Sl3} {v10_20 : Int} {H28 : AH}  : ∀ s o, strings_Fields_b3 L a0 s12 v10_20 H28 s = some o →
    WS Tryd.prog (NE.plain 1000) m E Tryd.f95.ntmps (cfst (cfst (cfst (csnd (csnd (csnd (csnd (cfst (csnd (cfst (cfst (cfst (csnd (csnd (csnd (csnd (csnd (csnd (csnd (csnd (csnd (csnd (csnd (csnd B95)))))))))))))))))))))))) (strings_Fields_b3_kn L a0 s12 v10_20 H28 s) (strings_Fields_b3_ls L a0 s12 v10_20 H28 s) ((fun _ => H28) s) (lpS Tryd.prog (NE.plain 1000) m E Tryd.f95.ntmps (strings_Fields_b3_kn L a0 s12 v10_20 H28) (strings_Fields_b3_ls L a0 s12 v10_20 H28) (fun _ => H28) 6 (fun r => RT Tryd.prog (NE.plain 1000) m E Tryd.f95 (strings_Fields_enc r) (strings_Fields_hp H r)) o) := by
  rintro v12_29 o h
  unfold strings_Fields_b3 at h
  try dsimp only at h
  refine WS.sq (WS.sq (WS.rg (RS.mS 5 [(84, .val (Value.bool (decide (v12_29 < (a0.size : Int))))), (83, .val (Value.bool (decide (v12_29 < (a0.size : Int))))), (82, .val (Value.int .i64 (a0.size : Int))), (81, .val (Value.string a0)), (80, .val (Value.int .i64 v12_29))] ?_)))
  rcases ite_some h with ⟨hp, h⟩ | ⟨hp, h⟩
  · refine RS.fx 84 true (decide_eq_true hp) (RS.mS 2 [(86, .val (Value.int .i64 v12_29)), (85, .val (Value.string a0))] ?_)
    obtain ⟨x30, hx, h⟩ := bind_some h
    refine RS.o (H' := H28) (some 87) (Value.int .u8 x30) (Abs.run_byt (t := 9) (x := .tmp 85) (y := .tmp 86) (s := a0) (k := .i64) (i := v12_29) (by kernel_rfl) (by kernel_rfl) (by kernel_rfl) (by kernel_rfl) hx) ?_
    obtain ⟨p31, hx, h⟩ := bind_some h
    refine RS.o (H' := H28) (some 88) (Value.pointer (some p31)) (Abs.run_idxR (a := (⟨0, 0, none⟩ : Addr)) (k := .u8) (t := 130) (e := 5) (x := .global 0) (y := .tmp 87) (by kernel_rfl) (by kernel_rfl) (by kernel_rfl) (by kernel_rfl) (by kernel_rfl) hx) ?_
    obtain ⟨x32, hx, h⟩ := bind_some h
    refine RS.o (H' := H28) (some 89) (Value.int .u8 x32) (Abs.run_load (t := 5) (x := .tmp 88) (a := p31) (by kernel_rfl) (by kernel_rfl) (by kernel_rfl) (rd_cell hx deI_inv)) (RS.mS 2 [(91, .val (Value.bool (!decide (x32 = 0)))), (90, .val (Value.bool (!decide (x32 = 0))))] (RS.dn (WS.nxt ?_)))
    rcases ite_some h with ⟨hp, h⟩ | ⟨hp, h⟩
    · refine WS.fx 91 false (dec_not hp) (WS.cF (WS.ex 6 ?_))
      cases h
      exact fun a w hs => sqE (lsB rfl (hs.sb 0))
    · refine WS.fx 91 true (dec_not' hp) (WS.cT ?_)
      cases h
  · refine RS.fx 84 false (decide_eq_false hp) ?_
    cases h

theorem strings_Fields_b2_ok {E : Ent} {H : AH} {L : LC} {m : Nat} {a0 : ByteArray} {s12 : Sl3}  : ∀ s o, strings_Fields_b2 L m a0 s12 s = some o →
    WS Tryd.prog (NE.plain 1000) m E Tryd.f95.ntmps (cfst (cfst (cfst (csnd (csnd (csnd (csnd (csnd (csnd (csnd (csnd (csnd (csnd (csnd (csnd B95))))))))))))))) (strings_Fields_b2_kn L m a0 s12 s) (strings_Fields_b2_ls L m a0 s12 s) ((fun s => s.1) s) (lpS Tryd.prog (NE.plain 1000) m E Tryd.f95.ntmps (strings_Fields_b2_kn L m a0 s12) (strings_Fields_b2_ls L m a0 s12) (fun s => s.1) 4 (fun r => RT Tryd.prog (NE.plain 1000) m E Tryd.f95 (strings_Fields_enc r) (strings_Fields_hp H r)) o) := by
  rintro ⟨H19, v10_20, v11_21, v12_22⟩ o h
  unfold strings_Fields_b2 at h
  try dsimp only at h
  refine WS.sq (WS.sq (WS.rg (RS.mS 4 [(60, .val (Value.bool (decide (v12_22 < (a0.size : Int))))), (59, .val (Value.int .i64 (a0.size : Int))), (58, .val (Value.string a0)), (57, .val (Value.int .i64 v12_22))] (RS.dn (WS.nxt ?_)))))
  rcases ite_some h with ⟨hp, h⟩ | ⟨hp, h⟩
  · refine WS.fx 60 true (decide_eq_true hp) (WS.cT (WS.sk (WS.nxt (WS.bk 5 (WS.sq (WS.sq (WS.rg (RS.mS 2 [(62, .val (Value.int .i64 v12_22)), (61, .val (Value.string a0))] ?_))))))))
    obtain ⟨x23, hx, h⟩ := bind_some h
    refine RS.o (H' := H19) (some 63) (Value.int .u8 x23) (Abs.run_byt (t := 9) (x := .tmp 61) (y := .tmp 62) (s := a0) (k := .i64) (i := v12_22) (by kernel_rfl) (by kernel_rfl) (by kernel_rfl) (by kernel_rfl) hx) ?_
    obtain ⟨p24, hx, h⟩ := bind_some h
    refine RS.o (H' := H19) (some 64) (Value.pointer (some p24)) (Abs.run_idxR (a := (⟨0, 0, none⟩ : Addr)) (k := .u8) (t := 130) (e := 5) (x := .global 0) (y := .tmp 63) (by kernel_rfl) (by kernel_rfl) (by kernel_rfl) (by kernel_rfl) (by kernel_rfl) hx) ?_
    obtain ⟨x25, hx, h⟩ := bind_some h
    refine RS.o (H' := H19) (some 65) (Value.int .u8 x25) (Abs.run_load (t := 5) (x := .tmp 64) (a := p24) (by kernel_rfl) (by kernel_rfl) (by kernel_rfl) (rd_cell hx deI_inv)) (RS.mS 1 [(66, .val (Value.bool (decide (x25 = 0))))] (RS.dn (WS.nxt ?_)))
    rcases ite_some h with ⟨hp, h⟩ | ⟨hp, h⟩
    · refine WS.fx 66 true (decide_eq_true hp) (WS.cT (WS.sq (WS.rg (RS.mS 3 [(12, .val (Value.int .i64 (IntKind.i64.wrap (v12_22 + 1)))), (68, .val (Value.int .i64 (IntKind.i64.wrap (v12_22 + 1)))), (67, .val (Value.int .i64 v12_22))] (RS.dn (WS.nxt (WS.ex 5 ?_)))))))
      cases h
      exact fun a w hs => sqE (bkE (lsN rfl (hs.sb 0)))
    · refine WS.fx 66 false (decide_eq_false hp) (WS.cF (WS.sk (WS.nxt (WS.sq (WS.rg (RS.mS 5 [(73, .val (Value.int .i64 v12_22)), (72, .val (Value.int .i64 v11_21)), (71, .val (Value.string a0)), (70, .val (Value.int .i64 v10_20)), (69, .val (Sl3.v s12))] ?_))))))
      obtain ⟨s26, hx, h⟩ := bind_some h
      refine RS.o (H' := H19) (some 74) (Value.string s26) (Abs.run_strC (t := 9) (x := .tmp 71) (lo := (some (.tmp 72))) (hi := (some (.tmp 73))) (s := a0) (k1 := .i64) (k2 := .i64) (by kernel_rfl) (by kernel_rfl) (by kernel_rfl) (by kernel_rfl) (by kernel_rfl) hx) ?_
      obtain ⟨p27, hx, h⟩ := bind_some h
      refine RS.o (H' := H19) (some 75) (Value.pointer (some p27)) (Abs.run_idx (s := s12) (k := .i64) (t := 29) (e := 9) (x := .tmp 69) (y := .tmp 70) (by kernel_rfl) (by kernel_rfl) (by kernel_rfl) (by kernel_rfl) (by kernel_rfl) hx) ?_
      obtain ⟨H28, hx, h⟩ := bind_some h
      refine RS.o (H' := H28) none undef (Abs.run_store1 (t := 9) (x := .tmp 75) (y := .tmp 74) (a := p27) (v := (Value.string s26)) (by kernel_rfl) (by kernel_rfl) (by kernel_rfl) (by kernel_rfl) (by kernel_rfl) hx) (RS.dn (WS.nxt (WS.sq (WS.rg (RS.mS 3 [(10, .val (Value.int .i64 (IntKind.i64.wrap (v10_20 + 1)))), (77, .val (Value.int .i64 (IntKind.i64.wrap (v10_20 + 1)))), (76, .val (Value.int .i64 v10_20))] (RS.dn (WS.nxt (WS.sq (WS.rg ?_)))))))))
      refine RS.mS 3 [(12, .val (Value.int .i64 (IntKind.i64.wrap (v12_22 + 1)))), (79, .val (Value.int .i64 (IntKind.i64.wrap (v12_22 + 1)))), (78, .val (Value.int .i64 v12_22))] (RS.dn (WS.nxt (WS.sq (WS.bk 6 ?_))))
      obtain ⟨o, hl, h⟩ := bind_some h
      rcases o with v12_33 | r
      · try dsimp only at h
        refine WS.lI (strings_Fields_b3_ok (L := L) (E := E) (m := m) (H := H)) (L.ok hl) 0 ?_
        clear hl
        refine fun a w hs => bkE ((WS.nxt ?_ a w hs))
        refine WS.rg (RS.mS 2 [(11, .val (Value.int .i64 v12_33)), (94, .val (Value.int .i64 v12_33))] (RS.dn ?_))
        cases h
        exact fun a w hs => bkN (lsN rfl (hs.sb 0))
      · try dsimp only at h
        refine WS.lR (strings_Fields_b3_ok (L := L) (E := E) (m := m) (H := H)) (L.ok hl) 0 ?_
        cases h
        exact fun a w hq => bkR (sqR (bkR (lsR rfl hq)))
  · refine WS.fx 60 false (decide_eq_false hp) (WS.cF (WS.ex 4 ?_))
    cases h
    exact fun a w hs => sqE (lsB rfl (hs.sb 0))

theorem strings_Fields_ok {L : LC} {m : Nat} {H : AH} {a0 : ByteArray} {r : (Sl3 × AH)} (h : strings_Fields L m H a0 = some r) :
    CallS Tryd.prog (NE.plain 1000) m 95 #[(Value.string a0)] H (strings_Fields_enc r) (strings_Fields_hp H r) := by
  refine CallS.mk (args := [(Value.string a0)]) Tryd.func95 (B := B95) (by kernel_rfl) (fun E _ => ?_)
  unfold strings_Fields at h
  refine WS.sq (WS.rg (RS.mS 1 [(2, .val (Sl3.v Sl3.nil))] (RS.dn (WS.nxt (WS.sq (WS.rg (RS.mS 1 [(3, .val (Value.int .i64 0))] (RS.dn (WS.nxt ?_)))))))))
  refine WS.sq (WS.rg (RS.mS 1 [(4, .val (Value.int .i64 1))] (RS.dn (WS.nxt (WS.sq (WS.rg (RS.mS 1 [(5, .val (Value.int .u8 0))] (RS.dn (WS.nxt ?_)))))))))
  refine WS.sq (WS.sq (WS.rg (RS.mS 1 [(6, .val (Value.int .i64 0))] (RS.dn (WS.nxt (WS.bk 0 ?_))))))
  obtain ⟨o, hl, h⟩ := bind_some h
  rcases o with ⟨v3_8, v4_9, v5_10, v6_11⟩ | r
  · try dsimp only at h
    refine WS.lI (strings_Fields_b0_ok (L := L) (E := E) (m := m) (H := H)) (L.ok hl) 0 ?_
    clear hl
    refine fun a w hs => bkE ((WS.nxt ?_ a w hs))
    refine WS.sq (WS.sq (WS.rg (RS.mS 2 [(37, .val (Value.bool (decide (v5_10 ≥ 128)))), (36, .val (Value.int .u8 v5_10))] (RS.dn (WS.nxt ?_)))))
    rcases ite_some h with ⟨hp, h⟩ | ⟨hp, h⟩
    · refine WS.fx 37 true (decide_eq_true hp) (WS.cT ?_)
      cases h
    · refine WS.fx 37 false (decide_eq_false hp) (WS.cF (WS.sk (WS.nxt (WS.sq (WS.rg (RS.mS 1 [(40, .val (Value.int .i64 v3_8))] ?_))))))
      obtain ⟨⟨s12, H13⟩, hx, h⟩ := bind_some h
      try dsimp only at h
      refine RS.o (H' := H13) (some 41) (Sl3.v s12) (Abs.run_mk (t := 29) (x := .tmp 40) (y := .tmp 40) (k1 := .i64) (k2 := .i64) (by kernel_rfl) (by kernel_rfl) (by kernel_rfl) (by kernel_rfl) hx) (RS.mS 1 [(9, .val (Sl3.v s12))] (RS.dn (WS.nxt (WS.sq (WS.rg (RS.mS 1 [(10, .val (Value.int .i64 0))] (RS.dn (WS.nxt (WS.sq ?_)))))))))
      refine WS.rg (RS.mS 1 [(11, .val (Value.int .i64 0))] (RS.dn (WS.nxt (WS.sq (WS.rg (RS.mS 1 [(12, .val (Value.int .i64 0))] (RS.dn (WS.nxt (WS.sq ?_)))))))))
      refine WS.bk 2 ?_
      obtain ⟨o, hl, h⟩ := bind_some h
      rcases o with v12_18 | r
      · try dsimp only at h
        refine WS.lI (strings_Fields_b1_ok (L := L) (E := E) (m := m) (H := H)) (L.ok hl) 0 ?_
        clear hl
        refine fun a w hs => bkE ((WS.nxt ?_ a w hs))
        refine WS.sq (WS.rg (RS.mS 2 [(11, .val (Value.int .i64 v12_18)), (56, .val (Value.int .i64 v12_18))] (RS.dn (WS.nxt (WS.sq (WS.bk 4 ?_))))))
        obtain ⟨o, hl, h⟩ := bind_some h
        rcases o with ⟨H34, v10_35, v11_36, v12_37⟩ | r
        · try dsimp only at h
          refine WS.lI (strings_Fields_b2_ok (L := L) (E := E) (m := m) (H := H)) (L.ok hl) 0 ?_
          clear hl
          refine fun a w hs => bkE ((WS.nxt ?_ a w hs))
          refine WS.sq (WS.sq (WS.rg (RS.mS 4 [(98, .val (Value.bool (decide (v11_36 < (a0.size : Int))))), (97, .val (Value.int .i64 (a0.size : Int))), (96, .val (Value.string a0)), (95, .val (Value.int .i64 v11_36))] (RS.dn (WS.nxt ?_)))))
          rcases ite_some h with ⟨hp, h⟩ | ⟨hp, h⟩
          · refine WS.fx 98 true (decide_eq_true hp) (WS.cT (WS.rg (RS.mS 4 [(102, .val (Value.int .i64 v11_36)), (101, .val (Value.string a0)), (100, .val (Value.int .i64 v10_35)), (99, .val (Sl3.v s12))] ?_)))
            obtain ⟨s38, hx, h⟩ := bind_some h
            refine RS.o (H' := H34) (some 103) (Value.string s38) (Abs.run_strC (t := 9) (x := .tmp 101) (lo := (some (.tmp 102))) (hi := none) (s := a0) (k1 := .i64) (k2 := .i64) (by kernel_rfl) (by kernel_rfl) (by kernel_rfl) (by kernel_rfl) (by kernel_rfl) hx) ?_
            obtain ⟨p39, hx, h⟩ := bind_some h
            refine RS.o (H' := H34) (some 104) (Value.pointer (some p39)) (Abs.run_idx (s := s12) (k := .i64) (t := 29) (e := 9) (x := .tmp 99) (y := .tmp 100) (by kernel_rfl) (by kernel_rfl) (by kernel_rfl) (by kernel_rfl) (by kernel_rfl) hx) ?_
            obtain ⟨H40, hx, h⟩ := bind_some h
            refine RS.o (H' := H40) none undef (Abs.run_store1 (t := 9) (x := .tmp 104) (y := .tmp 103) (a := p39) (v := (Value.string s38)) (by kernel_rfl) (by kernel_rfl) (by kernel_rfl) (by kernel_rfl) (by kernel_rfl) hx) (RS.dn (WS.nxt (WS.sq (WS.rg (RS.mS 2 [(2, .val (Sl3.v s12)), (105, .val (Sl3.v s12))] (RS.dn (WS.nxt (WS.rt ?_))))))))
            cases h
            exact fun a w hs => rtR (rS hs)
          · refine WS.fx 98 false (decide_eq_false hp) (WS.cF ?_)
            cases h
        · try dsimp only at h
          refine WS.lR (strings_Fields_b2_ok (L := L) (E := E) (m := m) (H := H)) (L.ok hl) 0 ?_
          cases h
          exact fun a w hq => bkR (sqR (rtR hq))
      · try dsimp only at h
        refine WS.lR (strings_Fields_b1_ok (L := L) (E := E) (m := m) (H := H)) (L.ok hl) 0 ?_
        cases h
        exact fun a w hq => bkR (sqR (rtR hq))
  · try dsimp only at h
    refine WS.lR (strings_Fields_b0_ok (L := L) (E := E) (m := m) (H := H)) (L.ok hl) 0 ?_
    cases h
    exact fun a w hq => bkR (sqR (rtR hq))

def strconv_small_enc : ByteArray → Value
  | r0 => (Value.string r0)

def strconv_small_hp (H : AH) : ByteArray → AH := fun _ => H

noncomputable def B106 : Code := (Tryd.f106.body).getD .skip

noncomputable def strconv_small (_L : LC) (a0 : Int) : Option ByteArray :=
  if a0 < 10 then
    Option.bind (strC (⟨#[48, 49, 50, 51, 52, 53, 54, 55, 56, 57, 97, 98, 99, 100, 101, 102, 103, 104, 105, 106, 107, 108, 109, 110, 111, 112, 113, 114, 115, 116, 117, 118, 119, 120, 121, 122]⟩ : ByteArray) (some a0) (some (IntKind.i64.wrap (a0 + 1)))) fun s1 =>
    some s1
  else
    Option.bind (strC (⟨#[48, 48, 48, 49, 48, 50, 48, 51, 48, 52, 48, 53, 48, 54, 48, 55, 48, 56, 48, 57, 49, 48, 49, 49, 49, 50, 49, 51, 49, 52, 49, 53, 49, 54, 49, 55, 49, 56, 49, 57, 50, 48, 50, 49, 50, 50, 50, 51, 50, 52, 50, 53, 50, 54, 50, 55, 50, 56, 50, 57, 51, 48, 51, 49, 51, 50, 51, 51, 51, 52, 51, 53, 51, 54, 51, 55, 51, 56, 51, 57, 52, 48, 52, 49, 52, 50, 52, 51, 52, 52, 52, 53, 52, 54, 52, 55, 52, 56, 52, 57, 53, 48, 53, 49, 53, 50, 53, 51, 53, 52, 53, 53, 53, 54, 53, 55, 53, 56, 53, 57, 54, 48, 54, 49, 54, 50, 54, 51, 54, 52, 54, 53, 54, 54, 54, 55, 54, 56, 54, 57, 55, 48, 55, 49, 55, 50, 55, 51, 55, 52, 55, 53, 55, 54, 55, 55, 55, 56, 55, 57, 56, 48, 56, 49, 56, 50, 56, 51, 56, 52, 56, 53, 56, 54, 56, 55, 56, 56, 56, 57, 57, 48, 57, 49, 57, 50, 57, 51, 57, 52, 57, 53, 57, 54, 57, 55, 57, 56, 57, 57]⟩ : ByteArray) (some (IntKind.i64.wrap (a0 * 2))) (some (IntKind.i64.wrap ((IntKind.i64.wrap (a0 * 2)) + 2)))) fun s2 =>
    some s2

theorem strconv_small_ok {L : LC} {m : Nat} {H : AH} {a0 : Int} {r : ByteArray} (h : strconv_small L a0 = some r) :
    CallS Tryd.prog (NE.plain 1000) m 106 #[(Value.int .i64 a0)] H (strconv_small_enc r) (strconv_small_hp H r) := by
  refine CallS.mk (args := [(Value.int .i64 a0)]) Tryd.func106 (B := B106) (by kernel_rfl) (fun E _ => ?_)
  unfold strconv_small at h
  refine WS.sq (WS.rg (RS.mS 1 [(2, .val (Value.string (⟨#[]⟩ : ByteArray)))] (RS.dn (WS.nxt (WS.sq (WS.sq (WS.rg (RS.mS 2 [(4, .val (Value.bool (decide (a0 < 10)))), (3, .val (Value.int .i64 a0))] (RS.dn ?_)))))))))
  refine WS.nxt ?_
  rcases ite_some h with ⟨hp, h⟩ | ⟨hp, h⟩
  · refine WS.fx 4 true (decide_eq_true hp) (WS.cT (WS.sq (WS.rg (RS.mS 3 [(7, .val (Value.int .i64 (IntKind.i64.wrap (a0 + 1)))), (6, .val (Value.int .i64 a0)), (5, .val (Value.int .i64 a0))] ?_))))
    obtain ⟨s1, hx, h⟩ := bind_some h
    refine RS.o (H' := H) (some 8) (Value.string s1) (Abs.run_strC (t := 9) (x := .const (Value.string (⟨#[48, 49, 50, 51, 52, 53, 54, 55, 56, 57, 97, 98, 99, 100, 101, 102, 103, 104, 105, 106, 107, 108, 109, 110, 111, 112, 113, 114, 115, 116, 117, 118, 119, 120, 121, 122]⟩ : ByteArray))) (lo := (some (.tmp 5))) (hi := (some (.tmp 7))) (s := (⟨#[48, 49, 50, 51, 52, 53, 54, 55, 56, 57, 97, 98, 99, 100, 101, 102, 103, 104, 105, 106, 107, 108, 109, 110, 111, 112, 113, 114, 115, 116, 117, 118, 119, 120, 121, 122]⟩ : ByteArray)) (k1 := .i64) (k2 := .i64) (by kernel_rfl) (by kernel_rfl) (by kernel_rfl) (by kernel_rfl) (by kernel_rfl) hx) (RS.mS 1 [(2, .val (Value.string s1))] (RS.dn (WS.nxt (WS.rt ?_))))
    cases h
    exact fun a w hs => sqR (rtR (rS hs))
  · refine WS.fx 4 false (decide_eq_false hp) (WS.cF (WS.sk (WS.nxt (WS.sq (WS.rg (RS.mS 5 [(13, .val (Value.int .i64 (IntKind.i64.wrap ((IntKind.i64.wrap (a0 * 2)) + 2)))), (12, .val (Value.int .i64 (IntKind.i64.wrap (a0 * 2)))), (11, .val (Value.int .i64 a0)), (10, .val (Value.int .i64 (IntKind.i64.wrap (a0 * 2)))), (9, .val (Value.int .i64 a0))] ?_))))))
    obtain ⟨s2, hx, h⟩ := bind_some h
    refine RS.o (H' := H) (some 14) (Value.string s2) (Abs.run_strC (t := 9) (x := .const (Value.string (⟨#[48, 48, 48, 49, 48, 50, 48, 51, 48, 52, 48, 53, 48, 54, 48, 55, 48, 56, 48, 57, 49, 48, 49, 49, 49, 50, 49, 51, 49, 52, 49, 53, 49, 54, 49, 55, 49, 56, 49, 57, 50, 48, 50, 49, 50, 50, 50, 51, 50, 52, 50, 53, 50, 54, 50, 55, 50, 56, 50, 57, 51, 48, 51, 49, 51, 50, 51, 51, 51, 52, 51, 53, 51, 54, 51, 55, 51, 56, 51, 57, 52, 48, 52, 49, 52, 50, 52, 51, 52, 52, 52, 53, 52, 54, 52, 55, 52, 56, 52, 57, 53, 48, 53, 49, 53, 50, 53, 51, 53, 52, 53, 53, 53, 54, 53, 55, 53, 56, 53, 57, 54, 48, 54, 49, 54, 50, 54, 51, 54, 52, 54, 53, 54, 54, 54, 55, 54, 56, 54, 57, 55, 48, 55, 49, 55, 50, 55, 51, 55, 52, 55, 53, 55, 54, 55, 55, 55, 56, 55, 57, 56, 48, 56, 49, 56, 50, 56, 51, 56, 52, 56, 53, 56, 54, 56, 55, 56, 56, 56, 57, 57, 48, 57, 49, 57, 50, 57, 51, 57, 52, 57, 53, 57, 54, 57, 55, 57, 56, 57, 57]⟩ : ByteArray))) (lo := (some (.tmp 10))) (hi := (some (.tmp 13))) (s := (⟨#[48, 48, 48, 49, 48, 50, 48, 51, 48, 52, 48, 53, 48, 54, 48, 55, 48, 56, 48, 57, 49, 48, 49, 49, 49, 50, 49, 51, 49, 52, 49, 53, 49, 54, 49, 55, 49, 56, 49, 57, 50, 48, 50, 49, 50, 50, 50, 51, 50, 52, 50, 53, 50, 54, 50, 55, 50, 56, 50, 57, 51, 48, 51, 49, 51, 50, 51, 51, 51, 52, 51, 53, 51, 54, 51, 55, 51, 56, 51, 57, 52, 48, 52, 49, 52, 50, 52, 51, 52, 52, 52, 53, 52, 54, 52, 55, 52, 56, 52, 57, 53, 48, 53, 49, 53, 50, 53, 51, 53, 52, 53, 53, 53, 54, 53, 55, 53, 56, 53, 57, 54, 48, 54, 49, 54, 50, 54, 51, 54, 52, 54, 53, 54, 54, 54, 55, 54, 56, 54, 57, 55, 48, 55, 49, 55, 50, 55, 51, 55, 52, 55, 53, 55, 54, 55, 55, 55, 56, 55, 57, 56, 48, 56, 49, 56, 50, 56, 51, 56, 52, 56, 53, 56, 54, 56, 55, 56, 56, 56, 57, 57, 48, 57, 49, 57, 50, 57, 51, 57, 52, 57, 53, 57, 54, 57, 55, 57, 56, 57, 57]⟩ : ByteArray)) (k1 := .i64) (k2 := .i64) (by kernel_rfl) (by kernel_rfl) (by kernel_rfl) (by kernel_rfl) (by kernel_rfl) hx) (RS.mS 1 [(2, .val (Value.string s2))] (RS.dn (WS.nxt (WS.rt ?_))))
    cases h
    exact fun a w hs => rtR (rS hs)

def strconv_log10Pow2_enc : Int → Value
  | r0 => (Value.int .i64 r0)

def strconv_log10Pow2_hp (H : AH) : Int → AH := fun _ => H

noncomputable def B112 : Code := (Tryd.f112.body).getD .skip

noncomputable def strconv_log10Pow2 (_L : LC) (a0 : Int) : Option Int :=
  some (ishr .i64 (IntKind.i64.wrap (a0 * 78913)) 18)

theorem strconv_log10Pow2_ok {L : LC} {m : Nat} {H : AH} {a0 : Int} {r : Int} (h : strconv_log10Pow2 L a0 = some r) :
    CallS Tryd.prog (NE.plain 1000) m 112 #[(Value.int .i64 a0)] H (strconv_log10Pow2_enc r) (strconv_log10Pow2_hp H r) := by
  refine CallS.mk (args := [(Value.int .i64 a0)]) Tryd.func112 (B := B112) (by kernel_rfl) (fun E _ => ?_)
  unfold strconv_log10Pow2 at h
  refine WS.sq (WS.rg (RS.mS 1 [(2, .val (Value.int .i64 0))] (RS.dn (WS.nxt (WS.sq (WS.rg (RS.mS 4 [(2, .val (Value.int .i64 (ishr .i64 (IntKind.i64.wrap (a0 * 78913)) 18))), (5, .val (Value.int .i64 (ishr .i64 (IntKind.i64.wrap (a0 * 78913)) 18))), (4, .val (Value.int .i64 (IntKind.i64.wrap (a0 * 78913)))), (3, .val (Value.int .i64 a0))] (RS.dn (WS.nxt ?_)))))))))
  refine WS.rt ?_
  cases h
  exact fun a w hs => rtR (rS hs)

def bits_Len64_enc : Int → Value
  | r0 => (Value.int .i64 r0)

def bits_Len64_hp (H : AH) : Int → AH := fun _ => H

noncomputable def B113 : Code := (Tryd.f113.body).getD .skip

noncomputable def bits_Len64 (_L : LC) (a0 : Int) : Option Int :=
  if a0 ≥ 4294967296 then
    none
  else
    if a0 ≥ 65536 then
      none
    else
      Option.bind (α := (Int × Int)) (
        if a0 ≥ 256 then
          some ((ishr .u64 a0 8), (IntKind.i64.wrap (0 + 8)))
        else
          some (a0, 0)) fun (v0_1, v2_2) =>
      Option.bind (bytA (⟨#[0, 1, 2, 2, 3, 3, 3, 3, 4, 4, 4, 4, 4, 4, 4, 4, 5, 5, 5, 5, 5, 5, 5, 5, 5, 5, 5, 5, 5, 5, 5, 5, 6, 6, 6, 6, 6, 6, 6, 6, 6, 6, 6, 6, 6, 6, 6, 6, 6, 6, 6, 6, 6, 6, 6, 6, 6, 6, 6, 6, 6, 6, 6, 6, 7, 7, 7, 7, 7, 7, 7, 7, 7, 7, 7, 7, 7, 7, 7, 7, 7, 7, 7, 7, 7, 7, 7, 7, 7, 7, 7, 7, 7, 7, 7, 7, 7, 7, 7, 7, 7, 7, 7, 7, 7, 7, 7, 7, 7, 7, 7, 7, 7, 7, 7, 7, 7, 7, 7, 7, 7, 7, 7, 7, 7, 7, 7, 7, 8, 8, 8, 8, 8, 8, 8, 8, 8, 8, 8, 8, 8, 8, 8, 8, 8, 8, 8, 8, 8, 8, 8, 8, 8, 8, 8, 8, 8, 8, 8, 8, 8, 8, 8, 8, 8, 8, 8, 8, 8, 8, 8, 8, 8, 8, 8, 8, 8, 8, 8, 8, 8, 8, 8, 8, 8, 8, 8, 8, 8, 8, 8, 8, 8, 8, 8, 8, 8, 8, 8, 8, 8, 8, 8, 8, 8, 8, 8, 8, 8, 8, 8, 8, 8, 8, 8, 8, 8, 8, 8, 8, 8, 8, 8, 8, 8, 8, 8, 8, 8, 8, 8, 8, 8, 8, 8, 8, 8, 8, 8, 8, 8, 8, 8, 8, 8, 8, 8, 8, 8, 8, 8, 8, 8, 8, 8, 8]⟩ : ByteArray) (IntKind.u8.wrap v0_1)) fun x3 =>
      some (IntKind.i64.wrap (v2_2 + (IntKind.i64.wrap x3)))

theorem bits_Len64_ok {L : LC} {m : Nat} {H : AH} {a0 : Int} {r : Int} (h : bits_Len64 L a0 = some r) :
    CallS Tryd.prog (NE.plain 1000) m 113 #[(Value.int .u64 a0)] H (bits_Len64_enc r) (bits_Len64_hp H r) := by
  refine CallS.mk (args := [(Value.int .u64 a0)]) Tryd.func113 (B := B113) (by kernel_rfl) (fun E _ => ?_)
  unfold bits_Len64 at h
  refine WS.sq (WS.rg (RS.mS 1 [(2, .val (Value.int .i64 0))] (RS.dn (WS.nxt (WS.sq (WS.sq (WS.rg (RS.mS 2 [(4, .val (Value.bool (decide (a0 ≥ 4294967296)))), (3, .val (Value.int .u64 a0))] (RS.dn ?_)))))))))
  refine WS.nxt ?_
  rcases ite_some h with ⟨hp, h⟩ | ⟨hp, h⟩
  · refine WS.fx 4 true (decide_eq_true hp) (WS.cT ?_)
    cases h
  · refine WS.fx 4 false (decide_eq_false hp) (WS.cF (WS.sk (WS.nxt (WS.sq (WS.sq (WS.rg (RS.mS 2 [(8, .val (Value.bool (decide (a0 ≥ 65536)))), (7, .val (Value.int .u64 a0))] (RS.dn (WS.nxt ?_)))))))))
    rcases ite_some h with ⟨hp, h⟩ | ⟨hp, h⟩
    · refine WS.fx 8 true (decide_eq_true hp) (WS.cT ?_)
      cases h
    · refine WS.fx 8 false (decide_eq_false hp) (WS.cF (WS.sk (WS.nxt ?_)))
      obtain ⟨⟨v0_1, v2_2⟩, hx, h⟩ := bind_some h
      try dsimp only at h
      refine WS.sq ?_
      refine WS.join ([(0, .val (Value.int .u64 v0_1)), (2, .val (Value.int .i64 v2_2))]) ([]) H ?_ (fun a w hs => WS.nxt ?_ a w hs)
      · clear h; rename _ => h
        refine WS.sq (WS.rg (RS.mS 2 [(14, .val (Value.bool (decide (a0 ≥ 256)))), (13, .val (Value.int .u64 a0))] (RS.dn (WS.nxt ?_))))
        rcases ite_some h with ⟨hp, h⟩ | ⟨hp, h⟩
        · refine WS.fx 14 true (decide_eq_true hp) (WS.cT (WS.sq (WS.rg (RS.mS 3 [(0, .val (Value.int .u64 (ishr .u64 a0 8))), (16, .val (Value.int .u64 (ishr .u64 a0 8))), (15, .val (Value.int .u64 a0))] (RS.dn (WS.nxt (WS.rg (RS.mS 3 [(2, .val (Value.int .i64 (IntKind.i64.wrap (0 + 8)))), (18, .val (Value.int .i64 (IntKind.i64.wrap (0 + 8)))), (17, .val (Value.int .i64 0))] (RS.dn ?_)))))))))
          cases h
          exact fun a w hs => (jsN (hs.sb 0))
        · refine WS.fx 14 false (decide_eq_false hp) (WS.cF (WS.sk ?_))
          cases h
          exact fun a w hs => (jsN (hs.sb 0))
      · clear hx
        refine WS.sq (WS.rg (RS.mS 3 [(21, .val (Value.int .u8 (IntKind.u8.wrap v0_1))), (20, .val (Value.int .u64 v0_1)), (19, .val (Value.int .i64 v2_2))] ?_))
        obtain ⟨x3, hx, h⟩ := bind_some h
        refine RS.o (H' := H) (some 22) (Value.int .u8 x3) (Abs.run_byt (t := 9) (x := .const (Value.string (⟨#[0, 1, 2, 2, 3, 3, 3, 3, 4, 4, 4, 4, 4, 4, 4, 4, 5, 5, 5, 5, 5, 5, 5, 5, 5, 5, 5, 5, 5, 5, 5, 5, 6, 6, 6, 6, 6, 6, 6, 6, 6, 6, 6, 6, 6, 6, 6, 6, 6, 6, 6, 6, 6, 6, 6, 6, 6, 6, 6, 6, 6, 6, 6, 6, 7, 7, 7, 7, 7, 7, 7, 7, 7, 7, 7, 7, 7, 7, 7, 7, 7, 7, 7, 7, 7, 7, 7, 7, 7, 7, 7, 7, 7, 7, 7, 7, 7, 7, 7, 7, 7, 7, 7, 7, 7, 7, 7, 7, 7, 7, 7, 7, 7, 7, 7, 7, 7, 7, 7, 7, 7, 7, 7, 7, 7, 7, 7, 7, 8, 8, 8, 8, 8, 8, 8, 8, 8, 8, 8, 8, 8, 8, 8, 8, 8, 8, 8, 8, 8, 8, 8, 8, 8, 8, 8, 8, 8, 8, 8, 8, 8, 8, 8, 8, 8, 8, 8, 8, 8, 8, 8, 8, 8, 8, 8, 8, 8, 8, 8, 8, 8, 8, 8, 8, 8, 8, 8, 8, 8, 8, 8, 8, 8, 8, 8, 8, 8, 8, 8, 8, 8, 8, 8, 8, 8, 8, 8, 8, 8, 8, 8, 8, 8, 8, 8, 8, 8, 8, 8, 8, 8, 8, 8, 8, 8, 8, 8, 8, 8, 8, 8, 8, 8, 8, 8, 8, 8, 8, 8, 8, 8, 8, 8, 8, 8, 8, 8, 8, 8, 8, 8, 8, 8, 8, 8, 8]⟩ : ByteArray))) (y := .tmp 21) (s := (⟨#[0, 1, 2, 2, 3, 3, 3, 3, 4, 4, 4, 4, 4, 4, 4, 4, 5, 5, 5, 5, 5, 5, 5, 5, 5, 5, 5, 5, 5, 5, 5, 5, 6, 6, 6, 6, 6, 6, 6, 6, 6, 6, 6, 6, 6, 6, 6, 6, 6, 6, 6, 6, 6, 6, 6, 6, 6, 6, 6, 6, 6, 6, 6, 6, 7, 7, 7, 7, 7, 7, 7, 7, 7, 7, 7, 7, 7, 7, 7, 7, 7, 7, 7, 7, 7, 7, 7, 7, 7, 7, 7, 7, 7, 7, 7, 7, 7, 7, 7, 7, 7, 7, 7, 7, 7, 7, 7, 7, 7, 7, 7, 7, 7, 7, 7, 7, 7, 7, 7, 7, 7, 7, 7, 7, 7, 7, 7, 7, 8, 8, 8, 8, 8, 8, 8, 8, 8, 8, 8, 8, 8, 8, 8, 8, 8, 8, 8, 8, 8, 8, 8, 8, 8, 8, 8, 8, 8, 8, 8, 8, 8, 8, 8, 8, 8, 8, 8, 8, 8, 8, 8, 8, 8, 8, 8, 8, 8, 8, 8, 8, 8, 8, 8, 8, 8, 8, 8, 8, 8, 8, 8, 8, 8, 8, 8, 8, 8, 8, 8, 8, 8, 8, 8, 8, 8, 8, 8, 8, 8, 8, 8, 8, 8, 8, 8, 8, 8, 8, 8, 8, 8, 8, 8, 8, 8, 8, 8, 8, 8, 8, 8, 8, 8, 8, 8, 8, 8, 8, 8, 8, 8, 8, 8, 8, 8, 8, 8, 8, 8, 8, 8, 8, 8, 8, 8, 8]⟩ : ByteArray)) (k := .u8) (i := (IntKind.u8.wrap v0_1)) (by kernel_rfl) (by kernel_rfl) (by kernel_rfl) (by kernel_rfl) hx) (RS.mS 3 [(2, .val (Value.int .i64 (IntKind.i64.wrap (v2_2 + (IntKind.i64.wrap x3))))), (24, .val (Value.int .i64 (IntKind.i64.wrap (v2_2 + (IntKind.i64.wrap x3))))), (23, .val (Value.int .i64 (IntKind.i64.wrap x3)))] (RS.dn (WS.nxt (WS.rt ?_))))
        cases h
        exact fun a w hs => rtR (rS hs)

def strconv_bool2_enc : Int → Value
  | r0 => (Value.int .i64 r0)

def strconv_bool2_hp (H : AH) : Int → AH := fun _ => H

noncomputable def B114 : Code := (Tryd.f114.body).getD .skip

noncomputable def strconv_bool2 (_L : LC) (a0 : Bool) : Option Int :=
  if a0 = true then
    some 1
  else
    some 0

theorem strconv_bool2_ok {L : LC} {m : Nat} {H : AH} {a0 : Bool} {r : Int} (h : strconv_bool2 L a0 = some r) :
    CallS Tryd.prog (NE.plain 1000) m 114 #[(Value.bool a0)] H (strconv_bool2_enc r) (strconv_bool2_hp H r) := by
  refine CallS.mk (args := [(Value.bool a0)]) Tryd.func114 (B := B114) (by kernel_rfl) (fun E _ => ?_)
  unfold strconv_bool2 at h
  refine WS.sq (WS.rg (RS.mS 1 [(2, .val (Value.int .i64 0))] (RS.dn (WS.nxt (WS.sq (WS.sq (WS.rg (RS.mS 1 [(3, .val (Value.bool a0))] (RS.dn ?_)))))))))
  refine WS.nxt ?_
  rcases ite_some h with ⟨hp, h⟩ | ⟨hp, h⟩
  · refine WS.fx 3 true hp (WS.cT (WS.sq (WS.rg (RS.mS 1 [(2, .val (Value.int .i64 1))] (RS.dn (WS.nxt (WS.rt ?_)))))))
    cases h
    exact fun a w hs => sqR (rtR (rS hs))
  · refine WS.fx 3 false (b_not hp) (WS.cF (WS.sk (WS.nxt (WS.sq (WS.rg (RS.mS 1 [(2, .val (Value.int .i64 0))] (RS.dn (WS.nxt (WS.rt ?_)))))))))
    cases h
    exact fun a w hs => rtR (rS hs)

def strconv_numDigits_enc : Int → Value
  | r0 => (Value.int .i64 r0)

def strconv_numDigits_hp (H : AH) : Int → AH := fun _ => H

noncomputable def B107 : Code := (Tryd.f107.body).getD .skip

noncomputable def strconv_numDigits (L : LC) (H : AH) (a0 : Int) : Option Int :=
  Option.bind (bits_Len64 L a0) fun x1 =>
  Option.bind (strconv_log10Pow2 L x1) fun x2 =>
  Option.bind (idxR 1 20 (⟨3, 0, none⟩ : Addr) x2) fun p3 =>
  Option.bind (rd (deI .u64) H p3) fun x4 =>
  Option.bind (strconv_bool2 L (decide (a0 ≥ x4))) fun x5 =>
  some (IntKind.i64.wrap (x2 + x5))

theorem strconv_numDigits_ok {L : LC} {m : Nat} {H : AH} {a0 : Int} {r : Int} (h : strconv_numDigits L H a0 = some r) :
    CallS Tryd.prog (NE.plain 1000) m 107 #[(Value.int .u64 a0)] H (strconv_numDigits_enc r) (strconv_numDigits_hp H r) := by
  refine CallS.mk (args := [(Value.int .u64 a0)]) Tryd.func107 (B := B107) (by kernel_rfl) (fun E _ => ?_)
  unfold strconv_numDigits at h
  refine WS.sq (WS.rg (RS.mS 1 [(2, .val (Value.int .i64 0))] (RS.dn (WS.nxt (WS.sq (WS.rg (RS.mS 1 [(4, .val (Value.int .u64 a0))] ?_)))))))
  obtain ⟨x1, hx, h⟩ := bind_some h
  refine RS.cl (some 5) (v := (Value.int .i64 x1)) 113 #[(Value.int .u64 a0)] (bits_Len64_ok hx) ?_
  obtain ⟨x2, hx, h⟩ := bind_some h
  refine RS.cl (some 6) (v := (Value.int .i64 x2)) 112 #[(Value.int .i64 x1)] (strconv_log10Pow2_ok hx) (RS.mS 1 [(3, .val (Value.int .i64 x2))] (RS.dn (WS.nxt (WS.sq (WS.rg (RS.mS 3 [(9, .val (Value.int .i64 x2)), (8, .val (Value.int .u64 a0)), (7, .val (Value.int .i64 x2))] ?_))))))
  obtain ⟨p3, hx, h⟩ := bind_some h
  refine RS.o (H' := H) (some 10) (Value.pointer (some p3)) (Abs.run_idxR (a := (⟨3, 0, none⟩ : Addr)) (k := .i64) (t := 159) (e := 141) (x := .global 3) (y := .tmp 9) (by kernel_rfl) (by kernel_rfl) (by kernel_rfl) (by kernel_rfl) (by kernel_rfl) hx) ?_
  obtain ⟨x4, hx, h⟩ := bind_some h
  refine RS.o (H' := H) (some 11) (Value.int .u64 x4) (Abs.run_load (t := 141) (x := .tmp 10) (a := p3) (by kernel_rfl) (by kernel_rfl) (by kernel_rfl) (rd_cell hx deI_inv)) (RS.mS 1 [(12, .val (Value.bool (decide (a0 ≥ x4))))] ?_)
  obtain ⟨x5, hx, h⟩ := bind_some h
  refine RS.cl (some 13) (v := (Value.int .i64 x5)) 114 #[(Value.bool (decide (a0 ≥ x4)))] (strconv_bool2_ok hx) (RS.mS 2 [(2, .val (Value.int .i64 (IntKind.i64.wrap (x2 + x5)))), (14, .val (Value.int .i64 (IntKind.i64.wrap (x2 + x5))))] (RS.dn (WS.nxt (WS.rt ?_))))
  cases h
  exact fun a w hs => rtR (rS hs)

end Go.Proofs.YtccbilfbhecdaaaDoor.Aw


namespace Go.Proofs.YtccbilfbhecdaaaDoor.Aw
open Go Go.Abs
set_option maxRecDepth 100000

def strconv_formatBase10_enc : AH → Value
  | _ => (Value.tuple #[])

def strconv_formatBase10_hp (_ : AH) : AH → AH := fun r => r

noncomputable def B108 : Code := (Tryd.f108.body).getD .skip

noncomputable def strconv_formatBase10_b0 (_L : LC) (_a0 : Sl3) : (AH × Int × Int) → Option (Lp (AH × Int × Int) AH) := fun (H1, v1_2, v4_3) =>
  if v4_3 ≥ 8 then
    none
  else
    some (.brk (H1, v1_2, v4_3))

def strconv_formatBase10_b0_kn (_L : LC) (a0 : Sl3) : (AH × Int × Int) → KN := fun (_, v1_2, v4_3) => [(1, .val (Value.int .u64 v1_2)), (4, .val (Value.int .i64 v4_3)), (0, .val (Sl3.v a0))]

def strconv_formatBase10_b0_ls (_L : LC) (_a0 : Sl3) : (AH × Int × Int) → Lcs := fun (_, _, _) => []

noncomputable def strconv_formatBase10 (L : LC) (m : Nat) (H : AH) (a0 : Sl3) (a1 : Int) : Option AH :=
  Option.bind (L.run (strconv_formatBase10_b0 L a0) (H, a1, (a0.n : Int))) fun o => match o with
  | .inl (H4, v1_5, v4_6) =>
    Option.bind (α := (AH × Int × Int)) (
      if v4_6 ≥ 4 then
        Option.bind (bytA (⟨#[48, 48, 48, 49, 48, 50, 48, 51, 48, 52, 48, 53, 48, 54, 48, 55, 48, 56, 48, 57, 49, 48, 49, 49, 49, 50, 49, 51, 49, 52, 49, 53, 49, 54, 49, 55, 49, 56, 49, 57, 50, 48, 50, 49, 50, 50, 50, 51, 50, 52, 50, 53, 50, 54, 50, 55, 50, 56, 50, 57, 51, 48, 51, 49, 51, 50, 51, 51, 51, 52, 51, 53, 51, 54, 51, 55, 51, 56, 51, 57, 52, 48, 52, 49, 52, 50, 52, 51, 52, 52, 52, 53, 52, 54, 52, 55, 52, 56, 52, 57, 53, 48, 53, 49, 53, 50, 53, 51, 53, 52, 53, 53, 53, 54, 53, 55, 53, 56, 53, 57, 54, 48, 54, 49, 54, 50, 54, 51, 54, 52, 54, 53, 54, 54, 54, 55, 54, 56, 54, 57, 55, 48, 55, 49, 55, 50, 55, 51, 55, 52, 55, 53, 55, 54, 55, 55, 55, 56, 55, 57, 56, 48, 56, 49, 56, 50, 56, 51, 56, 52, 56, 53, 56, 54, 56, 55, 56, 56, 56, 57, 57, 48, 57, 49, 57, 50, 57, 51, 57, 52, 57, 53, 57, 54, 57, 55, 57, 56, 57, 57]⟩ : ByteArray) (IntKind.u32.wrap ((IntKind.u32.wrap ((Int.tmod (Int.tmod (IntKind.u32.wrap v1_5) 10000) 100) * 2)) + 1))) fun x10 =>
        Option.bind (bytA (⟨#[48, 48, 48, 49, 48, 50, 48, 51, 48, 52, 48, 53, 48, 54, 48, 55, 48, 56, 48, 57, 49, 48, 49, 49, 49, 50, 49, 51, 49, 52, 49, 53, 49, 54, 49, 55, 49, 56, 49, 57, 50, 48, 50, 49, 50, 50, 50, 51, 50, 52, 50, 53, 50, 54, 50, 55, 50, 56, 50, 57, 51, 48, 51, 49, 51, 50, 51, 51, 51, 52, 51, 53, 51, 54, 51, 55, 51, 56, 51, 57, 52, 48, 52, 49, 52, 50, 52, 51, 52, 52, 52, 53, 52, 54, 52, 55, 52, 56, 52, 57, 53, 48, 53, 49, 53, 50, 53, 51, 53, 52, 53, 53, 53, 54, 53, 55, 53, 56, 53, 57, 54, 48, 54, 49, 54, 50, 54, 51, 54, 52, 54, 53, 54, 54, 54, 55, 54, 56, 54, 57, 55, 48, 55, 49, 55, 50, 55, 51, 55, 52, 55, 53, 55, 54, 55, 55, 55, 56, 55, 57, 56, 48, 56, 49, 56, 50, 56, 51, 56, 52, 56, 53, 56, 54, 56, 55, 56, 56, 56, 57, 57, 48, 57, 49, 57, 50, 57, 51, 57, 52, 57, 53, 57, 54, 57, 55, 57, 56, 57, 57]⟩ : ByteArray) (IntKind.u32.wrap ((Int.tmod (Int.tmod (IntKind.u32.wrap v1_5) 10000) 100) * 2))) fun x11 =>
        Option.bind (idxA 1 a0 (IntKind.i64.wrap (v4_6 - 1))) fun p12 =>
        Option.bind (H4.setCell m p12 (Value.int .u8 x10)) fun H13 =>
        Option.bind (idxA 1 a0 (IntKind.i64.wrap (v4_6 - 2))) fun p14 =>
        Option.bind (H13.setCell m p14 (Value.int .u8 x11)) fun H15 =>
        Option.bind (bytA (⟨#[48, 48, 48, 49, 48, 50, 48, 51, 48, 52, 48, 53, 48, 54, 48, 55, 48, 56, 48, 57, 49, 48, 49, 49, 49, 50, 49, 51, 49, 52, 49, 53, 49, 54, 49, 55, 49, 56, 49, 57, 50, 48, 50, 49, 50, 50, 50, 51, 50, 52, 50, 53, 50, 54, 50, 55, 50, 56, 50, 57, 51, 48, 51, 49, 51, 50, 51, 51, 51, 52, 51, 53, 51, 54, 51, 55, 51, 56, 51, 57, 52, 48, 52, 49, 52, 50, 52, 51, 52, 52, 52, 53, 52, 54, 52, 55, 52, 56, 52, 57, 53, 48, 53, 49, 53, 50, 53, 51, 53, 52, 53, 53, 53, 54, 53, 55, 53, 56, 53, 57, 54, 48, 54, 49, 54, 50, 54, 51, 54, 52, 54, 53, 54, 54, 54, 55, 54, 56, 54, 57, 55, 48, 55, 49, 55, 50, 55, 51, 55, 52, 55, 53, 55, 54, 55, 55, 55, 56, 55, 57, 56, 48, 56, 49, 56, 50, 56, 51, 56, 52, 56, 53, 56, 54, 56, 55, 56, 56, 56, 57, 57, 48, 57, 49, 57, 50, 57, 51, 57, 52, 57, 53, 57, 54, 57, 55, 57, 56, 57, 57]⟩ : ByteArray) (IntKind.u32.wrap ((IntKind.u32.wrap ((IntKind.u32.wrap (Int.tdiv (Int.tmod (IntKind.u32.wrap v1_5) 10000) 100)) * 2)) + 1))) fun x16 =>
        Option.bind (bytA (⟨#[48, 48, 48, 49, 48, 50, 48, 51, 48, 52, 48, 53, 48, 54, 48, 55, 48, 56, 48, 57, 49, 48, 49, 49, 49, 50, 49, 51, 49, 52, 49, 53, 49, 54, 49, 55, 49, 56, 49, 57, 50, 48, 50, 49, 50, 50, 50, 51, 50, 52, 50, 53, 50, 54, 50, 55, 50, 56, 50, 57, 51, 48, 51, 49, 51, 50, 51, 51, 51, 52, 51, 53, 51, 54, 51, 55, 51, 56, 51, 57, 52, 48, 52, 49, 52, 50, 52, 51, 52, 52, 52, 53, 52, 54, 52, 55, 52, 56, 52, 57, 53, 48, 53, 49, 53, 50, 53, 51, 53, 52, 53, 53, 53, 54, 53, 55, 53, 56, 53, 57, 54, 48, 54, 49, 54, 50, 54, 51, 54, 52, 54, 53, 54, 54, 54, 55, 54, 56, 54, 57, 55, 48, 55, 49, 55, 50, 55, 51, 55, 52, 55, 53, 55, 54, 55, 55, 55, 56, 55, 57, 56, 48, 56, 49, 56, 50, 56, 51, 56, 52, 56, 53, 56, 54, 56, 55, 56, 56, 56, 57, 57, 48, 57, 49, 57, 50, 57, 51, 57, 52, 57, 53, 57, 54, 57, 55, 57, 56, 57, 57]⟩ : ByteArray) (IntKind.u32.wrap ((IntKind.u32.wrap (Int.tdiv (Int.tmod (IntKind.u32.wrap v1_5) 10000) 100)) * 2))) fun x17 =>
        Option.bind (idxA 1 a0 (IntKind.i64.wrap (v4_6 - 3))) fun p18 =>
        Option.bind (H15.setCell m p18 (Value.int .u8 x16)) fun H19 =>
        Option.bind (idxA 1 a0 (IntKind.i64.wrap (v4_6 - 4))) fun p20 =>
        Option.bind (H19.setCell m p20 (Value.int .u8 x17)) fun H21 =>
        some (H21, (IntKind.i64.wrap (v4_6 - 4)), (IntKind.u32.wrap (Int.tdiv (IntKind.u32.wrap v1_5) 10000)))
      else
        some (H4, v4_6, (IntKind.u32.wrap v1_5))) fun (H7, v4_8, v12_9) =>
    Option.bind (α := (AH × Int × Int)) (
      if v4_8 ≥ 2 then
        Option.bind (bytA (⟨#[48, 48, 48, 49, 48, 50, 48, 51, 48, 52, 48, 53, 48, 54, 48, 55, 48, 56, 48, 57, 49, 48, 49, 49, 49, 50, 49, 51, 49, 52, 49, 53, 49, 54, 49, 55, 49, 56, 49, 57, 50, 48, 50, 49, 50, 50, 50, 51, 50, 52, 50, 53, 50, 54, 50, 55, 50, 56, 50, 57, 51, 48, 51, 49, 51, 50, 51, 51, 51, 52, 51, 53, 51, 54, 51, 55, 51, 56, 51, 57, 52, 48, 52, 49, 52, 50, 52, 51, 52, 52, 52, 53, 52, 54, 52, 55, 52, 56, 52, 57, 53, 48, 53, 49, 53, 50, 53, 51, 53, 52, 53, 53, 53, 54, 53, 55, 53, 56, 53, 57, 54, 48, 54, 49, 54, 50, 54, 51, 54, 52, 54, 53, 54, 54, 54, 55, 54, 56, 54, 57, 55, 48, 55, 49, 55, 50, 55, 51, 55, 52, 55, 53, 55, 54, 55, 55, 55, 56, 55, 57, 56, 48, 56, 49, 56, 50, 56, 51, 56, 52, 56, 53, 56, 54, 56, 55, 56, 56, 56, 57, 57, 48, 57, 49, 57, 50, 57, 51, 57, 52, 57, 53, 57, 54, 57, 55, 57, 56, 57, 57]⟩ : ByteArray) (IntKind.u32.wrap ((IntKind.u32.wrap ((Int.tmod v12_9 100) * 2)) + 1))) fun x25 =>
        Option.bind (bytA (⟨#[48, 48, 48, 49, 48, 50, 48, 51, 48, 52, 48, 53, 48, 54, 48, 55, 48, 56, 48, 57, 49, 48, 49, 49, 49, 50, 49, 51, 49, 52, 49, 53, 49, 54, 49, 55, 49, 56, 49, 57, 50, 48, 50, 49, 50, 50, 50, 51, 50, 52, 50, 53, 50, 54, 50, 55, 50, 56, 50, 57, 51, 48, 51, 49, 51, 50, 51, 51, 51, 52, 51, 53, 51, 54, 51, 55, 51, 56, 51, 57, 52, 48, 52, 49, 52, 50, 52, 51, 52, 52, 52, 53, 52, 54, 52, 55, 52, 56, 52, 57, 53, 48, 53, 49, 53, 50, 53, 51, 53, 52, 53, 53, 53, 54, 53, 55, 53, 56, 53, 57, 54, 48, 54, 49, 54, 50, 54, 51, 54, 52, 54, 53, 54, 54, 54, 55, 54, 56, 54, 57, 55, 48, 55, 49, 55, 50, 55, 51, 55, 52, 55, 53, 55, 54, 55, 55, 55, 56, 55, 57, 56, 48, 56, 49, 56, 50, 56, 51, 56, 52, 56, 53, 56, 54, 56, 55, 56, 56, 56, 57, 57, 48, 57, 49, 57, 50, 57, 51, 57, 52, 57, 53, 57, 54, 57, 55, 57, 56, 57, 57]⟩ : ByteArray) (IntKind.u32.wrap ((Int.tmod v12_9 100) * 2))) fun x26 =>
        Option.bind (idxA 1 a0 (IntKind.i64.wrap (v4_8 - 1))) fun p27 =>
        Option.bind (H7.setCell m p27 (Value.int .u8 x25)) fun H28 =>
        Option.bind (idxA 1 a0 (IntKind.i64.wrap (v4_8 - 2))) fun p29 =>
        Option.bind (H28.setCell m p29 (Value.int .u8 x26)) fun H30 =>
        some (H30, (IntKind.i64.wrap (v4_8 - 2)), (IntKind.u32.wrap (Int.tdiv v12_9 100)))
      else
        some (H7, v4_8, v12_9)) fun (H22, v4_23, v12_24) =>
    if v4_23 > 0 then
      Option.bind (idxA 1 a0 0) fun p31 =>
      Option.bind (H22.setCell m p31 (Value.int .u8 (IntKind.u8.wrap (IntKind.u32.wrap (48 + v12_24))))) fun H32 =>
      some H32
    else
      some H22
  | .inr r => some r

theorem strconv_formatBase10_b0_ok {E : Ent} {m : Nat} {H : AH} {L : LC} {a0 : Sl3}  : ∀ s o, strconv_formatBase10_b0 L a0 s = some o →
    WS Tryd.prog (NE.plain 1000) m E Tryd.f108.ntmps (cfst (cfst (cfst (csnd B108)))) (strconv_formatBase10_b0_kn L a0 s) (strconv_formatBase10_b0_ls L a0 s) ((fun s => s.1) s) (lpS Tryd.prog (NE.plain 1000) m E Tryd.f108.ntmps (strconv_formatBase10_b0_kn L a0) (strconv_formatBase10_b0_ls L a0) (fun s => s.1) 0 (fun r => RT Tryd.prog (NE.plain 1000) m E Tryd.f108 (strconv_formatBase10_enc r) (strconv_formatBase10_hp H r)) o) := by
  rintro ⟨H1, v1_2, v4_3⟩ o h
  unfold strconv_formatBase10_b0 at h
  try dsimp only at h
  refine WS.sq (WS.sq (WS.rg (RS.mS 2 [(20, .val (Value.bool (decide (v4_3 ≥ 8)))), (19, .val (Value.int .i64 v4_3))] (RS.dn (WS.nxt ?_)))))
  rcases ite_some h with ⟨hp, h⟩ | ⟨hp, h⟩
  · refine WS.fx 20 true (decide_eq_true hp) (WS.cT ?_)
    cases h
  · refine WS.fx 20 false (decide_eq_false hp) (WS.cF (WS.ex 0 ?_))
    cases h
    exact fun a w hs => sqE (lsB rfl (hs.sb 0))

theorem strconv_formatBase10_ok {L : LC} {m : Nat} {H : AH} {a0 : Sl3} {a1 : Int} {r : AH} (h : strconv_formatBase10 L m H a0 a1 = some r) :
    CallS Tryd.prog (NE.plain 1000) m 108 #[(Sl3.v a0), (Value.int .u64 a1)] H (strconv_formatBase10_enc r) (strconv_formatBase10_hp H r) := by
  refine CallS.mk (args := [(Sl3.v a0), (Value.int .u64 a1)]) Tryd.func108 (B := B108) (by kernel_rfl) (fun E _ => ?_)
  unfold strconv_formatBase10 at h
  refine WS.sq (WS.rg (RS.mS 3 [(4, .val (Value.int .i64 (a0.n : Int))), (18, .val (Value.int .i64 (a0.n : Int))), (17, .val (Sl3.v a0))] (RS.dn (WS.nxt (WS.sq (WS.bk 0 ?_))))))
  obtain ⟨o, hl, h⟩ := bind_some h
  rcases o with ⟨H4, v1_5, v4_6⟩ | r
  · try dsimp only at h
    refine WS.lI (strconv_formatBase10_b0_ok (L := L) (E := E) (m := m) (H := H)) (L.ok hl) 0 ?_
    clear hl
    refine fun a w hs => bkE ((WS.nxt ?_ a w hs))
    refine WS.sq (WS.rg (RS.mS 3 [(12, .val (Value.int .u32 (IntKind.u32.wrap v1_5))), (97, .val (Value.int .u32 (IntKind.u32.wrap v1_5))), (96, .val (Value.int .u64 v1_5))] (RS.dn (WS.nxt ?_))))
    obtain ⟨⟨H7, v4_8, v12_9⟩, hx, h⟩ := bind_some h
    try dsimp only at h
    refine WS.sq ?_
    refine WS.join ([(4, .val (Value.int .i64 v4_8)), (12, .val (Value.int .u32 v12_9)), (0, .val (Sl3.v a0))]) ([]) H7 ?_ (fun a w hs => WS.nxt ?_ a w hs)
    · clear h; rename _ => h
      refine WS.sq (WS.rg (RS.mS 2 [(99, .val (Value.bool (decide (v4_6 ≥ 4)))), (98, .val (Value.int .i64 v4_6))] (RS.dn (WS.nxt ?_))))
      rcases ite_some h with ⟨hp, h⟩ | ⟨hp, h⟩
      · refine WS.fx 99 true (decide_eq_true hp) (WS.cT (WS.sq (WS.rg (RS.mS 3 [(13, .val (Value.int .u32 (Int.tmod (IntKind.u32.wrap v1_5) 10000))), (101, .val (Value.int .u32 (Int.tmod (IntKind.u32.wrap v1_5) 10000))), (100, .val (Value.int .u32 (IntKind.u32.wrap v1_5)))] (RS.dn (WS.nxt (WS.sq (WS.rg (RS.mS 3 [(12, .val (Value.int .u32 (IntKind.u32.wrap (Int.tdiv (IntKind.u32.wrap v1_5) 10000)))), (103, .val (Value.int .u32 (IntKind.u32.wrap (Int.tdiv (IntKind.u32.wrap v1_5) 10000)))), (102, .val (Value.int .u32 (IntKind.u32.wrap v1_5)))] ?_)))))))))
        refine RS.dn (WS.nxt (WS.sq (WS.rg (RS.mS 8 [(15, .val (Value.int .u32 (IntKind.u32.wrap ((Int.tmod (Int.tmod (IntKind.u32.wrap v1_5) 10000) 100) * 2)))), (14, .val (Value.int .u32 (IntKind.u32.wrap ((IntKind.u32.wrap (Int.tdiv (Int.tmod (IntKind.u32.wrap v1_5) 10000) 100)) * 2)))), (109, .val (Value.int .u32 (IntKind.u32.wrap ((Int.tmod (Int.tmod (IntKind.u32.wrap v1_5) 10000) 100) * 2)))), (108, .val (Value.int .u32 (Int.tmod (Int.tmod (IntKind.u32.wrap v1_5) 10000) 100))), (107, .val (Value.int .u32 (Int.tmod (IntKind.u32.wrap v1_5) 10000))), (106, .val (Value.int .u32 (IntKind.u32.wrap ((IntKind.u32.wrap (Int.tdiv (Int.tmod (IntKind.u32.wrap v1_5) 10000) 100)) * 2)))), (105, .val (Value.int .u32 (IntKind.u32.wrap (Int.tdiv (Int.tmod (IntKind.u32.wrap v1_5) 10000) 100)))), (104, .val (Value.int .u32 (Int.tmod (IntKind.u32.wrap v1_5) 10000)))] (RS.dn (WS.nxt (WS.sq ?_)))))))
        refine WS.dr [] [0, 0, 2, 0, 0, 16, 0, 64, 192, 0, 512, 455, 2503, 8191, 16383] 15 (fun hcl => ?_)
        refine DA.tP 0 (some 110) (Sl3.v a0) (DA.tP 1 (some 111) (Value.int .i64 v4_6) (DA.tP 2 (some 112) (Value.int .i64 (IntKind.i64.wrap (v4_6 - 1))) (DA.tP 3 (some 113) (Sl3.v a0) (DA.tP 4 (some 114) (Value.int .i64 v4_6) (DA.tP 5 (some 115) (Value.int .i64 (IntKind.i64.wrap (v4_6 - 2))) (DA.tP 6 (some 116) (Value.int .u32 (IntKind.u32.wrap ((Int.tmod (Int.tmod (IntKind.u32.wrap v1_5) 10000) 100) * 2))) (DA.tP 7 (some 117) (Value.int .u32 (IntKind.u32.wrap ((IntKind.u32.wrap ((Int.tmod (Int.tmod (IntKind.u32.wrap v1_5) 10000) 100) * 2)) + 1))) ?_)))))))
        obtain ⟨x10, hx, h⟩ := bind_some h
        refine DA.tPx 8 (some 118) (Value.int .u8 x10) (Abs.det_byt (t := 9) (x := .const (Value.string (⟨#[48, 48, 48, 49, 48, 50, 48, 51, 48, 52, 48, 53, 48, 54, 48, 55, 48, 56, 48, 57, 49, 48, 49, 49, 49, 50, 49, 51, 49, 52, 49, 53, 49, 54, 49, 55, 49, 56, 49, 57, 50, 48, 50, 49, 50, 50, 50, 51, 50, 52, 50, 53, 50, 54, 50, 55, 50, 56, 50, 57, 51, 48, 51, 49, 51, 50, 51, 51, 51, 52, 51, 53, 51, 54, 51, 55, 51, 56, 51, 57, 52, 48, 52, 49, 52, 50, 52, 51, 52, 52, 52, 53, 52, 54, 52, 55, 52, 56, 52, 57, 53, 48, 53, 49, 53, 50, 53, 51, 53, 52, 53, 53, 53, 54, 53, 55, 53, 56, 53, 57, 54, 48, 54, 49, 54, 50, 54, 51, 54, 52, 54, 53, 54, 54, 54, 55, 54, 56, 54, 57, 55, 48, 55, 49, 55, 50, 55, 51, 55, 52, 55, 53, 55, 54, 55, 55, 55, 56, 55, 57, 56, 48, 56, 49, 56, 50, 56, 51, 56, 52, 56, 53, 56, 54, 56, 55, 56, 56, 56, 57, 57, 48, 57, 49, 57, 50, 57, 51, 57, 52, 57, 53, 57, 54, 57, 55, 57, 56, 57, 57]⟩ : ByteArray))) (y := .tmp 117) (s := (⟨#[48, 48, 48, 49, 48, 50, 48, 51, 48, 52, 48, 53, 48, 54, 48, 55, 48, 56, 48, 57, 49, 48, 49, 49, 49, 50, 49, 51, 49, 52, 49, 53, 49, 54, 49, 55, 49, 56, 49, 57, 50, 48, 50, 49, 50, 50, 50, 51, 50, 52, 50, 53, 50, 54, 50, 55, 50, 56, 50, 57, 51, 48, 51, 49, 51, 50, 51, 51, 51, 52, 51, 53, 51, 54, 51, 55, 51, 56, 51, 57, 52, 48, 52, 49, 52, 50, 52, 51, 52, 52, 52, 53, 52, 54, 52, 55, 52, 56, 52, 57, 53, 48, 53, 49, 53, 50, 53, 51, 53, 52, 53, 53, 53, 54, 53, 55, 53, 56, 53, 57, 54, 48, 54, 49, 54, 50, 54, 51, 54, 52, 54, 53, 54, 54, 54, 55, 54, 56, 54, 57, 55, 48, 55, 49, 55, 50, 55, 51, 55, 52, 55, 53, 55, 54, 55, 55, 55, 56, 55, 57, 56, 48, 56, 49, 56, 50, 56, 51, 56, 52, 56, 53, 56, 54, 56, 55, 56, 56, 56, 57, 57, 48, 57, 49, 57, 50, 57, 51, 57, 52, 57, 53, 57, 54, 57, 55, 57, 56, 57, 57]⟩ : ByteArray)) (k := .u32) (i := (IntKind.u32.wrap ((IntKind.u32.wrap ((Int.tmod (Int.tmod (IntKind.u32.wrap v1_5) 10000) 100) * 2)) + 1))) (by kernel_rfl) (by kernel_rfl) (by kernel_rfl) (by kernel_rfl) hx) (DA.tP 9 (some 119) (Value.int .u32 (IntKind.u32.wrap ((Int.tmod (Int.tmod (IntKind.u32.wrap v1_5) 10000) 100) * 2))) ?_)
        obtain ⟨x11, hx, h⟩ := bind_some h
        refine DA.tPx 10 (some 120) (Value.int .u8 x11) (Abs.det_byt (t := 9) (x := .const (Value.string (⟨#[48, 48, 48, 49, 48, 50, 48, 51, 48, 52, 48, 53, 48, 54, 48, 55, 48, 56, 48, 57, 49, 48, 49, 49, 49, 50, 49, 51, 49, 52, 49, 53, 49, 54, 49, 55, 49, 56, 49, 57, 50, 48, 50, 49, 50, 50, 50, 51, 50, 52, 50, 53, 50, 54, 50, 55, 50, 56, 50, 57, 51, 48, 51, 49, 51, 50, 51, 51, 51, 52, 51, 53, 51, 54, 51, 55, 51, 56, 51, 57, 52, 48, 52, 49, 52, 50, 52, 51, 52, 52, 52, 53, 52, 54, 52, 55, 52, 56, 52, 57, 53, 48, 53, 49, 53, 50, 53, 51, 53, 52, 53, 53, 53, 54, 53, 55, 53, 56, 53, 57, 54, 48, 54, 49, 54, 50, 54, 51, 54, 52, 54, 53, 54, 54, 54, 55, 54, 56, 54, 57, 55, 48, 55, 49, 55, 50, 55, 51, 55, 52, 55, 53, 55, 54, 55, 55, 55, 56, 55, 57, 56, 48, 56, 49, 56, 50, 56, 51, 56, 52, 56, 53, 56, 54, 56, 55, 56, 56, 56, 57, 57, 48, 57, 49, 57, 50, 57, 51, 57, 52, 57, 53, 57, 54, 57, 55, 57, 56, 57, 57]⟩ : ByteArray))) (y := .tmp 119) (s := (⟨#[48, 48, 48, 49, 48, 50, 48, 51, 48, 52, 48, 53, 48, 54, 48, 55, 48, 56, 48, 57, 49, 48, 49, 49, 49, 50, 49, 51, 49, 52, 49, 53, 49, 54, 49, 55, 49, 56, 49, 57, 50, 48, 50, 49, 50, 50, 50, 51, 50, 52, 50, 53, 50, 54, 50, 55, 50, 56, 50, 57, 51, 48, 51, 49, 51, 50, 51, 51, 51, 52, 51, 53, 51, 54, 51, 55, 51, 56, 51, 57, 52, 48, 52, 49, 52, 50, 52, 51, 52, 52, 52, 53, 52, 54, 52, 55, 52, 56, 52, 57, 53, 48, 53, 49, 53, 50, 53, 51, 53, 52, 53, 53, 53, 54, 53, 55, 53, 56, 53, 57, 54, 48, 54, 49, 54, 50, 54, 51, 54, 52, 54, 53, 54, 54, 54, 55, 54, 56, 54, 57, 55, 48, 55, 49, 55, 50, 55, 51, 55, 52, 55, 53, 55, 54, 55, 55, 55, 56, 55, 57, 56, 48, 56, 49, 56, 50, 56, 51, 56, 52, 56, 53, 56, 54, 56, 55, 56, 56, 56, 57, 57, 48, 57, 49, 57, 50, 57, 51, 57, 52, 57, 53, 57, 54, 57, 55, 57, 56, 57, 57]⟩ : ByteArray)) (k := .u32) (i := (IntKind.u32.wrap ((Int.tmod (Int.tmod (IntKind.u32.wrap v1_5) 10000) 100) * 2))) (by kernel_rfl) (by kernel_rfl) (by kernel_rfl) (by kernel_rfl) hx) ?_
        obtain ⟨p12, hx, h⟩ := bind_some h
        refine DA.tPx 11 (some 121) (Value.pointer (some p12)) (Abs.det_idx (s := a0) (k := .i64) (t := 144) (e := 5) (x := .tmp 110) (y := .tmp 112) (by kernel_rfl) (by kernel_rfl) (by kernel_rfl) (by kernel_rfl) (by kernel_rfl) hx) ?_
        obtain ⟨H13, hx, h⟩ := bind_some h
        refine DA.on 12 (DA.aH (H' := H13) 12 none undef (Abs.run_store1 (t := 5) (x := .tmp 121) (y := .tmp 118) (a := p12) (v := (Value.int .u8 x10)) (by kernel_rfl) (by kernel_rfl) (by kernel_rfl) (by kernel_rfl) (by kernel_rfl) hx) ?_)
        obtain ⟨p14, hx, h⟩ := bind_some h
        refine DA.tPx 13 (some 122) (Value.pointer (some p14)) (Abs.det_idx (s := a0) (k := .i64) (t := 144) (e := 5) (x := .tmp 113) (y := .tmp 115) (by kernel_rfl) (by kernel_rfl) (by kernel_rfl) (by kernel_rfl) (by kernel_rfl) hx) ?_
        obtain ⟨H15, hx, h⟩ := bind_some h
        refine DA.on 14 (DA.aH (H' := H15) 14 none undef (Abs.run_store1 (t := 5) (x := .tmp 122) (y := .tmp 120) (a := p14) (v := (Value.int .u8 x11)) (by kernel_rfl) (by kernel_rfl) (by kernel_rfl) (by kernel_rfl) (by kernel_rfl) hx) (DA.dn (WS.nxt (WS.sq ?_))))
        refine WS.dr [] [0, 0, 2, 0, 0, 16, 0, 64, 192, 0, 512, 455, 2503, 8191, 16383] 15 (fun hcl => ?_)
        refine DA.tP 0 (some 123) (Sl3.v a0) (DA.tP 1 (some 124) (Value.int .i64 v4_6) (DA.tP 2 (some 125) (Value.int .i64 (IntKind.i64.wrap (v4_6 - 3))) (DA.tP 3 (some 126) (Sl3.v a0) (DA.tP 4 (some 127) (Value.int .i64 v4_6) (DA.tP 5 (some 128) (Value.int .i64 (IntKind.i64.wrap (v4_6 - 4))) (DA.tP 6 (some 129) (Value.int .u32 (IntKind.u32.wrap ((IntKind.u32.wrap (Int.tdiv (Int.tmod (IntKind.u32.wrap v1_5) 10000) 100)) * 2))) (DA.tP 7 (some 130) (Value.int .u32 (IntKind.u32.wrap ((IntKind.u32.wrap ((IntKind.u32.wrap (Int.tdiv (Int.tmod (IntKind.u32.wrap v1_5) 10000) 100)) * 2)) + 1))) ?_)))))))
        obtain ⟨x16, hx, h⟩ := bind_some h
        refine DA.tPx 8 (some 131) (Value.int .u8 x16) (Abs.det_byt (t := 9) (x := .const (Value.string (⟨#[48, 48, 48, 49, 48, 50, 48, 51, 48, 52, 48, 53, 48, 54, 48, 55, 48, 56, 48, 57, 49, 48, 49, 49, 49, 50, 49, 51, 49, 52, 49, 53, 49, 54, 49, 55, 49, 56, 49, 57, 50, 48, 50, 49, 50, 50, 50, 51, 50, 52, 50, 53, 50, 54, 50, 55, 50, 56, 50, 57, 51, 48, 51, 49, 51, 50, 51, 51, 51, 52, 51, 53, 51, 54, 51, 55, 51, 56, 51, 57, 52, 48, 52, 49, 52, 50, 52, 51, 52, 52, 52, 53, 52, 54, 52, 55, 52, 56, 52, 57, 53, 48, 53, 49, 53, 50, 53, 51, 53, 52, 53, 53, 53, 54, 53, 55, 53, 56, 53, 57, 54, 48, 54, 49, 54, 50, 54, 51, 54, 52, 54, 53, 54, 54, 54, 55, 54, 56, 54, 57, 55, 48, 55, 49, 55, 50, 55, 51, 55, 52, 55, 53, 55, 54, 55, 55, 55, 56, 55, 57, 56, 48, 56, 49, 56, 50, 56, 51, 56, 52, 56, 53, 56, 54, 56, 55, 56, 56, 56, 57, 57, 48, 57, 49, 57, 50, 57, 51, 57, 52, 57, 53, 57, 54, 57, 55, 57, 56, 57, 57]⟩ : ByteArray))) (y := .tmp 130) (s := (⟨#[48, 48, 48, 49, 48, 50, 48, 51, 48, 52, 48, 53, 48, 54, 48, 55, 48, 56, 48, 57, 49, 48, 49, 49, 49, 50, 49, 51, 49, 52, 49, 53, 49, 54, 49, 55, 49, 56, 49, 57, 50, 48, 50, 49, 50, 50, 50, 51, 50, 52, 50, 53, 50, 54, 50, 55, 50, 56, 50, 57, 51, 48, 51, 49, 51, 50, 51, 51, 51, 52, 51, 53, 51, 54, 51, 55, 51, 56, 51, 57, 52, 48, 52, 49, 52, 50, 52, 51, 52, 52, 52, 53, 52, 54, 52, 55, 52, 56, 52, 57, 53, 48, 53, 49, 53, 50, 53, 51, 53, 52, 53, 53, 53, 54, 53, 55, 53, 56, 53, 57, 54, 48, 54, 49, 54, 50, 54, 51, 54, 52, 54, 53, 54, 54, 54, 55, 54, 56, 54, 57, 55, 48, 55, 49, 55, 50, 55, 51, 55, 52, 55, 53, 55, 54, 55, 55, 55, 56, 55, 57, 56, 48, 56, 49, 56, 50, 56, 51, 56, 52, 56, 53, 56, 54, 56, 55, 56, 56, 56, 57, 57, 48, 57, 49, 57, 50, 57, 51, 57, 52, 57, 53, 57, 54, 57, 55, 57, 56, 57, 57]⟩ : ByteArray)) (k := .u32) (i := (IntKind.u32.wrap ((IntKind.u32.wrap ((IntKind.u32.wrap (Int.tdiv (Int.tmod (IntKind.u32.wrap v1_5) 10000) 100)) * 2)) + 1))) (by kernel_rfl) (by kernel_rfl) (by kernel_rfl) (by kernel_rfl) hx) (DA.tP 9 (some 132) (Value.int .u32 (IntKind.u32.wrap ((IntKind.u32.wrap (Int.tdiv (Int.tmod (IntKind.u32.wrap v1_5) 10000) 100)) * 2))) ?_)
        obtain ⟨x17, hx, h⟩ := bind_some h
        refine DA.tPx 10 (some 133) (Value.int .u8 x17) (Abs.det_byt (t := 9) (x := .const (Value.string (⟨#[48, 48, 48, 49, 48, 50, 48, 51, 48, 52, 48, 53, 48, 54, 48, 55, 48, 56, 48, 57, 49, 48, 49, 49, 49, 50, 49, 51, 49, 52, 49, 53, 49, 54, 49, 55, 49, 56, 49, 57, 50, 48, 50, 49, 50, 50, 50, 51, 50, 52, 50, 53, 50, 54, 50, 55, 50, 56, 50, 57, 51, 48, 51, 49, 51, 50, 51, 51, 51, 52, 51, 53, 51, 54, 51, 55, 51, 56, 51, 57, 52, 48, 52, 49, 52, 50, 52, 51, 52, 52, 52, 53, 52, 54, 52, 55, 52, 56, 52, 57, 53, 48, 53, 49, 53, 50, 53, 51, 53, 52, 53, 53, 53, 54, 53, 55, 53, 56, 53, 57, 54, 48, 54, 49, 54, 50, 54, 51, 54, 52, 54, 53, 54, 54, 54, 55, 54, 56, 54, 57, 55, 48, 55, 49, 55, 50, 55, 51, 55, 52, 55, 53, 55, 54, 55, 55, 55, 56, 55, 57, 56, 48, 56, 49, 56, 50, 56, 51, 56, 52, 56, 53, 56, 54, 56, 55, 56, 56, 56, 57, 57, 48, 57, 49, 57, 50, 57, 51, 57, 52, 57, 53, 57, 54, 57, 55, 57, 56, 57, 57]⟩ : ByteArray))) (y := .tmp 132) (s := (⟨#[48, 48, 48, 49, 48, 50, 48, 51, 48, 52, 48, 53, 48, 54, 48, 55, 48, 56, 48, 57, 49, 48, 49, 49, 49, 50, 49, 51, 49, 52, 49, 53, 49, 54, 49, 55, 49, 56, 49, 57, 50, 48, 50, 49, 50, 50, 50, 51, 50, 52, 50, 53, 50, 54, 50, 55, 50, 56, 50, 57, 51, 48, 51, 49, 51, 50, 51, 51, 51, 52, 51, 53, 51, 54, 51, 55, 51, 56, 51, 57, 52, 48, 52, 49, 52, 50, 52, 51, 52, 52, 52, 53, 52, 54, 52, 55, 52, 56, 52, 57, 53, 48, 53, 49, 53, 50, 53, 51, 53, 52, 53, 53, 53, 54, 53, 55, 53, 56, 53, 57, 54, 48, 54, 49, 54, 50, 54, 51, 54, 52, 54, 53, 54, 54, 54, 55, 54, 56, 54, 57, 55, 48, 55, 49, 55, 50, 55, 51, 55, 52, 55, 53, 55, 54, 55, 55, 55, 56, 55, 57, 56, 48, 56, 49, 56, 50, 56, 51, 56, 52, 56, 53, 56, 54, 56, 55, 56, 56, 56, 57, 57, 48, 57, 49, 57, 50, 57, 51, 57, 52, 57, 53, 57, 54, 57, 55, 57, 56, 57, 57]⟩ : ByteArray)) (k := .u32) (i := (IntKind.u32.wrap ((IntKind.u32.wrap (Int.tdiv (Int.tmod (IntKind.u32.wrap v1_5) 10000) 100)) * 2))) (by kernel_rfl) (by kernel_rfl) (by kernel_rfl) (by kernel_rfl) hx) ?_
        obtain ⟨p18, hx, h⟩ := bind_some h
        refine DA.tPx 11 (some 134) (Value.pointer (some p18)) (Abs.det_idx (s := a0) (k := .i64) (t := 144) (e := 5) (x := .tmp 123) (y := .tmp 125) (by kernel_rfl) (by kernel_rfl) (by kernel_rfl) (by kernel_rfl) (by kernel_rfl) hx) ?_
        obtain ⟨H19, hx, h⟩ := bind_some h
        refine DA.on 12 (DA.aH (H' := H19) 12 none undef (Abs.run_store1 (t := 5) (x := .tmp 134) (y := .tmp 131) (a := p18) (v := (Value.int .u8 x16)) (by kernel_rfl) (by kernel_rfl) (by kernel_rfl) (by kernel_rfl) (by kernel_rfl) hx) ?_)
        obtain ⟨p20, hx, h⟩ := bind_some h
        refine DA.tPx 13 (some 135) (Value.pointer (some p20)) (Abs.det_idx (s := a0) (k := .i64) (t := 144) (e := 5) (x := .tmp 126) (y := .tmp 128) (by kernel_rfl) (by kernel_rfl) (by kernel_rfl) (by kernel_rfl) (by kernel_rfl) hx) ?_
        obtain ⟨H21, hx, h⟩ := bind_some h
        refine DA.on 14 (DA.aH (H' := H21) 14 none undef (Abs.run_store1 (t := 5) (x := .tmp 135) (y := .tmp 133) (a := p20) (v := (Value.int .u8 x17)) (by kernel_rfl) (by kernel_rfl) (by kernel_rfl) (by kernel_rfl) (by kernel_rfl) hx) (DA.dn (WS.nxt (WS.rg (RS.mS 3 [(4, .val (Value.int .i64 (IntKind.i64.wrap (v4_6 - 4)))), (137, .val (Value.int .i64 (IntKind.i64.wrap (v4_6 - 4)))), (136, .val (Value.int .i64 v4_6))] (RS.dn ?_))))))
        cases h
        exact fun a w hs => (jsN (hs.sb 0))
      · refine WS.fx 99 false (decide_eq_false hp) (WS.cF (WS.sk ?_))
        cases h
        exact fun a w hs => (jsN (hs.sb 0))
    · clear hx
      obtain ⟨⟨H22, v4_23, v12_24⟩, hx, h⟩ := bind_some h
      try dsimp only at h
      refine WS.sq ?_
      refine WS.join ([(4, .val (Value.int .i64 v4_23)), (12, .val (Value.int .u32 v12_24)), (0, .val (Sl3.v a0))]) ([]) H22 ?_ (fun a w hs => WS.nxt ?_ a w hs)
      · clear h; rename _ => h
        refine WS.sq (WS.rg (RS.mS 2 [(139, .val (Value.bool (decide (v4_8 ≥ 2)))), (138, .val (Value.int .i64 v4_8))] (RS.dn (WS.nxt ?_))))
        rcases ite_some h with ⟨hp, h⟩ | ⟨hp, h⟩
        · refine WS.fx 139 true (decide_eq_true hp) (WS.cT (WS.sq (WS.rg (RS.mS 4 [(16, .val (Value.int .u32 (IntKind.u32.wrap ((Int.tmod v12_9 100) * 2)))), (142, .val (Value.int .u32 (IntKind.u32.wrap ((Int.tmod v12_9 100) * 2)))), (141, .val (Value.int .u32 (Int.tmod v12_9 100))), (140, .val (Value.int .u32 v12_9))] (RS.dn (WS.nxt (WS.sq (WS.rg (RS.mS 3 [(12, .val (Value.int .u32 (IntKind.u32.wrap (Int.tdiv v12_9 100)))), (144, .val (Value.int .u32 (IntKind.u32.wrap (Int.tdiv v12_9 100)))), (143, .val (Value.int .u32 v12_9))] ?_)))))))))
          refine RS.dn (WS.nxt (WS.sq ?_))
          refine WS.dr [] [0, 0, 2, 0, 0, 16, 0, 64, 192, 0, 512, 455, 2503, 8191, 16383] 15 (fun hcl => ?_)
          refine DA.tP 0 (some 145) (Sl3.v a0) (DA.tP 1 (some 146) (Value.int .i64 v4_8) (DA.tP 2 (some 147) (Value.int .i64 (IntKind.i64.wrap (v4_8 - 1))) (DA.tP 3 (some 148) (Sl3.v a0) (DA.tP 4 (some 149) (Value.int .i64 v4_8) (DA.tP 5 (some 150) (Value.int .i64 (IntKind.i64.wrap (v4_8 - 2))) (DA.tP 6 (some 151) (Value.int .u32 (IntKind.u32.wrap ((Int.tmod v12_9 100) * 2))) (DA.tP 7 (some 152) (Value.int .u32 (IntKind.u32.wrap ((IntKind.u32.wrap ((Int.tmod v12_9 100) * 2)) + 1))) ?_)))))))
          obtain ⟨x25, hx, h⟩ := bind_some h
          refine DA.tPx 8 (some 153) (Value.int .u8 x25) (Abs.det_byt (t := 9) (x := .const (Value.string (⟨#[48, 48, 48, 49, 48, 50, 48, 51, 48, 52, 48, 53, 48, 54, 48, 55, 48, 56, 48, 57, 49, 48, 49, 49, 49, 50, 49, 51, 49, 52, 49, 53, 49, 54, 49, 55, 49, 56, 49, 57, 50, 48, 50, 49, 50, 50, 50, 51, 50, 52, 50, 53, 50, 54, 50, 55, 50, 56, 50, 57, 51, 48, 51, 49, 51, 50, 51, 51, 51, 52, 51, 53, 51, 54, 51, 55, 51, 56, 51, 57, 52, 48, 52, 49, 52, 50, 52, 51, 52, 52, 52, 53, 52, 54, 52, 55, 52, 56, 52, 57, 53, 48, 53, 49, 53, 50, 53, 51, 53, 52, 53, 53, 53, 54, 53, 55, 53, 56, 53, 57, 54, 48, 54, 49, 54, 50, 54, 51, 54, 52, 54, 53, 54, 54, 54, 55, 54, 56, 54, 57, 55, 48, 55, 49, 55, 50, 55, 51, 55, 52, 55, 53, 55, 54, 55, 55, 55, 56, 55, 57, 56, 48, 56, 49, 56, 50, 56, 51, 56, 52, 56, 53, 56, 54, 56, 55, 56, 56, 56, 57, 57, 48, 57, 49, 57, 50, 57, 51, 57, 52, 57, 53, 57, 54, 57, 55, 57, 56, 57, 57]⟩ : ByteArray))) (y := .tmp 152) (s := (⟨#[48, 48, 48, 49, 48, 50, 48, 51, 48, 52, 48, 53, 48, 54, 48, 55, 48, 56, 48, 57, 49, 48, 49, 49, 49, 50, 49, 51, 49, 52, 49, 53, 49, 54, 49, 55, 49, 56, 49, 57, 50, 48, 50, 49, 50, 50, 50, 51, 50, 52, 50, 53, 50, 54, 50, 55, 50, 56, 50, 57, 51, 48, 51, 49, 51, 50, 51, 51, 51, 52, 51, 53, 51, 54, 51, 55, 51, 56, 51, 57, 52, 48, 52, 49, 52, 50, 52, 51, 52, 52, 52, 53, 52, 54, 52, 55, 52, 56, 52, 57, 53, 48, 53, 49, 53, 50, 53, 51, 53, 52, 53, 53, 53, 54, 53, 55, 53, 56, 53, 57, 54, 48, 54, 49, 54, 50, 54, 51, 54, 52, 54, 53, 54, 54, 54, 55, 54, 56, 54, 57, 55, 48, 55, 49, 55, 50, 55, 51, 55, 52, 55, 53, 55, 54, 55, 55, 55, 56, 55, 57, 56, 48, 56, 49, 56, 50, 56, 51, 56, 52, 56, 53, 56, 54, 56, 55, 56, 56, 56, 57, 57, 48, 57, 49, 57, 50, 57, 51, 57, 52, 57, 53, 57, 54, 57, 55, 57, 56, 57, 57]⟩ : ByteArray)) (k := .u32) (i := (IntKind.u32.wrap ((IntKind.u32.wrap ((Int.tmod v12_9 100) * 2)) + 1))) (by kernel_rfl) (by kernel_rfl) (by kernel_rfl) (by kernel_rfl) hx) (DA.tP 9 (some 154) (Value.int .u32 (IntKind.u32.wrap ((Int.tmod v12_9 100) * 2))) ?_)
          obtain ⟨x26, hx, h⟩ := bind_some h
          refine DA.tPx 10 (some 155) (Value.int .u8 x26) (Abs.det_byt (t := 9) (x := .const (Value.string (⟨#[48, 48, 48, 49, 48, 50, 48, 51, 48, 52, 48, 53, 48, 54, 48, 55, 48, 56, 48, 57, 49, 48, 49, 49, 49, 50, 49, 51, 49, 52, 49, 53, 49, 54, 49, 55, 49, 56, 49, 57, 50, 48, 50, 49, 50, 50, 50, 51, 50, 52, 50, 53, 50, 54, 50, 55, 50, 56, 50, 57, 51, 48, 51, 49, 51, 50, 51, 51, 51, 52, 51, 53, 51, 54, 51, 55, 51, 56, 51, 57, 52, 48, 52, 49, 52, 50, 52, 51, 52, 52, 52, 53, 52, 54, 52, 55, 52, 56, 52, 57, 53, 48, 53, 49, 53, 50, 53, 51, 53, 52, 53, 53, 53, 54, 53, 55, 53, 56, 53, 57, 54, 48, 54, 49, 54, 50, 54, 51, 54, 52, 54, 53, 54, 54, 54, 55, 54, 56, 54, 57, 55, 48, 55, 49, 55, 50, 55, 51, 55, 52, 55, 53, 55, 54, 55, 55, 55, 56, 55, 57, 56, 48, 56, 49, 56, 50, 56, 51, 56, 52, 56, 53, 56, 54, 56, 55, 56, 56, 56, 57, 57, 48, 57, 49, 57, 50, 57, 51, 57, 52, 57, 53, 57, 54, 57, 55, 57, 56, 57, 57]⟩ : ByteArray))) (y := .tmp 154) (s := (⟨#[48, 48, 48, 49, 48, 50, 48, 51, 48, 52, 48, 53, 48, 54, 48, 55, 48, 56, 48, 57, 49, 48, 49, 49, 49, 50, 49, 51, 49, 52, 49, 53, 49, 54, 49, 55, 49, 56, 49, 57, 50, 48, 50, 49, 50, 50, 50, 51, 50, 52, 50, 53, 50, 54, 50, 55, 50, 56, 50, 57, 51, 48, 51, 49, 51, 50, 51, 51, 51, 52, 51, 53, 51, 54, 51, 55, 51, 56, 51, 57, 52, 48, 52, 49, 52, 50, 52, 51, 52, 52, 52, 53, 52, 54, 52, 55, 52, 56, 52, 57, 53, 48, 53, 49, 53, 50, 53, 51, 53, 52, 53, 53, 53, 54, 53, 55, 53, 56, 53, 57, 54, 48, 54, 49, 54, 50, 54, 51, 54, 52, 54, 53, 54, 54, 54, 55, 54, 56, 54, 57, 55, 48, 55, 49, 55, 50, 55, 51, 55, 52, 55, 53, 55, 54, 55, 55, 55, 56, 55, 57, 56, 48, 56, 49, 56, 50, 56, 51, 56, 52, 56, 53, 56, 54, 56, 55, 56, 56, 56, 57, 57, 48, 57, 49, 57, 50, 57, 51, 57, 52, 57, 53, 57, 54, 57, 55, 57, 56, 57, 57]⟩ : ByteArray)) (k := .u32) (i := (IntKind.u32.wrap ((Int.tmod v12_9 100) * 2))) (by kernel_rfl) (by kernel_rfl) (by kernel_rfl) (by kernel_rfl) hx) ?_
          obtain ⟨p27, hx, h⟩ := bind_some h
          refine DA.tPx 11 (some 156) (Value.pointer (some p27)) (Abs.det_idx (s := a0) (k := .i64) (t := 144) (e := 5) (x := .tmp 145) (y := .tmp 147) (by kernel_rfl) (by kernel_rfl) (by kernel_rfl) (by kernel_rfl) (by kernel_rfl) hx) ?_
          obtain ⟨H28, hx, h⟩ := bind_some h
          refine DA.on 12 (DA.aH (H' := H28) 12 none undef (Abs.run_store1 (t := 5) (x := .tmp 156) (y := .tmp 153) (a := p27) (v := (Value.int .u8 x25)) (by kernel_rfl) (by kernel_rfl) (by kernel_rfl) (by kernel_rfl) (by kernel_rfl) hx) ?_)
          obtain ⟨p29, hx, h⟩ := bind_some h
          refine DA.tPx 13 (some 157) (Value.pointer (some p29)) (Abs.det_idx (s := a0) (k := .i64) (t := 144) (e := 5) (x := .tmp 148) (y := .tmp 150) (by kernel_rfl) (by kernel_rfl) (by kernel_rfl) (by kernel_rfl) (by kernel_rfl) hx) ?_
          obtain ⟨H30, hx, h⟩ := bind_some h
          refine DA.on 14 (DA.aH (H' := H30) 14 none undef (Abs.run_store1 (t := 5) (x := .tmp 157) (y := .tmp 155) (a := p29) (v := (Value.int .u8 x26)) (by kernel_rfl) (by kernel_rfl) (by kernel_rfl) (by kernel_rfl) (by kernel_rfl) hx) (DA.dn (WS.nxt (WS.rg (RS.mS 3 [(4, .val (Value.int .i64 (IntKind.i64.wrap (v4_8 - 2)))), (159, .val (Value.int .i64 (IntKind.i64.wrap (v4_8 - 2)))), (158, .val (Value.int .i64 v4_8))] (RS.dn ?_))))))
          cases h
          exact fun a w hs => (jsN (hs.sb 0))
        · refine WS.fx 139 false (decide_eq_false hp) (WS.cF (WS.sk ?_))
          cases h
          exact fun a w hs => (jsN (hs.sb 0))
      · clear hx
        refine WS.sq (WS.rg (RS.mS 2 [(161, .val (Value.bool (decide (v4_23 > 0)))), (160, .val (Value.int .i64 v4_23))] (RS.dn (WS.nxt ?_))))
        rcases ite_some h with ⟨hp, h⟩ | ⟨hp, h⟩
        · refine WS.fx 161 true (decide_eq_true hp) (WS.cT (WS.rg (RS.mS 4 [(165, .val (Value.int .u8 (IntKind.u8.wrap (IntKind.u32.wrap (48 + v12_24))))), (164, .val (Value.int .u32 (IntKind.u32.wrap (48 + v12_24)))), (163, .val (Value.int .u32 v12_24)), (162, .val (Sl3.v a0))] ?_)))
          obtain ⟨p31, hx, h⟩ := bind_some h
          refine RS.o (H' := H22) (some 166) (Value.pointer (some p31)) (Abs.run_idx (s := a0) (k := .i64) (t := 144) (e := 5) (x := .tmp 162) (y := .const (Value.int .i64 0)) (by kernel_rfl) (by kernel_rfl) (by kernel_rfl) (by kernel_rfl) (by kernel_rfl) hx) ?_
          obtain ⟨H32, hx, h⟩ := bind_some h
          refine RS.o (H' := H32) none undef (Abs.run_store1 (t := 5) (x := .tmp 166) (y := .tmp 165) (a := p31) (v := (Value.int .u8 (IntKind.u8.wrap (IntKind.u32.wrap (48 + v12_24))))) (by kernel_rfl) (by kernel_rfl) (by kernel_rfl) (by kernel_rfl) (by kernel_rfl) hx) (RS.dn ?_)
          cases h
          exact fun a w hs => rtN (rS hs)
        · refine WS.fx 161 false (decide_eq_false hp) (WS.cF (WS.sk ?_))
          cases h
          exact fun a w hs => rtN (rS hs)
  · try dsimp only at h
    refine WS.lR (strconv_formatBase10_b0_ok (L := L) (E := E) (m := m) (H := H)) (L.ok hl) 0 ?_
    cases h
    exact fun a w hq => bkR (sqR (rtR hq))

def strconv_FormatInt_enc : (ByteArray × AH) → Value
  | (r0, _) => (Value.string r0)

def strconv_FormatInt_hp (_ : AH) : (ByteArray × AH) → AH := fun r => r.2

noncomputable def B104 : Code := (Tryd.f104.body).getD .skip

noncomputable def strconv_FormatInt (L : LC) (m : Nat) (H : AH) (a0 : Int) (a1 : Int) : Option (ByteArray × AH) :=
  if a1 = 10 then
    if 0 ≤ a0 then
      if a0 < 100 then
        Option.bind (strconv_small L a0) fun x1 =>
        some (x1, H)
      else
        Option.bind (newB 140 [(Value.int .u8 0), (Value.int .u8 0), (Value.int .u8 0), (Value.int .u8 0), (Value.int .u8 0), (Value.int .u8 0), (Value.int .u8 0), (Value.int .u8 0), (Value.int .u8 0), (Value.int .u8 0), (Value.int .u8 0), (Value.int .u8 0), (Value.int .u8 0), (Value.int .u8 0), (Value.int .u8 0), (Value.int .u8 0), (Value.int .u8 0), (Value.int .u8 0), (Value.int .u8 0), (Value.int .u8 0), (Value.int .u8 0), (Value.int .u8 0), (Value.int .u8 0), (Value.int .u8 0)] H) fun (p2, H3) =>
        if a0 < 0 then
          none
        else
          Option.bind (strconv_numDigits L H3 (IntKind.u64.wrap a0)) fun x4 =>
          Option.bind (slcR 1 24 p2 (some 1) (some (IntKind.i64.wrap (1 + x4)))) fun s5 =>
          Option.bind (strconv_formatBase10 L m H3 s5 (IntKind.u64.wrap a0)) fun H6 =>
          if a0 < 0 then
            none
          else
            Option.bind (slcR 1 24 p2 (some 1) (some (IntKind.i64.wrap (1 + x4)))) fun s7 =>
            Option.bind (bts H6 s7) fun s8 =>
            some (s8, H6)
    else
      none
  else
    none

theorem strconv_FormatInt_ok {L : LC} {m : Nat} {H : AH} {a0 : Int} {a1 : Int} {r : (ByteArray × AH)} (h : strconv_FormatInt L m H a0 a1 = some r) :
    CallS Tryd.prog (NE.plain 1000) m 104 #[(Value.int .i64 a0), (Value.int .i64 a1)] H (strconv_FormatInt_enc r) (strconv_FormatInt_hp H r) := by
  refine CallS.mk (args := [(Value.int .i64 a0), (Value.int .i64 a1)]) Tryd.func104 (B := B104) (by kernel_rfl) (fun E _ => ?_)
  unfold strconv_FormatInt at h
  refine WS.sq (WS.rg (RS.mS 1 [(4, .val (Value.string (⟨#[]⟩ : ByteArray)))] (RS.dn (WS.nxt (WS.sq (WS.sq (WS.rg (RS.mS 2 [(11, .val (Value.bool (decide (a1 = 10)))), (10, .val (Value.int .i64 a1))] (RS.dn ?_)))))))))
  refine WS.nxt ?_
  rcases ite_some h with ⟨hp, h⟩ | ⟨hp, h⟩
  · refine WS.fx 11 true (decide_eq_true hp) (WS.cT (WS.sq (WS.sq (WS.rg (RS.mS 3 [(14, .val (Value.bool (decide (0 ≤ a0)))), (13, .val (Value.bool (decide (0 ≤ a0)))), (12, .val (Value.int .i64 a0))] ?_)))))
    rcases ite_some h with ⟨hp, h⟩ | ⟨hp, h⟩
    · refine RS.fx 14 true (decide_eq_true hp) (RS.mS 3 [(17, .val (Value.bool (decide (a0 < 100)))), (16, .val (Value.bool (decide (a0 < 100)))), (15, .val (Value.int .i64 a0))] (RS.dn (WS.nxt ?_)))
      rcases ite_some h with ⟨hp, h⟩ | ⟨hp, h⟩
      · refine WS.fx 17 true (decide_eq_true hp) (WS.cT (WS.sq (WS.rg (RS.mS 1 [(18, .val (Value.int .i64 a0))] ?_))))
        obtain ⟨x1, hx, h⟩ := bind_some h
        refine RS.cl (some 19) (v := (Value.string x1)) 106 #[(Value.int .i64 a0)] (strconv_small_ok hx) (RS.mS 1 [(4, .val (Value.string x1))] (RS.dn (WS.nxt (WS.rt ?_))))
        cases h
        exact fun a w hs => sqR (sqR (rtR (rS hs)))
      · refine WS.fx 17 false (decide_eq_false hp) (WS.cF (WS.sk (WS.nxt (WS.sq (WS.rg ?_)))))
        obtain ⟨⟨p2, H3⟩, hx, h⟩ := bind_some h
        try dsimp only at h
        refine RS.o (H' := H3) (some 5) (Value.pointer (some p2)) (Abs.run_newB (by kernel_rfl) hx) (RS.dn (WS.nxt (WS.sq (WS.rg (RS.mS 3 [(6, .val (Value.int .u64 (IntKind.u64.wrap a0))), (21, .val (Value.int .u64 (IntKind.u64.wrap a0))), (20, .val (Value.int .i64 a0))] (RS.dn (WS.nxt (WS.sq (WS.sq ?_)))))))))
        refine WS.rg (RS.mS 2 [(23, .val (Value.bool (decide (a0 < 0)))), (22, .val (Value.int .i64 a0))] (RS.dn (WS.nxt ?_)))
        rcases ite_some h with ⟨hp, h⟩ | ⟨hp, h⟩
        · refine WS.fx 23 true (decide_eq_true hp) (WS.cT ?_)
          cases h
        · refine WS.fx 23 false (decide_eq_false hp) (WS.cF (WS.sk (WS.nxt (WS.sq (WS.rg (RS.mS 1 [(26, .val (Value.int .u64 (IntKind.u64.wrap a0)))] ?_))))))
          obtain ⟨x4, hx, h⟩ := bind_some h
          refine RS.cl (some 27) (v := (Value.int .i64 x4)) 107 #[(Value.int .u64 (IntKind.u64.wrap a0))] (strconv_numDigits_ok hx) (RS.mS 1 [(7, .val (Value.int .i64 x4))] (RS.dn (WS.nxt (WS.sq (WS.rg (RS.mS 2 [(29, .val (Value.int .i64 (IntKind.i64.wrap (1 + x4)))), (28, .val (Value.int .i64 x4))] ?_))))))
          obtain ⟨s5, hx, h⟩ := bind_some h
          refine RS.o (H' := H3) (some 30) (Sl3.v s5) (Abs.run_slcR (t := 140) (e := 5) (x := .tmp 5) (lo := (some (.const (Value.int .i64 1)))) (hi := (some (.tmp 29))) (a := p2) (k1 := .i64) (k2 := .i64) (by kernel_rfl) (by kernel_rfl) (by kernel_rfl) (by kernel_rfl) (by kernel_rfl) (by kernel_rfl) hx) (RS.mS 1 [(31, .val (Value.int .u64 (IntKind.u64.wrap a0)))] ?_)
          obtain ⟨H6, hx, h⟩ := bind_some h
          refine RS.cl (some 32) (v := (Value.tuple #[])) 108 #[(Sl3.v s5), (Value.int .u64 (IntKind.u64.wrap a0))] (strconv_formatBase10_ok hx) (RS.dn (WS.nxt (WS.sq (WS.sq (WS.rg (RS.mS 2 [(34, .val (Value.bool (decide (a0 < 0)))), (33, .val (Value.int .i64 a0))] (RS.dn (WS.nxt ?_))))))))
          rcases ite_some h with ⟨hp, h⟩ | ⟨hp, h⟩
          · refine WS.fx 34 true (decide_eq_true hp) (WS.cT ?_)
            cases h
          · refine WS.fx 34 false (decide_eq_false hp) (WS.cF (WS.sk (WS.nxt (WS.sq (WS.rg (RS.mS 2 [(41, .val (Value.int .i64 (IntKind.i64.wrap (1 + x4)))), (40, .val (Value.int .i64 x4))] ?_))))))
            obtain ⟨s7, hx, h⟩ := bind_some h
            refine RS.o (H' := H6) (some 42) (Sl3.v s7) (Abs.run_slcR (t := 140) (e := 5) (x := .tmp 5) (lo := (some (.const (Value.int .i64 1)))) (hi := (some (.tmp 41))) (a := p2) (k1 := .i64) (k2 := .i64) (by kernel_rfl) (by kernel_rfl) (by kernel_rfl) (by kernel_rfl) (by kernel_rfl) (by kernel_rfl) hx) ?_
            obtain ⟨s8, hx, h⟩ := bind_some h
            refine RS.o (H' := H6) (some 43) (Value.string s8) (Abs.run_bts (t := 144) (u := 9) (e := 5) (x := .tmp 42) (s := s7) (by kernel_rfl) (by kernel_rfl) (by kernel_rfl) (by kernel_rfl) (by kernel_rfl) hx) (RS.mS 1 [(4, .val (Value.string s8))] (RS.dn (WS.nxt (WS.rt ?_))))
            cases h
            exact fun a w hs => sqR (rtR (rS hs))
    · refine RS.fx 14 false (decide_eq_false hp) ?_
      cases h
  · refine WS.fx 11 false (decide_eq_false hp) (WS.cF ?_)
    cases h

def strconv_Itoa_99_enc : (ByteArray × AH) → Value
  | (r0, _) => (Value.string r0)

def strconv_Itoa_99_hp (_ : AH) : (ByteArray × AH) → AH := fun r => r.2

noncomputable def B99 : Code := (Tryd.f99.body).getD .skip

noncomputable def strconv_Itoa_99 (L : LC) (m : Nat) (H : AH) (a0 : Int) : Option (ByteArray × AH) :=
  Option.bind (strconv_FormatInt L m H a0 10) fun (x1, H2) =>
  some (x1, H2)

theorem strconv_Itoa_99_ok {L : LC} {m : Nat} {H : AH} {a0 : Int} {r : (ByteArray × AH)} (h : strconv_Itoa_99 L m H a0 = some r) :
    CallS Tryd.prog (NE.plain 1000) m 99 #[(Value.int .i64 a0)] H (strconv_Itoa_99_enc r) (strconv_Itoa_99_hp H r) := by
  refine CallS.mk (args := [(Value.int .i64 a0)]) Tryd.func99 (B := B99) (by kernel_rfl) (fun E _ => ?_)
  unfold strconv_Itoa_99 at h
  refine WS.sq (WS.rg (RS.mS 1 [(2, .val (Value.string (⟨#[]⟩ : ByteArray)))] (RS.dn (WS.nxt (WS.sq (WS.rg (RS.mS 1 [(3, .val (Value.int .i64 a0))] ?_)))))))
  obtain ⟨⟨x1, H2⟩, hx, h⟩ := bind_some h
  try dsimp only at h
  refine RS.cl (some 4) (v := (Value.string x1)) 104 #[(Value.int .i64 a0), (Value.int .i64 10)] (strconv_FormatInt_ok hx) (RS.mS 1 [(2, .val (Value.string x1))] (RS.dn (WS.nxt (WS.rt ?_))))
  cases h
  exact fun a w hs => rtR (rS hs)

def strconv_Itoa_enc : (ByteArray × AH) → Value
  | (r0, _) => (Value.string r0)

def strconv_Itoa_hp (_ : AH) : (ByteArray × AH) → AH := fun r => r.2

noncomputable def B92 : Code := (Tryd.f92.body).getD .skip

noncomputable def strconv_Itoa (L : LC) (m : Nat) (H : AH) (a0 : Int) : Option (ByteArray × AH) :=
  Option.bind (strconv_Itoa_99 L m H a0) fun (x1, H2) =>
  some (x1, H2)

theorem strconv_Itoa_ok {L : LC} {m : Nat} {H : AH} {a0 : Int} {r : (ByteArray × AH)} (h : strconv_Itoa L m H a0 = some r) :
    CallS Tryd.prog (NE.plain 1000) m 92 #[(Value.int .i64 a0)] H (strconv_Itoa_enc r) (strconv_Itoa_hp H r) := by
  refine CallS.mk (args := [(Value.int .i64 a0)]) Tryd.func92 (B := B92) (by kernel_rfl) (fun E _ => ?_)
  unfold strconv_Itoa at h
  refine WS.sq (WS.rg (RS.mS 1 [(2, .val (Value.string (⟨#[]⟩ : ByteArray)))] (RS.dn (WS.nxt (WS.sq (WS.rg (RS.mS 1 [(3, .val (Value.int .i64 a0))] ?_)))))))
  obtain ⟨⟨x1, H2⟩, hx, h⟩ := bind_some h
  try dsimp only at h
  refine RS.cl (some 4) (v := (Value.string x1)) 99 #[(Value.int .i64 a0)] (strconv_Itoa_99_ok hx) (RS.mS 1 [(2, .val (Value.string x1))] (RS.dn (WS.nxt (WS.rt ?_))))
  cases h
  exact fun a w hs => rtR (rS hs)

end Go.Proofs.YtccbilfbhecdaaaDoor.Aw


namespace Go.Proofs.YtccbilfbhecdaaaDoor
open Go Go.Abs
set_option maxRecDepth 100000

def tabs : List Tab := [(0, 130, ((zsOf Rows.laid_strings_asciiSpace).map fun z => Value.int .u8 z).toArray), (3, 159, ((zsOf Rows.laid_internal_strconv_uint64pow10).map fun z => Value.int .u64 z).toArray), (4, 165, ((zsOf Rows.laid_math_bits_deBruijn32tab).map fun z => Value.int .u8 z).toArray), (5, 166, ((zsOf Rows.laid_math_bits_deBruijn64tab).map fun z => Value.int .u8 z).toArray)]

theorem tabs_ok : tabsB Tryd.prog tabs = true := by kernel_rfl
theorem globals7 : Tryd.prog.globals.size = 7 := by kernel_rfl
theorem some_globals : 0 < Tryd.prog.globals.size := by rw [globals7]; omega

/-- The tables stand in this heap. -/
def HasT (H : AH) : Prop := ∀ x ∈ tabs, H.get x.1 = some (tabBlk x) ∧ x.1 < H.next

noncomputable def lc : LC := LCn 100000 1000
noncomputable def H0 : AH := startH Tryd.prog tabs

set_option maxHeartbeats 0 in
theorem awake_tab : (acall Tryd.prog (NE.plain 1000) 100000 7 17 #[] H0).map (·.1) = some (.bool true) := by kernel_rfl

open Classical in
noncomputable def law04_awake (_L : LC) (H : AH) : Option Bool := if HasT H then some true else none
def law04_awake_enc : Bool → Value
  | r0 => (Value.bool r0)
def law04_awake_hp (H : AH) : Bool → AH := fun _ => H

theorem law04_awake_ok {L : LC} {m : Nat} {H : AH} {r : Bool} (h : law04_awake L H = some r) : CallS Tryd.prog (NE.plain 1000) m 17 #[] H (law04_awake_enc r) (law04_awake_hp H r) := by
  unfold law04_awake at h
  split at h
  · rename_i hT
    cases h
    have hrun := awake_tab
    cases hq : acall Tryd.prog (NE.plain 1000) 100000 7 17 #[] H0 with
    | none => rw [hq] at hrun; cases hrun
    | some q =>
      rw [hq] at hrun
      obtain ⟨b, H'⟩ := q
      simp only [Option.map_some, Option.some.injEq] at hrun
      subst hrun
      refine CallS.under (tabs := tabs) some_globals tabs_ok (H1 := H') ?_ (by simp) (by rfl) fun x hx => (hT x hx).1
      rw [globals7]
      obtain ⟨c, hc⟩ : ∃ c, Tryd.f17.body = some c := ⟨_, rfl⟩
      exact fun hS => ⟨⟨_, c, Tryd.func17, hc⟩, fun φ w args' hg ha hi => acall_ok hS Tryd.func17 hc hq hg ha hi⟩
  · cases h

end Go.Proofs.YtccbilfbhecdaaaDoor


namespace Go.Proofs.YtccbilfbhecdaaaDoor
open Go Go.Abs
set_option maxRecDepth 100000

noncomputable def itoaR (w : Int) : Option ByteArray := (Aw.strconv_Itoa lc 7 H0 w).map (·.1)

open Classical in
noncomputable def strconv_Itoa (_L : LC) (H : AH) (a0 : Int) : Option ByteArray := if HasT H then itoaR a0 else none
def strconv_Itoa_enc : ByteArray → Value
  | r0 => (Value.string r0)
def strconv_Itoa_hp (H : AH) : ByteArray → AH := fun _ => H

theorem strconv_Itoa_ok {L : LC} {m : Nat} {H : AH} {a0 : Int} {r : ByteArray} (h : strconv_Itoa L H a0 = some r) : CallS Tryd.prog (NE.plain 1000) m 92 #[(Value.int .i64 a0)] H (strconv_Itoa_enc r) (strconv_Itoa_hp H r) := by
  unfold strconv_Itoa at h
  split at h
  · rename_i hT
    unfold itoaR at h
    cases hq : Aw.strconv_Itoa lc 7 H0 a0 with
    | none => rw [hq] at h; cases h
    | some q =>
      rw [hq] at h
      obtain ⟨b, H'⟩ := q
      simp only [Option.map_some, Option.some.injEq] at h
      subst h
      have hc := @Aw.strconv_Itoa_ok lc 7 H0 a0 (b, H') hq
      refine CallS.under (tabs := tabs) some_globals tabs_ok (H1 := H') ?_ (by simp [flat, depth]) (by rfl) fun x hx => (hT x hx).1
      rw [globals7]
      exact hc
  · cases h

def wordsV : ByteArray := (⟨#[33, 32, 95, 32, 97, 115, 32, 66, 73, 78, 65, 82, 89, 32, 68, 69, 67, 73, 77, 65, 76, 32, 101, 120, 105, 115, 116, 115, 32, 102, 111, 114, 97, 108, 108, 32, 72, 69, 88, 65, 68, 69, 67, 73, 77, 65, 76, 32, 108, 101, 116, 32, 109, 97, 116, 99, 104, 32, 78, 85, 77, 69, 82, 65, 76, 32, 112, 97, 114, 32, 83, 84, 82, 73, 78, 71, 32, 97, 115, 115, 101, 114, 116, 32, 99, 104, 101, 99, 107, 45, 115, 97, 116, 32, 99, 104, 101, 99, 107, 45, 115, 97, 116, 45, 97, 115, 115, 117, 109, 105, 110, 103, 32, 100, 101, 99, 108, 97, 114, 101, 45, 99, 111, 110, 115, 116, 32, 100, 101, 99, 108, 97, 114, 101, 45, 100, 97, 116, 97, 116, 121, 112, 101, 32, 100, 101, 99, 108, 97, 114, 101, 45, 100, 97, 116, 97, 116, 121, 112, 101, 115, 32, 100, 101, 99, 108, 97, 114, 101, 45, 102, 117, 110, 32, 100, 101, 99, 108, 97, 114, 101, 45, 115, 111, 114, 116, 32, 100, 101, 102, 105, 110, 101, 45, 102, 117, 110, 32, 100, 101, 102, 105, 110, 101, 45, 115, 111, 114, 116, 32, 101, 99, 104, 111, 32, 101, 120, 105, 116, 32, 103, 101, 116, 45, 97, 115, 115, 101, 114, 116, 105, 111, 110, 115, 32, 103, 101, 116, 45, 105, 110, 102, 111, 32, 103, 101, 116, 45, 109, 111, 100, 101, 108, 32, 103, 101, 116, 45, 118, 97, 108, 117, 101, 32, 112, 111, 112, 32, 112, 117, 115, 104, 32, 114, 101, 115, 101, 116, 32, 114, 101, 115, 101, 116, 45, 97, 115, 115, 101, 114, 116, 105, 111, 110, 115, 32, 115, 101, 116, 45, 105, 110, 102, 111, 32, 115, 101, 116, 45, 108, 111, 103, 105, 99, 32, 115, 101, 116, 45, 111, 112, 116, 105, 111, 110]⟩ : ByteArray)

def wordsL : List ByteArray := [⟨#[33]⟩, ⟨#[95]⟩, ⟨#[97, 115]⟩, ⟨#[66, 73, 78, 65, 82, 89]⟩, ⟨#[68, 69, 67, 73, 77, 65, 76]⟩, ⟨#[101, 120, 105, 115, 116, 115]⟩, ⟨#[102, 111, 114, 97, 108, 108]⟩, ⟨#[72, 69, 88, 65, 68, 69, 67, 73, 77, 65, 76]⟩, ⟨#[108, 101, 116]⟩, ⟨#[109, 97, 116, 99, 104]⟩, ⟨#[78, 85, 77, 69, 82, 65, 76]⟩, ⟨#[112, 97, 114]⟩, ⟨#[83, 84, 82, 73, 78, 71]⟩, ⟨#[97, 115, 115, 101, 114, 116]⟩, ⟨#[99, 104, 101, 99, 107, 45, 115, 97, 116]⟩, ⟨#[99, 104, 101, 99, 107, 45, 115, 97, 116, 45, 97, 115, 115, 117, 109, 105, 110, 103]⟩, ⟨#[100, 101, 99, 108, 97, 114, 101, 45, 99, 111, 110, 115, 116]⟩, ⟨#[100, 101, 99, 108, 97, 114, 101, 45, 100, 97, 116, 97, 116, 121, 112, 101]⟩, ⟨#[100, 101, 99, 108, 97, 114, 101, 45, 100, 97, 116, 97, 116, 121, 112, 101, 115]⟩, ⟨#[100, 101, 99, 108, 97, 114, 101, 45, 102, 117, 110]⟩, ⟨#[100, 101, 99, 108, 97, 114, 101, 45, 115, 111, 114, 116]⟩, ⟨#[100, 101, 102, 105, 110, 101, 45, 102, 117, 110]⟩, ⟨#[100, 101, 102, 105, 110, 101, 45, 115, 111, 114, 116]⟩, ⟨#[101, 99, 104, 111]⟩, ⟨#[101, 120, 105, 116]⟩, ⟨#[103, 101, 116, 45, 97, 115, 115, 101, 114, 116, 105, 111, 110, 115]⟩, ⟨#[103, 101, 116, 45, 105, 110, 102, 111]⟩, ⟨#[103, 101, 116, 45, 109, 111, 100, 101, 108]⟩, ⟨#[103, 101, 116, 45, 118, 97, 108, 117, 101]⟩, ⟨#[112, 111, 112]⟩, ⟨#[112, 117, 115, 104]⟩, ⟨#[114, 101, 115, 101, 116]⟩, ⟨#[114, 101, 115, 101, 116, 45, 97, 115, 115, 101, 114, 116, 105, 111, 110, 115]⟩, ⟨#[115, 101, 116, 45, 105, 110, 102, 111]⟩, ⟨#[115, 101, 116, 45, 108, 111, 103, 105, 99]⟩, ⟨#[115, 101, 116, 45, 111, 112, 116, 105, 111, 110]⟩]

def wordsB : Blk := { obj := .cells (wordsL.map Value.string).toArray 9 (0, 0), opn := false, esz := 0, ro := false }

/-- The whole of what is wanted of the run. -/
noncomputable def fieldsT : Option (Sl3 × Option Blk) := (Aw.strings_Fields lc 7 H0 wordsV).map fun r => (r.1, r.2.get 7)

set_option maxHeartbeats 0 in
theorem fields_tab : fieldsT = some (⟨some ⟨7, 0, none⟩, 36, 36⟩, some wordsB) := by kernel_rfl

open Classical in
noncomputable def strings_Fields (_L : LC) (_m : Nat) (H : AH) (a0 : ByteArray) : Option (Sl3 × AH) := if a0 = wordsV ∧ HasT H then some (⟨some ⟨H.next, 0, none⟩, 36, 36⟩, H.push wordsB) else none
def strings_Fields_enc : (Sl3 × AH) → Value
  | (r0, _) => (Sl3.v r0)
def strings_Fields_hp (_ : AH) : (Sl3 × AH) → AH := fun r => r.2

theorem strings_Fields_ok {L : LC} {m : Nat} {H : AH} {a0 : ByteArray} {r : (Sl3 × AH)} (h : strings_Fields L m H a0 = some r) : CallS Tryd.prog (NE.plain 1000) m 95 #[(Value.string a0)] H (strings_Fields_enc r) (strings_Fields_hp H r) := by
  unfold strings_Fields at h
  split at h
  · rename_i hT
    obtain ⟨rfl, hT⟩ := hT
    cases h
    have hrun := fields_tab
    unfold fieldsT at hrun
    cases hq : Aw.strings_Fields lc 7 H0 wordsV with
    | none => rw [hq] at hrun; cases hrun
    | some q =>
      rw [hq] at hrun
      obtain ⟨s, H'⟩ := q
      simp only [Option.map_some, Option.some.injEq, Prod.mk.injEq] at hrun
      obtain ⟨rfl, hb⟩ := hrun
      have hc := @Aw.strings_Fields_ok lc 7 H0 wordsV (_, H') hq
      refine CallS.underNew (tabs := tabs) (n := 36) (c := 36) (b := wordsB) (cs := (wordsL.map Value.string).toArray) (e := 9) (fr := (0, 0)) (H1 := H') some_globals tabs_ok ?_ (by simp [flat, depth]) (by rw [globals7]; exact hb) rfl rfl (by unfold OPEN; omega) (by kernel_rfl) fun x hx => (hT x hx).1
      rw [globals7]
      exact hc
  · cases h

end Go.Proofs.YtccbilfbhecdaaaDoor


namespace Go.Proofs.YtccbilfbhecdaaaDoor
open Go Go.Abs
set_option maxRecDepth 100000

def sort_Name_enc : Bool → Value
  | r0 => (Value.bool r0)

def sort_Name_hp (H : AH) : Bool → AH := fun _ => H

noncomputable def B13 : Code := (Tryd.f13.body).getD .skip

noncomputable def sort_Name_b0 (_L : LC) (a0 : ByteArray) : Int → Option (Lp Int Bool) := fun v24_4 =>
  if v24_4 < (a0.size : Int) then
    Option.bind (α := Bool) (
      Option.bind (bytA a0 v24_4) fun x6 =>
      if x6 < 32 then
        some true
      else
        Option.bind (bytA a0 v24_4) fun x7 =>
        if x7 > 126 then
          some true
        else
          Option.bind (bytA a0 v24_4) fun x8 =>
          if x8 = 124 then
            some true
          else
            Option.bind (bytA a0 v24_4) fun x9 =>
            some (decide (x9 = 92))) fun v48_5 =>
    if v48_5 = true then
      some (.ret false)
    else
      some (.next (IntKind.i64.wrap (v24_4 + 1)))
  else
    some (.brk v24_4)

def sort_Name_b0_kn (_L : LC) (a0 : ByteArray) : Int → KN := fun v24_4 => [(24, .val (Value.int .i64 v24_4)), (0, .val (Value.string a0)), (23, .val (Value.int .i64 (a0.size : Int)))]

def sort_Name_b0_ls (_L : LC) (_a0 : ByteArray) : Int → Lcs := fun _ => []

noncomputable def sort_Name (L : LC) (a0 : ByteArray) : Option Bool :=
  Option.bind (α := Bool) (
    if (a0.size : Int) < 1 then
      some true
    else
      if (a0.size : Int) > 200 then
        some true
      else
        Option.bind (bytA a0 0) fun x2 =>
        if x2 = 64 then
          some true
        else
          Option.bind (bytA a0 0) fun x3 =>
          some (decide (x3 = 46))) fun v21_1 =>
  if v21_1 = true then
    some false
  else
    Option.bind (L.run (sort_Name_b0 L a0) 0) fun o => match o with
    | .inl _ =>
      some true
    | .inr r => some r

theorem sort_Name_b0_ok {E : Ent} {m : Nat} {H : AH} {L : LC} {a0 : ByteArray}  : ∀ s o, sort_Name_b0 L a0 s = some o →
    WS Tryd.prog (NE.plain 1000) m E Tryd.f13.ntmps (cfst (cfst (csnd (cfst (csnd (csnd B13)))))) (sort_Name_b0_kn L a0 s) (sort_Name_b0_ls L a0 s) ((fun _ => H) s) (lpS Tryd.prog (NE.plain 1000) m E Tryd.f13.ntmps (sort_Name_b0_kn L a0) (sort_Name_b0_ls L a0) (fun _ => H) 0 (fun r => RT Tryd.prog (NE.plain 1000) m E Tryd.f13 (sort_Name_enc r) (sort_Name_hp H r)) o) := by
  rintro v24_4 o h
  unfold sort_Name_b0 at h
  try dsimp only at h
  refine WS.sq (WS.rg (RS.mS 1 [(25, .val (Value.bool (decide (v24_4 < (a0.size : Int)))))] (RS.dn (WS.nxt (WS.sq ?_)))))
  rcases ite_some h with ⟨hp, h⟩ | ⟨hp, h⟩
  · refine WS.fx 25 true (decide_eq_true hp) (WS.cT (WS.sk (WS.nxt (WS.sq (WS.bk 1 (WS.sq (WS.rg (RS.mS 2 [(3, .val (Value.int .i64 v24_4)), (26, .val (Value.int .i64 v24_4))] (RS.dn ?_)))))))))
    refine WS.nxt ?_
    obtain ⟨v48_5, hx, h⟩ := bind_some h
    refine WS.sq ?_
    refine WS.join ([(48, .val (Value.bool v48_5)), (0, .val (Value.string a0)), (23, .val (Value.int .i64 (a0.size : Int))), (24, .val (Value.int .i64 v24_4))]) ([]) H ?_ (fun a w hs => WS.nxt ?_ a w hs)
    · clear h; rename _ => h
      refine WS.rg (RS.mS 2 [(28, .val (Value.int .i64 v24_4)), (27, .val (Value.string a0))] ?_)
      obtain ⟨x6, hx, h⟩ := bind_some h
      refine RS.o (H' := H) (some 29) (Value.int .u8 x6) (Abs.run_byt (t := 9) (x := .tmp 27) (y := .tmp 28) (s := a0) (k := .i64) (i := v24_4) (by kernel_rfl) (by kernel_rfl) (by kernel_rfl) (by kernel_rfl) hx) (RS.mS 2 [(31, .val (Value.bool (decide (x6 < 32)))), (30, .val (Value.bool (decide (x6 < 32))))] ?_)
      rcases ite_some h with ⟨hp, h⟩ | ⟨hp, h⟩
      · refine RS.fx 31 true (decide_eq_true hp) (RS.mS 17 [(48, .val (Value.bool true)), (47, .val undef), (46, .val undef), (45, .val undef), (44, .val undef), (43, .val (Value.bool true)), (42, .val (Value.bool true)), (41, .val undef), (40, .val undef), (39, .val undef), (38, .val undef), (37, .val (Value.bool true)), (36, .val (Value.bool true)), (35, .val undef), (34, .val undef), (33, .val undef), (32, .val undef)] (RS.dn ?_))
        cases h
        exact fun a w hs => (jsN (hs.sb 0))
      · refine RS.fx 31 false (decide_eq_false hp) (RS.mS 2 [(33, .val (Value.int .i64 v24_4)), (32, .val (Value.string a0))] ?_)
        obtain ⟨x7, hx, h⟩ := bind_some h
        refine RS.o (H' := H) (some 34) (Value.int .u8 x7) (Abs.run_byt (t := 9) (x := .tmp 32) (y := .tmp 33) (s := a0) (k := .i64) (i := v24_4) (by kernel_rfl) (by kernel_rfl) (by kernel_rfl) (by kernel_rfl) hx) (RS.mS 3 [(37, .val (Value.bool (decide (x7 > 126)))), (36, .val (Value.bool (decide (x7 > 126)))), (35, .val (Value.bool (decide (x7 > 126))))] ?_)
        rcases ite_some h with ⟨hp, h⟩ | ⟨hp, h⟩
        · refine RS.fx 37 true (decide_eq_true hp) (RS.mS 11 [(48, .val (Value.bool true)), (47, .val undef), (46, .val undef), (45, .val undef), (44, .val undef), (43, .val (Value.bool true)), (42, .val (Value.bool true)), (41, .val undef), (40, .val undef), (39, .val undef), (38, .val undef)] (RS.dn ?_))
          cases h
          exact fun a w hs => (jsN (hs.sb 0))
        · refine RS.fx 37 false (decide_eq_false hp) (RS.mS 2 [(39, .val (Value.int .i64 v24_4)), (38, .val (Value.string a0))] ?_)
          obtain ⟨x8, hx, h⟩ := bind_some h
          refine RS.o (H' := H) (some 40) (Value.int .u8 x8) (Abs.run_byt (t := 9) (x := .tmp 38) (y := .tmp 39) (s := a0) (k := .i64) (i := v24_4) (by kernel_rfl) (by kernel_rfl) (by kernel_rfl) (by kernel_rfl) hx) (RS.mS 3 [(43, .val (Value.bool (decide (x8 = 124)))), (42, .val (Value.bool (decide (x8 = 124)))), (41, .val (Value.bool (decide (x8 = 124))))] ?_)
          rcases ite_some h with ⟨hp, h⟩ | ⟨hp, h⟩
          · refine RS.fx 43 true (decide_eq_true hp) (RS.mS 5 [(48, .val (Value.bool true)), (47, .val undef), (46, .val undef), (45, .val undef), (44, .val undef)] (RS.dn ?_))
            cases h
            exact fun a w hs => (jsN (hs.sb 0))
          · refine RS.fx 43 false (decide_eq_false hp) (RS.mS 2 [(45, .val (Value.int .i64 v24_4)), (44, .val (Value.string a0))] ?_)
            obtain ⟨x9, hx, h⟩ := bind_some h
            refine RS.o (H' := H) (some 46) (Value.int .u8 x9) (Abs.run_byt (t := 9) (x := .tmp 44) (y := .tmp 45) (s := a0) (k := .i64) (i := v24_4) (by kernel_rfl) (by kernel_rfl) (by kernel_rfl) (by kernel_rfl) hx) (RS.mS 2 [(48, .val (Value.bool (decide (x9 = 92)))), (47, .val (Value.bool (decide (x9 = 92))))] (RS.dn ?_))
            cases h
            exact fun a w hs => (jsN (hs.sb 0))
    · clear hx
      rcases ite_some h with ⟨hp, h⟩ | ⟨hp, h⟩
      · refine WS.fx 48 true hp (WS.cT (WS.sq (WS.rg (RS.mS 1 [(2, .val (Value.bool false))] (RS.dn (WS.nxt (WS.rt ?_)))))))
        cases h
        exact fun a w hs => bkR (sqR (lsR rfl (rS hs)))
      · refine WS.fx 48 false (b_not hp) (WS.cF (WS.sk ?_))
        refine fun a w hs => bkN ((WS.nxt ?_ a w hs))
        refine WS.rg (RS.mS 2 [(24, .val (Value.int .i64 (IntKind.i64.wrap (v24_4 + 1)))), (49, .val (Value.int .i64 (IntKind.i64.wrap (v24_4 + 1))))] (RS.dn ?_))
        cases h
        exact fun a w hs => lsN rfl (hs.sb 0)
  · refine WS.fx 25 false (decide_eq_false hp) (WS.cF (WS.ex 0 ?_))
    cases h
    exact fun a w hs => sqE (lsB rfl (hs.sb 0))

theorem sort_Name_ok {L : LC} {m : Nat} {H : AH} {a0 : ByteArray} {r : Bool} (h : sort_Name L a0 = some r) :
    CallS Tryd.prog (NE.plain 1000) m 13 #[(Value.string a0)] H (sort_Name_enc r) (sort_Name_hp H r) := by
  refine CallS.mk (args := [(Value.string a0)]) Tryd.func13 (B := B13) (by kernel_rfl) (fun E _ => ?_)
  unfold sort_Name at h
  refine WS.sq (WS.rg (RS.mS 1 [(2, .val (Value.bool false))] (RS.dn (WS.nxt (WS.sq ?_)))))
  obtain ⟨v21_1, hx, h⟩ := bind_some h
  refine WS.sq ?_
  refine WS.join ([(21, .val (Value.bool v21_1)), (0, .val (Value.string a0))]) ([]) H ?_ (fun a w hs => WS.nxt ?_ a w hs)
  · clear h; rename _ => h
    refine WS.rg (RS.mS 4 [(7, .val (Value.bool (decide ((a0.size : Int) < 1)))), (6, .val (Value.bool (decide ((a0.size : Int) < 1)))), (5, .val (Value.int .i64 (a0.size : Int))), (4, .val (Value.string a0))] ?_)
    rcases ite_some h with ⟨hp, h⟩ | ⟨hp, h⟩
    · refine RS.fx 7 true (decide_eq_true hp) (RS.mS 14 [(21, .val (Value.bool true)), (20, .val undef), (19, .val undef), (18, .val undef), (17, .val (Value.bool true)), (16, .val (Value.bool true)), (15, .val undef), (14, .val undef), (13, .val undef), (12, .val (Value.bool true)), (11, .val (Value.bool true)), (10, .val undef), (9, .val undef), (8, .val undef)] (RS.dn ?_))
      cases h
      exact fun a w hs => (jsN (hs.sb 0))
    · refine RS.fx 7 false (decide_eq_false hp) (RS.mS 5 [(12, .val (Value.bool (decide ((a0.size : Int) > 200)))), (11, .val (Value.bool (decide ((a0.size : Int) > 200)))), (10, .val (Value.bool (decide ((a0.size : Int) > 200)))), (9, .val (Value.int .i64 (a0.size : Int))), (8, .val (Value.string a0))] ?_)
      rcases ite_some h with ⟨hp, h⟩ | ⟨hp, h⟩
      · refine RS.fx 12 true (decide_eq_true hp) (RS.mS 9 [(21, .val (Value.bool true)), (20, .val undef), (19, .val undef), (18, .val undef), (17, .val (Value.bool true)), (16, .val (Value.bool true)), (15, .val undef), (14, .val undef), (13, .val undef)] (RS.dn ?_))
        cases h
        exact fun a w hs => (jsN (hs.sb 0))
      · refine RS.fx 12 false (decide_eq_false hp) (RS.mS 1 [(13, .val (Value.string a0))] ?_)
        obtain ⟨x2, hx, h⟩ := bind_some h
        refine RS.o (H' := H) (some 14) (Value.int .u8 x2) (Abs.run_byt (t := 9) (x := .tmp 13) (y := .const (Value.int .i64 0)) (s := a0) (k := .i64) (i := 0) (by kernel_rfl) (by kernel_rfl) (by kernel_rfl) (by kernel_rfl) hx) (RS.mS 3 [(17, .val (Value.bool (decide (x2 = 64)))), (16, .val (Value.bool (decide (x2 = 64)))), (15, .val (Value.bool (decide (x2 = 64))))] ?_)
        rcases ite_some h with ⟨hp, h⟩ | ⟨hp, h⟩
        · refine RS.fx 17 true (decide_eq_true hp) (RS.mS 4 [(21, .val (Value.bool true)), (20, .val undef), (19, .val undef), (18, .val undef)] (RS.dn ?_))
          cases h
          exact fun a w hs => (jsN (hs.sb 0))
        · refine RS.fx 17 false (decide_eq_false hp) (RS.mS 1 [(18, .val (Value.string a0))] ?_)
          obtain ⟨x3, hx, h⟩ := bind_some h
          refine RS.o (H' := H) (some 19) (Value.int .u8 x3) (Abs.run_byt (t := 9) (x := .tmp 18) (y := .const (Value.int .i64 0)) (s := a0) (k := .i64) (i := 0) (by kernel_rfl) (by kernel_rfl) (by kernel_rfl) (by kernel_rfl) hx) (RS.mS 2 [(21, .val (Value.bool (decide (x3 = 46)))), (20, .val (Value.bool (decide (x3 = 46))))] (RS.dn ?_))
          cases h
          exact fun a w hs => (jsN (hs.sb 0))
  · clear hx
    rcases ite_some h with ⟨hp, h⟩ | ⟨hp, h⟩
    · refine WS.fx 21 true hp (WS.cT (WS.sq (WS.rg (RS.mS 1 [(2, .val (Value.bool false))] (RS.dn (WS.nxt (WS.rt ?_)))))))
      cases h
      exact fun a w hs => sqR (rtR (rS hs))
    · refine WS.fx 21 false (b_not hp) (WS.cF (WS.sk (WS.nxt (WS.sq (WS.sq (WS.rg (RS.mS 3 [(24, .val (Value.int .i64 0)), (23, .val (Value.int .i64 (a0.size : Int))), (22, .val (Value.string a0))] (RS.dn (WS.nxt ?_)))))))))
      refine WS.bk 0 ?_
      obtain ⟨o, hl, h⟩ := bind_some h
      rcases o with v24_10 | r
      · try dsimp only at h
        refine WS.lI (sort_Name_b0_ok (L := L) (E := E) (m := m) (H := H)) (L.ok hl) 0 ?_
        clear hl
        refine fun a w hs => bkE ((WS.nxt ?_ a w hs))
        refine WS.sq (WS.rg (RS.mS 1 [(2, .val (Value.bool true))] (RS.dn (WS.nxt (WS.rt ?_)))))
        cases h
        exact fun a w hs => rtR (rS hs)
      · try dsimp only at h
        refine WS.lR (sort_Name_b0_ok (L := L) (E := E) (m := m) (H := H)) (L.ok hl) 0 ?_
        cases h
        exact fun a w hq => bkR (sqR (rtR hq))

def ref04_Name_enc : Bool → Value
  | r0 => (Value.bool r0)

def ref04_Name_hp (H : AH) : Bool → AH := fun _ => H

noncomputable def B14 : Code := (Tryd.f14.body).getD .skip

noncomputable def ref04_Name_b0 (_L : LC) (a0 : ByteArray) : Int → Option (Lp Int Bool) := fun v3_4 =>
  if v3_4 < (a0.size : Int) then
    Option.bind (α := Bool) (
      Option.bind (bytA a0 v3_4) fun x6 =>
      if x6 < 32 then
        some true
      else
        Option.bind (bytA a0 v3_4) fun x7 =>
        if x7 > 126 then
          some true
        else
          Option.bind (bytA a0 v3_4) fun x8 =>
          if x8 = 124 then
            some true
          else
            Option.bind (bytA a0 v3_4) fun x9 =>
            some (decide (x9 = 92))) fun v49_5 =>
    if v49_5 = true then
      some (.ret false)
    else
      some (.next (IntKind.i64.wrap (v3_4 + 1)))
  else
    some (.brk v3_4)

def ref04_Name_b0_kn (_L : LC) (a0 : ByteArray) : Int → KN := fun v3_4 => [(3, .val (Value.int .i64 v3_4)), (0, .val (Value.string a0))]

def ref04_Name_b0_ls (_L : LC) (_a0 : ByteArray) : Int → Lcs := fun _ => []

noncomputable def ref04_Name (L : LC) (a0 : ByteArray) : Option Bool :=
  Option.bind (α := Bool) (
    if (a0.size : Int) < 1 then
      some true
    else
      if (a0.size : Int) > 200 then
        some true
      else
        Option.bind (bytA a0 0) fun x2 =>
        if x2 = 64 then
          some true
        else
          Option.bind (bytA a0 0) fun x3 =>
          some (decide (x3 = 46))) fun v21_1 =>
  if v21_1 = true then
    some false
  else
    Option.bind (L.run (ref04_Name_b0 L a0) 0) fun o => match o with
    | .inl _ =>
      some true
    | .inr r => some r

theorem ref04_Name_b0_ok {E : Ent} {m : Nat} {H : AH} {L : LC} {a0 : ByteArray}  : ∀ s o, ref04_Name_b0 L a0 s = some o →
    WS Tryd.prog (NE.plain 1000) m E Tryd.f14.ntmps (cfst (cfst (csnd (cfst (csnd (csnd B14)))))) (ref04_Name_b0_kn L a0 s) (ref04_Name_b0_ls L a0 s) ((fun _ => H) s) (lpS Tryd.prog (NE.plain 1000) m E Tryd.f14.ntmps (ref04_Name_b0_kn L a0) (ref04_Name_b0_ls L a0) (fun _ => H) 0 (fun r => RT Tryd.prog (NE.plain 1000) m E Tryd.f14 (ref04_Name_enc r) (ref04_Name_hp H r)) o) := by
  rintro v3_4 o h
  unfold ref04_Name_b0 at h
  try dsimp only at h
  refine WS.sq (WS.sq (WS.rg (RS.mS 4 [(25, .val (Value.bool (decide (v3_4 < (a0.size : Int))))), (24, .val (Value.int .i64 (a0.size : Int))), (23, .val (Value.string a0)), (22, .val (Value.int .i64 v3_4))] (RS.dn (WS.nxt ?_)))))
  rcases ite_some h with ⟨hp, h⟩ | ⟨hp, h⟩
  · refine WS.fx 25 true (decide_eq_true hp) (WS.cT (WS.sk (WS.nxt (WS.sq (WS.bk 1 ?_)))))
    obtain ⟨v49_5, hx, h⟩ := bind_some h
    refine WS.sq ?_
    refine WS.join ([(49, .val (Value.bool v49_5)), (0, .val (Value.string a0)), (3, .val (Value.int .i64 v3_4))]) ([]) H ?_ (fun a w hs => WS.nxt ?_ a w hs)
    · clear h; rename _ => h
      refine WS.rg (RS.mS 2 [(29, .val (Value.int .i64 v3_4)), (28, .val (Value.string a0))] ?_)
      obtain ⟨x6, hx, h⟩ := bind_some h
      refine RS.o (H' := H) (some 30) (Value.int .u8 x6) (Abs.run_byt (t := 9) (x := .tmp 28) (y := .tmp 29) (s := a0) (k := .i64) (i := v3_4) (by kernel_rfl) (by kernel_rfl) (by kernel_rfl) (by kernel_rfl) hx) (RS.mS 2 [(32, .val (Value.bool (decide (x6 < 32)))), (31, .val (Value.bool (decide (x6 < 32))))] ?_)
      rcases ite_some h with ⟨hp, h⟩ | ⟨hp, h⟩
      · refine RS.fx 32 true (decide_eq_true hp) (RS.mS 17 [(49, .val (Value.bool true)), (48, .val undef), (47, .val undef), (46, .val undef), (45, .val undef), (44, .val (Value.bool true)), (43, .val (Value.bool true)), (42, .val undef), (41, .val undef), (40, .val undef), (39, .val undef), (38, .val (Value.bool true)), (37, .val (Value.bool true)), (36, .val undef), (35, .val undef), (34, .val undef), (33, .val undef)] (RS.dn ?_))
        cases h
        exact fun a w hs => (jsN (hs.sb 0))
      · refine RS.fx 32 false (decide_eq_false hp) (RS.mS 2 [(34, .val (Value.int .i64 v3_4)), (33, .val (Value.string a0))] ?_)
        obtain ⟨x7, hx, h⟩ := bind_some h
        refine RS.o (H' := H) (some 35) (Value.int .u8 x7) (Abs.run_byt (t := 9) (x := .tmp 33) (y := .tmp 34) (s := a0) (k := .i64) (i := v3_4) (by kernel_rfl) (by kernel_rfl) (by kernel_rfl) (by kernel_rfl) hx) (RS.mS 3 [(38, .val (Value.bool (decide (x7 > 126)))), (37, .val (Value.bool (decide (x7 > 126)))), (36, .val (Value.bool (decide (x7 > 126))))] ?_)
        rcases ite_some h with ⟨hp, h⟩ | ⟨hp, h⟩
        · refine RS.fx 38 true (decide_eq_true hp) (RS.mS 11 [(49, .val (Value.bool true)), (48, .val undef), (47, .val undef), (46, .val undef), (45, .val undef), (44, .val (Value.bool true)), (43, .val (Value.bool true)), (42, .val undef), (41, .val undef), (40, .val undef), (39, .val undef)] (RS.dn ?_))
          cases h
          exact fun a w hs => (jsN (hs.sb 0))
        · refine RS.fx 38 false (decide_eq_false hp) (RS.mS 2 [(40, .val (Value.int .i64 v3_4)), (39, .val (Value.string a0))] ?_)
          obtain ⟨x8, hx, h⟩ := bind_some h
          refine RS.o (H' := H) (some 41) (Value.int .u8 x8) (Abs.run_byt (t := 9) (x := .tmp 39) (y := .tmp 40) (s := a0) (k := .i64) (i := v3_4) (by kernel_rfl) (by kernel_rfl) (by kernel_rfl) (by kernel_rfl) hx) (RS.mS 3 [(44, .val (Value.bool (decide (x8 = 124)))), (43, .val (Value.bool (decide (x8 = 124)))), (42, .val (Value.bool (decide (x8 = 124))))] ?_)
          rcases ite_some h with ⟨hp, h⟩ | ⟨hp, h⟩
          · refine RS.fx 44 true (decide_eq_true hp) (RS.mS 5 [(49, .val (Value.bool true)), (48, .val undef), (47, .val undef), (46, .val undef), (45, .val undef)] (RS.dn ?_))
            cases h
            exact fun a w hs => (jsN (hs.sb 0))
          · refine RS.fx 44 false (decide_eq_false hp) (RS.mS 2 [(46, .val (Value.int .i64 v3_4)), (45, .val (Value.string a0))] ?_)
            obtain ⟨x9, hx, h⟩ := bind_some h
            refine RS.o (H' := H) (some 47) (Value.int .u8 x9) (Abs.run_byt (t := 9) (x := .tmp 45) (y := .tmp 46) (s := a0) (k := .i64) (i := v3_4) (by kernel_rfl) (by kernel_rfl) (by kernel_rfl) (by kernel_rfl) hx) (RS.mS 2 [(49, .val (Value.bool (decide (x9 = 92)))), (48, .val (Value.bool (decide (x9 = 92))))] (RS.dn ?_))
            cases h
            exact fun a w hs => (jsN (hs.sb 0))
    · clear hx
      rcases ite_some h with ⟨hp, h⟩ | ⟨hp, h⟩
      · refine WS.fx 49 true hp (WS.cT (WS.sq (WS.rg (RS.mS 1 [(2, .val (Value.bool false))] (RS.dn (WS.nxt (WS.rt ?_)))))))
        cases h
        exact fun a w hs => bkR (sqR (lsR rfl (rS hs)))
      · refine WS.fx 49 false (b_not hp) (WS.cF (WS.sk ?_))
        refine fun a w hs => bkN ((WS.nxt ?_ a w hs))
        refine WS.rg (RS.mS 3 [(3, .val (Value.int .i64 (IntKind.i64.wrap (v3_4 + 1)))), (27, .val (Value.int .i64 (IntKind.i64.wrap (v3_4 + 1)))), (26, .val (Value.int .i64 v3_4))] (RS.dn ?_))
        cases h
        exact fun a w hs => lsN rfl (hs.sb 0)
  · refine WS.fx 25 false (decide_eq_false hp) (WS.cF (WS.ex 0 ?_))
    cases h
    exact fun a w hs => sqE (lsB rfl (hs.sb 0))

theorem ref04_Name_ok {L : LC} {m : Nat} {H : AH} {a0 : ByteArray} {r : Bool} (h : ref04_Name L a0 = some r) :
    CallS Tryd.prog (NE.plain 1000) m 14 #[(Value.string a0)] H (ref04_Name_enc r) (ref04_Name_hp H r) := by
  refine CallS.mk (args := [(Value.string a0)]) Tryd.func14 (B := B14) (by kernel_rfl) (fun E _ => ?_)
  unfold ref04_Name at h
  refine WS.sq (WS.rg (RS.mS 1 [(2, .val (Value.bool false))] (RS.dn (WS.nxt (WS.sq ?_)))))
  obtain ⟨v21_1, hx, h⟩ := bind_some h
  refine WS.sq ?_
  refine WS.join ([(21, .val (Value.bool v21_1)), (0, .val (Value.string a0))]) ([]) H ?_ (fun a w hs => WS.nxt ?_ a w hs)
  · clear h; rename _ => h
    refine WS.rg (RS.mS 4 [(7, .val (Value.bool (decide ((a0.size : Int) < 1)))), (6, .val (Value.bool (decide ((a0.size : Int) < 1)))), (5, .val (Value.int .i64 (a0.size : Int))), (4, .val (Value.string a0))] ?_)
    rcases ite_some h with ⟨hp, h⟩ | ⟨hp, h⟩
    · refine RS.fx 7 true (decide_eq_true hp) (RS.mS 14 [(21, .val (Value.bool true)), (20, .val undef), (19, .val undef), (18, .val undef), (17, .val (Value.bool true)), (16, .val (Value.bool true)), (15, .val undef), (14, .val undef), (13, .val undef), (12, .val (Value.bool true)), (11, .val (Value.bool true)), (10, .val undef), (9, .val undef), (8, .val undef)] (RS.dn ?_))
      cases h
      exact fun a w hs => (jsN (hs.sb 0))
    · refine RS.fx 7 false (decide_eq_false hp) (RS.mS 5 [(12, .val (Value.bool (decide ((a0.size : Int) > 200)))), (11, .val (Value.bool (decide ((a0.size : Int) > 200)))), (10, .val (Value.bool (decide ((a0.size : Int) > 200)))), (9, .val (Value.int .i64 (a0.size : Int))), (8, .val (Value.string a0))] ?_)
      rcases ite_some h with ⟨hp, h⟩ | ⟨hp, h⟩
      · refine RS.fx 12 true (decide_eq_true hp) (RS.mS 9 [(21, .val (Value.bool true)), (20, .val undef), (19, .val undef), (18, .val undef), (17, .val (Value.bool true)), (16, .val (Value.bool true)), (15, .val undef), (14, .val undef), (13, .val undef)] (RS.dn ?_))
        cases h
        exact fun a w hs => (jsN (hs.sb 0))
      · refine RS.fx 12 false (decide_eq_false hp) (RS.mS 1 [(13, .val (Value.string a0))] ?_)
        obtain ⟨x2, hx, h⟩ := bind_some h
        refine RS.o (H' := H) (some 14) (Value.int .u8 x2) (Abs.run_byt (t := 9) (x := .tmp 13) (y := .const (Value.int .i64 0)) (s := a0) (k := .i64) (i := 0) (by kernel_rfl) (by kernel_rfl) (by kernel_rfl) (by kernel_rfl) hx) (RS.mS 3 [(17, .val (Value.bool (decide (x2 = 64)))), (16, .val (Value.bool (decide (x2 = 64)))), (15, .val (Value.bool (decide (x2 = 64))))] ?_)
        rcases ite_some h with ⟨hp, h⟩ | ⟨hp, h⟩
        · refine RS.fx 17 true (decide_eq_true hp) (RS.mS 4 [(21, .val (Value.bool true)), (20, .val undef), (19, .val undef), (18, .val undef)] (RS.dn ?_))
          cases h
          exact fun a w hs => (jsN (hs.sb 0))
        · refine RS.fx 17 false (decide_eq_false hp) (RS.mS 1 [(18, .val (Value.string a0))] ?_)
          obtain ⟨x3, hx, h⟩ := bind_some h
          refine RS.o (H' := H) (some 19) (Value.int .u8 x3) (Abs.run_byt (t := 9) (x := .tmp 18) (y := .const (Value.int .i64 0)) (s := a0) (k := .i64) (i := 0) (by kernel_rfl) (by kernel_rfl) (by kernel_rfl) (by kernel_rfl) hx) (RS.mS 2 [(21, .val (Value.bool (decide (x3 = 46)))), (20, .val (Value.bool (decide (x3 = 46))))] (RS.dn ?_))
          cases h
          exact fun a w hs => (jsN (hs.sb 0))
  · clear hx
    rcases ite_some h with ⟨hp, h⟩ | ⟨hp, h⟩
    · refine WS.fx 21 true hp (WS.cT (WS.sq (WS.rg (RS.mS 1 [(2, .val (Value.bool false))] (RS.dn (WS.nxt (WS.rt ?_)))))))
      cases h
      exact fun a w hs => sqR (rtR (rS hs))
    · refine WS.fx 21 false (b_not hp) (WS.cF (WS.sk (WS.nxt (WS.sq (WS.sq (WS.rg (RS.mS 1 [(3, .val (Value.int .i64 0))] (RS.dn (WS.nxt ?_)))))))))
      refine WS.bk 0 ?_
      obtain ⟨o, hl, h⟩ := bind_some h
      rcases o with v3_10 | r
      · try dsimp only at h
        refine WS.lI (ref04_Name_b0_ok (L := L) (E := E) (m := m) (H := H)) (L.ok hl) 0 ?_
        clear hl
        refine fun a w hs => bkE ((WS.nxt ?_ a w hs))
        refine WS.sq (WS.rg (RS.mS 1 [(2, .val (Value.bool true))] (RS.dn (WS.nxt (WS.rt ?_)))))
        cases h
        exact fun a w hs => rtR (rS hs)
      · try dsimp only at h
        refine WS.lR (ref04_Name_b0_ok (L := L) (E := E) (m := m) (H := H)) (L.ok hl) 0 ?_
        cases h
        exact fun a w hq => bkR (sqR (rtR hq))

def sort_letter_enc : Bool → Value
  | r0 => (Value.bool r0)

def sort_letter_hp (H : AH) : Bool → AH := fun _ => H

noncomputable def B62 : Code := (Tryd.f62.body).getD .skip

noncomputable def sort_letter (_L : LC) (a0 : Int) : Option Bool :=
  if (ior .u8 a0 32) ≥ 97 then
    some (decide ((ior .u8 a0 32) ≤ 122))
  else
    some false

theorem sort_letter_ok {L : LC} {m : Nat} {H : AH} {a0 : Int} {r : Bool} (h : sort_letter L a0 = some r) :
    CallS Tryd.prog (NE.plain 1000) m 62 #[(Value.int .u8 a0)] H (sort_letter_enc r) (sort_letter_hp H r) := by
  refine CallS.mk (args := [(Value.int .u8 a0)]) Tryd.func62 (B := B62) (by kernel_rfl) (fun E _ => ?_)
  unfold sort_letter at h
  refine WS.sq (WS.rg (RS.mS 1 [(2, .val (Value.bool false))] (RS.dn (WS.nxt (WS.sq (WS.rg (RS.mS 4 [(6, .val (Value.bool (decide ((ior .u8 a0 32) ≥ 97)))), (5, .val (Value.bool (decide ((ior .u8 a0 32) ≥ 97)))), (4, .val (Value.int .u8 (ior .u8 a0 32))), (3, .val (Value.int .u8 a0))] ?_)))))))
  rcases ite_some h with ⟨hp, h⟩ | ⟨hp, h⟩
  · refine RS.fx 6 true (decide_eq_true hp) (RS.mS 5 [(2, .val (Value.bool (decide ((ior .u8 a0 32) ≤ 122)))), (10, .val (Value.bool (decide ((ior .u8 a0 32) ≤ 122)))), (9, .val (Value.bool (decide ((ior .u8 a0 32) ≤ 122)))), (8, .val (Value.int .u8 (ior .u8 a0 32))), (7, .val (Value.int .u8 a0))] (RS.dn (WS.nxt (WS.rt ?_))))
    cases h
    exact fun a w hs => rtR (rS hs)
  · refine RS.fx 6 false (decide_eq_false hp) (RS.mS 5 [(2, .val (Value.bool false)), (10, .val (Value.bool false)), (9, .val undef), (8, .val undef), (7, .val undef)] (RS.dn (WS.nxt (WS.rt ?_))))
    cases h
    exact fun a w hs => rtR (rS hs)

def stringslite_IndexByte_enc : Int → Value
  | r0 => (Value.int .i64 r0)

def stringslite_IndexByte_hp (H : AH) : Int → AH := fun _ => H

noncomputable def B93 : Code := (Tryd.f93.body).getD .skip

noncomputable def stringslite_IndexByte (_L : LC) (a0 : ByteArray) (a1 : Int) : Option Int :=
  Option.bind (ixByte a0 a1) fun x1 =>
  some x1

theorem stringslite_IndexByte_ok {L : LC} {m : Nat} {H : AH} {a0 : ByteArray} {a1 : Int} {r : Int} (h : stringslite_IndexByte L a0 a1 = some r) :
    CallS Tryd.prog (NE.plain 1000) m 93 #[(Value.string a0), (Value.int .u8 a1)] H (stringslite_IndexByte_enc r) (stringslite_IndexByte_hp H r) := by
  refine CallS.mk (args := [(Value.string a0), (Value.int .u8 a1)]) Tryd.func93 (B := B93) (by kernel_rfl) (fun E _ => ?_)
  unfold stringslite_IndexByte at h
  refine WS.sq (WS.rg (RS.mS 1 [(4, .val (Value.int .i64 0))] (RS.dn (WS.nxt (WS.sq (WS.rg (RS.mS 2 [(6, .val (Value.int .u8 a1)), (5, .val (Value.string a0))] ?_)))))))
  obtain ⟨x1, hx, h⟩ := bind_some h
  refine RS.extD (some 7) (v := (Value.int .i64 x1)) 100 #[(Value.string a0), (Value.int .u8 a1)] (by kernel_rfl) (by kernel_rfl) (by kernel_rfl) (by kernel_rfl) (by kernel_rfl) ((by kernel_rfl : peval Tryd.prog (callFunc 100 #[(Value.string a0), (Value.int .u8 a1)]) = peval Tryd.prog (do let v ← Extern.BytealgIndexByte.indexByte #[(Value.string a0), (Value.int .u8 a1)]; pure (Next.value v))).trans (Abs.ixByte_run hx)) (by kernel_rfl) (RS.mS 1 [(4, .val (Value.int .i64 x1))] (RS.dn (WS.nxt (WS.rt ?_))))
  cases h
  exact fun a w hs => rtR (rS hs)

def strings_IndexByte_enc : Int → Value
  | r0 => (Value.int .i64 r0)

def strings_IndexByte_hp (H : AH) : Int → AH := fun _ => H

noncomputable def B63 : Code := (Tryd.f63.body).getD .skip

noncomputable def strings_IndexByte (L : LC) (a0 : ByteArray) (a1 : Int) : Option Int :=
  Option.bind (stringslite_IndexByte L a0 a1) fun x1 =>
  some x1

theorem strings_IndexByte_ok {L : LC} {m : Nat} {H : AH} {a0 : ByteArray} {a1 : Int} {r : Int} (h : strings_IndexByte L a0 a1 = some r) :
    CallS Tryd.prog (NE.plain 1000) m 63 #[(Value.string a0), (Value.int .u8 a1)] H (strings_IndexByte_enc r) (strings_IndexByte_hp H r) := by
  refine CallS.mk (args := [(Value.string a0), (Value.int .u8 a1)]) Tryd.func63 (B := B63) (by kernel_rfl) (fun E _ => ?_)
  unfold strings_IndexByte at h
  refine WS.sq (WS.rg (RS.mS 1 [(4, .val (Value.int .i64 0))] (RS.dn (WS.nxt (WS.sq (WS.rg (RS.mS 2 [(6, .val (Value.int .u8 a1)), (5, .val (Value.string a0))] ?_)))))))
  obtain ⟨x1, hx, h⟩ := bind_some h
  refine RS.cl (some 7) (v := (Value.int .i64 x1)) 93 #[(Value.string a0), (Value.int .u8 a1)] (stringslite_IndexByte_ok hx) (RS.mS 1 [(4, .val (Value.int .i64 x1))] (RS.dn (WS.nxt (WS.rt ?_))))
  cases h
  exact fun a w hs => rtR (rS hs)

def slices_Index_101_enc : Int → Value
  | r0 => (Value.int .i64 r0)

def slices_Index_101_hp (H : AH) : Int → AH := fun _ => H

noncomputable def B101 : Code := (Tryd.f101.body).getD .skip

noncomputable def slices_Index_101_b0 (_L : LC) (H : AH) (a0 : Sl3) (a1 : ByteArray) : Int → Option (Lp Int Int) := fun v8_1 =>
  if v8_1 < (a0.n : Int) then
    Option.bind (idxA 1 a0 v8_1) fun p2 =>
    Option.bind (rd deS H p2) fun x3 =>
    if (a1.toList == x3.toList) = true then
      some (.ret v8_1)
    else
      some (.next (IntKind.i64.wrap (v8_1 + 1)))
  else
    some (.brk v8_1)

def slices_Index_101_b0_kn (_L : LC) (_H : AH) (a0 : Sl3) (a1 : ByteArray) : Int → KN := fun v8_1 => [(8, .val (Value.int .i64 v8_1)), (0, .val (Sl3.v a0)), (1, .val (Value.string a1)), (7, .val (Value.int .i64 (a0.n : Int)))]

def slices_Index_101_b0_ls (_L : LC) (_H : AH) (_a0 : Sl3) (_a1 : ByteArray) : Int → Lcs := fun _ => []

noncomputable def slices_Index_101 (L : LC) (H : AH) (a0 : Sl3) (a1 : ByteArray) : Option Int :=
  Option.bind (L.run (slices_Index_101_b0 L H a0 a1) 0) fun o => match o with
  | .inl _ =>
    some (-1)
  | .inr r => some r

theorem slices_Index_101_b0_ok {E : Ent} {m : Nat} {L : LC} {H : AH} {a0 : Sl3} {a1 : ByteArray}  : ∀ s o, slices_Index_101_b0 L H a0 a1 s = some o →
    WS Tryd.prog (NE.plain 1000) m E Tryd.f101.ntmps (cfst (cfst (csnd (cfst (csnd B101))))) (slices_Index_101_b0_kn L H a0 a1 s) (slices_Index_101_b0_ls L H a0 a1 s) ((fun _ => H) s) (lpS Tryd.prog (NE.plain 1000) m E Tryd.f101.ntmps (slices_Index_101_b0_kn L H a0 a1) (slices_Index_101_b0_ls L H a0 a1) (fun _ => H) 0 (fun r => RT Tryd.prog (NE.plain 1000) m E Tryd.f101 (slices_Index_101_enc r) (slices_Index_101_hp H r)) o) := by
  rintro v8_1 o h
  unfold slices_Index_101_b0 at h
  try dsimp only at h
  refine WS.sq (WS.rg (RS.mS 1 [(9, .val (Value.bool (decide (v8_1 < (a0.n : Int)))))] (RS.dn (WS.nxt (WS.sq ?_)))))
  rcases ite_some h with ⟨hp, h⟩ | ⟨hp, h⟩
  · refine WS.fx 9 true (decide_eq_true hp) (WS.cT (WS.sk (WS.nxt (WS.sq (WS.bk 1 (WS.sq (WS.rg (RS.mS 2 [(5, .val (Value.int .i64 v8_1)), (10, .val (Value.int .i64 v8_1))] (RS.dn ?_)))))))))
    refine WS.nxt (WS.sq (WS.rg (RS.mS 3 [(13, .val (Value.int .i64 v8_1)), (12, .val (Sl3.v a0)), (11, .val (Value.string a1))] ?_)))
    obtain ⟨p2, hx, h⟩ := bind_some h
    refine RS.o (H' := H) (some 14) (Value.pointer (some p2)) (Abs.run_idx (s := a0) (k := .i64) (t := 29) (e := 9) (x := .tmp 12) (y := .tmp 13) (by kernel_rfl) (by kernel_rfl) (by kernel_rfl) (by kernel_rfl) (by kernel_rfl) hx) ?_
    obtain ⟨x3, hx, h⟩ := bind_some h
    refine RS.o (H' := H) (some 15) (Value.string x3) (Abs.run_load (t := 9) (x := .tmp 14) (a := p2) (by kernel_rfl) (by kernel_rfl) (by kernel_rfl) (rd_cell hx deS_inv)) (RS.mS 1 [(16, .val (Value.bool (a1.toList == x3.toList)))] (RS.dn (WS.nxt ?_)))
    rcases ite_some h with ⟨hp, h⟩ | ⟨hp, h⟩
    · refine WS.fx 16 true hp (WS.cT (WS.sq (WS.rg (RS.mS 2 [(4, .val (Value.int .i64 v8_1)), (17, .val (Value.int .i64 v8_1))] (RS.dn (WS.nxt (WS.rt ?_)))))))
      cases h
      exact fun a w hs => bkR (sqR (lsR rfl (rS hs)))
    · refine WS.fx 16 false (b_not hp) (WS.cF (WS.sk ?_))
      refine fun a w hs => bkN ((WS.nxt ?_ a w hs))
      refine WS.rg (RS.mS 2 [(8, .val (Value.int .i64 (IntKind.i64.wrap (v8_1 + 1)))), (18, .val (Value.int .i64 (IntKind.i64.wrap (v8_1 + 1))))] (RS.dn ?_))
      cases h
      exact fun a w hs => lsN rfl (hs.sb 0)
  · refine WS.fx 9 false (decide_eq_false hp) (WS.cF (WS.ex 0 ?_))
    cases h
    exact fun a w hs => sqE (lsB rfl (hs.sb 0))

theorem slices_Index_101_ok {L : LC} {m : Nat} {H : AH} {a0 : Sl3} {a1 : ByteArray} {r : Int} (h : slices_Index_101 L H a0 a1 = some r) :
    CallS Tryd.prog (NE.plain 1000) m 101 #[(Sl3.v a0), (Value.string a1)] H (slices_Index_101_enc r) (slices_Index_101_hp H r) := by
  refine CallS.mk (args := [(Sl3.v a0), (Value.string a1)]) Tryd.func101 (B := B101) (by kernel_rfl) (fun E _ => ?_)
  unfold slices_Index_101 at h
  refine WS.sq (WS.rg (RS.mS 1 [(4, .val (Value.int .i64 0))] (RS.dn (WS.nxt (WS.sq (WS.sq (WS.rg (RS.mS 3 [(8, .val (Value.int .i64 0)), (7, .val (Value.int .i64 (a0.n : Int))), (6, .val (Sl3.v a0))] (RS.dn ?_)))))))))
  refine WS.nxt (WS.bk 0 ?_)
  obtain ⟨o, hl, h⟩ := bind_some h
  rcases o with v8_4 | r
  · try dsimp only at h
    refine WS.lI (slices_Index_101_b0_ok (L := L) (E := E) (m := m) (H := H)) (L.ok hl) 0 ?_
    clear hl
    refine fun a w hs => bkE ((WS.nxt ?_ a w hs))
    refine WS.sq (WS.rg (RS.mS 1 [(4, .val (Value.int .i64 (-1)))] (RS.dn (WS.nxt (WS.rt ?_)))))
    cases h
    exact fun a w hs => rtR (rS hs)
  · try dsimp only at h
    refine WS.lR (slices_Index_101_b0_ok (L := L) (E := E) (m := m) (H := H)) (L.ok hl) 0 ?_
    cases h
    exact fun a w hq => bkR (sqR (rtR hq))

def slices_Contains_94_enc : Bool → Value
  | r0 => (Value.bool r0)

def slices_Contains_94_hp (H : AH) : Bool → AH := fun _ => H

noncomputable def B94 : Code := (Tryd.f94.body).getD .skip

noncomputable def slices_Contains_94 (L : LC) (H : AH) (a0 : Sl3) (a1 : ByteArray) : Option Bool :=
  Option.bind (slices_Index_101 L H a0 a1) fun x1 =>
  some (decide (x1 ≥ 0))

theorem slices_Contains_94_ok {L : LC} {m : Nat} {H : AH} {a0 : Sl3} {a1 : ByteArray} {r : Bool} (h : slices_Contains_94 L H a0 a1 = some r) :
    CallS Tryd.prog (NE.plain 1000) m 94 #[(Sl3.v a0), (Value.string a1)] H (slices_Contains_94_enc r) (slices_Contains_94_hp H r) := by
  refine CallS.mk (args := [(Sl3.v a0), (Value.string a1)]) Tryd.func94 (B := B94) (by kernel_rfl) (fun E _ => ?_)
  unfold slices_Contains_94 at h
  refine WS.sq (WS.rg (RS.mS 1 [(4, .val (Value.bool false))] (RS.dn (WS.nxt (WS.sq (WS.rg (RS.mS 2 [(6, .val (Value.string a1)), (5, .val (Sl3.v a0))] ?_)))))))
  obtain ⟨x1, hx, h⟩ := bind_some h
  refine RS.cl (some 7) (v := (Value.int .i64 x1)) 101 #[(Sl3.v a0), (Value.string a1)] (slices_Index_101_ok hx) (RS.mS 2 [(4, .val (Value.bool (decide (x1 ≥ 0)))), (8, .val (Value.bool (decide (x1 ≥ 0))))] (RS.dn (WS.nxt (WS.rt ?_))))
  cases h
  exact fun a w hs => rtR (rS hs)

def sort_reserved_enc : (Bool × AH) → Value
  | (r0, _) => (Value.bool r0)

def sort_reserved_hp (_ : AH) : (Bool × AH) → AH := fun r => r.2

noncomputable def B64 : Code := (Tryd.f64.body).getD .skip

noncomputable def sort_reserved (L : LC) (m : Nat) (H : AH) (a0 : ByteArray) : Option (Bool × AH) :=
  Option.bind (strings_Fields L m H (⟨#[33, 32, 95, 32, 97, 115, 32, 66, 73, 78, 65, 82, 89, 32, 68, 69, 67, 73, 77, 65, 76, 32, 101, 120, 105, 115, 116, 115, 32, 102, 111, 114, 97, 108, 108, 32, 72, 69, 88, 65, 68, 69, 67, 73, 77, 65, 76, 32, 108, 101, 116, 32, 109, 97, 116, 99, 104, 32, 78, 85, 77, 69, 82, 65, 76, 32, 112, 97, 114, 32, 83, 84, 82, 73, 78, 71, 32, 97, 115, 115, 101, 114, 116, 32, 99, 104, 101, 99, 107, 45, 115, 97, 116, 32, 99, 104, 101, 99, 107, 45, 115, 97, 116, 45, 97, 115, 115, 117, 109, 105, 110, 103, 32, 100, 101, 99, 108, 97, 114, 101, 45, 99, 111, 110, 115, 116, 32, 100, 101, 99, 108, 97, 114, 101, 45, 100, 97, 116, 97, 116, 121, 112, 101, 32, 100, 101, 99, 108, 97, 114, 101, 45, 100, 97, 116, 97, 116, 121, 112, 101, 115, 32, 100, 101, 99, 108, 97, 114, 101, 45, 102, 117, 110, 32, 100, 101, 99, 108, 97, 114, 101, 45, 115, 111, 114, 116, 32, 100, 101, 102, 105, 110, 101, 45, 102, 117, 110, 32, 100, 101, 102, 105, 110, 101, 45, 115, 111, 114, 116, 32, 101, 99, 104, 111, 32, 101, 120, 105, 116, 32, 103, 101, 116, 45, 97, 115, 115, 101, 114, 116, 105, 111, 110, 115, 32, 103, 101, 116, 45, 105, 110, 102, 111, 32, 103, 101, 116, 45, 109, 111, 100, 101, 108, 32, 103, 101, 116, 45, 118, 97, 108, 117, 101, 32, 112, 111, 112, 32, 112, 117, 115, 104, 32, 114, 101, 115, 101, 116, 32, 114, 101, 115, 101, 116, 45, 97, 115, 115, 101, 114, 116, 105, 111, 110, 115, 32, 115, 101, 116, 45, 105, 110, 102, 111, 32, 115, 101, 116, 45, 108, 111, 103, 105, 99, 32, 115, 101, 116, 45, 111, 112, 116, 105, 111, 110]⟩ : ByteArray)) fun (x1, H2) =>
  Option.bind (slices_Contains_94 L H2 x1 a0) fun x3 =>
  some (x3, H2)

theorem sort_reserved_ok {L : LC} {m : Nat} {H : AH} {a0 : ByteArray} {r : (Bool × AH)} (h : sort_reserved L m H a0 = some r) :
    CallS Tryd.prog (NE.plain 1000) m 64 #[(Value.string a0)] H (sort_reserved_enc r) (sort_reserved_hp H r) := by
  refine CallS.mk (args := [(Value.string a0)]) Tryd.func64 (B := B64) (by kernel_rfl) (fun E _ => ?_)
  unfold sort_reserved at h
  refine WS.sq (WS.rg (RS.mS 1 [(2, .val (Value.bool false))] (RS.dn (WS.nxt (WS.sq (WS.rg (RS.mS 1 [(3, .val (Value.string (⟨#[33, 32, 95, 32, 97, 115, 32, 66, 73, 78, 65, 82, 89, 32, 68, 69, 67, 73, 77, 65, 76, 32, 101, 120, 105, 115, 116, 115, 32, 102, 111, 114, 97, 108, 108, 32, 72, 69, 88, 65, 68, 69, 67, 73, 77, 65, 76, 32, 108, 101, 116, 32, 109, 97, 116, 99, 104, 32, 78, 85, 77, 69, 82, 65, 76, 32, 112, 97, 114, 32, 83, 84, 82, 73, 78, 71, 32, 97, 115, 115, 101, 114, 116, 32, 99, 104, 101, 99, 107, 45, 115, 97, 116, 32, 99, 104, 101, 99, 107, 45, 115, 97, 116, 45, 97, 115, 115, 117, 109, 105, 110, 103, 32, 100, 101, 99, 108, 97, 114, 101, 45, 99, 111, 110, 115, 116, 32, 100, 101, 99, 108, 97, 114, 101, 45, 100, 97, 116, 97, 116, 121, 112, 101, 32, 100, 101, 99, 108, 97, 114, 101, 45, 100, 97, 116, 97, 116, 121, 112, 101, 115, 32, 100, 101, 99, 108, 97, 114, 101, 45, 102, 117, 110, 32, 100, 101, 99, 108, 97, 114, 101, 45, 115, 111, 114, 116, 32, 100, 101, 102, 105, 110, 101, 45, 102, 117, 110, 32, 100, 101, 102, 105, 110, 101, 45, 115, 111, 114, 116, 32, 101, 99, 104, 111, 32, 101, 120, 105, 116, 32, 103, 101, 116, 45, 97, 115, 115, 101, 114, 116, 105, 111, 110, 115, 32, 103, 101, 116, 45, 105, 110, 102, 111, 32, 103, 101, 116, 45, 109, 111, 100, 101, 108, 32, 103, 101, 116, 45, 118, 97, 108, 117, 101, 32, 112, 111, 112, 32, 112, 117, 115, 104, 32, 114, 101, 115, 101, 116, 32, 114, 101, 115, 101, 116, 45, 97, 115, 115, 101, 114, 116, 105, 111, 110, 115, 32, 115, 101, 116, 45, 105, 110, 102, 111, 32, 115, 101, 116, 45, 108, 111, 103, 105, 99, 32, 115, 101, 116, 45, 111, 112, 116, 105, 111, 110]⟩ : ByteArray)))] (RS.dn (WS.nxt ?_)))))))))
  refine WS.sq (WS.rg (RS.mS 1 [(4, .val (Value.string (⟨#[33, 32, 95, 32, 97, 115, 32, 66, 73, 78, 65, 82, 89, 32, 68, 69, 67, 73, 77, 65, 76, 32, 101, 120, 105, 115, 116, 115, 32, 102, 111, 114, 97, 108, 108, 32, 72, 69, 88, 65, 68, 69, 67, 73, 77, 65, 76, 32, 108, 101, 116, 32, 109, 97, 116, 99, 104, 32, 78, 85, 77, 69, 82, 65, 76, 32, 112, 97, 114, 32, 83, 84, 82, 73, 78, 71, 32, 97, 115, 115, 101, 114, 116, 32, 99, 104, 101, 99, 107, 45, 115, 97, 116, 32, 99, 104, 101, 99, 107, 45, 115, 97, 116, 45, 97, 115, 115, 117, 109, 105, 110, 103, 32, 100, 101, 99, 108, 97, 114, 101, 45, 99, 111, 110, 115, 116, 32, 100, 101, 99, 108, 97, 114, 101, 45, 100, 97, 116, 97, 116, 121, 112, 101, 32, 100, 101, 99, 108, 97, 114, 101, 45, 100, 97, 116, 97, 116, 121, 112, 101, 115, 32, 100, 101, 99, 108, 97, 114, 101, 45, 102, 117, 110, 32, 100, 101, 99, 108, 97, 114, 101, 45, 115, 111, 114, 116, 32, 100, 101, 102, 105, 110, 101, 45, 102, 117, 110, 32, 100, 101, 102, 105, 110, 101, 45, 115, 111, 114, 116, 32, 101, 99, 104, 111, 32, 101, 120, 105, 116, 32, 103, 101, 116, 45, 97, 115, 115, 101, 114, 116, 105, 111, 110, 115, 32, 103, 101, 116, 45, 105, 110, 102, 111, 32, 103, 101, 116, 45, 109, 111, 100, 101, 108, 32, 103, 101, 116, 45, 118, 97, 108, 117, 101, 32, 112, 111, 112, 32, 112, 117, 115, 104, 32, 114, 101, 115, 101, 116, 32, 114, 101, 115, 101, 116, 45, 97, 115, 115, 101, 114, 116, 105, 111, 110, 115, 32, 115, 101, 116, 45, 105, 110, 102, 111, 32, 115, 101, 116, 45, 108, 111, 103, 105, 99, 32, 115, 101, 116, 45, 111, 112, 116, 105, 111, 110]⟩ : ByteArray)))] ?_))
  obtain ⟨⟨x1, H2⟩, hx, h⟩ := bind_some h
  try dsimp only at h
  refine RS.cl (some 5) (v := (Sl3.v x1)) 95 #[(Value.string (⟨#[33, 32, 95, 32, 97, 115, 32, 66, 73, 78, 65, 82, 89, 32, 68, 69, 67, 73, 77, 65, 76, 32, 101, 120, 105, 115, 116, 115, 32, 102, 111, 114, 97, 108, 108, 32, 72, 69, 88, 65, 68, 69, 67, 73, 77, 65, 76, 32, 108, 101, 116, 32, 109, 97, 116, 99, 104, 32, 78, 85, 77, 69, 82, 65, 76, 32, 112, 97, 114, 32, 83, 84, 82, 73, 78, 71, 32, 97, 115, 115, 101, 114, 116, 32, 99, 104, 101, 99, 107, 45, 115, 97, 116, 32, 99, 104, 101, 99, 107, 45, 115, 97, 116, 45, 97, 115, 115, 117, 109, 105, 110, 103, 32, 100, 101, 99, 108, 97, 114, 101, 45, 99, 111, 110, 115, 116, 32, 100, 101, 99, 108, 97, 114, 101, 45, 100, 97, 116, 97, 116, 121, 112, 101, 32, 100, 101, 99, 108, 97, 114, 101, 45, 100, 97, 116, 97, 116, 121, 112, 101, 115, 32, 100, 101, 99, 108, 97, 114, 101, 45, 102, 117, 110, 32, 100, 101, 99, 108, 97, 114, 101, 45, 115, 111, 114, 116, 32, 100, 101, 102, 105, 110, 101, 45, 102, 117, 110, 32, 100, 101, 102, 105, 110, 101, 45, 115, 111, 114, 116, 32, 101, 99, 104, 111, 32, 101, 120, 105, 116, 32, 103, 101, 116, 45, 97, 115, 115, 101, 114, 116, 105, 111, 110, 115, 32, 103, 101, 116, 45, 105, 110, 102, 111, 32, 103, 101, 116, 45, 109, 111, 100, 101, 108, 32, 103, 101, 116, 45, 118, 97, 108, 117, 101, 32, 112, 111, 112, 32, 112, 117, 115, 104, 32, 114, 101, 115, 101, 116, 32, 114, 101, 115, 101, 116, 45, 97, 115, 115, 101, 114, 116, 105, 111, 110, 115, 32, 115, 101, 116, 45, 105, 110, 102, 111, 32, 115, 101, 116, 45, 108, 111, 103, 105, 99, 32, 115, 101, 116, 45, 111, 112, 116, 105, 111, 110]⟩ : ByteArray))] (strings_Fields_ok hx) (RS.mS 1 [(6, .val (Value.string a0))] ?_)
  obtain ⟨x3, hx, h⟩ := bind_some h
  refine RS.cl (some 7) (v := (Value.bool x3)) 94 #[(Sl3.v x1), (Value.string a0)] (slices_Contains_94_ok hx) (RS.mS 1 [(2, .val (Value.bool x3))] (RS.dn (WS.nxt (WS.rt ?_))))
  cases h
  exact fun a w hs => rtR (rS hs)

def sort_simple_enc : (Bool × AH) → Value
  | (r0, _) => (Value.bool r0)

def sort_simple_hp (_ : AH) : (Bool × AH) → AH := fun r => r.2

noncomputable def B33 : Code := (Tryd.f33.body).getD .skip

noncomputable def sort_simple_b0 (L : LC) (H : AH) (a0 : ByteArray) : Int → Option (Lp Int (Bool × AH)) := fun v20_5 =>
  if v20_5 < (a0.size : Int) then
    Option.bind (bytA a0 v20_5) fun x6 =>
    Option.bind (α := Bool) (
      Option.bind (sort_letter L x6) fun x8 =>
      if x8 = true then
        some false
      else
        if x6 < 48 then
          Option.bind (strings_IndexByte L (⟨#[126, 33, 64, 36, 37, 94, 38, 42, 95, 45, 43, 61, 60, 62, 46, 63, 47]⟩ : ByteArray) x6) fun x9 =>
          some (decide (x9 < 0))
        else
          if x6 > 57 then
            Option.bind (strings_IndexByte L (⟨#[126, 33, 64, 36, 37, 94, 38, 42, 95, 45, 43, 61, 60, 62, 46, 63, 47]⟩ : ByteArray) x6) fun x10 =>
            some (decide (x10 < 0))
          else
            some false) fun v41_7 =>
    if v41_7 = true then
      some (.ret (false, H))
    else
      some (.next (IntKind.i64.wrap (v20_5 + 1)))
  else
    some (.brk v20_5)

def sort_simple_b0_kn (_L : LC) (_H : AH) (a0 : ByteArray) : Int → KN := fun v20_5 => [(20, .val (Value.int .i64 v20_5)), (0, .val (Value.string a0)), (19, .val (Value.int .i64 (a0.size : Int)))]

def sort_simple_b0_ls (_L : LC) (_H : AH) (_a0 : ByteArray) : Int → Lcs := fun _ => []

noncomputable def sort_simple (L : LC) (m : Nat) (H : AH) (a0 : ByteArray) : Option (Bool × AH) :=
  Option.bind (α := Bool) (
    Option.bind (sort_Name L a0) fun x2 =>
    if x2 = true then
      Option.bind (bytA a0 0) fun x3 =>
      if x3 ≥ 48 then
        Option.bind (bytA a0 0) fun x4 =>
        some (decide (x4 ≤ 57))
      else
        some false
    else
      some true) fun v17_1 =>
  if v17_1 = true then
    some (false, H)
  else
    Option.bind (L.run (sort_simple_b0 L H a0) 0) fun o => match o with
    | .inl _ =>
      Option.bind (sort_reserved L m H a0) fun (x12, H13) =>
      some ((!x12), H13)
    | .inr r => some r

theorem sort_simple_b0_ok {E : Ent} {m : Nat} {L : LC} {H : AH} {a0 : ByteArray}  : ∀ s o, sort_simple_b0 L H a0 s = some o →
    WS Tryd.prog (NE.plain 1000) m E Tryd.f33.ntmps (cfst (cfst (csnd (cfst (csnd (csnd B33)))))) (sort_simple_b0_kn L H a0 s) (sort_simple_b0_ls L H a0 s) ((fun _ => H) s) (lpS Tryd.prog (NE.plain 1000) m E Tryd.f33.ntmps (sort_simple_b0_kn L H a0) (sort_simple_b0_ls L H a0) (fun _ => H) 0 (fun r => RT Tryd.prog (NE.plain 1000) m E Tryd.f33 (sort_simple_enc r) (sort_simple_hp H r)) o) := by
  rintro v20_5 o h
  unfold sort_simple_b0 at h
  try dsimp only at h
  refine WS.sq (WS.rg (RS.mS 1 [(21, .val (Value.bool (decide (v20_5 < (a0.size : Int)))))] (RS.dn (WS.nxt (WS.sq ?_)))))
  rcases ite_some h with ⟨hp, h⟩ | ⟨hp, h⟩
  · refine WS.fx 21 true (decide_eq_true hp) (WS.cT (WS.sk (WS.nxt (WS.sq (WS.bk 1 (WS.sq (WS.rg (RS.mS 2 [(3, .val (Value.int .i64 v20_5)), (22, .val (Value.int .i64 v20_5))] (RS.dn ?_)))))))))
    refine WS.nxt (WS.sq (WS.rg (RS.mS 2 [(24, .val (Value.int .i64 v20_5)), (23, .val (Value.string a0))] ?_)))
    obtain ⟨x6, hx, h⟩ := bind_some h
    refine RS.o (H' := H) (some 25) (Value.int .u8 x6) (Abs.run_byt (t := 9) (x := .tmp 23) (y := .tmp 24) (s := a0) (k := .i64) (i := v20_5) (by kernel_rfl) (by kernel_rfl) (by kernel_rfl) (by kernel_rfl) hx) (RS.mS 1 [(4, .val (Value.int .u8 x6))] (RS.dn (WS.nxt ?_)))
    obtain ⟨v41_7, hx, h⟩ := bind_some h
    refine WS.sq ?_
    refine WS.join ([(41, .val (Value.bool v41_7)), (0, .val (Value.string a0)), (19, .val (Value.int .i64 (a0.size : Int))), (20, .val (Value.int .i64 v20_5))]) ([]) H ?_ (fun a w hs => WS.nxt ?_ a w hs)
    · clear h; rename _ => h
      refine WS.rg (RS.mS 1 [(26, .val (Value.int .u8 x6))] ?_)
      obtain ⟨x8, hx, h⟩ := bind_some h
      refine RS.cl (some 27) (v := (Value.bool x8)) 62 #[(Value.int .u8 x6)] (sort_letter_ok hx) (RS.mS 2 [(29, .val (Value.bool (!x8))), (28, .val (Value.bool (!x8)))] ?_)
      rcases ite_some h with ⟨hp, h⟩ | ⟨hp, h⟩
      · refine RS.fx 29 false (nb_not hp) (RS.mS 12 [(41, .val (Value.bool false)), (40, .val undef), (39, .val undef), (38, .val undef), (37, .val (Value.bool false)), (36, .val (Value.bool false)), (35, .val undef), (34, .val undef), (33, .val undef), (32, .val undef), (31, .val undef), (30, .val undef)] (RS.dn ?_))
        cases h
        exact fun a w hs => (jsN (hs.sb 0))
      · refine RS.fx 29 true (nb_not' hp) (RS.mS 3 [(32, .val (Value.bool (decide (x6 < 48)))), (31, .val (Value.bool (decide (x6 < 48)))), (30, .val (Value.int .u8 x6))] ?_)
        rcases ite_some h with ⟨hp, h⟩ | ⟨hp, h⟩
        · refine RS.fx 32 true (decide_eq_true hp) (RS.mS 6 [(38, .val (Value.int .u8 x6)), (37, .val (Value.bool true)), (36, .val (Value.bool true)), (35, .val (Value.bool true)), (34, .val undef), (33, .val undef)] ?_)
          obtain ⟨x9, hx, h⟩ := bind_some h
          refine RS.cl (some 39) (v := (Value.int .i64 x9)) 63 #[(Value.string (⟨#[126, 33, 64, 36, 37, 94, 38, 42, 95, 45, 43, 61, 60, 62, 46, 63, 47]⟩ : ByteArray)), (Value.int .u8 x6)] (strings_IndexByte_ok hx) (RS.mS 2 [(41, .val (Value.bool (decide (x9 < 0)))), (40, .val (Value.bool (decide (x9 < 0))))] (RS.dn ?_))
          cases h
          exact fun a w hs => (jsN (hs.sb 0))
        · refine RS.fx 32 false (decide_eq_false hp) (RS.mS 5 [(37, .val (Value.bool (decide (x6 > 57)))), (36, .val (Value.bool (decide (x6 > 57)))), (35, .val (Value.bool (decide (x6 > 57)))), (34, .val (Value.bool (decide (x6 > 57)))), (33, .val (Value.int .u8 x6))] ?_)
          rcases ite_some h with ⟨hp, h⟩ | ⟨hp, h⟩
          · refine RS.fx 37 true (decide_eq_true hp) (RS.mS 1 [(38, .val (Value.int .u8 x6))] ?_)
            obtain ⟨x10, hx, h⟩ := bind_some h
            refine RS.cl (some 39) (v := (Value.int .i64 x10)) 63 #[(Value.string (⟨#[126, 33, 64, 36, 37, 94, 38, 42, 95, 45, 43, 61, 60, 62, 46, 63, 47]⟩ : ByteArray)), (Value.int .u8 x6)] (strings_IndexByte_ok hx) (RS.mS 2 [(41, .val (Value.bool (decide (x10 < 0)))), (40, .val (Value.bool (decide (x10 < 0))))] (RS.dn ?_))
            cases h
            exact fun a w hs => (jsN (hs.sb 0))
          · refine RS.fx 37 false (decide_eq_false hp) (RS.mS 4 [(41, .val (Value.bool false)), (40, .val undef), (39, .val undef), (38, .val undef)] (RS.dn ?_))
            cases h
            exact fun a w hs => (jsN (hs.sb 0))
    · clear hx
      rcases ite_some h with ⟨hp, h⟩ | ⟨hp, h⟩
      · refine WS.fx 41 true hp (WS.cT (WS.sq (WS.rg (RS.mS 1 [(2, .val (Value.bool false))] (RS.dn (WS.nxt (WS.rt ?_)))))))
        cases h
        exact fun a w hs => bkR (sqR (lsR rfl (rS hs)))
      · refine WS.fx 41 false (b_not hp) (WS.cF (WS.sk ?_))
        refine fun a w hs => bkN ((WS.nxt ?_ a w hs))
        refine WS.rg (RS.mS 2 [(20, .val (Value.int .i64 (IntKind.i64.wrap (v20_5 + 1)))), (42, .val (Value.int .i64 (IntKind.i64.wrap (v20_5 + 1))))] (RS.dn ?_))
        cases h
        exact fun a w hs => lsN rfl (hs.sb 0)
  · refine WS.fx 21 false (decide_eq_false hp) (WS.cF (WS.ex 0 ?_))
    cases h
    exact fun a w hs => sqE (lsB rfl (hs.sb 0))

theorem sort_simple_ok {L : LC} {m : Nat} {H : AH} {a0 : ByteArray} {r : (Bool × AH)} (h : sort_simple L m H a0 = some r) :
    CallS Tryd.prog (NE.plain 1000) m 33 #[(Value.string a0)] H (sort_simple_enc r) (sort_simple_hp H r) := by
  refine CallS.mk (args := [(Value.string a0)]) Tryd.func33 (B := B33) (by kernel_rfl) (fun E _ => ?_)
  unfold sort_simple at h
  refine WS.sq (WS.rg (RS.mS 1 [(2, .val (Value.bool false))] (RS.dn (WS.nxt (WS.sq ?_)))))
  obtain ⟨v17_1, hx, h⟩ := bind_some h
  refine WS.sq ?_
  refine WS.join ([(17, .val (Value.bool v17_1)), (0, .val (Value.string a0))]) ([]) H ?_ (fun a w hs => WS.nxt ?_ a w hs)
  · clear h; rename _ => h
    refine WS.rg (RS.mS 1 [(5, .val (Value.string a0))] ?_)
    obtain ⟨x2, hx, h⟩ := bind_some h
    refine RS.cl (some 6) (v := (Value.bool x2)) 13 #[(Value.string a0)] (sort_Name_ok hx) (RS.mS 2 [(8, .val (Value.bool (!x2))), (7, .val (Value.bool (!x2)))] ?_)
    rcases ite_some h with ⟨hp, h⟩ | ⟨hp, h⟩
    · refine RS.fx 8 false (nb_not hp) (RS.mS 1 [(9, .val (Value.string a0))] ?_)
      obtain ⟨x3, hx, h⟩ := bind_some h
      refine RS.o (H' := H) (some 10) (Value.int .u8 x3) (Abs.run_byt (t := 9) (x := .tmp 9) (y := .const (Value.int .i64 0)) (s := a0) (k := .i64) (i := 0) (by kernel_rfl) (by kernel_rfl) (by kernel_rfl) (by kernel_rfl) hx) (RS.mS 2 [(12, .val (Value.bool (decide (x3 ≥ 48)))), (11, .val (Value.bool (decide (x3 ≥ 48))))] ?_)
      rcases ite_some h with ⟨hp, h⟩ | ⟨hp, h⟩
      · refine RS.fx 12 true (decide_eq_true hp) (RS.mS 1 [(13, .val (Value.string a0))] ?_)
        obtain ⟨x4, hx, h⟩ := bind_some h
        refine RS.o (H' := H) (some 14) (Value.int .u8 x4) (Abs.run_byt (t := 9) (x := .tmp 13) (y := .const (Value.int .i64 0)) (s := a0) (k := .i64) (i := 0) (by kernel_rfl) (by kernel_rfl) (by kernel_rfl) (by kernel_rfl) hx) (RS.mS 3 [(17, .val (Value.bool (decide (x4 ≤ 57)))), (16, .val (Value.bool (decide (x4 ≤ 57)))), (15, .val (Value.bool (decide (x4 ≤ 57))))] (RS.dn ?_))
        cases h
        exact fun a w hs => (jsN (hs.sb 0))
      · refine RS.fx 12 false (decide_eq_false hp) (RS.mS 5 [(17, .val (Value.bool false)), (16, .val (Value.bool false)), (15, .val undef), (14, .val undef), (13, .val undef)] (RS.dn ?_))
        cases h
        exact fun a w hs => (jsN (hs.sb 0))
    · refine RS.fx 8 true (nb_not' hp) (RS.mS 9 [(17, .val (Value.bool true)), (16, .val undef), (15, .val undef), (14, .val undef), (13, .val undef), (12, .val undef), (11, .val undef), (10, .val undef), (9, .val undef)] (RS.dn ?_))
      cases h
      exact fun a w hs => (jsN (hs.sb 0))
  · clear hx
    rcases ite_some h with ⟨hp, h⟩ | ⟨hp, h⟩
    · refine WS.fx 17 true hp (WS.cT (WS.sq (WS.rg (RS.mS 1 [(2, .val (Value.bool false))] (RS.dn (WS.nxt (WS.rt ?_)))))))
      cases h
      exact fun a w hs => sqR (rtR (rS hs))
    · refine WS.fx 17 false (b_not hp) (WS.cF (WS.sk (WS.nxt (WS.sq (WS.sq (WS.rg (RS.mS 3 [(20, .val (Value.int .i64 0)), (19, .val (Value.int .i64 (a0.size : Int))), (18, .val (Value.string a0))] (RS.dn (WS.nxt ?_)))))))))
      refine WS.bk 0 ?_
      obtain ⟨o, hl, h⟩ := bind_some h
      rcases o with v20_11 | r
      · try dsimp only at h
        refine WS.lI (sort_simple_b0_ok (L := L) (E := E) (m := m) (H := H)) (L.ok hl) 0 ?_
        clear hl
        refine fun a w hs => bkE ((WS.nxt ?_ a w hs))
        refine WS.sq (WS.rg (RS.mS 1 [(43, .val (Value.string a0))] ?_))
        obtain ⟨⟨x12, H13⟩, hx, h⟩ := bind_some h
        try dsimp only at h
        refine RS.cl (some 44) (v := (Value.bool x12)) 64 #[(Value.string a0)] (sort_reserved_ok hx) (RS.mS 2 [(2, .val (Value.bool (!x12))), (45, .val (Value.bool (!x12)))] (RS.dn (WS.nxt (WS.rt ?_))))
        cases h
        exact fun a w hs => rtR (rS hs)
      · try dsimp only at h
        refine WS.lR (sort_simple_b0_ok (L := L) (E := E) (m := m) (H := H)) (L.ok hl) 0 ?_
        cases h
        exact fun a w hq => bkR (sqR (rtR hq))

def sort_Quote_enc : (ByteArray × AH) → Value
  | (r0, _) => (Value.string r0)

def sort_Quote_hp (_ : AH) : (ByteArray × AH) → AH := fun r => r.2

noncomputable def B15 : Code := (Tryd.f15.body).getD .skip

noncomputable def sort_Quote (L : LC) (m : Nat) (H : AH) (a0 : ByteArray) : Option (ByteArray × AH) :=
  Option.bind (sort_simple L m H a0) fun (x1, H2) =>
  if x1 = true then
    some (a0, H2)
  else
    Option.bind (strcat (⟨#[124]⟩ : ByteArray) a0) fun s3 =>
    Option.bind (strcat s3 (⟨#[124]⟩ : ByteArray)) fun s4 =>
    some (s4, H2)

theorem sort_Quote_ok {L : LC} {m : Nat} {H : AH} {a0 : ByteArray} {r : (ByteArray × AH)} (h : sort_Quote L m H a0 = some r) :
    CallS Tryd.prog (NE.plain 1000) m 15 #[(Value.string a0)] H (sort_Quote_enc r) (sort_Quote_hp H r) := by
  refine CallS.mk (args := [(Value.string a0)]) Tryd.func15 (B := B15) (by kernel_rfl) (fun E _ => ?_)
  unfold sort_Quote at h
  refine WS.sq (WS.rg (RS.mS 1 [(2, .val (Value.string (⟨#[]⟩ : ByteArray)))] (RS.dn (WS.nxt (WS.sq (WS.sq (WS.rg (RS.mS 1 [(3, .val (Value.string a0))] ?_))))))))
  obtain ⟨⟨x1, H2⟩, hx, h⟩ := bind_some h
  try dsimp only at h
  refine RS.cl (some 4) (v := (Value.bool x1)) 33 #[(Value.string a0)] (sort_simple_ok hx) (RS.dn (WS.nxt ?_))
  rcases ite_some h with ⟨hp, h⟩ | ⟨hp, h⟩
  · refine WS.fx 4 true hp (WS.cT (WS.sq (WS.rg (RS.mS 2 [(2, .val (Value.string a0)), (5, .val (Value.string a0))] (RS.dn (WS.nxt (WS.rt ?_)))))))
    cases h
    exact fun a w hs => sqR (rtR (rS hs))
  · refine WS.fx 4 false (b_not hp) (WS.cF (WS.sk (WS.nxt (WS.sq (WS.rg (RS.mS 1 [(6, .val (Value.string a0))] ?_))))))
    obtain ⟨s3, hx, h⟩ := bind_some h
    refine RS.o (H' := H2) (some 7) (Value.string s3) (Abs.run_strcat (t := 9) (u := 9) (x := .const (Value.string (⟨#[124]⟩ : ByteArray))) (y := .tmp 6) (a := (⟨#[124]⟩ : ByteArray)) (b := a0) (by kernel_rfl) (by kernel_rfl) (by kernel_rfl) hx) ?_
    obtain ⟨s4, hx, h⟩ := bind_some h
    refine RS.o (H' := H2) (some 8) (Value.string s4) (Abs.run_strcat (t := 9) (u := 9) (x := .tmp 7) (y := .const (Value.string (⟨#[124]⟩ : ByteArray))) (a := s3) (b := (⟨#[124]⟩ : ByteArray)) (by kernel_rfl) (by kernel_rfl) (by kernel_rfl) hx) (RS.mS 1 [(2, .val (Value.string s4))] (RS.dn (WS.nxt (WS.rt ?_))))
    cases h
    exact fun a w hs => rtR (rS hs)

end Go.Proofs.YtccbilfbhecdaaaDoor


namespace Go.Proofs.YtccbilfbhecdaaaDoor
open Go Go.Abs
set_option maxRecDepth 100000

theorem maxN_eq : maxN = 9223372036854775807 := rfl

/-- The bytes of a text. -/
def bs (s : ByteArray) : List UInt8 := s.data.toList

theorem bs_len (s : ByteArray) : (bs s).length = s.size := by simp [bs]

theorem bytA_bs {s : ByteArray} {i : Nat} (hi : i < s.size) {v : Int} (hv : v = i) : bytA s v = some ((((bs s).getD i 0).toNat : Nat) : Int) := by
  rw [bytA_get hi hv]
  have : (bs s).getD i 0 = s[i] := by
    simp only [bs, List.getD, Array.getElem?_toList]
    rw [Array.getElem?_eq_getElem hi]
    rfl
  rw [this]

def badB (x : Nat) : Bool := decide (x < 32) || (decide (x > 126) || (decide (x = 124) || decide (x = 92)))

def nameS (s : ByteArray) : Bool :=
  !(decide (s.size < 1) || decide (s.size > 200) || decide (((bs s).getD 0 0).toNat = 64) || decide (((bs s).getD 0 0).toNat = 46)) && !(bs s).any fun x => badB x.toNat

theorem find_any {α R : Type} [Inhabited α] (l : List α) (bad : α → Bool) (r : R) (d : α) :
    (List.range l.length).findSome? (fun i => if bad (l.getD i d) = true then some r else none) = if l.any bad = true then some r else none := by
  induction l with
  | nil => simp
  | cons x l ih =>
    rw [List.length_cons, List.range_succ_eq_map, List.findSome?_cons, List.any_cons]
    cases hx : bad x with
    | true => simp [hx]
    | false =>
      simp only [List.getD_cons_zero, hx, Bool.false_eq_true, if_false, Bool.false_or, List.findSome?_map, Function.comp_def, List.getD_cons_succ]
      exact ih

theorem Name_spec (k : Nat) {s : ByteArray} (hs : s.size ≤ maxN) : sort_Name (LCo k) s = some (nameS s) := by
  unfold sort_Name nameS
  by_cases h1 : (s.size : Int) < 1
  · rw [if_pos h1]
    have : s.size < 1 := by omega
    simp [this]
  · rw [if_neg h1]
    have h1' : ¬ s.size < 1 := by omega
    have hp : 0 < s.size := by omega
    by_cases h2 : (s.size : Int) > 200
    · rw [if_pos h2]
      have : s.size > 200 := by omega
      simp [this]
    · rw [if_neg h2]
      have h2' : ¬ s.size > 200 := by omega
      rw [bytA_bs hp (v := 0) rfl]
      simp only [Option.bind_some]
      generalize hc : ((bs s).getD 0 0).toNat = c
      by_cases h3 : c = 64
      · subst h3; simp
      · have h3' : ¬ ((c : Int) = 64) := by omega
        rw [if_neg h3']
        by_cases h4 : c = 46
        · subst h4; simp
        · have h4' : ¬ ((c : Int) = 46) := by omega
          simp only [decide_eq_false h4', Option.bind_some, Bool.false_eq_true, if_false]
          have hl : loopO (sort_Name_b0 (LCo k) s) 0 = some (found s.size ((List.range s.size).findSome? (fun i => if badB ((bs s).getD i 0).toNat = true then some false else none))) := by
            refine loopO_up s.size hs _ (fun i hi => ?_) ?_
            · unfold sort_Name_b0
              rw [if_pos (by omega), bytA_bs hi rfl]
              simp only [Option.bind_some]
              generalize ((bs s).getD i 0).toNat = x
              unfold badB
              by_cases e1 : x < 32
              · have : (x : Int) < 32 := by omega
                simp [e1, this, stepO]
              · have e1' : ¬ ((x : Int) < 32) := by omega
                rw [if_neg e1']
                by_cases e2 : x > 126
                · have : (x : Int) > 126 := by omega
                  simp [e1, e2, this, stepO]
                · have e2' : ¬ ((x : Int) > 126) := by omega
                  rw [if_neg e2']
                  by_cases e3 : x = 124
                  · subst e3; simp [stepO]
                  · have e3' : ¬ ((x : Int) = 124) := by omega
                    rw [if_neg e3']
                    by_cases e4 : x = 92
                    · subst e4; simp [stepO]
                    · have e4' : ¬ ((x : Int) = 92) := by omega
                      simp [e1, e2, e3, e4, e4', stepO]
            · unfold sort_Name_b0
              rw [if_neg (by omega)]
          show Option.bind (loopO (sort_Name_b0 (LCo k) s) 0) _ = _
          rw [hl, ← bs_len, find_any (bs s) (fun x => badB x.toNat) false 0]
          cases ha : (bs s).any fun x => badB x.toNat with
          | true => simp [found]
          | false => simp [h1', h2', h3, h4, bs_len, found]

theorem refName_spec (k : Nat) {s : ByteArray} (hs : s.size ≤ maxN) : ref04_Name (LCo k) s = some (nameS s) := by
  have : ref04_Name (LCo k) s = sort_Name (LCo k) s := rfl
  rw [this, Name_spec k hs]

end Go.Proofs.YtccbilfbhecdaaaDoor


namespace Go.Proofs.YtccbilfbhecdaaaDoor
open Go Go.Abs
set_option maxRecDepth 100000

def ref04_has_enc : Bool → Value
  | r0 => (Value.bool r0)

def ref04_has_hp (H : AH) : Bool → AH := fun _ => H

noncomputable def B71 : Code := (Tryd.f71.body).getD .skip

noncomputable def ref04_has_b0 (_L : LC) (H : AH) (a0 : Sl3) (a1 : ByteArray) : Int → Option (Lp Int Bool) := fun v5_1 =>
  if v5_1 < (a0.n : Int) then
    Option.bind (idxA 1 a0 v5_1) fun p2 =>
    Option.bind (rd deS H p2) fun x3 =>
    if (x3.toList == a1.toList) = true then
      some (.ret true)
    else
      some (.next (IntKind.i64.wrap (v5_1 + 1)))
  else
    some (.brk v5_1)

def ref04_has_b0_kn (_L : LC) (_H : AH) (a0 : Sl3) (a1 : ByteArray) : Int → KN := fun v5_1 => [(5, .val (Value.int .i64 v5_1)), (0, .val (Sl3.v a0)), (1, .val (Value.string a1))]

def ref04_has_b0_ls (_L : LC) (_H : AH) (_a0 : Sl3) (_a1 : ByteArray) : Int → Lcs := fun _ => []

noncomputable def ref04_has (L : LC) (H : AH) (a0 : Sl3) (a1 : ByteArray) : Option Bool :=
  Option.bind (L.run (ref04_has_b0 L H a0 a1) 0) fun o => match o with
  | .inl _ =>
    some false
  | .inr r => some r

theorem ref04_has_b0_ok {E : Ent} {m : Nat} {L : LC} {H : AH} {a0 : Sl3} {a1 : ByteArray}  : ∀ s o, ref04_has_b0 L H a0 a1 s = some o →
    WS Tryd.prog (NE.plain 1000) m E Tryd.f71.ntmps (cfst (cfst (csnd (cfst (csnd B71))))) (ref04_has_b0_kn L H a0 a1 s) (ref04_has_b0_ls L H a0 a1 s) ((fun _ => H) s) (lpS Tryd.prog (NE.plain 1000) m E Tryd.f71.ntmps (ref04_has_b0_kn L H a0 a1) (ref04_has_b0_ls L H a0 a1) (fun _ => H) 0 (fun r => RT Tryd.prog (NE.plain 1000) m E Tryd.f71 (ref04_has_enc r) (ref04_has_hp H r)) o) := by
  rintro v5_1 o h
  unfold ref04_has_b0 at h
  try dsimp only at h
  refine WS.sq (WS.sq (WS.rg (RS.mS 4 [(9, .val (Value.bool (decide (v5_1 < (a0.n : Int))))), (8, .val (Value.int .i64 (a0.n : Int))), (7, .val (Sl3.v a0)), (6, .val (Value.int .i64 v5_1))] (RS.dn (WS.nxt ?_)))))
  rcases ite_some h with ⟨hp, h⟩ | ⟨hp, h⟩
  · refine WS.fx 9 true (decide_eq_true hp) (WS.cT (WS.sk (WS.nxt (WS.sq (WS.bk 1 (WS.sq (WS.rg (RS.mS 2 [(13, .val (Value.int .i64 v5_1)), (12, .val (Sl3.v a0))] ?_))))))))
    obtain ⟨p2, hx, h⟩ := bind_some h
    refine RS.o (H' := H) (some 14) (Value.pointer (some p2)) (Abs.run_idx (s := a0) (k := .i64) (t := 29) (e := 9) (x := .tmp 12) (y := .tmp 13) (by kernel_rfl) (by kernel_rfl) (by kernel_rfl) (by kernel_rfl) (by kernel_rfl) hx) ?_
    obtain ⟨x3, hx, h⟩ := bind_some h
    refine RS.o (H' := H) (some 15) (Value.string x3) (Abs.run_load (t := 9) (x := .tmp 14) (a := p2) (by kernel_rfl) (by kernel_rfl) (by kernel_rfl) (rd_cell hx deS_inv)) (RS.mS 2 [(17, .val (Value.bool (x3.toList == a1.toList))), (16, .val (Value.string a1))] (RS.dn (WS.nxt ?_)))
    rcases ite_some h with ⟨hp, h⟩ | ⟨hp, h⟩
    · refine WS.fx 17 true hp (WS.cT (WS.sq (WS.rg (RS.mS 1 [(4, .val (Value.bool true))] (RS.dn (WS.nxt (WS.rt ?_)))))))
      cases h
      exact fun a w hs => bkR (sqR (lsR rfl (rS hs)))
    · refine WS.fx 17 false (b_not hp) (WS.cF (WS.sk ?_))
      refine fun a w hs => bkN ((WS.nxt ?_ a w hs))
      refine WS.rg (RS.mS 3 [(5, .val (Value.int .i64 (IntKind.i64.wrap (v5_1 + 1)))), (11, .val (Value.int .i64 (IntKind.i64.wrap (v5_1 + 1)))), (10, .val (Value.int .i64 v5_1))] (RS.dn ?_))
      cases h
      exact fun a w hs => lsN rfl (hs.sb 0)
  · refine WS.fx 9 false (decide_eq_false hp) (WS.cF (WS.ex 0 ?_))
    cases h
    exact fun a w hs => sqE (lsB rfl (hs.sb 0))

theorem ref04_has_ok {L : LC} {m : Nat} {H : AH} {a0 : Sl3} {a1 : ByteArray} {r : Bool} (h : ref04_has L H a0 a1 = some r) :
    CallS Tryd.prog (NE.plain 1000) m 71 #[(Sl3.v a0), (Value.string a1)] H (ref04_has_enc r) (ref04_has_hp H r) := by
  refine CallS.mk (args := [(Sl3.v a0), (Value.string a1)]) Tryd.func71 (B := B71) (by kernel_rfl) (fun E _ => ?_)
  unfold ref04_has at h
  refine WS.sq (WS.rg (RS.mS 1 [(4, .val (Value.bool false))] (RS.dn (WS.nxt (WS.sq (WS.sq (WS.rg (RS.mS 1 [(5, .val (Value.int .i64 0))] (RS.dn ?_)))))))))
  refine WS.nxt (WS.bk 0 ?_)
  obtain ⟨o, hl, h⟩ := bind_some h
  rcases o with v5_4 | r
  · try dsimp only at h
    refine WS.lI (ref04_has_b0_ok (L := L) (E := E) (m := m) (H := H)) (L.ok hl) 0 ?_
    clear hl
    refine fun a w hs => bkE ((WS.nxt ?_ a w hs))
    refine WS.sq (WS.rg (RS.mS 1 [(4, .val (Value.bool false))] (RS.dn (WS.nxt (WS.rt ?_)))))
    cases h
    exact fun a w hs => rtR (rS hs)
  · try dsimp only at h
    refine WS.lR (ref04_has_b0_ok (L := L) (E := E) (m := m) (H := H)) (L.ok hl) 0 ?_
    cases h
    exact fun a w hq => bkR (sqR (rtR hq))

def ref04_Reserved_enc : (Bool × AH) → Value
  | (r0, _) => (Value.bool r0)

def ref04_Reserved_hp (_ : AH) : (Bool × AH) → AH := fun r => r.2

noncomputable def B65 : Code := (Tryd.f65.body).getD .skip

noncomputable def ref04_Reserved (L : LC) (_m : Nat) (H : AH) (a0 : ByteArray) : Option (Bool × AH) :=
  Option.bind (newR 9 36 #[(Value.string (⟨#[33]⟩ : ByteArray)), (Value.string (⟨#[95]⟩ : ByteArray)), (Value.string (⟨#[97, 115]⟩ : ByteArray)), (Value.string (⟨#[66, 73, 78, 65, 82, 89]⟩ : ByteArray)), (Value.string (⟨#[68, 69, 67, 73, 77, 65, 76]⟩ : ByteArray)), (Value.string (⟨#[101, 120, 105, 115, 116, 115]⟩ : ByteArray)), (Value.string (⟨#[102, 111, 114, 97, 108, 108]⟩ : ByteArray)), (Value.string (⟨#[72, 69, 88, 65, 68, 69, 67, 73, 77, 65, 76]⟩ : ByteArray)), (Value.string (⟨#[108, 101, 116]⟩ : ByteArray)), (Value.string (⟨#[109, 97, 116, 99, 104]⟩ : ByteArray)), (Value.string (⟨#[78, 85, 77, 69, 82, 65, 76]⟩ : ByteArray)), (Value.string (⟨#[112, 97, 114]⟩ : ByteArray)), (Value.string (⟨#[83, 84, 82, 73, 78, 71]⟩ : ByteArray)), (Value.string (⟨#[97, 115, 115, 101, 114, 116]⟩ : ByteArray)), (Value.string (⟨#[99, 104, 101, 99, 107, 45, 115, 97, 116]⟩ : ByteArray)), (Value.string (⟨#[99, 104, 101, 99, 107, 45, 115, 97, 116, 45, 97, 115, 115, 117, 109, 105, 110, 103]⟩ : ByteArray)), (Value.string (⟨#[100, 101, 99, 108, 97, 114, 101, 45, 99, 111, 110, 115, 116]⟩ : ByteArray)), (Value.string (⟨#[100, 101, 99, 108, 97, 114, 101, 45, 100, 97, 116, 97, 116, 121, 112, 101]⟩ : ByteArray)), (Value.string (⟨#[100, 101, 99, 108, 97, 114, 101, 45, 100, 97, 116, 97, 116, 121, 112, 101, 115]⟩ : ByteArray)), (Value.string (⟨#[100, 101, 99, 108, 97, 114, 101, 45, 102, 117, 110]⟩ : ByteArray)), (Value.string (⟨#[100, 101, 99, 108, 97, 114, 101, 45, 115, 111, 114, 116]⟩ : ByteArray)), (Value.string (⟨#[100, 101, 102, 105, 110, 101, 45, 102, 117, 110]⟩ : ByteArray)), (Value.string (⟨#[100, 101, 102, 105, 110, 101, 45, 115, 111, 114, 116]⟩ : ByteArray)), (Value.string (⟨#[101, 99, 104, 111]⟩ : ByteArray)), (Value.string (⟨#[101, 120, 105, 116]⟩ : ByteArray)), (Value.string (⟨#[103, 101, 116, 45, 97, 115, 115, 101, 114, 116, 105, 111, 110, 115]⟩ : ByteArray)), (Value.string (⟨#[103, 101, 116, 45, 105, 110, 102, 111]⟩ : ByteArray)), (Value.string (⟨#[103, 101, 116, 45, 109, 111, 100, 101, 108]⟩ : ByteArray)), (Value.string (⟨#[103, 101, 116, 45, 118, 97, 108, 117, 101]⟩ : ByteArray)), (Value.string (⟨#[112, 111, 112]⟩ : ByteArray)), (Value.string (⟨#[112, 117, 115, 104]⟩ : ByteArray)), (Value.string (⟨#[114, 101, 115, 101, 116]⟩ : ByteArray)), (Value.string (⟨#[114, 101, 115, 101, 116, 45, 97, 115, 115, 101, 114, 116, 105, 111, 110, 115]⟩ : ByteArray)), (Value.string (⟨#[115, 101, 116, 45, 105, 110, 102, 111]⟩ : ByteArray)), (Value.string (⟨#[115, 101, 116, 45, 108, 111, 103, 105, 99]⟩ : ByteArray)), (Value.string (⟨#[115, 101, 116, 45, 111, 112, 116, 105, 111, 110]⟩ : ByteArray))] H) fun (s1, H2) =>
  Option.bind (ref04_has L H2 s1 a0) fun x3 =>
  some (x3, H2)

theorem ref04_Reserved_ok {L : LC} {m : Nat} {H : AH} {a0 : ByteArray} {r : (Bool × AH)} (h : ref04_Reserved L m H a0 = some r) :
    CallS Tryd.prog (NE.plain 1000) m 65 #[(Value.string a0)] H (ref04_Reserved_enc r) (ref04_Reserved_hp H r) := by
  refine CallS.mk (args := [(Value.string a0)]) Tryd.func65 (B := B65) (by kernel_rfl) (fun E _ => ?_)
  unfold ref04_Reserved at h
  refine WS.sq (WS.rg (RS.mS 1 [(2, .val (Value.bool false))] (RS.dn (WS.nxt (WS.sq (WS.rg ?_))))))
  obtain ⟨⟨s1, H2⟩, hx, h⟩ := bind_some h
  try dsimp only at h
  refine RS.o (H' := H2) (some 3) (Sl3.v s1) (Abs.run_newR (by kernel_rfl) (by kernel_rfl) hx) (RS.mS 1 [(4, .val (Value.string a0))] ?_)
  obtain ⟨x3, hx, h⟩ := bind_some h
  refine RS.cl (some 5) (v := (Value.bool x3)) 71 #[(Sl3.v s1), (Value.string a0)] (ref04_has_ok hx) (RS.mS 1 [(2, .val (Value.bool x3))] (RS.dn (WS.nxt (WS.rt ?_))))
  cases h
  exact fun a w hs => rtR (rS hs)

def ref04_SimpleByte_enc : Bool → Value
  | r0 => (Value.bool r0)

def ref04_SimpleByte_hp (H : AH) : Bool → AH := fun _ => H

noncomputable def B66 : Code := (Tryd.f66.body).getD .skip

noncomputable def ref04_SimpleByte_b0 (_L : LC) (a0 : Int) : Int → Option (Lp Int Bool) := fun v3_2 =>
  if v3_2 < 17 then
    Option.bind (bytA (⟨#[126, 33, 64, 36, 37, 94, 38, 42, 95, 45, 43, 61, 60, 62, 46, 63, 47]⟩ : ByteArray) v3_2) fun x3 =>
    if x3 = a0 then
      some (.ret true)
    else
      some (.next (IntKind.i64.wrap (v3_2 + 1)))
  else
    some (.brk v3_2)

def ref04_SimpleByte_b0_kn (_L : LC) (a0 : Int) : Int → KN := fun v3_2 => [(3, .val (Value.int .i64 v3_2)), (0, .val (Value.int .u8 a0))]

def ref04_SimpleByte_b0_ls (_L : LC) (_a0 : Int) : Int → Lcs := fun _ => []

noncomputable def ref04_SimpleByte (L : LC) (a0 : Int) : Option Bool :=
  Option.bind (α := Bool) (
    if a0 ≥ 97 then
      if a0 ≤ 122 then
        some true
      else
        if a0 ≥ 65 then
          if a0 ≤ 90 then
            some true
          else
            if a0 ≥ 48 then
              some (decide (a0 ≤ 57))
            else
              some false
        else
          if a0 ≥ 48 then
            some (decide (a0 ≤ 57))
          else
            some false
    else
      if a0 ≥ 65 then
        if a0 ≤ 90 then
          some true
        else
          if a0 ≥ 48 then
            some (decide (a0 ≤ 57))
          else
            some false
      else
        if a0 ≥ 48 then
          some (decide (a0 ≤ 57))
        else
          some false) fun v25_1 =>
  if v25_1 = true then
    some true
  else
    Option.bind (L.run (ref04_SimpleByte_b0 L a0) 0) fun o => match o with
    | .inl _ =>
      some false
    | .inr r => some r

theorem ref04_SimpleByte_b0_ok {E : Ent} {m : Nat} {H : AH} {L : LC} {a0 : Int}  : ∀ s o, ref04_SimpleByte_b0 L a0 s = some o →
    WS Tryd.prog (NE.plain 1000) m E Tryd.f66.ntmps (cfst (cfst (csnd (cfst (csnd (csnd B66)))))) (ref04_SimpleByte_b0_kn L a0 s) (ref04_SimpleByte_b0_ls L a0 s) ((fun _ => H) s) (lpS Tryd.prog (NE.plain 1000) m E Tryd.f66.ntmps (ref04_SimpleByte_b0_kn L a0) (ref04_SimpleByte_b0_ls L a0) (fun _ => H) 0 (fun r => RT Tryd.prog (NE.plain 1000) m E Tryd.f66 (ref04_SimpleByte_enc r) (ref04_SimpleByte_hp H r)) o) := by
  rintro v3_2 o h
  unfold ref04_SimpleByte_b0 at h
  try dsimp only at h
  refine WS.sq (WS.sq (WS.rg (RS.mS 2 [(27, .val (Value.bool (decide (v3_2 < 17)))), (26, .val (Value.int .i64 v3_2))] (RS.dn (WS.nxt ?_)))))
  rcases ite_some h with ⟨hp, h⟩ | ⟨hp, h⟩
  · refine WS.fx 27 true (decide_eq_true hp) (WS.cT (WS.sk (WS.nxt (WS.sq (WS.bk 1 (WS.sq (WS.rg (RS.mS 1 [(30, .val (Value.int .i64 v3_2))] ?_))))))))
    obtain ⟨x3, hx, h⟩ := bind_some h
    refine RS.o (H' := H) (some 31) (Value.int .u8 x3) (Abs.run_byt (t := 9) (x := .const (Value.string (⟨#[126, 33, 64, 36, 37, 94, 38, 42, 95, 45, 43, 61, 60, 62, 46, 63, 47]⟩ : ByteArray))) (y := .tmp 30) (s := (⟨#[126, 33, 64, 36, 37, 94, 38, 42, 95, 45, 43, 61, 60, 62, 46, 63, 47]⟩ : ByteArray)) (k := .i64) (i := v3_2) (by kernel_rfl) (by kernel_rfl) (by kernel_rfl) (by kernel_rfl) hx) (RS.mS 2 [(33, .val (Value.bool (decide (x3 = a0)))), (32, .val (Value.int .u8 a0))] (RS.dn (WS.nxt ?_)))
    rcases ite_some h with ⟨hp, h⟩ | ⟨hp, h⟩
    · refine WS.fx 33 true (decide_eq_true hp) (WS.cT (WS.sq (WS.rg (RS.mS 1 [(2, .val (Value.bool true))] (RS.dn (WS.nxt (WS.rt ?_)))))))
      cases h
      exact fun a w hs => bkR (sqR (lsR rfl (rS hs)))
    · refine WS.fx 33 false (decide_eq_false hp) (WS.cF (WS.sk ?_))
      refine fun a w hs => bkN ((WS.nxt ?_ a w hs))
      refine WS.rg (RS.mS 3 [(3, .val (Value.int .i64 (IntKind.i64.wrap (v3_2 + 1)))), (29, .val (Value.int .i64 (IntKind.i64.wrap (v3_2 + 1)))), (28, .val (Value.int .i64 v3_2))] (RS.dn ?_))
      cases h
      exact fun a w hs => lsN rfl (hs.sb 0)
  · refine WS.fx 27 false (decide_eq_false hp) (WS.cF (WS.ex 0 ?_))
    cases h
    exact fun a w hs => sqE (lsB rfl (hs.sb 0))

theorem ref04_SimpleByte_ok {L : LC} {m : Nat} {H : AH} {a0 : Int} {r : Bool} (h : ref04_SimpleByte L a0 = some r) :
    CallS Tryd.prog (NE.plain 1000) m 66 #[(Value.int .u8 a0)] H (ref04_SimpleByte_enc r) (ref04_SimpleByte_hp H r) := by
  refine CallS.mk (args := [(Value.int .u8 a0)]) Tryd.func66 (B := B66) (by kernel_rfl) (fun E _ => ?_)
  unfold ref04_SimpleByte at h
  refine WS.sq (WS.rg (RS.mS 1 [(2, .val (Value.bool false))] (RS.dn (WS.nxt (WS.sq ?_)))))
  obtain ⟨v25_1, hx, h⟩ := bind_some h
  refine WS.sq ?_
  refine WS.join ([(25, .val (Value.bool v25_1)), (0, .val (Value.int .u8 a0))]) ([]) H ?_ (fun a w hs => WS.nxt ?_ a w hs)
  · clear h; rename _ => h
    refine WS.rg (RS.mS 3 [(6, .val (Value.bool (decide (a0 ≥ 97)))), (5, .val (Value.bool (decide (a0 ≥ 97)))), (4, .val (Value.int .u8 a0))] ?_)
    rcases ite_some h with ⟨hp, h⟩ | ⟨hp, h⟩
    · refine RS.fx 6 true (decide_eq_true hp) (RS.mS 4 [(10, .val (Value.bool (decide (a0 ≤ 122)))), (9, .val (Value.bool (decide (a0 ≤ 122)))), (8, .val (Value.bool (decide (a0 ≤ 122)))), (7, .val (Value.int .u8 a0))] ?_)
      rcases ite_some h with ⟨hp, h⟩ | ⟨hp, h⟩
      · refine RS.fx 10 true (decide_eq_true hp) (RS.mS 15 [(25, .val (Value.bool true)), (24, .val undef), (23, .val undef), (22, .val undef), (21, .val undef), (20, .val undef), (19, .val undef), (18, .val (Value.bool true)), (17, .val (Value.bool true)), (16, .val undef), (15, .val undef), (14, .val undef), (13, .val undef), (12, .val undef), (11, .val undef)] (RS.dn ?_))
        cases h
        exact fun a w hs => (jsN (hs.sb 0))
      · refine RS.fx 10 false (decide_eq_false hp) (RS.mS 3 [(13, .val (Value.bool (decide (a0 ≥ 65)))), (12, .val (Value.bool (decide (a0 ≥ 65)))), (11, .val (Value.int .u8 a0))] ?_)
        rcases ite_some h with ⟨hp, h⟩ | ⟨hp, h⟩
        · refine RS.fx 13 true (decide_eq_true hp) (RS.mS 5 [(18, .val (Value.bool (decide (a0 ≤ 90)))), (17, .val (Value.bool (decide (a0 ≤ 90)))), (16, .val (Value.bool (decide (a0 ≤ 90)))), (15, .val (Value.bool (decide (a0 ≤ 90)))), (14, .val (Value.int .u8 a0))] ?_)
          rcases ite_some h with ⟨hp, h⟩ | ⟨hp, h⟩
          · refine RS.fx 18 true (decide_eq_true hp) (RS.mS 7 [(25, .val (Value.bool true)), (24, .val undef), (23, .val undef), (22, .val undef), (21, .val undef), (20, .val undef), (19, .val undef)] (RS.dn ?_))
            cases h
            exact fun a w hs => (jsN (hs.sb 0))
          · refine RS.fx 18 false (decide_eq_false hp) (RS.mS 3 [(21, .val (Value.bool (decide (a0 ≥ 48)))), (20, .val (Value.bool (decide (a0 ≥ 48)))), (19, .val (Value.int .u8 a0))] ?_)
            rcases ite_some h with ⟨hp, h⟩ | ⟨hp, h⟩
            · refine RS.fx 21 true (decide_eq_true hp) (RS.mS 4 [(25, .val (Value.bool (decide (a0 ≤ 57)))), (24, .val (Value.bool (decide (a0 ≤ 57)))), (23, .val (Value.bool (decide (a0 ≤ 57)))), (22, .val (Value.int .u8 a0))] (RS.dn ?_))
              cases h
              exact fun a w hs => (jsN (hs.sb 0))
            · refine RS.fx 21 false (decide_eq_false hp) (RS.mS 4 [(25, .val (Value.bool false)), (24, .val (Value.bool false)), (23, .val undef), (22, .val undef)] (RS.dn ?_))
              cases h
              exact fun a w hs => (jsN (hs.sb 0))
        · refine RS.fx 13 false (decide_eq_false hp) (RS.mS 8 [(21, .val (Value.bool (decide (a0 ≥ 48)))), (20, .val (Value.bool (decide (a0 ≥ 48)))), (19, .val (Value.int .u8 a0)), (18, .val (Value.bool false)), (17, .val (Value.bool false)), (16, .val (Value.bool false)), (15, .val undef), (14, .val undef)] ?_)
          rcases ite_some h with ⟨hp, h⟩ | ⟨hp, h⟩
          · refine RS.fx 21 true (decide_eq_true hp) (RS.mS 4 [(25, .val (Value.bool (decide (a0 ≤ 57)))), (24, .val (Value.bool (decide (a0 ≤ 57)))), (23, .val (Value.bool (decide (a0 ≤ 57)))), (22, .val (Value.int .u8 a0))] (RS.dn ?_))
            cases h
            exact fun a w hs => (jsN (hs.sb 0))
          · refine RS.fx 21 false (decide_eq_false hp) (RS.mS 4 [(25, .val (Value.bool false)), (24, .val (Value.bool false)), (23, .val undef), (22, .val undef)] (RS.dn ?_))
            cases h
            exact fun a w hs => (jsN (hs.sb 0))
    · refine RS.fx 6 false (decide_eq_false hp) (RS.mS 7 [(13, .val (Value.bool (decide (a0 ≥ 65)))), (12, .val (Value.bool (decide (a0 ≥ 65)))), (11, .val (Value.int .u8 a0)), (10, .val (Value.bool false)), (9, .val (Value.bool false)), (8, .val undef), (7, .val undef)] ?_)
      rcases ite_some h with ⟨hp, h⟩ | ⟨hp, h⟩
      · refine RS.fx 13 true (decide_eq_true hp) (RS.mS 5 [(18, .val (Value.bool (decide (a0 ≤ 90)))), (17, .val (Value.bool (decide (a0 ≤ 90)))), (16, .val (Value.bool (decide (a0 ≤ 90)))), (15, .val (Value.bool (decide (a0 ≤ 90)))), (14, .val (Value.int .u8 a0))] ?_)
        rcases ite_some h with ⟨hp, h⟩ | ⟨hp, h⟩
        · refine RS.fx 18 true (decide_eq_true hp) (RS.mS 7 [(25, .val (Value.bool true)), (24, .val undef), (23, .val undef), (22, .val undef), (21, .val undef), (20, .val undef), (19, .val undef)] (RS.dn ?_))
          cases h
          exact fun a w hs => (jsN (hs.sb 0))
        · refine RS.fx 18 false (decide_eq_false hp) (RS.mS 3 [(21, .val (Value.bool (decide (a0 ≥ 48)))), (20, .val (Value.bool (decide (a0 ≥ 48)))), (19, .val (Value.int .u8 a0))] ?_)
          rcases ite_some h with ⟨hp, h⟩ | ⟨hp, h⟩
          · refine RS.fx 21 true (decide_eq_true hp) (RS.mS 4 [(25, .val (Value.bool (decide (a0 ≤ 57)))), (24, .val (Value.bool (decide (a0 ≤ 57)))), (23, .val (Value.bool (decide (a0 ≤ 57)))), (22, .val (Value.int .u8 a0))] (RS.dn ?_))
            cases h
            exact fun a w hs => (jsN (hs.sb 0))
          · refine RS.fx 21 false (decide_eq_false hp) (RS.mS 4 [(25, .val (Value.bool false)), (24, .val (Value.bool false)), (23, .val undef), (22, .val undef)] (RS.dn ?_))
            cases h
            exact fun a w hs => (jsN (hs.sb 0))
      · refine RS.fx 13 false (decide_eq_false hp) (RS.mS 8 [(21, .val (Value.bool (decide (a0 ≥ 48)))), (20, .val (Value.bool (decide (a0 ≥ 48)))), (19, .val (Value.int .u8 a0)), (18, .val (Value.bool false)), (17, .val (Value.bool false)), (16, .val (Value.bool false)), (15, .val undef), (14, .val undef)] ?_)
        rcases ite_some h with ⟨hp, h⟩ | ⟨hp, h⟩
        · refine RS.fx 21 true (decide_eq_true hp) (RS.mS 4 [(25, .val (Value.bool (decide (a0 ≤ 57)))), (24, .val (Value.bool (decide (a0 ≤ 57)))), (23, .val (Value.bool (decide (a0 ≤ 57)))), (22, .val (Value.int .u8 a0))] (RS.dn ?_))
          cases h
          exact fun a w hs => (jsN (hs.sb 0))
        · refine RS.fx 21 false (decide_eq_false hp) (RS.mS 4 [(25, .val (Value.bool false)), (24, .val (Value.bool false)), (23, .val undef), (22, .val undef)] (RS.dn ?_))
          cases h
          exact fun a w hs => (jsN (hs.sb 0))
  · clear hx
    rcases ite_some h with ⟨hp, h⟩ | ⟨hp, h⟩
    · refine WS.fx 25 true hp (WS.cT (WS.sq (WS.rg (RS.mS 1 [(2, .val (Value.bool true))] (RS.dn (WS.nxt (WS.rt ?_)))))))
      cases h
      exact fun a w hs => sqR (rtR (rS hs))
    · refine WS.fx 25 false (b_not hp) (WS.cF (WS.sk (WS.nxt (WS.sq (WS.sq (WS.rg (RS.mS 1 [(3, .val (Value.int .i64 0))] (RS.dn (WS.nxt ?_)))))))))
      refine WS.bk 0 ?_
      obtain ⟨o, hl, h⟩ := bind_some h
      rcases o with v3_4 | r
      · try dsimp only at h
        refine WS.lI (ref04_SimpleByte_b0_ok (L := L) (E := E) (m := m) (H := H)) (L.ok hl) 0 ?_
        clear hl
        refine fun a w hs => bkE ((WS.nxt ?_ a w hs))
        refine WS.sq (WS.rg (RS.mS 1 [(2, .val (Value.bool false))] (RS.dn (WS.nxt (WS.rt ?_)))))
        cases h
        exact fun a w hs => rtR (rS hs)
      · try dsimp only at h
        refine WS.lR (ref04_SimpleByte_b0_ok (L := L) (E := E) (m := m) (H := H)) (L.ok hl) 0 ?_
        cases h
        exact fun a w hq => bkR (sqR (rtR hq))

def ref04_Simple_enc : (Bool × AH) → Value
  | (r0, _) => (Value.bool r0)

def ref04_Simple_hp (_ : AH) : (Bool × AH) → AH := fun r => r.2

noncomputable def B34 : Code := (Tryd.f34.body).getD .skip

noncomputable def ref04_Simple_b0 (L : LC) (a0 : ByteArray) (H2 : AH) : Int → Option (Lp Int (Bool × AH)) := fun v4_10 =>
  if v4_10 < (a0.size : Int) then
    Option.bind (bytA a0 v4_10) fun x11 =>
    Option.bind (ref04_SimpleByte L x11) fun x12 =>
    if x12 = true then
      some (.next (IntKind.i64.wrap (v4_10 + 1)))
    else
      some (.ret (false, H2))
  else
    some (.brk v4_10)

def ref04_Simple_b0_kn (_L : LC) (a0 : ByteArray) (_H2 : AH) : Int → KN := fun v4_10 => [(4, .val (Value.int .i64 v4_10)), (0, .val (Value.string a0))]

def ref04_Simple_b0_ls (_L : LC) (_a0 : ByteArray) (_H2 : AH) : Int → Lcs := fun _ => []

noncomputable def ref04_Simple (L : LC) (m : Nat) (H : AH) (a0 : ByteArray) : Option (Bool × AH) :=
  Option.bind (ref04_Name L a0) fun x1 =>
  Option.bind (α := (AH × Bool)) (
    if x1 = true then
      Option.bind (bytA a0 0) fun x4 =>
      if x4 ≥ 48 then
        Option.bind (bytA a0 0) fun x5 =>
        if x5 ≤ 57 then
          some (H, true)
        else
          Option.bind (ref04_Reserved L m H a0) fun (x6, H7) =>
          some (H7, x6)
      else
        Option.bind (ref04_Reserved L m H a0) fun (x8, H9) =>
        some (H9, x8)
    else
      some (H, true)) fun (H2, v22_3) =>
  if v22_3 = true then
    some (false, H2)
  else
    Option.bind (L.run (ref04_Simple_b0 L a0 H2) 0) fun o => match o with
    | .inl _ =>
      some (true, H2)
    | .inr r => some r

theorem ref04_Simple_b0_ok {E : Ent} {m : Nat} {H : AH} {L : LC} {a0 : ByteArray} {H2 : AH}  : ∀ s o, ref04_Simple_b0 L a0 H2 s = some o →
    WS Tryd.prog (NE.plain 1000) m E Tryd.f34.ntmps (cfst (cfst (csnd (cfst (csnd (csnd (csnd B34))))))) (ref04_Simple_b0_kn L a0 H2 s) (ref04_Simple_b0_ls L a0 H2 s) ((fun _ => H2) s) (lpS Tryd.prog (NE.plain 1000) m E Tryd.f34.ntmps (ref04_Simple_b0_kn L a0 H2) (ref04_Simple_b0_ls L a0 H2) (fun _ => H2) 0 (fun r => RT Tryd.prog (NE.plain 1000) m E Tryd.f34 (ref04_Simple_enc r) (ref04_Simple_hp H r)) o) := by
  rintro v4_10 o h
  unfold ref04_Simple_b0 at h
  try dsimp only at h
  refine WS.sq (WS.sq (WS.rg (RS.mS 4 [(26, .val (Value.bool (decide (v4_10 < (a0.size : Int))))), (25, .val (Value.int .i64 (a0.size : Int))), (24, .val (Value.string a0)), (23, .val (Value.int .i64 v4_10))] (RS.dn (WS.nxt ?_)))))
  rcases ite_some h with ⟨hp, h⟩ | ⟨hp, h⟩
  · refine WS.fx 26 true (decide_eq_true hp) (WS.cT (WS.sk (WS.nxt (WS.sq (WS.bk 1 (WS.sq (WS.rg (RS.mS 2 [(30, .val (Value.int .i64 v4_10)), (29, .val (Value.string a0))] ?_))))))))
    obtain ⟨x11, hx, h⟩ := bind_some h
    refine RS.o (H' := H2) (some 31) (Value.int .u8 x11) (Abs.run_byt (t := 9) (x := .tmp 29) (y := .tmp 30) (s := a0) (k := .i64) (i := v4_10) (by kernel_rfl) (by kernel_rfl) (by kernel_rfl) (by kernel_rfl) hx) ?_
    obtain ⟨x12, hx, h⟩ := bind_some h
    refine RS.cl (some 32) (v := (Value.bool x12)) 66 #[(Value.int .u8 x11)] (ref04_SimpleByte_ok hx) (RS.mS 1 [(33, .val (Value.bool (!x12)))] (RS.dn (WS.nxt ?_)))
    rcases ite_some h with ⟨hp, h⟩ | ⟨hp, h⟩
    · refine WS.fx 33 false (nb_not hp) (WS.cF (WS.sk ?_))
      refine fun a w hs => bkN ((WS.nxt ?_ a w hs))
      refine WS.rg (RS.mS 3 [(4, .val (Value.int .i64 (IntKind.i64.wrap (v4_10 + 1)))), (28, .val (Value.int .i64 (IntKind.i64.wrap (v4_10 + 1)))), (27, .val (Value.int .i64 v4_10))] (RS.dn ?_))
      cases h
      exact fun a w hs => lsN rfl (hs.sb 0)
    · refine WS.fx 33 true (nb_not' hp) (WS.cT (WS.sq (WS.rg (RS.mS 1 [(2, .val (Value.bool false))] (RS.dn (WS.nxt (WS.rt ?_)))))))
      cases h
      exact fun a w hs => bkR (sqR (lsR rfl (rS hs)))
  · refine WS.fx 26 false (decide_eq_false hp) (WS.cF (WS.ex 0 ?_))
    cases h
    exact fun a w hs => sqE (lsB rfl (hs.sb 0))

theorem ref04_Simple_ok {L : LC} {m : Nat} {H : AH} {a0 : ByteArray} {r : (Bool × AH)} (h : ref04_Simple L m H a0 = some r) :
    CallS Tryd.prog (NE.plain 1000) m 34 #[(Value.string a0)] H (ref04_Simple_enc r) (ref04_Simple_hp H r) := by
  refine CallS.mk (args := [(Value.string a0)]) Tryd.func34 (B := B34) (by kernel_rfl) (fun E _ => ?_)
  unfold ref04_Simple at h
  refine WS.sq (WS.rg (RS.mS 1 [(2, .val (Value.bool false))] (RS.dn (WS.nxt (WS.sq (WS.rg (RS.mS 1 [(5, .val (Value.string a0))] ?_)))))))
  obtain ⟨x1, hx, h⟩ := bind_some h
  refine RS.cl (some 6) (v := (Value.bool x1)) 14 #[(Value.string a0)] (ref04_Name_ok hx) (RS.mS 1 [(3, .val (Value.bool x1))] (RS.dn (WS.nxt (WS.sq ?_))))
  obtain ⟨⟨H2, v22_3⟩, hx, h⟩ := bind_some h
  try dsimp only at h
  refine WS.sq ?_
  refine WS.join ([(22, .val (Value.bool v22_3)), (0, .val (Value.string a0))]) ([]) H2 ?_ (fun a w hs => WS.nxt ?_ a w hs)
  · clear h; rename _ => h
    refine WS.rg (RS.mS 3 [(9, .val (Value.bool (!x1))), (8, .val (Value.bool (!x1))), (7, .val (Value.bool x1))] ?_)
    rcases ite_some h with ⟨hp, h⟩ | ⟨hp, h⟩
    · refine RS.fx 9 false (nb_not hp) (RS.mS 1 [(10, .val (Value.string a0))] ?_)
      obtain ⟨x4, hx, h⟩ := bind_some h
      refine RS.o (H' := H) (some 11) (Value.int .u8 x4) (Abs.run_byt (t := 9) (x := .tmp 10) (y := .const (Value.int .i64 0)) (s := a0) (k := .i64) (i := 0) (by kernel_rfl) (by kernel_rfl) (by kernel_rfl) (by kernel_rfl) hx) (RS.mS 2 [(13, .val (Value.bool (decide (x4 ≥ 48)))), (12, .val (Value.bool (decide (x4 ≥ 48))))] ?_)
      rcases ite_some h with ⟨hp, h⟩ | ⟨hp, h⟩
      · refine RS.fx 13 true (decide_eq_true hp) (RS.mS 1 [(14, .val (Value.string a0))] ?_)
        obtain ⟨x5, hx, h⟩ := bind_some h
        refine RS.o (H' := H) (some 15) (Value.int .u8 x5) (Abs.run_byt (t := 9) (x := .tmp 14) (y := .const (Value.int .i64 0)) (s := a0) (k := .i64) (i := 0) (by kernel_rfl) (by kernel_rfl) (by kernel_rfl) (by kernel_rfl) hx) (RS.mS 4 [(19, .val (Value.bool (decide (x5 ≤ 57)))), (18, .val (Value.bool (decide (x5 ≤ 57)))), (17, .val (Value.bool (decide (x5 ≤ 57)))), (16, .val (Value.bool (decide (x5 ≤ 57))))] ?_)
        rcases ite_some h with ⟨hp, h⟩ | ⟨hp, h⟩
        · refine RS.fx 19 true (decide_eq_true hp) (RS.mS 3 [(22, .val (Value.bool true)), (21, .val undef), (20, .val undef)] (RS.dn ?_))
          cases h
          exact fun a w hs => (jsN (hs.sb 0))
        · refine RS.fx 19 false (decide_eq_false hp) (RS.mS 1 [(20, .val (Value.string a0))] ?_)
          obtain ⟨⟨x6, H7⟩, hx, h⟩ := bind_some h
          try dsimp only at h
          refine RS.cl (some 21) (v := (Value.bool x6)) 65 #[(Value.string a0)] (ref04_Reserved_ok hx) (RS.mS 1 [(22, .val (Value.bool x6))] (RS.dn ?_))
          cases h
          exact fun a w hs => (jsN (hs.sb 0))
      · refine RS.fx 13 false (decide_eq_false hp) (RS.mS 7 [(20, .val (Value.string a0)), (19, .val (Value.bool false)), (18, .val (Value.bool false)), (17, .val (Value.bool false)), (16, .val undef), (15, .val undef), (14, .val undef)] ?_)
        obtain ⟨⟨x8, H9⟩, hx, h⟩ := bind_some h
        try dsimp only at h
        refine RS.cl (some 21) (v := (Value.bool x8)) 65 #[(Value.string a0)] (ref04_Reserved_ok hx) (RS.mS 1 [(22, .val (Value.bool x8))] (RS.dn ?_))
        cases h
        exact fun a w hs => (jsN (hs.sb 0))
    · refine RS.fx 9 true (nb_not' hp) (RS.mS 13 [(22, .val (Value.bool true)), (21, .val undef), (20, .val undef), (19, .val (Value.bool true)), (18, .val (Value.bool true)), (17, .val undef), (16, .val undef), (15, .val undef), (14, .val undef), (13, .val undef), (12, .val undef), (11, .val undef), (10, .val undef)] (RS.dn ?_))
      cases h
      exact fun a w hs => (jsN (hs.sb 0))
  · clear hx
    rcases ite_some h with ⟨hp, h⟩ | ⟨hp, h⟩
    · refine WS.fx 22 true hp (WS.cT (WS.sq (WS.rg (RS.mS 1 [(2, .val (Value.bool false))] (RS.dn (WS.nxt (WS.rt ?_)))))))
      cases h
      exact fun a w hs => sqR (rtR (rS hs))
    · refine WS.fx 22 false (b_not hp) (WS.cF (WS.sk (WS.nxt (WS.sq (WS.sq (WS.rg (RS.mS 1 [(4, .val (Value.int .i64 0))] (RS.dn (WS.nxt ?_)))))))))
      refine WS.bk 0 ?_
      obtain ⟨o, hl, h⟩ := bind_some h
      rcases o with v4_13 | r
      · try dsimp only at h
        refine WS.lI (ref04_Simple_b0_ok (L := L) (E := E) (m := m) (H := H)) (L.ok hl) 0 ?_
        clear hl
        refine fun a w hs => bkE ((WS.nxt ?_ a w hs))
        refine WS.sq (WS.rg (RS.mS 1 [(2, .val (Value.bool true))] (RS.dn (WS.nxt (WS.rt ?_)))))
        cases h
        exact fun a w hs => rtR (rS hs)
      · try dsimp only at h
        refine WS.lR (ref04_Simple_b0_ok (L := L) (E := E) (m := m) (H := H)) (L.ok hl) 0 ?_
        cases h
        exact fun a w hq => bkR (sqR (rtR hq))

def ref04_Quote_enc : (ByteArray × AH) → Value
  | (r0, _) => (Value.string r0)

def ref04_Quote_hp (_ : AH) : (ByteArray × AH) → AH := fun r => r.2

noncomputable def B16 : Code := (Tryd.f16.body).getD .skip

noncomputable def ref04_Quote (L : LC) (m : Nat) (H : AH) (a0 : ByteArray) : Option (ByteArray × AH) :=
  Option.bind (ref04_Simple L m H a0) fun (x1, H2) =>
  if x1 = true then
    some (a0, H2)
  else
    Option.bind (strcat (⟨#[124]⟩ : ByteArray) a0) fun s3 =>
    Option.bind (strcat s3 (⟨#[124]⟩ : ByteArray)) fun s4 =>
    some (s4, H2)

theorem ref04_Quote_ok {L : LC} {m : Nat} {H : AH} {a0 : ByteArray} {r : (ByteArray × AH)} (h : ref04_Quote L m H a0 = some r) :
    CallS Tryd.prog (NE.plain 1000) m 16 #[(Value.string a0)] H (ref04_Quote_enc r) (ref04_Quote_hp H r) := by
  refine CallS.mk (args := [(Value.string a0)]) Tryd.func16 (B := B16) (by kernel_rfl) (fun E _ => ?_)
  unfold ref04_Quote at h
  refine WS.sq (WS.rg (RS.mS 1 [(2, .val (Value.string (⟨#[]⟩ : ByteArray)))] (RS.dn (WS.nxt (WS.sq (WS.rg (RS.mS 1 [(4, .val (Value.string a0))] ?_)))))))
  obtain ⟨⟨x1, H2⟩, hx, h⟩ := bind_some h
  try dsimp only at h
  refine RS.cl (some 5) (v := (Value.bool x1)) 34 #[(Value.string a0)] (ref04_Simple_ok hx) (RS.mS 1 [(3, .val (Value.bool x1))] (RS.dn (WS.nxt (WS.sq (WS.sq (WS.rg (RS.mS 1 [(6, .val (Value.bool x1))] (RS.dn (WS.nxt ?_)))))))))
  rcases ite_some h with ⟨hp, h⟩ | ⟨hp, h⟩
  · refine WS.fx 6 true hp (WS.cT (WS.sq (WS.rg (RS.mS 2 [(2, .val (Value.string a0)), (7, .val (Value.string a0))] (RS.dn (WS.nxt (WS.rt ?_)))))))
    cases h
    exact fun a w hs => sqR (rtR (rS hs))
  · refine WS.fx 6 false (b_not hp) (WS.cF (WS.sk (WS.nxt (WS.sq (WS.rg (RS.mS 1 [(8, .val (Value.string a0))] ?_))))))
    obtain ⟨s3, hx, h⟩ := bind_some h
    refine RS.o (H' := H2) (some 9) (Value.string s3) (Abs.run_strcat (t := 9) (u := 9) (x := .const (Value.string (⟨#[124]⟩ : ByteArray))) (y := .tmp 8) (a := (⟨#[124]⟩ : ByteArray)) (b := a0) (by kernel_rfl) (by kernel_rfl) (by kernel_rfl) hx) ?_
    obtain ⟨s4, hx, h⟩ := bind_some h
    refine RS.o (H' := H2) (some 10) (Value.string s4) (Abs.run_strcat (t := 9) (u := 9) (x := .tmp 9) (y := .const (Value.string (⟨#[124]⟩ : ByteArray))) (a := s3) (b := (⟨#[124]⟩ : ByteArray)) (by kernel_rfl) (by kernel_rfl) (by kernel_rfl) hx) (RS.mS 1 [(2, .val (Value.string s4))] (RS.dn (WS.nxt (WS.rt ?_))))
    cases h
    exact fun a w hs => rtR (rS hs)

end Go.Proofs.YtccbilfbhecdaaaDoor


namespace Go.Proofs.YtccbilfbhecdaaaDoor
open Go Go.Abs
set_option maxRecDepth 100000

def moreL : List Nat := [126, 33, 64, 36, 37, 94, 38, 42, 95, 45, 43, 61, 60, 62, 46, 63, 47]

/-- A byte that may stand in a simple name. -/
def gB (c : Nat) : Bool := (decide (97 ≤ c) && decide (c ≤ 122)) || (decide (65 ≤ c) && decide (c ≤ 90)) || (decide (48 ≤ c) && decide (c ≤ 57)) || moreL.contains c

theorem ref_more : ∀ c : Fin 256, iterO (ref04_SimpleByte_b0 (LCn 1 1) ((c.val : Nat) : Int)) 20 0 = some (if moreL.contains c.val then .inr true else .inl 17) := by decide +kernel

theorem ref_byte (k : Nat) {c : Nat} (hc : c < 256) : ref04_SimpleByte (LCo k) (c : Int) = some (gB c) := by
  have h : loopO (ref04_SimpleByte_b0 (LCo k) (c : Int)) 0 = some (if moreL.contains c then .inr true else .inl 17) := by
    have : ref04_SimpleByte_b0 (LCo k) (c : Int) = ref04_SimpleByte_b0 (LCn 1 1) (c : Int) := rfl
    rw [this]
    exact loopO_nextI (ref_more ⟨c, hc⟩)
  unfold ref04_SimpleByte
  have hl : (LCo k).run (ref04_SimpleByte_b0 (LCo k) (c : Int)) 0 = some (if moreL.contains c then .inr true else .inl 17) := h
  rw [hl]
  unfold gB
  generalize moreL.contains c = b
  by_cases h1 : 97 ≤ c
  · have h1' : (c : Int) ≥ 97 := by omega
    rw [if_pos h1']
    by_cases h2 : c ≤ 122
    · have h2' : (c : Int) ≤ 122 := by omega
      simp [h1, h2, h2']
    · have h2' : ¬ ((c : Int) ≤ 122) := by omega
      have h3 : (c : Int) ≥ 65 := by omega
      have h4 : ¬ ((c : Int) ≤ 90) := by omega
      have h5 : (c : Int) ≥ 48 := by omega
      have h6 : ¬ ((c : Int) ≤ 57) := by omega
      have h4' : ¬ (c ≤ 90) := by omega
      have h6' : ¬ (c ≤ 57) := by omega
      rw [if_neg h2', if_pos h3, if_neg h4, if_pos h5]
      cases b <;> simp [h2, h4', h6', h6]
  · have h1' : ¬ ((c : Int) ≥ 97) := by omega
    rw [if_neg h1']
    by_cases h3 : 65 ≤ c
    · have h3' : (c : Int) ≥ 65 := by omega
      rw [if_pos h3']
      by_cases h4 : c ≤ 90
      · have h4' : (c : Int) ≤ 90 := by omega
        simp [h3, h4, h4']
      · have h4' : ¬ ((c : Int) ≤ 90) := by omega
        have h5 : (c : Int) ≥ 48 := by omega
        have h6 : ¬ ((c : Int) ≤ 57) := by omega
        have h6' : ¬ (c ≤ 57) := by omega
        rw [if_neg h4', if_pos h5]
        cases b <;> simp [h1, h4, h6', h6]
    · have h3' : ¬ ((c : Int) ≥ 65) := by omega
      rw [if_neg h3']
      by_cases h5 : 48 ≤ c
      · have h5' : (c : Int) ≥ 48 := by omega
        rw [if_pos h5']
        by_cases h6 : c ≤ 57
        · have h6' : (c : Int) ≤ 57 := by omega
          simp [h5, h6, h6']
        · have h6' : ¬ ((c : Int) ≤ 57) := by omega
          cases b <;> simp [h1, h3, h6, h6']
      · have h5' : ¬ ((c : Int) ≥ 48) := by omega
        rw [if_neg h5']
        cases b <;> simp [h1, h3, h5]

/-- What the program asks of a byte. -/
noncomputable def askB (L : LC) (x6 : Int) : Option Bool :=
  Option.bind (sort_letter L x6) fun x8 =>
  if x8 = true then some false
  else if x6 < 48 then Option.bind (strings_IndexByte L (⟨#[126, 33, 64, 36, 37, 94, 38, 42, 95, 45, 43, 61, 60, 62, 46, 63, 47]⟩ : ByteArray) x6) fun x9 => some (decide (x9 < 0))
  else if x6 > 57 then Option.bind (strings_IndexByte L (⟨#[126, 33, 64, 36, 37, 94, 38, 42, 95, 45, 43, 61, 60, 62, 46, 63, 47]⟩ : ByteArray) x6) fun x10 => some (decide (x10 < 0))
  else some false

theorem ask_all : ∀ c : Fin 256, askB (LCn 1 1) ((c.val : Nat) : Int) = some (!gB c.val) := by decide +kernel

theorem ask_byte (k : Nat) {c : Nat} (hc : c < 256) : askB (LCo k) (c : Int) = some (!gB c) := ask_all ⟨c, hc⟩

def hasS (l : List ByteArray) (s : ByteArray) : Bool := l.any fun x => x.toList == s.toList

def simpS (s : ByteArray) : Bool := nameS s && !(decide (48 ≤ ((bs s).getD 0 0).toNat) && decide (((bs s).getD 0 0).toNat ≤ 57)) && (bs s).all (fun x => gB x.toNat) && !hasS wordsL s

theorem has_spec (k : Nat) {H : AH} {sl : Sl3} {xs : List ByteArray} (h : SlL StrA 1 H sl xs) (s : ByteArray) : ref04_has (LCo k) H sl s = some (hasS xs s) := by
  have hl : loopO (ref04_has_b0 (LCo k) H sl s) 0 = some (found xs.length ((List.range xs.length).findSome? (fun i => if ((xs.getD i ⟨#[]⟩).toList == s.toList) = true then some true else none))) := by
    refine loopO_up xs.length h.len _ (fun i hi => ?_) ?_
    · unfold ref04_has_b0
      have hn := h.n
      rw [if_pos (by omega)]
      obtain ⟨q, h1, h2⟩ := h.get hi (v := (i : Int)) rfl
      rw [h1]
      simp only [Option.bind_some]
      rw [h2.rd]
      simp only [deS, Option.bind_some]
      have : xs.getD i ⟨#[]⟩ = xs[i] := by simp [List.getD, hi]
      rw [this]
      cases (xs[i].toList == s.toList) <;> simp [stepO]
    · unfold ref04_has_b0
      have hn := h.n
      rw [if_neg (by omega)]
  unfold ref04_has
  show Option.bind (loopO (ref04_has_b0 (LCo k) H sl s) 0) _ = _
  rw [hl, find_any xs (fun x => x.toList == s.toList) true ⟨#[]⟩]
  unfold hasS
  cases xs.any fun x => x.toList == s.toList <;> simp [found]

theorem find_anyF {α R : Type} (l : List α) (bad : α → Bool) (f : Nat → R) (d : α) :
    ((List.range l.length).findSome? (fun i => if bad (l.getD i d) = true then some (f i) else none)).isSome = l.any bad ∧
      ∀ x, (List.range l.length).findSome? (fun i => if bad (l.getD i d) = true then some (f i) else none) = some x → ∃ i, x = f i := by
  constructor
  · induction l generalizing f with
    | nil => rfl
    | cons x l ih =>
      rw [List.length_cons, List.range_succ_eq_map, List.findSome?_cons, List.any_cons]
      cases hx : bad x with
      | true => simp [hx]
      | false =>
        simp only [List.getD_cons_zero, hx, Bool.false_eq_true, if_false, Bool.false_or, List.findSome?_map, Function.comp_def, List.getD_cons_succ]
        exact ih (fun i => f (i + 1))
  · intro x h
    obtain ⟨i, _, hi⟩ := List.exists_of_findSome?_eq_some h
    split at hi
    · cases hi; exact ⟨i, rfl⟩
    · cases hi

theorem contains_spec (k : Nat) {H : AH} {sl : Sl3} {xs : List ByteArray} (h : SlL StrA 1 H sl xs) (s : ByteArray) : slices_Contains_94 (LCo k) H sl s = some (hasS xs s) := by
  have hl : loopO (slices_Index_101_b0 (LCo k) H sl s) 0 = some (found xs.length ((List.range xs.length).findSome? (fun i => if (s.toList == (xs.getD i ⟨#[]⟩).toList) = true then some (i : Int) else none))) := by
    refine loopO_up xs.length h.len _ (fun i hi => ?_) ?_
    · unfold slices_Index_101_b0
      have hn := h.n
      rw [if_pos (by omega)]
      obtain ⟨q, h1, h2⟩ := h.get hi (v := (i : Int)) rfl
      rw [h1]
      simp only [Option.bind_some]
      rw [h2.rd]
      simp only [deS, Option.bind_some]
      have : xs.getD i ⟨#[]⟩ = xs[i] := by simp [List.getD, hi]
      rw [this]
      cases (s.toList == xs[i].toList) <;> simp [stepO]
    · unfold slices_Index_101_b0
      have hn := h.n
      rw [if_neg (by omega)]
  unfold slices_Contains_94 slices_Index_101
  show Option.bind (Option.bind (loopO (slices_Index_101_b0 (LCo k) H sl s) 0) _) _ = _
  rw [hl]
  obtain ⟨k1, k2⟩ := find_anyF xs (fun x => s.toList == x.toList) (fun i => (i : Int)) ⟨#[]⟩
  have k3 : (xs.any fun x => s.toList == x.toList) = hasS xs s := by
    unfold hasS
    congr 1
    funext x
    exact BEq.comm
  rw [k3] at k1
  generalize hq : (List.range xs.length).findSome? (fun i => if (s.toList == (xs.getD i ⟨#[]⟩).toList) = true then some (i : Int) else none) = q at k1 k2
  cases q with
  | none => rw [← k1]; rfl
  | some x =>
    rw [← k1]
    obtain ⟨i, rfl⟩ := k2 x rfl
    have : (i : Int) ≥ 0 := by omega
    simp [found, this]

end Go.Proofs.YtccbilfbhecdaaaDoor


namespace Go.Proofs.YtccbilfbhecdaaaDoor
open Go Go.Abs

theorem fields_run (L : LC) (m : Nat) {H : AH} (h : HasT H) : ∃ z H', strings_Fields L m H wordsV = some (z, H') ∧ SlL StrA 1 H' z wordsL ∧ Ext H H' := by
  unfold strings_Fields
  rw [if_pos ⟨rfl, h⟩]
  refine ⟨_, _, rfl, ?_, Fm.push _ _ _⟩
  exact SlL.push (xs := wordsL) (b := wordsB) (c := (wordsL.map Value.string).toArray) (e := 9) (f := (0, 0)) rfl (by rw [maxN_eq]; decide) fun i hi => Cel.push (b := wordsB) rfl (by simp [hi])

theorem awake_run (L : LC) {H : AH} (h : HasT H) : law04_awake L H = some true := by
  unfold law04_awake
  rw [if_pos h]

end Go.Proofs.YtccbilfbhecdaaaDoor


namespace Go.Proofs.YtccbilfbhecdaaaDoor
open Go Go.Abs Go.ChangeShapes Go.WideShapes
set_option maxRecDepth 100000

theorem own : ownKnob Tryd.prog.godebug = none := by kernel_rfl
theorem laidOut : laidOutB Tryd.prog = true := by kernel_rfl
theorem globals_ok : globalsB Tryd.prog = true := by kernel_rfl
theorem sane : Sane Tryd.prog (NE.plain 1000) := sane_of (fun _ _ _ => rfl) (by kernel_rfl) (by kernel_rfl) (by kernel_rfl)

theorem laid_met (os : Os) (args : Array Value) : laidMet Tryd.prog Rows.sortNamesUptoRow.laid ((laidW2 Tryd.prog Rows.sortNamesUptoRow.laid os).forCall (fun _ _ => 0) ⟨#[], args, []⟩).memory :=
  laidMet_of_run3 8 (by kernel_rfl) (by kernel_rfl) (by kernel_rfl)

theorem tabs_met (W : World) (hL : laidMet Tryd.prog Rows.sortNamesUptoRow.laid W) (hsh : W.ShapedOpen Tryd.prog) : ∀ x ∈ tabs, ∃ fr, W.heap[x.1]? = some (.cells x.2.2 x.2.1 fr) := by
  intro x hx
  simp only [tabs, List.mem_cons, List.not_mem_nil, or_false] at hx
  rcases hx with rfl | rfl | rfl | rfl
  · exact tab_met (name := "strings.asciiSpace") (te := 5) (n := 256) (t := 130) hL (by kernel_rfl) (by kernel_rfl) (by kernel_rfl) (by kernel_rfl) (by kernel_rfl) (by kernel_rfl) (by kernel_rfl) (of_decide_eq_true (by kernel_rfl)) (by kernel_rfl) hsh
  · exact tab_met (name := "internal/strconv.uint64pow10") (te := 141) (n := 20) (t := 159) hL (by kernel_rfl) (by kernel_rfl) (by kernel_rfl) (by kernel_rfl) (by kernel_rfl) (by kernel_rfl) (by kernel_rfl) (of_decide_eq_true (by kernel_rfl)) (by kernel_rfl) hsh
  · exact tab_met (name := "math/bits.deBruijn32tab") (te := 5) (n := 32) (t := 165) hL (by kernel_rfl) (by kernel_rfl) (by kernel_rfl) (by kernel_rfl) (by kernel_rfl) (by kernel_rfl) (by kernel_rfl) (of_decide_eq_true (by kernel_rfl)) (by kernel_rfl) hsh
  · exact tab_met (name := "math/bits.deBruijn64tab") (te := 5) (n := 64) (t := 166) hL (by kernel_rfl) (by kernel_rfl) (by kernel_rfl) (by kernel_rfl) (by kernel_rfl) (by kernel_rfl) (by kernel_rfl) (of_decide_eq_true (by kernel_rfl)) (by kernel_rfl) hsh

theorem hasT_start : HasT H0 := by
  intro x hx
  simp only [tabs, List.mem_cons, List.not_mem_nil, or_false] at hx
  rcases hx with rfl | rfl | rfl | rfl <;> exact ⟨by kernel_rfl, by rw [show H0.next = Tryd.prog.globals.size from startH_next tabs, globals7]; decide⟩

theorem start_at {W : World} (hg : Tryd.prog.globals.size ≤ W.heap.size) (hL : laidMet Tryd.prog Rows.sortNamesUptoRow.laid W) (hsh : W.ShapedOpen Tryd.prog) : Imp Tryd.prog (φg Tryd.prog) H0 W :=
  Imp.startT hg tabs_ok (tabs_met W hL hsh)

namespace bulks
theorem bound {H : Type} {l : List (DataW H)} (hk : Rows.uptoSmall H l = true) : Rows.uptoBulkAll l ≤ 1048576 := of_decide_eq_true hk
end bulks

section
variable {H : Type} {enc : TypeId × Value → H} {W : World} {φ : Inj}

theorem ar2 {a a' b b' : Value} (h : VR φ a a') (h2 : VR φ b b') : AR φ #[a, b] #[a', b'] := by
  refine ⟨rfl, fun i x y hx hy => ?_⟩
  match i, hx, hy with
  | 0, hx, hy => simp at hx hy; subst hx hy; exact h
  | 1, hx, hy => simp at hx hy; subst hx hy; exact h2
  | i + 2, hx, _ => simp at hx

end

end Go.Proofs.YtccbilfbhecdaaaDoor


namespace Go.Proofs.YtccbilfbhecdaaaDoor
open Go Go.Abs
set_option maxRecDepth 100000

def sort_parts_enc : (Int × Bool) → Value
  | (r0, r1) => (Value.tuple #[(Value.int .i64 r0), (Value.bool r1)])

def sort_parts_hp (H : AH) : (Int × Bool) → AH := fun _ => H

noncomputable def B90 : Code := (Tryd.f90.body).getD .skip

noncomputable def sort_parts_b0 (_L : LC) (rec_sort_parts : AH → Int → Int → ByteArray → Sl3 → Int → Option (Int × Bool)) (H : AH) (_a0_0 : Int) (_a0_1 : Int) (_a0_2 : ByteArray) (a0_3 : Sl3) (a1 : Int) : (Int × Int) → Option (Lp (Int × Int) (Int × Bool)) := fun (v6_1, v16_2) =>
  if v16_2 < (a0_3.n : Int) then
    Option.bind (idxA 4 a0_3 v16_2) fun p3 =>
    Option.bind (rd (deI .i64) H (Addr.add p3 0)) fun x4_0 =>
    Option.bind (rd (deI .i64) H (Addr.add p3 1)) fun x4_1 =>
    Option.bind (rd deS H (Addr.add p3 2)) fun x4_2 =>
    Option.bind (rd deSl H (Addr.add p3 3)) fun x4_3 =>
    Option.bind (rec_sort_parts H x4_0 x4_1 x4_2 x4_3 (IntKind.i64.wrap (a1 + 1))) fun (x5, x6) =>
    Option.bind (α := Bool) (
      if x6 = true then
        some (decide ((IntKind.i64.wrap (v6_1 + x5)) > 256))
      else
        some true) fun v35_7 =>
    if v35_7 = true then
      some (.ret ((IntKind.i64.wrap (v6_1 + x5)), false))
    else
      some (.next ((IntKind.i64.wrap (v6_1 + x5)), (IntKind.i64.wrap (v16_2 + 1))))
  else
    some (.brk (v6_1, v16_2))

def sort_parts_b0_kn (_L : LC) (_rec_sort_parts : AH → Int → Int → ByteArray → Sl3 → Int → Option (Int × Bool)) (_H : AH) (_a0_0 : Int) (_a0_1 : Int) (_a0_2 : ByteArray) (a0_3 : Sl3) (a1 : Int) : (Int × Int) → KN := fun (v6_1, v16_2) => [(6, .val (Value.int .i64 v6_1)), (16, .val (Value.int .i64 v16_2)), (1, .val (Value.int .i64 a1)), (14, .val (Sl3.v a0_3)), (15, .val (Value.int .i64 (a0_3.n : Int)))]

def sort_parts_b0_ls (_L : LC) (_rec_sort_parts : AH → Int → Int → ByteArray → Sl3 → Int → Option (Int × Bool)) (_H : AH) (a0_0 : Int) (a0_1 : Int) (a0_2 : ByteArray) (a0_3 : Sl3) (_a1 : Int) : (Int × Int) → Lcs := fun (_, _) => [some (28, [(Value.int .i64 a0_0), (Value.int .i64 a0_1), (Value.string a0_2), (Sl3.v a0_3)])]

noncomputable def sort_parts_body (L : LC) (rec_sort_parts : AH → Int → Int → ByteArray → Sl3 → Int → Option (Int × Bool)) (H : AH) (a0_0 : Int) (a0_1 : Int) (a0_2 : ByteArray) (a0_3 : Sl3) (a1 : Int) : Option (Int × Bool) :=
  if a1 > 16 then
    some (0, false)
  else
    Option.bind (L.run (sort_parts_b0 L rec_sort_parts H a0_0 a0_1 a0_2 a0_3 a1) (1, 0)) fun o => match o with
    | .inl (v6_8, _) =>
      some (v6_8, true)
    | .inr r => some r

noncomputable def fam_sort_parts (L : LC) (n : Nat) : (AH → Int → Int → ByteArray → Sl3 → Int → Option (Int × Bool)) := Nat.rec (motive := fun _ => (AH → Int → Int → ByteArray → Sl3 → Int → Option (Int × Bool))) (fun _ _ _ _ _ _ => none) (fun _ p => sort_parts_body L p) n

noncomputable def sort_parts (L : LC) (H : AH) (a0_0 : Int) (a0_1 : Int) (a0_2 : ByteArray) (a0_3 : Sl3) (a1 : Int) : Option (Int × Bool) := (fam_sort_parts L L.fuel) H a0_0 a0_1 a0_2 a0_3 a1

theorem sort_parts_b0_ok {E : Ent} {m : Nat} {L : LC} {rec_sort_parts : AH → Int → Int → ByteArray → Sl3 → Int → Option (Int × Bool)} {H : AH} {a0_0 : Int} {a0_1 : Int} {a0_2 : ByteArray} {a0_3 : Sl3} {a1 : Int} (hrec_sort_parts : ∀ (m : Nat) (H : AH) (a0_0 : Int) (a0_1 : Int) (a0_2 : ByteArray) (a0_3 : Sl3) (a1 : Int) (r : (Int × Bool)), rec_sort_parts H a0_0 a0_1 a0_2 a0_3 a1 = some r → CallS Tryd.prog (NE.plain 1000) m 90 #[(Value.agg #[(Value.int .i64 a0_0), (Value.int .i64 a0_1), (Value.string a0_2), (Sl3.v a0_3)]), (Value.int .i64 a1)] H (sort_parts_enc r) (sort_parts_hp H r)) : ∀ s o, sort_parts_b0 L rec_sort_parts H a0_0 a0_1 a0_2 a0_3 a1 s = some o →
    WS Tryd.prog (NE.plain 1000) m E Tryd.f90.ntmps (cfst (cfst (csnd (cfst (csnd (csnd (csnd B90))))))) (sort_parts_b0_kn L rec_sort_parts H a0_0 a0_1 a0_2 a0_3 a1 s) (sort_parts_b0_ls L rec_sort_parts H a0_0 a0_1 a0_2 a0_3 a1 s) ((fun _ => H) s) (lpS Tryd.prog (NE.plain 1000) m E Tryd.f90.ntmps (sort_parts_b0_kn L rec_sort_parts H a0_0 a0_1 a0_2 a0_3 a1) (sort_parts_b0_ls L rec_sort_parts H a0_0 a0_1 a0_2 a0_3 a1) (fun _ => H) 0 (fun r => RT Tryd.prog (NE.plain 1000) m E Tryd.f90 (sort_parts_enc r) (sort_parts_hp H r)) o) := by
  rintro ⟨v6_1, v16_2⟩ o h
  unfold sort_parts_b0 at h
  try dsimp only at h
  refine WS.sq (WS.rg (RS.mS 1 [(17, .val (Value.bool (decide (v16_2 < (a0_3.n : Int)))))] (RS.dn (WS.nxt (WS.sq ?_)))))
  rcases ite_some h with ⟨hp, h⟩ | ⟨hp, h⟩
  · refine WS.fx 17 true (decide_eq_true hp) (WS.cT (WS.sk (WS.nxt (WS.sq (WS.bk 1 (WS.sq (WS.rg ?_)))))))
    obtain ⟨p3, hx, h⟩ := bind_some h
    refine RS.o (H' := H) (some 18) (Value.pointer (some p3)) (Abs.run_idx (s := a0_3) (k := .i64) (t := 26) (e := 28) (x := .tmp 14) (y := .tmp 16) (by kernel_rfl) (by kernel_rfl) (by kernel_rfl) (by kernel_rfl) (by kernel_rfl) hx) ?_
    obtain ⟨x4_0, hx0, h⟩ := bind_some h
    obtain ⟨x4_1, hx1, h⟩ := bind_some h
    obtain ⟨x4_2, hx2, h⟩ := bind_some h
    obtain ⟨x4_3, hx3, h⟩ := bind_some h
    refine RS.o (H' := H) (some 19) (Value.agg #[(Value.int .i64 x4_0), (Value.int .i64 x4_1), (Value.string x4_2), (Sl3.v x4_3)]) (Abs.run_loadAg (t := 28) (x := .tmp 18) (a := p3) (k := 4) (by kernel_rfl) (by kernel_rfl) (by kernel_rfl) (by kernel_rfl) (rdc_cons (rd_cell hx0 deI_inv) (rdc_cons (rd_cell hx1 deI_inv) (rdc_cons (rd_cell hx2 deS_inv) (rdc_cons (rd_cell hx3 deSl_inv) rdc_nil))))) (RS.mL 2 [(8, .loc 1 0)] ([some (28, [(Value.int .i64 a0_0), (Value.int .i64 a0_1), (Value.string a0_2), (Sl3.v a0_3)]), some (28, [(Value.int .i64 x4_0), (Value.int .i64 x4_1), (Value.string x4_2), (Sl3.v x4_3)])]) (RS.dn (WS.nxt (WS.sq (WS.rg (RS.mS 3 [(23, .val (Value.int .i64 (IntKind.i64.wrap (a1 + 1)))), (22, .val (Value.int .i64 a1)), (21, .val (Value.agg #[(Value.int .i64 x4_0), (Value.int .i64 x4_1), (Value.string x4_2), (Sl3.v x4_3)]))] ?_))))))
    obtain ⟨⟨x5, x6⟩, hx, h⟩ := bind_some h
    try dsimp only at h
    refine RS.cl (some 24) (v := (Value.tuple #[(Value.int .i64 x5), (Value.bool x6)])) 90 #[(Value.agg #[(Value.int .i64 x4_0), (Value.int .i64 x4_1), (Value.string x4_2), (Sl3.v x4_3)]), (Value.int .i64 (IntKind.i64.wrap (a1 + 1)))] (hrec_sort_parts _ _ _ _ _ _ _ _ hx) (RS.mS 5 [(10, .val (Value.bool x6)), (9, .val (Value.int .i64 x5)), (26, .val (Value.bool x6)), (25, .val (Value.int .i64 x5)), (20, .val (Value.tuple #[(Value.int .i64 x5), (Value.bool x6)]))] (RS.dn (WS.nxt (WS.sq (WS.rg (RS.mS 4 [(6, .val (Value.int .i64 (IntKind.i64.wrap (v6_1 + x5)))), (29, .val (Value.int .i64 (IntKind.i64.wrap (v6_1 + x5)))), (28, .val (Value.int .i64 x5)), (27, .val (Value.int .i64 v6_1))] (RS.dn (WS.nxt ?_))))))))
    obtain ⟨v35_7, hx, h⟩ := bind_some h
    refine WS.sq ?_
    refine WS.join ([(35, .val (Value.bool v35_7)), (1, .val (Value.int .i64 a1)), (6, .val (Value.int .i64 (IntKind.i64.wrap (v6_1 + x5)))), (14, .val (Sl3.v a0_3)), (15, .val (Value.int .i64 (a0_3.n : Int))), (16, .val (Value.int .i64 v16_2))]) ([some (28, [(Value.int .i64 a0_0), (Value.int .i64 a0_1), (Value.string a0_2), (Sl3.v a0_3)]), some (28, [(Value.int .i64 x4_0), (Value.int .i64 x4_1), (Value.string x4_2), (Sl3.v x4_3)])]) H ?_ (fun a w hs => WS.nxt ?_ a w hs)
    · clear h; rename _ => h
      refine WS.rg (RS.mS 3 [(32, .val (Value.bool (!x6))), (31, .val (Value.bool (!x6))), (30, .val (Value.bool x6))] ?_)
      rcases ite_some h with ⟨hp, h⟩ | ⟨hp, h⟩
      · refine RS.fx 32 false (nb_not hp) (RS.mS 3 [(35, .val (Value.bool (decide ((IntKind.i64.wrap (v6_1 + x5)) > 256)))), (34, .val (Value.bool (decide ((IntKind.i64.wrap (v6_1 + x5)) > 256)))), (33, .val (Value.int .i64 (IntKind.i64.wrap (v6_1 + x5))))] (RS.dn ?_))
        cases h
        exact fun a w hs => (jsN (hs.sb 2))
      · refine RS.fx 32 true (nb_not' hp) (RS.mS 3 [(35, .val (Value.bool true)), (34, .val undef), (33, .val undef)] (RS.dn ?_))
        cases h
        exact fun a w hs => (jsN (hs.sb 2))
    · clear hx
      rcases ite_some h with ⟨hp, h⟩ | ⟨hp, h⟩
      · refine WS.fx 35 true hp (WS.cT (WS.sq (WS.rg (RS.mS 3 [(5, .val (Value.bool false)), (4, .val (Value.int .i64 (IntKind.i64.wrap (v6_1 + x5)))), (36, .val (Value.int .i64 (IntKind.i64.wrap (v6_1 + x5))))] (RS.dn (WS.nxt (WS.rt ?_)))))))
        cases h
        exact fun a w hs => bkR (sqR (lsR rfl (rS hs)))
      · refine WS.fx 35 false (b_not hp) (WS.cF (WS.sk ?_))
        refine fun a w hs => bkN ((WS.nxt ?_ a w hs))
        refine WS.rg (RS.mS 2 [(16, .val (Value.int .i64 (IntKind.i64.wrap (v16_2 + 1)))), (37, .val (Value.int .i64 (IntKind.i64.wrap (v16_2 + 1))))] (RS.dn ?_))
        cases h
        exact fun a w hs => lsN rfl (hs.sb 1)
  · refine WS.fx 17 false (decide_eq_false hp) (WS.cF (WS.ex 0 ?_))
    cases h
    exact fun a w hs => sqE (lsB rfl (hs.sb 1))

theorem sort_parts_body_ok {L : LC} {rec_sort_parts : AH → Int → Int → ByteArray → Sl3 → Int → Option (Int × Bool)} (hrec_sort_parts : ∀ (m : Nat) (H : AH) (a0_0 : Int) (a0_1 : Int) (a0_2 : ByteArray) (a0_3 : Sl3) (a1 : Int) (r : (Int × Bool)), rec_sort_parts H a0_0 a0_1 a0_2 a0_3 a1 = some r → CallS Tryd.prog (NE.plain 1000) m 90 #[(Value.agg #[(Value.int .i64 a0_0), (Value.int .i64 a0_1), (Value.string a0_2), (Sl3.v a0_3)]), (Value.int .i64 a1)] H (sort_parts_enc r) (sort_parts_hp H r)) {m : Nat} {H : AH} {a0_0 : Int} {a0_1 : Int} {a0_2 : ByteArray} {a0_3 : Sl3} {a1 : Int} {r : (Int × Bool)} (h : sort_parts_body L rec_sort_parts H a0_0 a0_1 a0_2 a0_3 a1 = some r) :
    CallS Tryd.prog (NE.plain 1000) m 90 #[(Value.agg #[(Value.int .i64 a0_0), (Value.int .i64 a0_1), (Value.string a0_2), (Sl3.v a0_3)]), (Value.int .i64 a1)] H (sort_parts_enc r) (sort_parts_hp H r) := by
  refine CallS.mk (args := [(Value.agg #[(Value.int .i64 a0_0), (Value.int .i64 a0_1), (Value.string a0_2), (Sl3.v a0_3)]), (Value.int .i64 a1)]) Tryd.func90 (B := B90) (by kernel_rfl) (fun E _ => ?_)
  unfold sort_parts_body at h
  refine WS.sq (WS.rg (RS.mL 3 [(5, .val (Value.bool false)), (4, .val (Value.int .i64 0)), (2, .loc 0 0)] ([some (28, [(Value.int .i64 a0_0), (Value.int .i64 a0_1), (Value.string a0_2), (Sl3.v a0_3)])]) (RS.dn (WS.nxt (WS.sq (WS.sq (WS.rg (RS.mS 2 [(12, .val (Value.bool (decide (a1 > 16)))), (11, .val (Value.int .i64 a1))] (RS.dn ?_)))))))))
  refine WS.nxt ?_
  rcases ite_some h with ⟨hp, h⟩ | ⟨hp, h⟩
  · refine WS.fx 12 true (decide_eq_true hp) (WS.cT (WS.sq (WS.rg (RS.mS 2 [(5, .val (Value.bool false)), (4, .val (Value.int .i64 0))] (RS.dn (WS.nxt (WS.rt ?_)))))))
    cases h
    exact fun a w hs => sqR (rtR (rS hs))
  · refine WS.fx 12 false (decide_eq_false hp) (WS.cF (WS.sk (WS.nxt (WS.sq (WS.rg (RS.mS 1 [(6, .val (Value.int .i64 1))] (RS.dn (WS.nxt (WS.sq ?_)))))))))
    refine WS.sq (WS.rg (RS.mS 4 [(16, .val (Value.int .i64 0)), (15, .val (Value.int .i64 (a0_3.n : Int))), (14, .val (Sl3.v a0_3)), (13, .loc 0 3)] (RS.dn (WS.nxt (WS.bk 0 ?_)))))
    obtain ⟨o, hl, h⟩ := bind_some h
    rcases o with ⟨v6_8, v16_9⟩ | r
    · try dsimp only at h
      refine WS.lI (sort_parts_b0_ok (L := L) (E := E) (m := m) (H := H) hrec_sort_parts) (L.ok hl) 1 ?_
      clear hl
      refine fun a w hs => bkE ((WS.nxt ?_ a w hs))
      refine WS.sq (WS.rg (RS.mS 3 [(5, .val (Value.bool true)), (4, .val (Value.int .i64 v6_8)), (38, .val (Value.int .i64 v6_8))] (RS.dn (WS.nxt (WS.rt ?_)))))
      cases h
      exact fun a w hs => rtR (rS hs)
    · try dsimp only at h
      refine WS.lR (sort_parts_b0_ok (L := L) (E := E) (m := m) (H := H) hrec_sort_parts) (L.ok hl) 1 ?_
      cases h
      exact fun a w hq => bkR (sqR (rtR hq))

theorem fam_sort_parts_ok {L : LC} : ∀ n, (∀ (m : Nat) (H : AH) (a0_0 : Int) (a0_1 : Int) (a0_2 : ByteArray) (a0_3 : Sl3) (a1 : Int) (r : (Int × Bool)), ((fam_sort_parts L n)) H a0_0 a0_1 a0_2 a0_3 a1 = some r → CallS Tryd.prog (NE.plain 1000) m 90 #[(Value.agg #[(Value.int .i64 a0_0), (Value.int .i64 a0_1), (Value.string a0_2), (Sl3.v a0_3)]), (Value.int .i64 a1)] H (sort_parts_enc r) (sort_parts_hp H r)) := by
  intro n
  induction n with
  | zero => exact (fun _ _ _ _ _ _ _ _ h => (Option.some_ne_none _ h.symm).elim)
  | succ n ih => exact (fun _ _ _ _ _ _ _ _ h => sort_parts_body_ok (L := L) ih h)

theorem sort_parts_ok {L : LC} {m : Nat} {H : AH} {a0_0 : Int} {a0_1 : Int} {a0_2 : ByteArray} {a0_3 : Sl3} {a1 : Int} {r : (Int × Bool)} (h : sort_parts L H a0_0 a0_1 a0_2 a0_3 a1 = some r) :
    CallS Tryd.prog (NE.plain 1000) m 90 #[(Value.agg #[(Value.int .i64 a0_0), (Value.int .i64 a0_1), (Value.string a0_2), (Sl3.v a0_3)]), (Value.int .i64 a1)] H (sort_parts_enc r) (sort_parts_hp H r) :=
  (fam_sort_parts_ok _) _ _ _ _ _ _ _ _ h

def sort_shaped_enc : Bool → Value
  | r0 => (Value.bool r0)

def sort_shaped_hp (H : AH) : Bool → AH := fun _ => H

noncomputable def B91 : Code := (Tryd.f91.body).getD .skip

noncomputable def sort_shaped_b0 (_L : LC) (rec_sort_shaped : AH → Int → Int → ByteArray → Sl3 → Option Bool) (H : AH) (_a0_0 : Int) (_a0_1 : Int) (_a0_2 : ByteArray) (a0_3 : Sl3) : (Bool × Int) → Option (Lp (Bool × Int) Bool) := fun (v3_5, v82_6) =>
  if v82_6 < (a0_3.n : Int) then
    Option.bind (α := Bool) (
      Option.bind (idxA 4 a0_3 v82_6) fun p8 =>
      Option.bind (rd (deI .i64) H (Addr.add p8 0)) fun x9_0 =>
      Option.bind (rd (deI .i64) H (Addr.add p8 1)) fun x9_1 =>
      Option.bind (rd deS H (Addr.add p8 2)) fun x9_2 =>
      Option.bind (rd deSl H (Addr.add p8 3)) fun x9_3 =>
      if v3_5 = true then
        Option.bind (rec_sort_shaped H x9_0 x9_1 x9_2 x9_3) fun x10 =>
        some x10
      else
        some false) fun v3_7 =>
    some (.next (v3_7, (IntKind.i64.wrap (v82_6 + 1))))
  else
    some (.brk (v3_5, v82_6))

def sort_shaped_b0_kn (_L : LC) (_rec_sort_shaped : AH → Int → Int → ByteArray → Sl3 → Option Bool) (_H : AH) (_a0_0 : Int) (_a0_1 : Int) (_a0_2 : ByteArray) (a0_3 : Sl3) : (Bool × Int) → KN := fun (v3_5, v82_6) => [(3, .val (Value.bool v3_5)), (82, .val (Value.int .i64 v82_6)), (80, .val (Sl3.v a0_3)), (81, .val (Value.int .i64 (a0_3.n : Int)))]

def sort_shaped_b0_ls (_L : LC) (_rec_sort_shaped : AH → Int → Int → ByteArray → Sl3 → Option Bool) (_H : AH) (a0_0 : Int) (a0_1 : Int) (a0_2 : ByteArray) (a0_3 : Sl3) : (Bool × Int) → Lcs := fun (_, _) => [some (28, [(Value.int .i64 a0_0), (Value.int .i64 a0_1), (Value.string a0_2), (Sl3.v a0_3)])]

noncomputable def sort_shaped_body (L : LC) (rec_sort_shaped : AH → Int → Int → ByteArray → Sl3 → Option Bool) (H : AH) (a0_0 : Int) (a0_1 : Int) (a0_2 : ByteArray) (a0_3 : Sl3) : Option Bool :=
  Option.bind (α := Bool) (
    Option.bind (α := Bool) (
      if a0_0 = 1 then
        some true
      else
        some (decide (a0_0 = 2))) fun v8_2 =>
    if v8_2 = true then
      if a0_1 = 0 then
        if (a0_2.toList == (⟨#[]⟩ : ByteArray).toList) = true then
          some (decide ((a0_3.n : Int) = 0))
        else
          some false
      else
        some false
    else
      if a0_0 = 3 then
        if a0_1 ≥ 1 then
          if a0_1 ≤ 4096 then
            if (a0_2.toList == (⟨#[]⟩ : ByteArray).toList) = true then
              some (decide ((a0_3.n : Int) = 0))
            else
              some false
          else
            some false
        else
          some false
      else
        if a0_0 = 4 then
          if a0_1 = 0 then
            if (a0_2.toList == (⟨#[]⟩ : ByteArray).toList) = true then
              some (decide ((a0_3.n : Int) = 2))
            else
              some false
          else
            some false
        else
          Option.bind (α := Bool) (
            if a0_0 = 5 then
              some true
            else
              some (decide (a0_0 = 6))) fun v62_3 =>
          if v62_3 = true then
            if a0_1 = 0 then
              Option.bind (sort_Name L a0_2) fun x4 =>
              if x4 = true then
                some (decide ((a0_3.n : Int) = 0))
              else
                some false
            else
              some false
          else
            some false) fun v3_1 =>
  Option.bind (L.run (sort_shaped_b0 L rec_sort_shaped H a0_0 a0_1 a0_2 a0_3) (v3_1, 0)) fun o => match o with
  | .inl (v3_11, _) =>
    some v3_11
  | .inr r => some r

noncomputable def fam_sort_shaped (L : LC) (n : Nat) : (AH → Int → Int → ByteArray → Sl3 → Option Bool) := Nat.rec (motive := fun _ => (AH → Int → Int → ByteArray → Sl3 → Option Bool)) (fun _ _ _ _ _ => none) (fun _ p => sort_shaped_body L p) n

noncomputable def sort_shaped (L : LC) (H : AH) (a0_0 : Int) (a0_1 : Int) (a0_2 : ByteArray) (a0_3 : Sl3) : Option Bool := (fam_sort_shaped L L.fuel) H a0_0 a0_1 a0_2 a0_3

theorem sort_shaped_b0_ok {E : Ent} {m : Nat} {L : LC} {rec_sort_shaped : AH → Int → Int → ByteArray → Sl3 → Option Bool} {H : AH} {a0_0 : Int} {a0_1 : Int} {a0_2 : ByteArray} {a0_3 : Sl3} (hrec_sort_shaped : ∀ (m : Nat) (H : AH) (a0_0 : Int) (a0_1 : Int) (a0_2 : ByteArray) (a0_3 : Sl3) (r : Bool), rec_sort_shaped H a0_0 a0_1 a0_2 a0_3 = some r → CallS Tryd.prog (NE.plain 1000) m 91 #[(Value.agg #[(Value.int .i64 a0_0), (Value.int .i64 a0_1), (Value.string a0_2), (Sl3.v a0_3)])] H (sort_shaped_enc r) (sort_shaped_hp H r)) : ∀ s o, sort_shaped_b0 L rec_sort_shaped H a0_0 a0_1 a0_2 a0_3 s = some o →
    WS Tryd.prog (NE.plain 1000) m E Tryd.f91.ntmps (cfst (cfst (csnd (cfst (csnd (csnd (csnd B91))))))) (sort_shaped_b0_kn L rec_sort_shaped H a0_0 a0_1 a0_2 a0_3 s) (sort_shaped_b0_ls L rec_sort_shaped H a0_0 a0_1 a0_2 a0_3 s) ((fun _ => H) s) (lpS Tryd.prog (NE.plain 1000) m E Tryd.f91.ntmps (sort_shaped_b0_kn L rec_sort_shaped H a0_0 a0_1 a0_2 a0_3) (sort_shaped_b0_ls L rec_sort_shaped H a0_0 a0_1 a0_2 a0_3) (fun _ => H) 1 (fun r => RT Tryd.prog (NE.plain 1000) m E Tryd.f91 (sort_shaped_enc r) (sort_shaped_hp H r)) o) := by
  rintro ⟨v3_5, v82_6⟩ o h
  unfold sort_shaped_b0 at h
  try dsimp only at h
  refine WS.sq (WS.rg (RS.mS 1 [(83, .val (Value.bool (decide (v82_6 < (a0_3.n : Int)))))] (RS.dn (WS.nxt (WS.sq ?_)))))
  rcases ite_some h with ⟨hp, h⟩ | ⟨hp, h⟩
  · refine WS.fx 83 true (decide_eq_true hp) (WS.cT (WS.sk (WS.nxt ?_)))
    obtain ⟨v3_7, hx, h⟩ := bind_some h
    refine WS.sq ?_
    refine WS.join ([(3, .val (Value.bool v3_7)), (80, .val (Sl3.v a0_3)), (81, .val (Value.int .i64 (a0_3.n : Int))), (82, .val (Value.int .i64 v82_6))]) ([some (28, [(Value.int .i64 a0_0), (Value.int .i64 a0_1), (Value.string a0_2), (Sl3.v a0_3)])]) H ?_ (fun a w hs => WS.nxt ?_ a w hs)
    · clear h; rename _ => h
      refine WS.bk 2 (WS.sq (WS.rg ?_))
      obtain ⟨p8, hx, h⟩ := bind_some h
      refine RS.o (H' := H) (some 84) (Value.pointer (some p8)) (Abs.run_idx (s := a0_3) (k := .i64) (t := 26) (e := 28) (x := .tmp 80) (y := .tmp 82) (by kernel_rfl) (by kernel_rfl) (by kernel_rfl) (by kernel_rfl) (by kernel_rfl) hx) ?_
      obtain ⟨x9_0, hx0, h⟩ := bind_some h
      obtain ⟨x9_1, hx1, h⟩ := bind_some h
      obtain ⟨x9_2, hx2, h⟩ := bind_some h
      obtain ⟨x9_3, hx3, h⟩ := bind_some h
      refine RS.o (H' := H) (some 85) (Value.agg #[(Value.int .i64 x9_0), (Value.int .i64 x9_1), (Value.string x9_2), (Sl3.v x9_3)]) (Abs.run_loadAg (t := 28) (x := .tmp 84) (a := p8) (k := 4) (by kernel_rfl) (by kernel_rfl) (by kernel_rfl) (by kernel_rfl) (rdc_cons (rd_cell hx0 deI_inv) (rdc_cons (rd_cell hx1 deI_inv) (rdc_cons (rd_cell hx2 deS_inv) (rdc_cons (rd_cell hx3 deSl_inv) rdc_nil))))) (RS.mL 2 [(5, .loc 1 0)] ([some (28, [(Value.int .i64 a0_0), (Value.int .i64 a0_1), (Value.string a0_2), (Sl3.v a0_3)]), some (28, [(Value.int .i64 x9_0), (Value.int .i64 x9_1), (Value.string x9_2), (Sl3.v x9_3)])]) (RS.dn (WS.nxt (WS.rg (RS.mS 2 [(87, .val (Value.bool v3_5)), (86, .val (Value.bool v3_5))] ?_)))))
      rcases ite_some h with ⟨hp, h⟩ | ⟨hp, h⟩
      · refine RS.fx 87 true hp (RS.mS 1 [(88, .val (Value.agg #[(Value.int .i64 x9_0), (Value.int .i64 x9_1), (Value.string x9_2), (Sl3.v x9_3)]))] ?_)
        obtain ⟨x10, hx, h⟩ := bind_some h
        refine RS.cl (some 89) (v := (Value.bool x10)) 91 #[(Value.agg #[(Value.int .i64 x9_0), (Value.int .i64 x9_1), (Value.string x9_2), (Sl3.v x9_3)])] (hrec_sort_shaped _ _ _ _ _ _ _ hx) (RS.mS 2 [(3, .val (Value.bool x10)), (90, .val (Value.bool x10))] (RS.dn ?_))
        cases h
        exact fun a w hs => bkN ((jsN (hs.sb 1)))
      · refine RS.fx 87 false (b_not hp) (RS.mS 4 [(3, .val (Value.bool false)), (90, .val (Value.bool false)), (89, .val undef), (88, .val undef)] (RS.dn ?_))
        cases h
        exact fun a w hs => bkN ((jsN (hs.sb 1)))
    · clear hx
      refine WS.rg (RS.mS 2 [(82, .val (Value.int .i64 (IntKind.i64.wrap (v82_6 + 1)))), (91, .val (Value.int .i64 (IntKind.i64.wrap (v82_6 + 1))))] (RS.dn ?_))
      cases h
      exact fun a w hs => lsN rfl (hs.sb 1)
  · refine WS.fx 83 false (decide_eq_false hp) (WS.cF (WS.ex 1 ?_))
    cases h
    exact fun a w hs => sqE (lsB rfl (hs.sb 1))

theorem sort_shaped_body_ok {L : LC} {rec_sort_shaped : AH → Int → Int → ByteArray → Sl3 → Option Bool} (hrec_sort_shaped : ∀ (m : Nat) (H : AH) (a0_0 : Int) (a0_1 : Int) (a0_2 : ByteArray) (a0_3 : Sl3) (r : Bool), rec_sort_shaped H a0_0 a0_1 a0_2 a0_3 = some r → CallS Tryd.prog (NE.plain 1000) m 91 #[(Value.agg #[(Value.int .i64 a0_0), (Value.int .i64 a0_1), (Value.string a0_2), (Sl3.v a0_3)])] H (sort_shaped_enc r) (sort_shaped_hp H r)) {m : Nat} {H : AH} {a0_0 : Int} {a0_1 : Int} {a0_2 : ByteArray} {a0_3 : Sl3} {r : Bool} (h : sort_shaped_body L rec_sort_shaped H a0_0 a0_1 a0_2 a0_3 = some r) :
    CallS Tryd.prog (NE.plain 1000) m 91 #[(Value.agg #[(Value.int .i64 a0_0), (Value.int .i64 a0_1), (Value.string a0_2), (Sl3.v a0_3)])] H (sort_shaped_enc r) (sort_shaped_hp H r) := by
  refine CallS.mk (args := [(Value.agg #[(Value.int .i64 a0_0), (Value.int .i64 a0_1), (Value.string a0_2), (Sl3.v a0_3)])]) Tryd.func91 (B := B91) (by kernel_rfl) (fun E _ => ?_)
  unfold sort_shaped_body at h
  refine WS.sq (WS.rg (RS.mL 2 [(2, .val (Value.bool false)), (1, .loc 0 0)] ([some (28, [(Value.int .i64 a0_0), (Value.int .i64 a0_1), (Value.string a0_2), (Sl3.v a0_3)])]) (RS.dn (WS.nxt (WS.sq (WS.rg (RS.mS 1 [(3, .val (Value.bool false))] (RS.dn (WS.nxt ?_)))))))))
  obtain ⟨v3_1, hx, h⟩ := bind_some h
  refine WS.sq ?_
  refine WS.join ([(3, .val (Value.bool v3_1)), (1, .loc 0 0)]) ([some (28, [(Value.int .i64 a0_0), (Value.int .i64 a0_1), (Value.string a0_2), (Sl3.v a0_3)])]) H ?_ (fun a w hs => WS.nxt ?_ a w hs)
  · clear h; rename _ => h
    refine WS.sq (WS.rg (RS.mS 2 [(7, .val (Value.int .i64 a0_0)), (6, .loc 0 0)] (RS.dn (WS.nxt (WS.bk 0 ?_)))))
    obtain ⟨v8_2, hx, h⟩ := bind_some h
    refine WS.sq ?_
    refine WS.join ([(8, .val (Value.bool v8_2)), (1, .loc 0 0), (3, .val (Value.bool false)), (7, .val (Value.int .i64 a0_0))]) ([some (28, [(Value.int .i64 a0_0), (Value.int .i64 a0_1), (Value.string a0_2), (Sl3.v a0_3)])]) H ?_ (fun a w hs => WS.nxt ?_ a w hs)
    · clear h; rename _ => h
      refine WS.sq (WS.rg (RS.mS 2 [(8, .val (Value.bool (decide (a0_0 = 1)))), (9, .val (Value.bool (decide (a0_0 = 1))))] (RS.dn (WS.nxt ?_))))
      rcases ite_some h with ⟨hp, h⟩ | ⟨hp, h⟩
      · refine WS.fx 8 true (decide_eq_true hp) (WS.cT (WS.sk ?_))
        cases h
        exact fun a w hs => (jsN (hs.sb 1))
      · refine WS.fx 8 false (decide_eq_false hp) (WS.cF (WS.rg (RS.mS 2 [(8, .val (Value.bool (decide (a0_0 = 2)))), (10, .val (Value.bool (decide (a0_0 = 2))))] (RS.dn ?_))))
        cases h
        exact fun a w hs => (jsN (hs.sb 1))
    · clear hx
      rcases ite_some h with ⟨hp, h⟩ | ⟨hp, h⟩
      · refine WS.fx 8 true hp (WS.cT (WS.rg (RS.mS 4 [(14, .val (Value.bool (decide (a0_1 = 0)))), (13, .val (Value.bool (decide (a0_1 = 0)))), (12, .val (Value.int .i64 a0_1)), (11, .loc 0 1)] ?_)))
        rcases ite_some h with ⟨hp, h⟩ | ⟨hp, h⟩
        · refine RS.fx 14 true (decide_eq_true hp) (RS.mS 5 [(19, .val (Value.bool (a0_2.toList == (⟨#[]⟩ : ByteArray).toList))), (18, .val (Value.bool (a0_2.toList == (⟨#[]⟩ : ByteArray).toList))), (17, .val (Value.bool (a0_2.toList == (⟨#[]⟩ : ByteArray).toList))), (16, .val (Value.string a0_2)), (15, .loc 0 2)] ?_)
          rcases ite_some h with ⟨hp, h⟩ | ⟨hp, h⟩
          · refine RS.fx 19 true hp (RS.mS 6 [(3, .val (Value.bool (decide ((a0_3.n : Int) = 0)))), (24, .val (Value.bool (decide ((a0_3.n : Int) = 0)))), (23, .val (Value.bool (decide ((a0_3.n : Int) = 0)))), (22, .val (Value.int .i64 (a0_3.n : Int))), (21, .val (Sl3.v a0_3)), (20, .loc 0 3)] (RS.dn ?_))
            cases h
            exact fun a w hs => bkN ((jsN (hs.sb 1)))
          · refine RS.fx 19 false (b_not hp) (RS.mS 6 [(3, .val (Value.bool false)), (24, .val (Value.bool false)), (23, .val undef), (22, .val undef), (21, .val undef), (20, .val undef)] (RS.dn ?_))
            cases h
            exact fun a w hs => bkN ((jsN (hs.sb 1)))
        · refine RS.fx 14 false (decide_eq_false hp) (RS.mS 11 [(3, .val (Value.bool false)), (24, .val (Value.bool false)), (23, .val undef), (22, .val undef), (21, .val undef), (20, .val undef), (19, .val (Value.bool false)), (18, .val (Value.bool false)), (17, .val undef), (16, .val undef), (15, .val undef)] (RS.dn ?_))
          cases h
          exact fun a w hs => bkN ((jsN (hs.sb 1)))
      · refine WS.fx 8 false (b_not hp) (WS.cF (WS.sq (WS.rg (RS.mS 2 [(25, .val (Value.bool (decide (a0_0 = 3)))), (26, .val (Value.bool (decide (a0_0 = 3))))] (RS.dn (WS.nxt ?_))))))
        rcases ite_some h with ⟨hp, h⟩ | ⟨hp, h⟩
        · refine WS.fx 25 true (decide_eq_true hp) (WS.cT (WS.rg (RS.mS 4 [(30, .val (Value.bool (decide (a0_1 ≥ 1)))), (29, .val (Value.bool (decide (a0_1 ≥ 1)))), (28, .val (Value.int .i64 a0_1)), (27, .loc 0 1)] ?_)))
          rcases ite_some h with ⟨hp, h⟩ | ⟨hp, h⟩
          · refine RS.fx 30 true (decide_eq_true hp) (RS.mS 5 [(35, .val (Value.bool (decide (a0_1 ≤ 4096)))), (34, .val (Value.bool (decide (a0_1 ≤ 4096)))), (33, .val (Value.bool (decide (a0_1 ≤ 4096)))), (32, .val (Value.int .i64 a0_1)), (31, .loc 0 1)] ?_)
            rcases ite_some h with ⟨hp, h⟩ | ⟨hp, h⟩
            · refine RS.fx 35 true (decide_eq_true hp) (RS.mS 5 [(40, .val (Value.bool (a0_2.toList == (⟨#[]⟩ : ByteArray).toList))), (39, .val (Value.bool (a0_2.toList == (⟨#[]⟩ : ByteArray).toList))), (38, .val (Value.bool (a0_2.toList == (⟨#[]⟩ : ByteArray).toList))), (37, .val (Value.string a0_2)), (36, .loc 0 2)] ?_)
              rcases ite_some h with ⟨hp, h⟩ | ⟨hp, h⟩
              · refine RS.fx 40 true hp (RS.mS 6 [(3, .val (Value.bool (decide ((a0_3.n : Int) = 0)))), (45, .val (Value.bool (decide ((a0_3.n : Int) = 0)))), (44, .val (Value.bool (decide ((a0_3.n : Int) = 0)))), (43, .val (Value.int .i64 (a0_3.n : Int))), (42, .val (Sl3.v a0_3)), (41, .loc 0 3)] (RS.dn ?_))
                cases h
                exact fun a w hs => bkN ((jsN (hs.sb 1)))
              · refine RS.fx 40 false (b_not hp) (RS.mS 6 [(3, .val (Value.bool false)), (45, .val (Value.bool false)), (44, .val undef), (43, .val undef), (42, .val undef), (41, .val undef)] (RS.dn ?_))
                cases h
                exact fun a w hs => bkN ((jsN (hs.sb 1)))
            · refine RS.fx 35 false (decide_eq_false hp) (RS.mS 11 [(3, .val (Value.bool false)), (45, .val (Value.bool false)), (44, .val undef), (43, .val undef), (42, .val undef), (41, .val undef), (40, .val (Value.bool false)), (39, .val (Value.bool false)), (38, .val undef), (37, .val undef), (36, .val undef)] (RS.dn ?_))
              cases h
              exact fun a w hs => bkN ((jsN (hs.sb 1)))
          · refine RS.fx 30 false (decide_eq_false hp) (RS.mS 16 [(3, .val (Value.bool false)), (45, .val (Value.bool false)), (44, .val undef), (43, .val undef), (42, .val undef), (41, .val undef), (40, .val (Value.bool false)), (39, .val (Value.bool false)), (38, .val undef), (37, .val undef), (36, .val undef), (35, .val (Value.bool false)), (34, .val (Value.bool false)), (33, .val undef), (32, .val undef), (31, .val undef)] (RS.dn ?_))
            cases h
            exact fun a w hs => bkN ((jsN (hs.sb 1)))
        · refine WS.fx 25 false (decide_eq_false hp) (WS.cF (WS.sq (WS.rg (RS.mS 2 [(46, .val (Value.bool (decide (a0_0 = 4)))), (47, .val (Value.bool (decide (a0_0 = 4))))] (RS.dn (WS.nxt ?_))))))
          rcases ite_some h with ⟨hp, h⟩ | ⟨hp, h⟩
          · refine WS.fx 46 true (decide_eq_true hp) (WS.cT (WS.rg (RS.mS 4 [(51, .val (Value.bool (decide (a0_1 = 0)))), (50, .val (Value.bool (decide (a0_1 = 0)))), (49, .val (Value.int .i64 a0_1)), (48, .loc 0 1)] ?_)))
            rcases ite_some h with ⟨hp, h⟩ | ⟨hp, h⟩
            · refine RS.fx 51 true (decide_eq_true hp) (RS.mS 5 [(56, .val (Value.bool (a0_2.toList == (⟨#[]⟩ : ByteArray).toList))), (55, .val (Value.bool (a0_2.toList == (⟨#[]⟩ : ByteArray).toList))), (54, .val (Value.bool (a0_2.toList == (⟨#[]⟩ : ByteArray).toList))), (53, .val (Value.string a0_2)), (52, .loc 0 2)] ?_)
              rcases ite_some h with ⟨hp, h⟩ | ⟨hp, h⟩
              · refine RS.fx 56 true hp (RS.mS 6 [(3, .val (Value.bool (decide ((a0_3.n : Int) = 2)))), (61, .val (Value.bool (decide ((a0_3.n : Int) = 2)))), (60, .val (Value.bool (decide ((a0_3.n : Int) = 2)))), (59, .val (Value.int .i64 (a0_3.n : Int))), (58, .val (Sl3.v a0_3)), (57, .loc 0 3)] (RS.dn ?_))
                cases h
                exact fun a w hs => bkN ((jsN (hs.sb 1)))
              · refine RS.fx 56 false (b_not hp) (RS.mS 6 [(3, .val (Value.bool false)), (61, .val (Value.bool false)), (60, .val undef), (59, .val undef), (58, .val undef), (57, .val undef)] (RS.dn ?_))
                cases h
                exact fun a w hs => bkN ((jsN (hs.sb 1)))
            · refine RS.fx 51 false (decide_eq_false hp) (RS.mS 11 [(3, .val (Value.bool false)), (61, .val (Value.bool false)), (60, .val undef), (59, .val undef), (58, .val undef), (57, .val undef), (56, .val (Value.bool false)), (55, .val (Value.bool false)), (54, .val undef), (53, .val undef), (52, .val undef)] (RS.dn ?_))
              cases h
              exact fun a w hs => bkN ((jsN (hs.sb 1)))
          · refine WS.fx 46 false (decide_eq_false hp) (WS.cF ?_)
            obtain ⟨v62_3, hx, h⟩ := bind_some h
            refine WS.sq ?_
            refine WS.join ([(62, .val (Value.bool v62_3)), (1, .loc 0 0), (3, .val (Value.bool false))]) ([some (28, [(Value.int .i64 a0_0), (Value.int .i64 a0_1), (Value.string a0_2), (Sl3.v a0_3)])]) H ?_ (fun a w hs => WS.nxt ?_ a w hs)
            · clear h; rename _ => h
              refine WS.sq (WS.rg (RS.mS 2 [(62, .val (Value.bool (decide (a0_0 = 5)))), (63, .val (Value.bool (decide (a0_0 = 5))))] (RS.dn (WS.nxt ?_))))
              rcases ite_some h with ⟨hp, h⟩ | ⟨hp, h⟩
              · refine WS.fx 62 true (decide_eq_true hp) (WS.cT (WS.sk ?_))
                cases h
                exact fun a w hs => (jsN (hs.sb 1))
              · refine WS.fx 62 false (decide_eq_false hp) (WS.cF (WS.rg (RS.mS 2 [(62, .val (Value.bool (decide (a0_0 = 6)))), (64, .val (Value.bool (decide (a0_0 = 6))))] (RS.dn ?_))))
                cases h
                exact fun a w hs => (jsN (hs.sb 1))
            · clear hx
              rcases ite_some h with ⟨hp, h⟩ | ⟨hp, h⟩
              · refine WS.fx 62 true hp (WS.cT (WS.rg (RS.mS 4 [(68, .val (Value.bool (decide (a0_1 = 0)))), (67, .val (Value.bool (decide (a0_1 = 0)))), (66, .val (Value.int .i64 a0_1)), (65, .loc 0 1)] ?_)))
                rcases ite_some h with ⟨hp, h⟩ | ⟨hp, h⟩
                · refine RS.fx 68 true (decide_eq_true hp) (RS.mS 2 [(70, .val (Value.string a0_2)), (69, .loc 0 2)] ?_)
                  obtain ⟨x4, hx, h⟩ := bind_some h
                  refine RS.cl (some 71) (v := (Value.bool x4)) 13 #[(Value.string a0_2)] (sort_Name_ok hx) (RS.mS 2 [(73, .val (Value.bool x4)), (72, .val (Value.bool x4))] ?_)
                  rcases ite_some h with ⟨hp, h⟩ | ⟨hp, h⟩
                  · refine RS.fx 73 true hp (RS.mS 6 [(3, .val (Value.bool (decide ((a0_3.n : Int) = 0)))), (78, .val (Value.bool (decide ((a0_3.n : Int) = 0)))), (77, .val (Value.bool (decide ((a0_3.n : Int) = 0)))), (76, .val (Value.int .i64 (a0_3.n : Int))), (75, .val (Sl3.v a0_3)), (74, .loc 0 3)] (RS.dn ?_))
                    cases h
                    exact fun a w hs => bkN ((jsN (hs.sb 1)))
                  · refine RS.fx 73 false (b_not hp) (RS.mS 6 [(3, .val (Value.bool false)), (78, .val (Value.bool false)), (77, .val undef), (76, .val undef), (75, .val undef), (74, .val undef)] (RS.dn ?_))
                    cases h
                    exact fun a w hs => bkN ((jsN (hs.sb 1)))
                · refine RS.fx 68 false (decide_eq_false hp) (RS.mS 11 [(3, .val (Value.bool false)), (78, .val (Value.bool false)), (77, .val undef), (76, .val undef), (75, .val undef), (74, .val undef), (73, .val (Value.bool false)), (72, .val (Value.bool false)), (71, .val undef), (70, .val undef), (69, .val undef)] (RS.dn ?_))
                  cases h
                  exact fun a w hs => bkN ((jsN (hs.sb 1)))
              · refine WS.fx 62 false (b_not hp) (WS.cF (WS.sk ?_))
                cases h
                exact fun a w hs => bkN ((jsN (hs.sb 1)))
  · clear hx
    refine WS.sq (WS.sq (WS.rg (RS.mS 4 [(82, .val (Value.int .i64 0)), (81, .val (Value.int .i64 (a0_3.n : Int))), (80, .val (Sl3.v a0_3)), (79, .loc 0 3)] (RS.dn (WS.nxt (WS.bk 1 ?_))))))
    obtain ⟨o, hl, h⟩ := bind_some h
    rcases o with ⟨v3_11, v82_12⟩ | r
    · try dsimp only at h
      refine WS.lI (sort_shaped_b0_ok (L := L) (E := E) (m := m) (H := H) hrec_sort_shaped) (L.ok hl) 1 ?_
      clear hl
      refine fun a w hs => bkE ((WS.nxt ?_ a w hs))
      refine WS.sq (WS.rg (RS.mS 2 [(2, .val (Value.bool v3_11)), (92, .val (Value.bool v3_11))] (RS.dn (WS.nxt (WS.rt ?_)))))
      cases h
      exact fun a w hs => rtR (rS hs)
    · try dsimp only at h
      refine WS.lR (sort_shaped_b0_ok (L := L) (E := E) (m := m) (H := H) hrec_sort_shaped) (L.ok hl) 1 ?_
      cases h
      exact fun a w hq => bkR (sqR (rtR hq))

theorem fam_sort_shaped_ok {L : LC} : ∀ n, (∀ (m : Nat) (H : AH) (a0_0 : Int) (a0_1 : Int) (a0_2 : ByteArray) (a0_3 : Sl3) (r : Bool), ((fam_sort_shaped L n)) H a0_0 a0_1 a0_2 a0_3 = some r → CallS Tryd.prog (NE.plain 1000) m 91 #[(Value.agg #[(Value.int .i64 a0_0), (Value.int .i64 a0_1), (Value.string a0_2), (Sl3.v a0_3)])] H (sort_shaped_enc r) (sort_shaped_hp H r)) := by
  intro n
  induction n with
  | zero => exact (fun _ _ _ _ _ _ _ h => (Option.some_ne_none _ h.symm).elim)
  | succ n ih => exact (fun _ _ _ _ _ _ _ h => sort_shaped_body_ok (L := L) ih h)

theorem sort_shaped_ok {L : LC} {m : Nat} {H : AH} {a0_0 : Int} {a0_1 : Int} {a0_2 : ByteArray} {a0_3 : Sl3} {r : Bool} (h : sort_shaped L H a0_0 a0_1 a0_2 a0_3 = some r) :
    CallS Tryd.prog (NE.plain 1000) m 91 #[(Value.agg #[(Value.int .i64 a0_0), (Value.int .i64 a0_1), (Value.string a0_2), (Sl3.v a0_3)])] H (sort_shaped_enc r) (sort_shaped_hp H r) :=
  (fam_sort_shaped_ok _) _ _ _ _ _ _ _ h

def sort_wrong_enc : Int → Value
  | r0 => (Value.int .i64 r0)

def sort_wrong_hp (H : AH) : Int → AH := fun _ => H

noncomputable def B57 : Code := (Tryd.f57.body).getD .skip

noncomputable def sort_wrong (L : LC) (H : AH) (a0_0 : Int) (a0_1 : Int) (a0_2 : ByteArray) (a0_3 : Sl3) : Option Int :=
  Option.bind (sort_parts L H a0_0 a0_1 a0_2 a0_3 1) fun (_, x2) =>
  if x2 = true then
    Option.bind (sort_shaped L H a0_0 a0_1 a0_2 a0_3) fun x3 =>
    if x3 = true then
      some 0
    else
      some 40
  else
    some 3

theorem sort_wrong_ok {L : LC} {m : Nat} {H : AH} {a0_0 : Int} {a0_1 : Int} {a0_2 : ByteArray} {a0_3 : Sl3} {r : Int} (h : sort_wrong L H a0_0 a0_1 a0_2 a0_3 = some r) :
    CallS Tryd.prog (NE.plain 1000) m 57 #[(Value.agg #[(Value.int .i64 a0_0), (Value.int .i64 a0_1), (Value.string a0_2), (Sl3.v a0_3)])] H (sort_wrong_enc r) (sort_wrong_hp H r) := by
  refine CallS.mk (args := [(Value.agg #[(Value.int .i64 a0_0), (Value.int .i64 a0_1), (Value.string a0_2), (Sl3.v a0_3)])]) Tryd.func57 (B := B57) (by kernel_rfl) (fun E _ => ?_)
  unfold sort_wrong at h
  refine WS.sq (WS.rg (RS.mL 2 [(2, .val (Value.int .i64 0)), (1, .loc 0 0)] ([some (28, [(Value.int .i64 a0_0), (Value.int .i64 a0_1), (Value.string a0_2), (Sl3.v a0_3)])]) (RS.dn (WS.nxt (WS.sq (WS.sq (WS.rg (RS.mS 1 [(6, .val (Value.agg #[(Value.int .i64 a0_0), (Value.int .i64 a0_1), (Value.string a0_2), (Sl3.v a0_3)]))] ?_))))))))
  obtain ⟨⟨x1, x2⟩, hx, h⟩ := bind_some h
  try dsimp only at h
  refine RS.cl (some 7) (v := (Value.tuple #[(Value.int .i64 x1), (Value.bool x2)])) 90 #[(Value.agg #[(Value.int .i64 a0_0), (Value.int .i64 a0_1), (Value.string a0_2), (Sl3.v a0_3)]), (Value.int .i64 1)] (sort_parts_ok hx) (RS.mS 5 [(4, .val (Value.bool x2)), (3, .val (Value.int .i64 x1)), (9, .val (Value.bool x2)), (8, .val (Value.int .i64 x1)), (5, .val (Value.tuple #[(Value.int .i64 x1), (Value.bool x2)]))] (RS.dn (WS.nxt (WS.sq (WS.rg (RS.mS 2 [(11, .val (Value.bool (!x2))), (10, .val (Value.bool x2))] (RS.dn (WS.nxt ?_))))))))
  rcases ite_some h with ⟨hp, h⟩ | ⟨hp, h⟩
  · refine WS.fx 11 false (nb_not hp) (WS.cF (WS.sk (WS.nxt (WS.sq (WS.sq (WS.rg (RS.mS 1 [(12, .val (Value.agg #[(Value.int .i64 a0_0), (Value.int .i64 a0_1), (Value.string a0_2), (Sl3.v a0_3)]))] ?_)))))))
    obtain ⟨x3, hx, h⟩ := bind_some h
    refine RS.cl (some 13) (v := (Value.bool x3)) 91 #[(Value.agg #[(Value.int .i64 a0_0), (Value.int .i64 a0_1), (Value.string a0_2), (Sl3.v a0_3)])] (sort_shaped_ok hx) (RS.mS 1 [(14, .val (Value.bool (!x3)))] (RS.dn (WS.nxt ?_)))
    rcases ite_some h with ⟨hp, h⟩ | ⟨hp, h⟩
    · refine WS.fx 14 false (nb_not hp) (WS.cF (WS.sk (WS.nxt (WS.sq (WS.rg (RS.mS 1 [(2, .val (Value.int .i64 0))] (RS.dn (WS.nxt (WS.rt ?_)))))))))
      cases h
      exact fun a w hs => rtR (rS hs)
    · refine WS.fx 14 true (nb_not' hp) (WS.cT (WS.sq (WS.rg (RS.mS 1 [(2, .val (Value.int .i64 40))] (RS.dn (WS.nxt (WS.rt ?_)))))))
      cases h
      exact fun a w hs => sqR (rtR (rS hs))
  · refine WS.fx 11 true (nb_not' hp) (WS.cT (WS.sq (WS.rg (RS.mS 1 [(2, .val (Value.int .i64 3))] (RS.dn (WS.nxt (WS.rt ?_)))))))
    cases h
    exact fun a w hs => sqR (rtR (rS hs))

end Go.Proofs.YtccbilfbhecdaaaDoor


namespace Go.Proofs.YtccbilfbhecdaaaDoor
open Go Go.Abs
set_option maxRecDepth 100000

def ref04_Deep_enc : Bool → Value
  | r0 => (Value.bool r0)

def ref04_Deep_hp (H : AH) : Bool → AH := fun _ => H

noncomputable def B68 : Code := (Tryd.f68.body).getD .skip

noncomputable def ref04_Deep_b0 (_L : LC) (rec_ref04_Deep : AH → Int → Int → ByteArray → Sl3 → Int → Option Bool) (H : AH) (_a0_0 : Int) (_a0_1 : Int) (_a0_2 : ByteArray) (a0_3 : Sl3) (a1 : Int) : Int → Option (Lp Int Bool) := fun v5_1 =>
  if v5_1 < (a0_3.n : Int) then
    Option.bind (idxA 4 a0_3 v5_1) fun p2 =>
    Option.bind (rd (deI .i64) H (Addr.add p2 0)) fun x3_0 =>
    Option.bind (rd (deI .i64) H (Addr.add p2 1)) fun x3_1 =>
    Option.bind (rd deS H (Addr.add p2 2)) fun x3_2 =>
    Option.bind (rd deSl H (Addr.add p2 3)) fun x3_3 =>
    Option.bind (rec_ref04_Deep H x3_0 x3_1 x3_2 x3_3 (IntKind.i64.wrap (a1 - 1))) fun x4 =>
    if x4 = true then
      some (.ret true)
    else
      some (.next (IntKind.i64.wrap (v5_1 + 1)))
  else
    some (.brk v5_1)

def ref04_Deep_b0_kn (_L : LC) (_rec_ref04_Deep : AH → Int → Int → ByteArray → Sl3 → Int → Option Bool) (_H : AH) (_a0_0 : Int) (_a0_1 : Int) (_a0_2 : ByteArray) (_a0_3 : Sl3) (a1 : Int) : Int → KN := fun v5_1 => [(5, .val (Value.int .i64 v5_1)), (1, .val (Value.int .i64 a1)), (2, .loc 0 0)]

def ref04_Deep_b0_ls (_L : LC) (_rec_ref04_Deep : AH → Int → Int → ByteArray → Sl3 → Int → Option Bool) (_H : AH) (a0_0 : Int) (a0_1 : Int) (a0_2 : ByteArray) (a0_3 : Sl3) (_a1 : Int) : Int → Lcs := fun _ => [some (28, [(Value.int .i64 a0_0), (Value.int .i64 a0_1), (Value.string a0_2), (Sl3.v a0_3)])]

noncomputable def ref04_Deep_body (L : LC) (rec_ref04_Deep : AH → Int → Int → ByteArray → Sl3 → Int → Option Bool) (H : AH) (a0_0 : Int) (a0_1 : Int) (a0_2 : ByteArray) (a0_3 : Sl3) (a1 : Int) : Option Bool :=
  if a1 = 0 then
    some true
  else
    Option.bind (L.run (ref04_Deep_b0 L rec_ref04_Deep H a0_0 a0_1 a0_2 a0_3 a1) 0) fun o => match o with
    | .inl _ =>
      some false
    | .inr r => some r

noncomputable def fam_ref04_Deep (L : LC) (n : Nat) : (AH → Int → Int → ByteArray → Sl3 → Int → Option Bool) := Nat.rec (motive := fun _ => (AH → Int → Int → ByteArray → Sl3 → Int → Option Bool)) (fun _ _ _ _ _ _ => none) (fun _ p => ref04_Deep_body L p) n

noncomputable def ref04_Deep (L : LC) (H : AH) (a0_0 : Int) (a0_1 : Int) (a0_2 : ByteArray) (a0_3 : Sl3) (a1 : Int) : Option Bool := (fam_ref04_Deep L L.fuel) H a0_0 a0_1 a0_2 a0_3 a1

theorem ref04_Deep_b0_ok {E : Ent} {m : Nat} {L : LC} {rec_ref04_Deep : AH → Int → Int → ByteArray → Sl3 → Int → Option Bool} {H : AH} {a0_0 : Int} {a0_1 : Int} {a0_2 : ByteArray} {a0_3 : Sl3} {a1 : Int} (hrec_ref04_Deep : ∀ (m : Nat) (H : AH) (a0_0 : Int) (a0_1 : Int) (a0_2 : ByteArray) (a0_3 : Sl3) (a1 : Int) (r : Bool), rec_ref04_Deep H a0_0 a0_1 a0_2 a0_3 a1 = some r → CallS Tryd.prog (NE.plain 1000) m 68 #[(Value.agg #[(Value.int .i64 a0_0), (Value.int .i64 a0_1), (Value.string a0_2), (Sl3.v a0_3)]), (Value.int .i64 a1)] H (ref04_Deep_enc r) (ref04_Deep_hp H r)) : ∀ s o, ref04_Deep_b0 L rec_ref04_Deep H a0_0 a0_1 a0_2 a0_3 a1 s = some o →
    WS Tryd.prog (NE.plain 1000) m E Tryd.f68.ntmps (cfst (cfst (csnd (cfst (csnd (csnd B68)))))) (ref04_Deep_b0_kn L rec_ref04_Deep H a0_0 a0_1 a0_2 a0_3 a1 s) (ref04_Deep_b0_ls L rec_ref04_Deep H a0_0 a0_1 a0_2 a0_3 a1 s) ((fun _ => H) s) (lpS Tryd.prog (NE.plain 1000) m E Tryd.f68.ntmps (ref04_Deep_b0_kn L rec_ref04_Deep H a0_0 a0_1 a0_2 a0_3 a1) (ref04_Deep_b0_ls L rec_ref04_Deep H a0_0 a0_1 a0_2 a0_3 a1) (fun _ => H) 0 (fun r => RT Tryd.prog (NE.plain 1000) m E Tryd.f68 (ref04_Deep_enc r) (ref04_Deep_hp H r)) o) := by
  rintro v5_1 o h
  unfold ref04_Deep_b0 at h
  try dsimp only at h
  refine WS.sq (WS.sq (WS.rg (RS.mS 5 [(12, .val (Value.bool (decide (v5_1 < (a0_3.n : Int))))), (11, .val (Value.int .i64 (a0_3.n : Int))), (10, .val (Sl3.v a0_3)), (9, .loc 0 3), (8, .val (Value.int .i64 v5_1))] (RS.dn (WS.nxt ?_)))))
  rcases ite_some h with ⟨hp, h⟩ | ⟨hp, h⟩
  · refine WS.fx 12 true (decide_eq_true hp) (WS.cT (WS.sk (WS.nxt (WS.sq (WS.bk 1 (WS.sq (WS.rg (RS.mS 3 [(17, .val (Value.int .i64 v5_1)), (16, .val (Sl3.v a0_3)), (15, .loc 0 3)] ?_))))))))
    obtain ⟨p2, hx, h⟩ := bind_some h
    refine RS.o (H' := H) (some 18) (Value.pointer (some p2)) (Abs.run_idx (s := a0_3) (k := .i64) (t := 26) (e := 28) (x := .tmp 16) (y := .tmp 17) (by kernel_rfl) (by kernel_rfl) (by kernel_rfl) (by kernel_rfl) (by kernel_rfl) hx) ?_
    obtain ⟨x3_0, hx0, h⟩ := bind_some h
    obtain ⟨x3_1, hx1, h⟩ := bind_some h
    obtain ⟨x3_2, hx2, h⟩ := bind_some h
    obtain ⟨x3_3, hx3, h⟩ := bind_some h
    refine RS.o (H' := H) (some 19) (Value.agg #[(Value.int .i64 x3_0), (Value.int .i64 x3_1), (Value.string x3_2), (Sl3.v x3_3)]) (Abs.run_loadAg (t := 28) (x := .tmp 18) (a := p2) (k := 4) (by kernel_rfl) (by kernel_rfl) (by kernel_rfl) (by kernel_rfl) (rdc_cons (rd_cell hx0 deI_inv) (rdc_cons (rd_cell hx1 deI_inv) (rdc_cons (rd_cell hx2 deS_inv) (rdc_cons (rd_cell hx3 deSl_inv) rdc_nil))))) (RS.mS 2 [(21, .val (Value.int .i64 (IntKind.i64.wrap (a1 - 1)))), (20, .val (Value.int .i64 a1))] ?_)
    obtain ⟨x4, hx, h⟩ := bind_some h
    refine RS.cl (some 22) (v := (Value.bool x4)) 68 #[(Value.agg #[(Value.int .i64 x3_0), (Value.int .i64 x3_1), (Value.string x3_2), (Sl3.v x3_3)]), (Value.int .i64 (IntKind.i64.wrap (a1 - 1)))] (hrec_ref04_Deep _ _ _ _ _ _ _ _ hx) (RS.dn (WS.nxt ?_))
    rcases ite_some h with ⟨hp, h⟩ | ⟨hp, h⟩
    · refine WS.fx 22 true hp (WS.cT (WS.sq (WS.rg (RS.mS 1 [(4, .val (Value.bool true))] (RS.dn (WS.nxt (WS.rt ?_)))))))
      cases h
      exact fun a w hs => bkR (sqR (lsR rfl (rS hs)))
    · refine WS.fx 22 false (b_not hp) (WS.cF (WS.sk ?_))
      refine fun a w hs => bkN ((WS.nxt ?_ a w hs))
      refine WS.rg (RS.mS 3 [(5, .val (Value.int .i64 (IntKind.i64.wrap (v5_1 + 1)))), (14, .val (Value.int .i64 (IntKind.i64.wrap (v5_1 + 1)))), (13, .val (Value.int .i64 v5_1))] (RS.dn ?_))
      cases h
      exact fun a w hs => lsN rfl (hs.sb 1)
  · refine WS.fx 12 false (decide_eq_false hp) (WS.cF (WS.ex 0 ?_))
    cases h
    exact fun a w hs => sqE (lsB rfl (hs.sb 1))

theorem ref04_Deep_body_ok {L : LC} {rec_ref04_Deep : AH → Int → Int → ByteArray → Sl3 → Int → Option Bool} (hrec_ref04_Deep : ∀ (m : Nat) (H : AH) (a0_0 : Int) (a0_1 : Int) (a0_2 : ByteArray) (a0_3 : Sl3) (a1 : Int) (r : Bool), rec_ref04_Deep H a0_0 a0_1 a0_2 a0_3 a1 = some r → CallS Tryd.prog (NE.plain 1000) m 68 #[(Value.agg #[(Value.int .i64 a0_0), (Value.int .i64 a0_1), (Value.string a0_2), (Sl3.v a0_3)]), (Value.int .i64 a1)] H (ref04_Deep_enc r) (ref04_Deep_hp H r)) {m : Nat} {H : AH} {a0_0 : Int} {a0_1 : Int} {a0_2 : ByteArray} {a0_3 : Sl3} {a1 : Int} {r : Bool} (h : ref04_Deep_body L rec_ref04_Deep H a0_0 a0_1 a0_2 a0_3 a1 = some r) :
    CallS Tryd.prog (NE.plain 1000) m 68 #[(Value.agg #[(Value.int .i64 a0_0), (Value.int .i64 a0_1), (Value.string a0_2), (Sl3.v a0_3)]), (Value.int .i64 a1)] H (ref04_Deep_enc r) (ref04_Deep_hp H r) := by
  refine CallS.mk (args := [(Value.agg #[(Value.int .i64 a0_0), (Value.int .i64 a0_1), (Value.string a0_2), (Sl3.v a0_3)]), (Value.int .i64 a1)]) Tryd.func68 (B := B68) (by kernel_rfl) (fun E _ => ?_)
  unfold ref04_Deep_body at h
  refine WS.sq (WS.rg (RS.mL 2 [(4, .val (Value.bool false)), (2, .loc 0 0)] ([some (28, [(Value.int .i64 a0_0), (Value.int .i64 a0_1), (Value.string a0_2), (Sl3.v a0_3)])]) (RS.dn (WS.nxt (WS.sq (WS.sq (WS.rg (RS.mS 2 [(7, .val (Value.bool (decide (a1 = 0)))), (6, .val (Value.int .i64 a1))] (RS.dn ?_)))))))))
  refine WS.nxt ?_
  rcases ite_some h with ⟨hp, h⟩ | ⟨hp, h⟩
  · refine WS.fx 7 true (decide_eq_true hp) (WS.cT (WS.sq (WS.rg (RS.mS 1 [(4, .val (Value.bool true))] (RS.dn (WS.nxt (WS.rt ?_)))))))
    cases h
    exact fun a w hs => sqR (rtR (rS hs))
  · refine WS.fx 7 false (decide_eq_false hp) (WS.cF (WS.sk (WS.nxt (WS.sq (WS.sq (WS.rg (RS.mS 1 [(5, .val (Value.int .i64 0))] (RS.dn (WS.nxt ?_)))))))))
    refine WS.bk 0 ?_
    obtain ⟨o, hl, h⟩ := bind_some h
    rcases o with v5_5 | r
    · try dsimp only at h
      refine WS.lI (ref04_Deep_b0_ok (L := L) (E := E) (m := m) (H := H) hrec_ref04_Deep) (L.ok hl) 1 ?_
      clear hl
      refine fun a w hs => bkE ((WS.nxt ?_ a w hs))
      refine WS.sq (WS.rg (RS.mS 1 [(4, .val (Value.bool false))] (RS.dn (WS.nxt (WS.rt ?_)))))
      cases h
      exact fun a w hs => rtR (rS hs)
    · try dsimp only at h
      refine WS.lR (ref04_Deep_b0_ok (L := L) (E := E) (m := m) (H := H) hrec_ref04_Deep) (L.ok hl) 1 ?_
      cases h
      exact fun a w hq => bkR (sqR (rtR hq))

theorem fam_ref04_Deep_ok {L : LC} : ∀ n, (∀ (m : Nat) (H : AH) (a0_0 : Int) (a0_1 : Int) (a0_2 : ByteArray) (a0_3 : Sl3) (a1 : Int) (r : Bool), ((fam_ref04_Deep L n)) H a0_0 a0_1 a0_2 a0_3 a1 = some r → CallS Tryd.prog (NE.plain 1000) m 68 #[(Value.agg #[(Value.int .i64 a0_0), (Value.int .i64 a0_1), (Value.string a0_2), (Sl3.v a0_3)]), (Value.int .i64 a1)] H (ref04_Deep_enc r) (ref04_Deep_hp H r)) := by
  intro n
  induction n with
  | zero => exact (fun _ _ _ _ _ _ _ _ h => (Option.some_ne_none _ h.symm).elim)
  | succ n ih => exact (fun _ _ _ _ _ _ _ _ h => ref04_Deep_body_ok (L := L) ih h)

theorem ref04_Deep_ok {L : LC} {m : Nat} {H : AH} {a0_0 : Int} {a0_1 : Int} {a0_2 : ByteArray} {a0_3 : Sl3} {a1 : Int} {r : Bool} (h : ref04_Deep L H a0_0 a0_1 a0_2 a0_3 a1 = some r) :
    CallS Tryd.prog (NE.plain 1000) m 68 #[(Value.agg #[(Value.int .i64 a0_0), (Value.int .i64 a0_1), (Value.string a0_2), (Sl3.v a0_3)]), (Value.int .i64 a1)] H (ref04_Deep_enc r) (ref04_Deep_hp H r) :=
  (fam_ref04_Deep_ok _) _ _ _ _ _ _ _ _ h

def ref04_Parts_enc : Int → Value
  | r0 => (Value.int .i64 r0)

def ref04_Parts_hp (H : AH) : Int → AH := fun _ => H

noncomputable def B69 : Code := (Tryd.f69.body).getD .skip

noncomputable def ref04_Parts_b0 (_L : LC) (rec_ref04_Parts : AH → Int → Int → ByteArray → Sl3 → Option Int) (H : AH) (_a0_0 : Int) (_a0_1 : Int) (_a0_2 : ByteArray) (a0_3 : Sl3) : (Int × Int) → Option (Lp (Int × Int) Int) := fun (v3_1, v4_2) =>
  Option.bind (α := Bool) (
    if v4_2 < (a0_3.n : Int) then
      some (decide (v3_1 ≤ 256))
    else
      some false) fun v13_3 =>
  if v13_3 = true then
    Option.bind (idxA 4 a0_3 v4_2) fun p4 =>
    Option.bind (rd (deI .i64) H (Addr.add p4 0)) fun x5_0 =>
    Option.bind (rd (deI .i64) H (Addr.add p4 1)) fun x5_1 =>
    Option.bind (rd deS H (Addr.add p4 2)) fun x5_2 =>
    Option.bind (rd deSl H (Addr.add p4 3)) fun x5_3 =>
    Option.bind (rec_ref04_Parts H x5_0 x5_1 x5_2 x5_3) fun x6 =>
    Option.bind (gOp1 Tryd.prog (opsOf (cfst (cfst (csnd (cfst (cfst (csnd (cfst (csnd (csnd B69)))))))))) 8 [(23, .val (Value.int .i64 (IntKind.i64.wrap (v3_1 + x6))))] (deI .i64) H) fun x7 =>
    some (.next (x7, (IntKind.i64.wrap (v4_2 + 1))))
  else
    some (.brk (v3_1, v4_2))

def ref04_Parts_b0_kn (_L : LC) (_rec_ref04_Parts : AH → Int → Int → ByteArray → Sl3 → Option Int) (_H : AH) (_a0_0 : Int) (_a0_1 : Int) (_a0_2 : ByteArray) (_a0_3 : Sl3) : (Int × Int) → KN := fun (v3_1, v4_2) => [(3, .val (Value.int .i64 v3_1)), (4, .val (Value.int .i64 v4_2)), (1, .loc 0 0)]

def ref04_Parts_b0_ls (_L : LC) (_rec_ref04_Parts : AH → Int → Int → ByteArray → Sl3 → Option Int) (_H : AH) (a0_0 : Int) (a0_1 : Int) (a0_2 : ByteArray) (a0_3 : Sl3) : (Int × Int) → Lcs := fun (_, _) => [some (28, [(Value.int .i64 a0_0), (Value.int .i64 a0_1), (Value.string a0_2), (Sl3.v a0_3)])]

noncomputable def ref04_Parts_body (L : LC) (rec_ref04_Parts : AH → Int → Int → ByteArray → Sl3 → Option Int) (H : AH) (a0_0 : Int) (a0_1 : Int) (a0_2 : ByteArray) (a0_3 : Sl3) : Option Int :=
  Option.bind (L.run (ref04_Parts_b0 L rec_ref04_Parts H a0_0 a0_1 a0_2 a0_3) (1, 0)) fun o => match o with
  | .inl (v3_8, _) =>
    some v3_8
  | .inr r => some r

noncomputable def fam_ref04_Parts (L : LC) (n : Nat) : (AH → Int → Int → ByteArray → Sl3 → Option Int) := Nat.rec (motive := fun _ => (AH → Int → Int → ByteArray → Sl3 → Option Int)) (fun _ _ _ _ _ => none) (fun _ p => ref04_Parts_body L p) n

noncomputable def ref04_Parts (L : LC) (H : AH) (a0_0 : Int) (a0_1 : Int) (a0_2 : ByteArray) (a0_3 : Sl3) : Option Int := (fam_ref04_Parts L L.fuel) H a0_0 a0_1 a0_2 a0_3

theorem ref04_Parts_b0_ok {E : Ent} {m : Nat} {L : LC} {rec_ref04_Parts : AH → Int → Int → ByteArray → Sl3 → Option Int} {H : AH} {a0_0 : Int} {a0_1 : Int} {a0_2 : ByteArray} {a0_3 : Sl3} (hrec_ref04_Parts : ∀ (m : Nat) (H : AH) (a0_0 : Int) (a0_1 : Int) (a0_2 : ByteArray) (a0_3 : Sl3) (r : Int), rec_ref04_Parts H a0_0 a0_1 a0_2 a0_3 = some r → CallS Tryd.prog (NE.plain 1000) m 69 #[(Value.agg #[(Value.int .i64 a0_0), (Value.int .i64 a0_1), (Value.string a0_2), (Sl3.v a0_3)])] H (ref04_Parts_enc r) (ref04_Parts_hp H r)) : ∀ s o, ref04_Parts_b0 L rec_ref04_Parts H a0_0 a0_1 a0_2 a0_3 s = some o →
    WS Tryd.prog (NE.plain 1000) m E Tryd.f69.ntmps (cfst (cfst (csnd (cfst (csnd (csnd B69)))))) (ref04_Parts_b0_kn L rec_ref04_Parts H a0_0 a0_1 a0_2 a0_3 s) (ref04_Parts_b0_ls L rec_ref04_Parts H a0_0 a0_1 a0_2 a0_3 s) ((fun _ => H) s) (lpS Tryd.prog (NE.plain 1000) m E Tryd.f69.ntmps (ref04_Parts_b0_kn L rec_ref04_Parts H a0_0 a0_1 a0_2 a0_3) (ref04_Parts_b0_ls L rec_ref04_Parts H a0_0 a0_1 a0_2 a0_3) (fun _ => H) 0 (fun r => RT Tryd.prog (NE.plain 1000) m E Tryd.f69 (ref04_Parts_enc r) (ref04_Parts_hp H r)) o) := by
  rintro ⟨v3_1, v4_2⟩ o h
  unfold ref04_Parts_b0 at h
  try dsimp only at h
  refine WS.sq ?_
  obtain ⟨v13_3, hx, h⟩ := bind_some h
  refine WS.sq ?_
  refine WS.join ([(13, .val (Value.bool v13_3)), (1, .loc 0 0), (3, .val (Value.int .i64 v3_1)), (4, .val (Value.int .i64 v4_2))]) ([some (28, [(Value.int .i64 a0_0), (Value.int .i64 a0_1), (Value.string a0_2), (Sl3.v a0_3)])]) H ?_ (fun a w hs => WS.nxt ?_ a w hs)
  · clear h; rename _ => h
    refine WS.rg (RS.mS 6 [(10, .val (Value.bool (decide (v4_2 < (a0_3.n : Int))))), (9, .val (Value.bool (decide (v4_2 < (a0_3.n : Int))))), (8, .val (Value.int .i64 (a0_3.n : Int))), (7, .val (Sl3.v a0_3)), (6, .loc 0 3), (5, .val (Value.int .i64 v4_2))] ?_)
    rcases ite_some h with ⟨hp, h⟩ | ⟨hp, h⟩
    · refine RS.fx 10 true (decide_eq_true hp) (RS.mS 3 [(13, .val (Value.bool (decide (v3_1 ≤ 256)))), (12, .val (Value.bool (decide (v3_1 ≤ 256)))), (11, .val (Value.int .i64 v3_1))] (RS.dn ?_))
      cases h
      exact fun a w hs => (jsN (hs.sb 1))
    · refine RS.fx 10 false (decide_eq_false hp) (RS.mS 3 [(13, .val (Value.bool false)), (12, .val undef), (11, .val undef)] (RS.dn ?_))
      cases h
      exact fun a w hs => (jsN (hs.sb 1))
  · clear hx
    rcases ite_some h with ⟨hp, h⟩ | ⟨hp, h⟩
    · refine WS.fx 13 true hp (WS.cT (WS.sk (WS.nxt (WS.sq (WS.bk 1 (WS.rg (RS.mS 4 [(19, .val (Value.int .i64 v4_2)), (18, .val (Sl3.v a0_3)), (17, .loc 0 3), (16, .val (Value.int .i64 v3_1))] ?_)))))))
      obtain ⟨p4, hx, h⟩ := bind_some h
      refine RS.o (H' := H) (some 20) (Value.pointer (some p4)) (Abs.run_idx (s := a0_3) (k := .i64) (t := 26) (e := 28) (x := .tmp 18) (y := .tmp 19) (by kernel_rfl) (by kernel_rfl) (by kernel_rfl) (by kernel_rfl) (by kernel_rfl) hx) ?_
      obtain ⟨x5_0, hx0, h⟩ := bind_some h
      obtain ⟨x5_1, hx1, h⟩ := bind_some h
      obtain ⟨x5_2, hx2, h⟩ := bind_some h
      obtain ⟨x5_3, hx3, h⟩ := bind_some h
      refine RS.o (H' := H) (some 21) (Value.agg #[(Value.int .i64 x5_0), (Value.int .i64 x5_1), (Value.string x5_2), (Sl3.v x5_3)]) (Abs.run_loadAg (t := 28) (x := .tmp 20) (a := p4) (k := 4) (by kernel_rfl) (by kernel_rfl) (by kernel_rfl) (by kernel_rfl) (rdc_cons (rd_cell hx0 deI_inv) (rdc_cons (rd_cell hx1 deI_inv) (rdc_cons (rd_cell hx2 deS_inv) (rdc_cons (rd_cell hx3 deSl_inv) rdc_nil))))) ?_
      obtain ⟨x6, hx, h⟩ := bind_some h
      refine RS.cl (some 22) (v := (Value.int .i64 x6)) 69 #[(Value.agg #[(Value.int .i64 x5_0), (Value.int .i64 x5_1), (Value.string x5_2), (Sl3.v x5_3)])] (hrec_ref04_Parts _ _ _ _ _ _ _ hx) (RS.mS 1 [(23, .val (Value.int .i64 (IntKind.i64.wrap (v3_1 + x6))))] ?_)
      obtain ⟨x7, hx, h⟩ := bind_some h
      refine RS.o (H' := H) (some 24) (Value.int .i64 x7) (gOp1_run hx deI_inv (by kernel_rfl) (by kernel_rfl)) (RS.mS 1 [(3, .val (Value.int .i64 x7))] (RS.dn ?_))
      refine fun a w hs => bkN ((WS.nxt ?_ a w hs))
      refine WS.rg (RS.mS 3 [(4, .val (Value.int .i64 (IntKind.i64.wrap (v4_2 + 1)))), (15, .val (Value.int .i64 (IntKind.i64.wrap (v4_2 + 1)))), (14, .val (Value.int .i64 v4_2))] (RS.dn ?_))
      cases h
      exact fun a w hs => lsN rfl (hs.sb 1)
    · refine WS.fx 13 false (b_not hp) (WS.cF (WS.ex 0 ?_))
      cases h
      exact fun a w hs => sqE (lsB rfl (hs.sb 1))

theorem ref04_Parts_body_ok {L : LC} {rec_ref04_Parts : AH → Int → Int → ByteArray → Sl3 → Option Int} (hrec_ref04_Parts : ∀ (m : Nat) (H : AH) (a0_0 : Int) (a0_1 : Int) (a0_2 : ByteArray) (a0_3 : Sl3) (r : Int), rec_ref04_Parts H a0_0 a0_1 a0_2 a0_3 = some r → CallS Tryd.prog (NE.plain 1000) m 69 #[(Value.agg #[(Value.int .i64 a0_0), (Value.int .i64 a0_1), (Value.string a0_2), (Sl3.v a0_3)])] H (ref04_Parts_enc r) (ref04_Parts_hp H r)) {m : Nat} {H : AH} {a0_0 : Int} {a0_1 : Int} {a0_2 : ByteArray} {a0_3 : Sl3} {r : Int} (h : ref04_Parts_body L rec_ref04_Parts H a0_0 a0_1 a0_2 a0_3 = some r) :
    CallS Tryd.prog (NE.plain 1000) m 69 #[(Value.agg #[(Value.int .i64 a0_0), (Value.int .i64 a0_1), (Value.string a0_2), (Sl3.v a0_3)])] H (ref04_Parts_enc r) (ref04_Parts_hp H r) := by
  refine CallS.mk (args := [(Value.agg #[(Value.int .i64 a0_0), (Value.int .i64 a0_1), (Value.string a0_2), (Sl3.v a0_3)])]) Tryd.func69 (B := B69) (by kernel_rfl) (fun E _ => ?_)
  unfold ref04_Parts_body at h
  refine WS.sq (WS.rg (RS.mL 2 [(2, .val (Value.int .i64 0)), (1, .loc 0 0)] ([some (28, [(Value.int .i64 a0_0), (Value.int .i64 a0_1), (Value.string a0_2), (Sl3.v a0_3)])]) (RS.dn (WS.nxt (WS.sq (WS.rg (RS.mS 1 [(3, .val (Value.int .i64 1))] (RS.dn (WS.nxt ?_)))))))))
  refine WS.sq (WS.sq (WS.rg (RS.mS 1 [(4, .val (Value.int .i64 0))] (RS.dn (WS.nxt (WS.bk 0 ?_))))))
  obtain ⟨o, hl, h⟩ := bind_some h
  rcases o with ⟨v3_8, v4_9⟩ | r
  · try dsimp only at h
    refine WS.lI (ref04_Parts_b0_ok (L := L) (E := E) (m := m) (H := H) hrec_ref04_Parts) (L.ok hl) 1 ?_
    clear hl
    refine fun a w hs => bkE ((WS.nxt ?_ a w hs))
    refine WS.sq (WS.rg (RS.mS 2 [(2, .val (Value.int .i64 v3_8)), (25, .val (Value.int .i64 v3_8))] (RS.dn (WS.nxt (WS.rt ?_)))))
    cases h
    exact fun a w hs => rtR (rS hs)
  · try dsimp only at h
    refine WS.lR (ref04_Parts_b0_ok (L := L) (E := E) (m := m) (H := H) hrec_ref04_Parts) (L.ok hl) 1 ?_
    cases h
    exact fun a w hq => bkR (sqR (rtR hq))

theorem fam_ref04_Parts_ok {L : LC} : ∀ n, (∀ (m : Nat) (H : AH) (a0_0 : Int) (a0_1 : Int) (a0_2 : ByteArray) (a0_3 : Sl3) (r : Int), ((fam_ref04_Parts L n)) H a0_0 a0_1 a0_2 a0_3 = some r → CallS Tryd.prog (NE.plain 1000) m 69 #[(Value.agg #[(Value.int .i64 a0_0), (Value.int .i64 a0_1), (Value.string a0_2), (Sl3.v a0_3)])] H (ref04_Parts_enc r) (ref04_Parts_hp H r)) := by
  intro n
  induction n with
  | zero => exact (fun _ _ _ _ _ _ _ h => (Option.some_ne_none _ h.symm).elim)
  | succ n ih => exact (fun _ _ _ _ _ _ _ h => ref04_Parts_body_ok (L := L) ih h)

theorem ref04_Parts_ok {L : LC} {m : Nat} {H : AH} {a0_0 : Int} {a0_1 : Int} {a0_2 : ByteArray} {a0_3 : Sl3} {r : Int} (h : ref04_Parts L H a0_0 a0_1 a0_2 a0_3 = some r) :
    CallS Tryd.prog (NE.plain 1000) m 69 #[(Value.agg #[(Value.int .i64 a0_0), (Value.int .i64 a0_1), (Value.string a0_2), (Sl3.v a0_3)])] H (ref04_Parts_enc r) (ref04_Parts_hp H r) :=
  (fam_ref04_Parts_ok _) _ _ _ _ _ _ _ h

def ref04_shape_enc : Bool → Value
  | r0 => (Value.bool r0)

def ref04_shape_hp (H : AH) : Bool → AH := fun _ => H

noncomputable def B70 : Code := (Tryd.f70.body).getD .skip

noncomputable def ref04_shape_body (L : LC) (rec_ref04_shape : AH → Int → Int → ByteArray → Sl3 → Option Bool) (H : AH) (a0_0 : Int) (a0_1 : Int) (a0_2 : ByteArray) (a0_3 : Sl3) : Option Bool :=
  Option.bind (α := Bool) (
    if a0_0 = 1 then
      some true
    else
      some (decide (a0_0 = 2))) fun v5_1 =>
  if v5_1 = true then
    if a0_1 = 0 then
      if (a0_2.toList == (⟨#[]⟩ : ByteArray).toList) = true then
        some (decide ((a0_3.n : Int) = 0))
      else
        some false
    else
      some false
  else
    if a0_0 = 3 then
      if a0_1 ≥ 1 then
        if a0_1 ≤ 4096 then
          if (a0_2.toList == (⟨#[]⟩ : ByteArray).toList) = true then
            some (decide ((a0_3.n : Int) = 0))
          else
            some false
        else
          some false
      else
        some false
    else
      if a0_0 = 4 then
        if a0_1 = 0 then
          if (a0_2.toList == (⟨#[]⟩ : ByteArray).toList) = true then
            if (a0_3.n : Int) = 2 then
              Option.bind (idxA 4 a0_3 0) fun p2 =>
              Option.bind (rd (deI .i64) H (Addr.add p2 0)) fun x3_0 =>
              Option.bind (rd (deI .i64) H (Addr.add p2 1)) fun x3_1 =>
              Option.bind (rd deS H (Addr.add p2 2)) fun x3_2 =>
              Option.bind (rd deSl H (Addr.add p2 3)) fun x3_3 =>
              Option.bind (rec_ref04_shape H x3_0 x3_1 x3_2 x3_3) fun x4 =>
              if x4 = true then
                Option.bind (idxA 4 a0_3 1) fun p5 =>
                Option.bind (rd (deI .i64) H (Addr.add p5 0)) fun x6_0 =>
                Option.bind (rd (deI .i64) H (Addr.add p5 1)) fun x6_1 =>
                Option.bind (rd deS H (Addr.add p5 2)) fun x6_2 =>
                Option.bind (rd deSl H (Addr.add p5 3)) fun x6_3 =>
                Option.bind (rec_ref04_shape H x6_0 x6_1 x6_2 x6_3) fun x7 =>
                some x7
              else
                some false
            else
              some false
          else
            some false
        else
          some false
      else
        Option.bind (α := Bool) (
          if a0_0 = 5 then
            some true
          else
            some (decide (a0_0 = 6))) fun v73_8 =>
        if v73_8 = true then
          if a0_1 = 0 then
            if (a0_3.n : Int) = 0 then
              Option.bind (ref04_Name L a0_2) fun x9 =>
              some x9
            else
              some false
          else
            some false
        else
          some false

noncomputable def fam_ref04_shape (L : LC) (n : Nat) : (AH → Int → Int → ByteArray → Sl3 → Option Bool) := Nat.rec (motive := fun _ => (AH → Int → Int → ByteArray → Sl3 → Option Bool)) (fun _ _ _ _ _ => none) (fun _ p => ref04_shape_body L p) n

noncomputable def ref04_shape (L : LC) (H : AH) (a0_0 : Int) (a0_1 : Int) (a0_2 : ByteArray) (a0_3 : Sl3) : Option Bool := (fam_ref04_shape L L.fuel) H a0_0 a0_1 a0_2 a0_3

theorem ref04_shape_body_ok {L : LC} {rec_ref04_shape : AH → Int → Int → ByteArray → Sl3 → Option Bool} (hrec_ref04_shape : ∀ (m : Nat) (H : AH) (a0_0 : Int) (a0_1 : Int) (a0_2 : ByteArray) (a0_3 : Sl3) (r : Bool), rec_ref04_shape H a0_0 a0_1 a0_2 a0_3 = some r → CallS Tryd.prog (NE.plain 1000) m 70 #[(Value.agg #[(Value.int .i64 a0_0), (Value.int .i64 a0_1), (Value.string a0_2), (Sl3.v a0_3)])] H (ref04_shape_enc r) (ref04_shape_hp H r)) {m : Nat} {H : AH} {a0_0 : Int} {a0_1 : Int} {a0_2 : ByteArray} {a0_3 : Sl3} {r : Bool} (h : ref04_shape_body L rec_ref04_shape H a0_0 a0_1 a0_2 a0_3 = some r) :
    CallS Tryd.prog (NE.plain 1000) m 70 #[(Value.agg #[(Value.int .i64 a0_0), (Value.int .i64 a0_1), (Value.string a0_2), (Sl3.v a0_3)])] H (ref04_shape_enc r) (ref04_shape_hp H r) := by
  refine CallS.mk (args := [(Value.agg #[(Value.int .i64 a0_0), (Value.int .i64 a0_1), (Value.string a0_2), (Sl3.v a0_3)])]) Tryd.func70 (B := B70) (by kernel_rfl) (fun E _ => ?_)
  unfold ref04_shape_body at h
  refine WS.sq (WS.rg (RS.mL 2 [(2, .val (Value.bool false)), (1, .loc 0 0)] ([some (28, [(Value.int .i64 a0_0), (Value.int .i64 a0_1), (Value.string a0_2), (Sl3.v a0_3)])]) (RS.dn (WS.nxt (WS.sq (WS.sq (WS.rg (RS.mS 2 [(4, .val (Value.int .i64 a0_0)), (3, .loc 0 0)] (RS.dn ?_)))))))))
  refine WS.nxt (WS.bk 0 ?_)
  obtain ⟨v5_1, hx, h⟩ := bind_some h
  refine WS.sq ?_
  refine WS.join ([(5, .val (Value.bool v5_1)), (1, .loc 0 0), (4, .val (Value.int .i64 a0_0))]) ([some (28, [(Value.int .i64 a0_0), (Value.int .i64 a0_1), (Value.string a0_2), (Sl3.v a0_3)])]) H ?_ (fun a w hs => WS.nxt ?_ a w hs)
  · clear h; rename _ => h
    refine WS.sq (WS.rg (RS.mS 2 [(5, .val (Value.bool (decide (a0_0 = 1)))), (6, .val (Value.bool (decide (a0_0 = 1))))] (RS.dn (WS.nxt ?_))))
    rcases ite_some h with ⟨hp, h⟩ | ⟨hp, h⟩
    · refine WS.fx 5 true (decide_eq_true hp) (WS.cT (WS.sk ?_))
      cases h
      exact fun a w hs => (jsN (hs.sb 1))
    · refine WS.fx 5 false (decide_eq_false hp) (WS.cF (WS.rg (RS.mS 2 [(5, .val (Value.bool (decide (a0_0 = 2)))), (7, .val (Value.bool (decide (a0_0 = 2))))] (RS.dn ?_))))
      cases h
      exact fun a w hs => (jsN (hs.sb 1))
  · clear hx
    rcases ite_some h with ⟨hp, h⟩ | ⟨hp, h⟩
    · refine WS.fx 5 true hp (WS.cT (WS.sq (WS.rg (RS.mS 4 [(11, .val (Value.bool (decide (a0_1 = 0)))), (10, .val (Value.bool (decide (a0_1 = 0)))), (9, .val (Value.int .i64 a0_1)), (8, .loc 0 1)] ?_))))
      rcases ite_some h with ⟨hp, h⟩ | ⟨hp, h⟩
      · refine RS.fx 11 true (decide_eq_true hp) (RS.mS 5 [(16, .val (Value.bool (a0_2.toList == (⟨#[]⟩ : ByteArray).toList))), (15, .val (Value.bool (a0_2.toList == (⟨#[]⟩ : ByteArray).toList))), (14, .val (Value.bool (a0_2.toList == (⟨#[]⟩ : ByteArray).toList))), (13, .val (Value.string a0_2)), (12, .loc 0 2)] ?_)
        rcases ite_some h with ⟨hp, h⟩ | ⟨hp, h⟩
        · refine RS.fx 16 true hp (RS.mS 6 [(2, .val (Value.bool (decide ((a0_3.n : Int) = 0)))), (21, .val (Value.bool (decide ((a0_3.n : Int) = 0)))), (20, .val (Value.bool (decide ((a0_3.n : Int) = 0)))), (19, .val (Value.int .i64 (a0_3.n : Int))), (18, .val (Sl3.v a0_3)), (17, .loc 0 3)] (RS.dn (WS.nxt (WS.rt ?_))))
          cases h
          exact fun a w hs => bkR (sqR (rtR (rS hs)))
        · refine RS.fx 16 false (b_not hp) (RS.mS 6 [(2, .val (Value.bool false)), (21, .val (Value.bool false)), (20, .val undef), (19, .val undef), (18, .val undef), (17, .val undef)] (RS.dn (WS.nxt (WS.rt ?_))))
          cases h
          exact fun a w hs => bkR (sqR (rtR (rS hs)))
      · refine RS.fx 11 false (decide_eq_false hp) (RS.mS 11 [(2, .val (Value.bool false)), (21, .val (Value.bool false)), (20, .val undef), (19, .val undef), (18, .val undef), (17, .val undef), (16, .val (Value.bool false)), (15, .val (Value.bool false)), (14, .val undef), (13, .val undef), (12, .val undef)] (RS.dn (WS.nxt (WS.rt ?_))))
        cases h
        exact fun a w hs => bkR (sqR (rtR (rS hs)))
    · refine WS.fx 5 false (b_not hp) (WS.cF (WS.sq (WS.rg (RS.mS 2 [(22, .val (Value.bool (decide (a0_0 = 3)))), (23, .val (Value.bool (decide (a0_0 = 3))))] (RS.dn (WS.nxt ?_))))))
      rcases ite_some h with ⟨hp, h⟩ | ⟨hp, h⟩
      · refine WS.fx 22 true (decide_eq_true hp) (WS.cT (WS.sq (WS.rg (RS.mS 4 [(27, .val (Value.bool (decide (a0_1 ≥ 1)))), (26, .val (Value.bool (decide (a0_1 ≥ 1)))), (25, .val (Value.int .i64 a0_1)), (24, .loc 0 1)] ?_))))
        rcases ite_some h with ⟨hp, h⟩ | ⟨hp, h⟩
        · refine RS.fx 27 true (decide_eq_true hp) (RS.mS 5 [(32, .val (Value.bool (decide (a0_1 ≤ 4096)))), (31, .val (Value.bool (decide (a0_1 ≤ 4096)))), (30, .val (Value.bool (decide (a0_1 ≤ 4096)))), (29, .val (Value.int .i64 a0_1)), (28, .loc 0 1)] ?_)
          rcases ite_some h with ⟨hp, h⟩ | ⟨hp, h⟩
          · refine RS.fx 32 true (decide_eq_true hp) (RS.mS 5 [(37, .val (Value.bool (a0_2.toList == (⟨#[]⟩ : ByteArray).toList))), (36, .val (Value.bool (a0_2.toList == (⟨#[]⟩ : ByteArray).toList))), (35, .val (Value.bool (a0_2.toList == (⟨#[]⟩ : ByteArray).toList))), (34, .val (Value.string a0_2)), (33, .loc 0 2)] ?_)
            rcases ite_some h with ⟨hp, h⟩ | ⟨hp, h⟩
            · refine RS.fx 37 true hp (RS.mS 6 [(2, .val (Value.bool (decide ((a0_3.n : Int) = 0)))), (42, .val (Value.bool (decide ((a0_3.n : Int) = 0)))), (41, .val (Value.bool (decide ((a0_3.n : Int) = 0)))), (40, .val (Value.int .i64 (a0_3.n : Int))), (39, .val (Sl3.v a0_3)), (38, .loc 0 3)] (RS.dn (WS.nxt (WS.rt ?_))))
              cases h
              exact fun a w hs => bkR (sqR (rtR (rS hs)))
            · refine RS.fx 37 false (b_not hp) (RS.mS 6 [(2, .val (Value.bool false)), (42, .val (Value.bool false)), (41, .val undef), (40, .val undef), (39, .val undef), (38, .val undef)] (RS.dn (WS.nxt (WS.rt ?_))))
              cases h
              exact fun a w hs => bkR (sqR (rtR (rS hs)))
          · refine RS.fx 32 false (decide_eq_false hp) (RS.mS 11 [(2, .val (Value.bool false)), (42, .val (Value.bool false)), (41, .val undef), (40, .val undef), (39, .val undef), (38, .val undef), (37, .val (Value.bool false)), (36, .val (Value.bool false)), (35, .val undef), (34, .val undef), (33, .val undef)] (RS.dn (WS.nxt (WS.rt ?_))))
            cases h
            exact fun a w hs => bkR (sqR (rtR (rS hs)))
        · refine RS.fx 27 false (decide_eq_false hp) (RS.mS 16 [(2, .val (Value.bool false)), (42, .val (Value.bool false)), (41, .val undef), (40, .val undef), (39, .val undef), (38, .val undef), (37, .val (Value.bool false)), (36, .val (Value.bool false)), (35, .val undef), (34, .val undef), (33, .val undef), (32, .val (Value.bool false)), (31, .val (Value.bool false)), (30, .val undef), (29, .val undef), (28, .val undef)] (RS.dn (WS.nxt (WS.rt ?_))))
          cases h
          exact fun a w hs => bkR (sqR (rtR (rS hs)))
      · refine WS.fx 22 false (decide_eq_false hp) (WS.cF (WS.sq (WS.rg (RS.mS 2 [(43, .val (Value.bool (decide (a0_0 = 4)))), (44, .val (Value.bool (decide (a0_0 = 4))))] (RS.dn (WS.nxt ?_))))))
        rcases ite_some h with ⟨hp, h⟩ | ⟨hp, h⟩
        · refine WS.fx 43 true (decide_eq_true hp) (WS.cT (WS.sq (WS.rg (RS.mS 4 [(48, .val (Value.bool (decide (a0_1 = 0)))), (47, .val (Value.bool (decide (a0_1 = 0)))), (46, .val (Value.int .i64 a0_1)), (45, .loc 0 1)] ?_))))
          rcases ite_some h with ⟨hp, h⟩ | ⟨hp, h⟩
          · refine RS.fx 48 true (decide_eq_true hp) (RS.mS 5 [(53, .val (Value.bool (a0_2.toList == (⟨#[]⟩ : ByteArray).toList))), (52, .val (Value.bool (a0_2.toList == (⟨#[]⟩ : ByteArray).toList))), (51, .val (Value.bool (a0_2.toList == (⟨#[]⟩ : ByteArray).toList))), (50, .val (Value.string a0_2)), (49, .loc 0 2)] ?_)
            rcases ite_some h with ⟨hp, h⟩ | ⟨hp, h⟩
            · refine RS.fx 53 true hp (RS.mS 6 [(59, .val (Value.bool (decide ((a0_3.n : Int) = 2)))), (58, .val (Value.bool (decide ((a0_3.n : Int) = 2)))), (57, .val (Value.bool (decide ((a0_3.n : Int) = 2)))), (56, .val (Value.int .i64 (a0_3.n : Int))), (55, .val (Sl3.v a0_3)), (54, .loc 0 3)] ?_)
              rcases ite_some h with ⟨hp, h⟩ | ⟨hp, h⟩
              · refine RS.fx 59 true (decide_eq_true hp) (RS.mS 2 [(61, .val (Sl3.v a0_3)), (60, .loc 0 3)] ?_)
                obtain ⟨p2, hx, h⟩ := bind_some h
                refine RS.o (H' := H) (some 62) (Value.pointer (some p2)) (Abs.run_idx (s := a0_3) (k := .i64) (t := 26) (e := 28) (x := .tmp 61) (y := .const (Value.int .i64 0)) (by kernel_rfl) (by kernel_rfl) (by kernel_rfl) (by kernel_rfl) (by kernel_rfl) hx) ?_
                obtain ⟨x3_0, hx0, h⟩ := bind_some h
                obtain ⟨x3_1, hx1, h⟩ := bind_some h
                obtain ⟨x3_2, hx2, h⟩ := bind_some h
                obtain ⟨x3_3, hx3, h⟩ := bind_some h
                refine RS.o (H' := H) (some 63) (Value.agg #[(Value.int .i64 x3_0), (Value.int .i64 x3_1), (Value.string x3_2), (Sl3.v x3_3)]) (Abs.run_loadAg (t := 28) (x := .tmp 62) (a := p2) (k := 4) (by kernel_rfl) (by kernel_rfl) (by kernel_rfl) (by kernel_rfl) (rdc_cons (rd_cell hx0 deI_inv) (rdc_cons (rd_cell hx1 deI_inv) (rdc_cons (rd_cell hx2 deS_inv) (rdc_cons (rd_cell hx3 deSl_inv) rdc_nil))))) ?_
                obtain ⟨x4, hx, h⟩ := bind_some h
                refine RS.cl (some 64) (v := (Value.bool x4)) 70 #[(Value.agg #[(Value.int .i64 x3_0), (Value.int .i64 x3_1), (Value.string x3_2), (Sl3.v x3_3)])] (hrec_ref04_shape _ _ _ _ _ _ _ hx) (RS.mS 2 [(66, .val (Value.bool x4)), (65, .val (Value.bool x4))] ?_)
                rcases ite_some h with ⟨hp, h⟩ | ⟨hp, h⟩
                · refine RS.fx 66 true hp (RS.mS 2 [(68, .val (Sl3.v a0_3)), (67, .loc 0 3)] ?_)
                  obtain ⟨p5, hx, h⟩ := bind_some h
                  refine RS.o (H' := H) (some 69) (Value.pointer (some p5)) (Abs.run_idx (s := a0_3) (k := .i64) (t := 26) (e := 28) (x := .tmp 68) (y := .const (Value.int .i64 1)) (by kernel_rfl) (by kernel_rfl) (by kernel_rfl) (by kernel_rfl) (by kernel_rfl) hx) ?_
                  obtain ⟨x6_0, hx0, h⟩ := bind_some h
                  obtain ⟨x6_1, hx1, h⟩ := bind_some h
                  obtain ⟨x6_2, hx2, h⟩ := bind_some h
                  obtain ⟨x6_3, hx3, h⟩ := bind_some h
                  refine RS.o (H' := H) (some 70) (Value.agg #[(Value.int .i64 x6_0), (Value.int .i64 x6_1), (Value.string x6_2), (Sl3.v x6_3)]) (Abs.run_loadAg (t := 28) (x := .tmp 69) (a := p5) (k := 4) (by kernel_rfl) (by kernel_rfl) (by kernel_rfl) (by kernel_rfl) (rdc_cons (rd_cell hx0 deI_inv) (rdc_cons (rd_cell hx1 deI_inv) (rdc_cons (rd_cell hx2 deS_inv) (rdc_cons (rd_cell hx3 deSl_inv) rdc_nil))))) ?_
                  obtain ⟨x7, hx, h⟩ := bind_some h
                  refine RS.cl (some 71) (v := (Value.bool x7)) 70 #[(Value.agg #[(Value.int .i64 x6_0), (Value.int .i64 x6_1), (Value.string x6_2), (Sl3.v x6_3)])] (hrec_ref04_shape _ _ _ _ _ _ _ hx) (RS.mS 2 [(2, .val (Value.bool x7)), (72, .val (Value.bool x7))] (RS.dn (WS.nxt (WS.rt ?_))))
                  cases h
                  exact fun a w hs => bkR (sqR (rtR (rS hs)))
                · refine RS.fx 66 false (b_not hp) (RS.mS 7 [(2, .val (Value.bool false)), (72, .val (Value.bool false)), (71, .val undef), (70, .val undef), (69, .val undef), (68, .val undef), (67, .val undef)] (RS.dn (WS.nxt (WS.rt ?_))))
                  cases h
                  exact fun a w hs => bkR (sqR (rtR (rS hs)))
              · refine RS.fx 59 false (decide_eq_false hp) (RS.mS 14 [(2, .val (Value.bool false)), (72, .val (Value.bool false)), (71, .val undef), (70, .val undef), (69, .val undef), (68, .val undef), (67, .val undef), (66, .val (Value.bool false)), (65, .val (Value.bool false)), (64, .val undef), (63, .val undef), (62, .val undef), (61, .val undef), (60, .val undef)] (RS.dn (WS.nxt (WS.rt ?_))))
                cases h
                exact fun a w hs => bkR (sqR (rtR (rS hs)))
            · refine RS.fx 53 false (b_not hp) (RS.mS 20 [(2, .val (Value.bool false)), (72, .val (Value.bool false)), (71, .val undef), (70, .val undef), (69, .val undef), (68, .val undef), (67, .val undef), (66, .val (Value.bool false)), (65, .val (Value.bool false)), (64, .val undef), (63, .val undef), (62, .val undef), (61, .val undef), (60, .val undef), (59, .val (Value.bool false)), (58, .val (Value.bool false)), (57, .val undef), (56, .val undef), (55, .val undef), (54, .val undef)] (RS.dn (WS.nxt (WS.rt ?_))))
              cases h
              exact fun a w hs => bkR (sqR (rtR (rS hs)))
          · refine RS.fx 48 false (decide_eq_false hp) (RS.mS 25 [(2, .val (Value.bool false)), (72, .val (Value.bool false)), (71, .val undef), (70, .val undef), (69, .val undef), (68, .val undef), (67, .val undef), (66, .val (Value.bool false)), (65, .val (Value.bool false)), (64, .val undef), (63, .val undef), (62, .val undef), (61, .val undef), (60, .val undef), (59, .val (Value.bool false)), (58, .val (Value.bool false)), (57, .val undef), (56, .val undef), (55, .val undef), (54, .val undef), (53, .val (Value.bool false)), (52, .val (Value.bool false)), (51, .val undef), (50, .val undef), (49, .val undef)] (RS.dn (WS.nxt (WS.rt ?_))))
            cases h
            exact fun a w hs => bkR (sqR (rtR (rS hs)))
        · refine WS.fx 43 false (decide_eq_false hp) (WS.cF ?_)
          obtain ⟨v73_8, hx, h⟩ := bind_some h
          refine WS.sq ?_
          refine WS.join ([(73, .val (Value.bool v73_8)), (1, .loc 0 0)]) ([some (28, [(Value.int .i64 a0_0), (Value.int .i64 a0_1), (Value.string a0_2), (Sl3.v a0_3)])]) H ?_ (fun a w hs => WS.nxt ?_ a w hs)
          · clear h; rename _ => h
            refine WS.sq (WS.rg (RS.mS 2 [(73, .val (Value.bool (decide (a0_0 = 5)))), (74, .val (Value.bool (decide (a0_0 = 5))))] (RS.dn (WS.nxt ?_))))
            rcases ite_some h with ⟨hp, h⟩ | ⟨hp, h⟩
            · refine WS.fx 73 true (decide_eq_true hp) (WS.cT (WS.sk ?_))
              cases h
              exact fun a w hs => (jsN (hs.sb 1))
            · refine WS.fx 73 false (decide_eq_false hp) (WS.cF (WS.rg (RS.mS 2 [(73, .val (Value.bool (decide (a0_0 = 6)))), (75, .val (Value.bool (decide (a0_0 = 6))))] (RS.dn ?_))))
              cases h
              exact fun a w hs => (jsN (hs.sb 1))
          · clear hx
            rcases ite_some h with ⟨hp, h⟩ | ⟨hp, h⟩
            · refine WS.fx 73 true hp (WS.cT (WS.sq (WS.rg (RS.mS 4 [(79, .val (Value.bool (decide (a0_1 = 0)))), (78, .val (Value.bool (decide (a0_1 = 0)))), (77, .val (Value.int .i64 a0_1)), (76, .loc 0 1)] ?_))))
              rcases ite_some h with ⟨hp, h⟩ | ⟨hp, h⟩
              · refine RS.fx 79 true (decide_eq_true hp) (RS.mS 6 [(85, .val (Value.bool (decide ((a0_3.n : Int) = 0)))), (84, .val (Value.bool (decide ((a0_3.n : Int) = 0)))), (83, .val (Value.bool (decide ((a0_3.n : Int) = 0)))), (82, .val (Value.int .i64 (a0_3.n : Int))), (81, .val (Sl3.v a0_3)), (80, .loc 0 3)] ?_)
                rcases ite_some h with ⟨hp, h⟩ | ⟨hp, h⟩
                · refine RS.fx 85 true (decide_eq_true hp) (RS.mS 2 [(87, .val (Value.string a0_2)), (86, .loc 0 2)] ?_)
                  obtain ⟨x9, hx, h⟩ := bind_some h
                  refine RS.cl (some 88) (v := (Value.bool x9)) 14 #[(Value.string a0_2)] (ref04_Name_ok hx) (RS.mS 2 [(2, .val (Value.bool x9)), (89, .val (Value.bool x9))] (RS.dn (WS.nxt (WS.rt ?_))))
                  cases h
                  exact fun a w hs => bkR (sqR (rtR (rS hs)))
                · refine RS.fx 85 false (decide_eq_false hp) (RS.mS 5 [(2, .val (Value.bool false)), (89, .val (Value.bool false)), (88, .val undef), (87, .val undef), (86, .val undef)] (RS.dn (WS.nxt (WS.rt ?_))))
                  cases h
                  exact fun a w hs => bkR (sqR (rtR (rS hs)))
              · refine RS.fx 79 false (decide_eq_false hp) (RS.mS 11 [(2, .val (Value.bool false)), (89, .val (Value.bool false)), (88, .val undef), (87, .val undef), (86, .val undef), (85, .val (Value.bool false)), (84, .val (Value.bool false)), (83, .val undef), (82, .val undef), (81, .val undef), (80, .val undef)] (RS.dn (WS.nxt (WS.rt ?_))))
                cases h
                exact fun a w hs => bkR (sqR (rtR (rS hs)))
            · refine WS.fx 73 false (b_not hp) (WS.cF (WS.sk ?_))
              refine fun a w hs => bkN ((WS.nxt ?_ a w hs))
              refine WS.sq (WS.rg (RS.mS 1 [(2, .val (Value.bool false))] (RS.dn (WS.nxt (WS.rt ?_)))))
              cases h
              exact fun a w hs => rtR (rS hs)

theorem fam_ref04_shape_ok {L : LC} : ∀ n, (∀ (m : Nat) (H : AH) (a0_0 : Int) (a0_1 : Int) (a0_2 : ByteArray) (a0_3 : Sl3) (r : Bool), ((fam_ref04_shape L n)) H a0_0 a0_1 a0_2 a0_3 = some r → CallS Tryd.prog (NE.plain 1000) m 70 #[(Value.agg #[(Value.int .i64 a0_0), (Value.int .i64 a0_1), (Value.string a0_2), (Sl3.v a0_3)])] H (ref04_shape_enc r) (ref04_shape_hp H r)) := by
  intro n
  induction n with
  | zero => exact (fun _ _ _ _ _ _ _ h => (Option.some_ne_none _ h.symm).elim)
  | succ n ih => exact (fun _ _ _ _ _ _ _ h => ref04_shape_body_ok (L := L) ih h)

theorem ref04_shape_ok {L : LC} {m : Nat} {H : AH} {a0_0 : Int} {a0_1 : Int} {a0_2 : ByteArray} {a0_3 : Sl3} {r : Bool} (h : ref04_shape L H a0_0 a0_1 a0_2 a0_3 = some r) :
    CallS Tryd.prog (NE.plain 1000) m 70 #[(Value.agg #[(Value.int .i64 a0_0), (Value.int .i64 a0_1), (Value.string a0_2), (Sl3.v a0_3)])] H (ref04_shape_enc r) (ref04_shape_hp H r) :=
  (fam_ref04_shape_ok _) _ _ _ _ _ _ _ h

def ref04_fits_enc : Int → Value
  | r0 => (Value.int .i64 r0)

def ref04_fits_hp (H : AH) : Int → AH := fun _ => H

noncomputable def B38 : Code := (Tryd.f38.body).getD .skip

noncomputable def ref04_fits (L : LC) (H : AH) (a0_0 : Int) (a0_1 : Int) (a0_2 : ByteArray) (a0_3 : Sl3) : Option Int :=
  Option.bind (α := Bool) (
    Option.bind (ref04_Deep L H a0_0 a0_1 a0_2 a0_3 16) fun x2 =>
    if x2 = true then
      some true
    else
      Option.bind (ref04_Parts L H a0_0 a0_1 a0_2 a0_3) fun x3 =>
      some (decide (x3 > 256))) fun v9_1 =>
  if v9_1 = true then
    some 3
  else
    Option.bind (ref04_shape L H a0_0 a0_1 a0_2 a0_3) fun x4 =>
    if x4 = true then
      some 0
    else
      some 40

theorem ref04_fits_ok {L : LC} {m : Nat} {H : AH} {a0_0 : Int} {a0_1 : Int} {a0_2 : ByteArray} {a0_3 : Sl3} {r : Int} (h : ref04_fits L H a0_0 a0_1 a0_2 a0_3 = some r) :
    CallS Tryd.prog (NE.plain 1000) m 38 #[(Value.agg #[(Value.int .i64 a0_0), (Value.int .i64 a0_1), (Value.string a0_2), (Sl3.v a0_3)])] H (ref04_fits_enc r) (ref04_fits_hp H r) := by
  refine CallS.mk (args := [(Value.agg #[(Value.int .i64 a0_0), (Value.int .i64 a0_1), (Value.string a0_2), (Sl3.v a0_3)])]) Tryd.func38 (B := B38) (by kernel_rfl) (fun E _ => ?_)
  unfold ref04_fits at h
  refine WS.sq (WS.rg (RS.mL 2 [(2, .val (Value.int .i64 0)), (1, .loc 0 0)] ([some (28, [(Value.int .i64 a0_0), (Value.int .i64 a0_1), (Value.string a0_2), (Sl3.v a0_3)])]) (RS.dn (WS.nxt (WS.sq ?_)))))
  obtain ⟨v9_1, hx, h⟩ := bind_some h
  refine WS.sq ?_
  refine WS.join ([(9, .val (Value.bool v9_1)), (1, .loc 0 0)]) ([some (28, [(Value.int .i64 a0_0), (Value.int .i64 a0_1), (Value.string a0_2), (Sl3.v a0_3)])]) H ?_ (fun a w hs => WS.nxt ?_ a w hs)
  · clear h; rename _ => h
    refine WS.rg (RS.mS 1 [(3, .val (Value.agg #[(Value.int .i64 a0_0), (Value.int .i64 a0_1), (Value.string a0_2), (Sl3.v a0_3)]))] ?_)
    obtain ⟨x2, hx, h⟩ := bind_some h
    refine RS.cl (some 4) (v := (Value.bool x2)) 68 #[(Value.agg #[(Value.int .i64 a0_0), (Value.int .i64 a0_1), (Value.string a0_2), (Sl3.v a0_3)]), (Value.int .i64 16)] (ref04_Deep_ok hx) (RS.mS 1 [(5, .val (Value.bool x2))] ?_)
    rcases ite_some h with ⟨hp, h⟩ | ⟨hp, h⟩
    · refine RS.fx 5 true hp (RS.mS 4 [(9, .val (Value.bool true)), (8, .val undef), (7, .val undef), (6, .val undef)] (RS.dn ?_))
      cases h
      exact fun a w hs => (jsN (hs.sb 1))
    · refine RS.fx 5 false (b_not hp) (RS.mS 1 [(6, .val (Value.agg #[(Value.int .i64 a0_0), (Value.int .i64 a0_1), (Value.string a0_2), (Sl3.v a0_3)]))] ?_)
      obtain ⟨x3, hx, h⟩ := bind_some h
      refine RS.cl (some 7) (v := (Value.int .i64 x3)) 69 #[(Value.agg #[(Value.int .i64 a0_0), (Value.int .i64 a0_1), (Value.string a0_2), (Sl3.v a0_3)])] (ref04_Parts_ok hx) (RS.mS 2 [(9, .val (Value.bool (decide (x3 > 256)))), (8, .val (Value.bool (decide (x3 > 256))))] (RS.dn ?_))
      cases h
      exact fun a w hs => (jsN (hs.sb 1))
  · clear hx
    rcases ite_some h with ⟨hp, h⟩ | ⟨hp, h⟩
    · refine WS.fx 9 true hp (WS.cT (WS.sq (WS.rg (RS.mS 1 [(2, .val (Value.int .i64 3))] (RS.dn (WS.nxt (WS.rt ?_)))))))
      cases h
      exact fun a w hs => sqR (rtR (rS hs))
    · refine WS.fx 9 false (b_not hp) (WS.cF (WS.sk (WS.nxt (WS.sq (WS.sq (WS.rg (RS.mS 1 [(10, .val (Value.agg #[(Value.int .i64 a0_0), (Value.int .i64 a0_1), (Value.string a0_2), (Sl3.v a0_3)]))] ?_)))))))
      obtain ⟨x4, hx, h⟩ := bind_some h
      refine RS.cl (some 11) (v := (Value.bool x4)) 70 #[(Value.agg #[(Value.int .i64 a0_0), (Value.int .i64 a0_1), (Value.string a0_2), (Sl3.v a0_3)])] (ref04_shape_ok hx) (RS.mS 1 [(12, .val (Value.bool (!x4)))] (RS.dn (WS.nxt ?_)))
      rcases ite_some h with ⟨hp, h⟩ | ⟨hp, h⟩
      · refine WS.fx 12 false (nb_not hp) (WS.cF (WS.sk (WS.nxt (WS.sq (WS.rg (RS.mS 1 [(2, .val (Value.int .i64 0))] (RS.dn (WS.nxt (WS.rt ?_)))))))))
        cases h
        exact fun a w hs => rtR (rS hs)
      · refine WS.fx 12 true (nb_not' hp) (WS.cT (WS.sq (WS.rg (RS.mS 1 [(2, .val (Value.int .i64 40))] (RS.dn (WS.nxt (WS.rt ?_)))))))
        cases h
        exact fun a w hs => sqR (rtR (rS hs))

end Go.Proofs.YtccbilfbhecdaaaDoor


namespace Go.Proofs.YtccbilfbhecdaaaDoor
open Go Go.Abs
set_option maxRecDepth 100000

theorem min_op (x : Int) (H : AH) : gOp1 Tryd.prog (opsOf (cfst (cfst (csnd (cfst (cfst (csnd (cfst (csnd (csnd B69)))))))))) 8 [(23, .val (Value.int .i64 x))] (deI .i64) H = some (min x 257) := by
  have h : gOp1 Tryd.prog (opsOf (cfst (cfst (csnd (cfst (cfst (csnd (cfst (csnd (csnd B69)))))))))) 8 [(23, .val (Value.int .i64 x))] (deI .i64) H = some (if (257 : Int) < x then 257 else x) := by kernel_rfl
  rw [h]
  congr 1
  split <;> omega

end Go.Proofs.YtccbilfbhecdaaaDoor

