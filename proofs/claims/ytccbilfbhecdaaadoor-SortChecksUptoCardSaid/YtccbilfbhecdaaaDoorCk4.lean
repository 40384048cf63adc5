/- SortChecks is proved where what it reads is of bulk at most 1048576: it returns true and its arguments read as before. No condition beyond the row's own (five listed tables of Go's library as the text lays them). -/
import Derived.Test.YtccbilfbhecdaaaDoorCk3
import Derived.Test.YtccbilfbhecdaaaDoorCards
import Derived.Test.YtccbilfbhecdaaaDoorTie
import Derived.Deep.DeepWitnessRowRef
import Derived.ChangeMaps5
namespace Go.Proofs.YtccbilfbhecdaaaDoor
open Go Go.Abs
set_option maxRecDepth 100000

def ref04_has_enc : Bool → Value
  | r0 => (Value.bool r0)

def ref04_has_hp (H : AH) : Bool → AH := fun _ => H

noncomputable def B71 : Code := (Tryd.f71.body).getD .skip

noncomputable def ref04_has_b0 (_L : LC) (H : AH) (a0 : Sl3) (a1 : ByteArray) : Int → Option (Lp Int Bool) := fun v5_1 =>
  if v5_1 < (a0.n : Int) then
    Option.bind (idxA 1 a0 v5_1) fun p2 =>
    Option.bind (rd deS H p2) fun x3 =>
    if (x3.toList == a1.toList) = true then
      some (.ret true)
    else
      some (.next (IntKind.i64.wrap (v5_1 + 1)))
  else
    some (.brk v5_1)

def ref04_has_b0_kn (_L : LC) (_H : AH) (a0 : Sl3) (a1 : ByteArray) : Int → KN := fun v5_1 => [(5, .val (Value.int .i64 v5_1)), (0, .val (Sl3.v a0)), (1, .val (Value.string a1))]

def ref04_has_b0_ls (_L : LC) (_H : AH) (_a0 : Sl3) (_a1 : ByteArray) : Int → Lcs := fun _ => []

noncomputable def ref04_has (L : LC) (H : AH) (a0 : Sl3) (a1 : ByteArray) : Option Bool :=
  Option.bind (L.run (ref04_has_b0 L H a0 a1) 0) fun o => match o with
  | .inl _ =>
    some false
  | .inr r => some r

theorem ref04_has_b0_ok {E : Ent} {m : Nat} {L : LC} {H : AH} {a0 : Sl3} {a1 : ByteArray}  : ∀ s o, ref04_has_b0 L H a0 a1 s = some o →
    WS Tryd.prog (NE.plain 1000) m E Tryd.f71.ntmps (cfst (cfst (csnd (cfst (csnd B71))))) (ref04_has_b0_kn L H a0 a1 s) (ref04_has_b0_ls L H a0 a1 s) ((fun _ => H) s) (lpS Tryd.prog (NE.plain 1000) m E Tryd.f71.ntmps (ref04_has_b0_kn L H a0 a1) (ref04_has_b0_ls L H a0 a1) (fun _ => H) 0 (fun r => RT Tryd.prog (NE.plain 1000) m E Tryd.f71 (ref04_has_enc r) (ref04_has_hp H r)) o) := by
  rintro v5_1 o h
  unfold ref04_has_b0 at h
  try dsimp only at h
  refine WS.sq (WS.sq (WS.rg (RS.mS 4 [(9, .val (Value.bool (decide (v5_1 < (a0.n : Int))))), (8, .val (Value.int .i64 (a0.n : Int))), (7, .val (Sl3.v a0)), (6, .val (Value.int .i64 v5_1))] (RS.dn (WS.nxt ?_)))))
  rcases ite_some h with ⟨hp, h⟩ | ⟨hp, h⟩
  · refine WS.fx 9 true (decide_eq_true hp) (WS.cT (WS.sk (WS.nxt (WS.sq (WS.bk 1 (WS.sq (WS.rg (RS.mS 2 [(13, .val (Value.int .i64 v5_1)), (12, .val (Sl3.v a0))] ?_))))))))
    obtain ⟨p2, hx, h⟩ := bind_some h
    refine RS.o (H' := H) (some 14) (Value.pointer (some p2)) (Abs.run_idx (s := a0) (k := .i64) (t := 29) (e := 9) (x := .tmp 12) (y := .tmp 13) (by kernel_rfl) (by kernel_rfl) (by kernel_rfl) (by kernel_rfl) (by kernel_rfl) hx) ?_
    obtain ⟨x3, hx, h⟩ := bind_some h
    refine RS.o (H' := H) (some 15) (Value.string x3) (Abs.run_load (t := 9) (x := .tmp 14) (a := p2) (by kernel_rfl) (by kernel_rfl) (by kernel_rfl) (rd_cell hx deS_inv)) (RS.mS 2 [(17, .val (Value.bool (x3.toList == a1.toList))), (16, .val (Value.string a1))] (RS.dn (WS.nxt ?_)))
    rcases ite_some h with ⟨hp, h⟩ | ⟨hp, h⟩
    · refine WS.fx 17 true hp (WS.cT (WS.sq (WS.rg (RS.mS 1 [(4, .val (Value.bool true))] (RS.dn (WS.nxt (WS.rt ?_)))))))
      cases h
      exact fun a w hs => bkR (sqR (lsR rfl (rS hs)))
    · refine WS.fx 17 false (b_not hp) (WS.cF (WS.sk ?_))
      refine fun a w hs => bkN ((WS.nxt ?_ a w hs))
      refine WS.rg (RS.mS 3 [(5, .val (Value.int .i64 (IntKind.i64.wrap (v5_1 + 1)))), (11, .val (Value.int .i64 (IntKind.i64.wrap (v5_1 + 1)))), (10, .val (Value.int .i64 v5_1))] (RS.dn ?_))
      cases h
      exact fun a w hs => lsN rfl (hs.sb 0)
  · refine WS.fx 9 false (decide_eq_false hp) (WS.cF (WS.ex 0 ?_))
    cases h
    exact fun a w hs => sqE (lsB rfl (hs.sb 0))

theorem ref04_has_ok {L : LC} {m : Nat} {H : AH} {a0 : Sl3} {a1 : ByteArray} {r : Bool} (h : ref04_has L H a0 a1 = some r) :
    CallS Tryd.prog (NE.plain 1000) m 71 #[(Sl3.v a0), (Value.string a1)] H (ref04_has_enc r) (ref04_has_hp H r) := by
  refine CallS.mk (args := [(Sl3.v a0), (Value.string a1)]) Tryd.func71 (B := B71) (by kernel_rfl) (fun E _ => ?_)
  unfold ref04_has at h
  refine WS.sq (WS.rg (RS.mS 1 [(4, .val (Value.bool false))] (RS.dn (WS.nxt (WS.sq (WS.sq (WS.rg (RS.mS 1 [(5, .val (Value.int .i64 0))] (RS.dn ?_)))))))))
  refine WS.nxt (WS.bk 0 ?_)
  obtain ⟨o, hl, h⟩ := bind_some h
  rcases o with v5_4 | r
  · try dsimp only at h
    refine WS.lI (ref04_has_b0_ok (L := L) (E := E) (m := m) (H := H)) (L.ok hl) 0 ?_
    clear hl
    refine fun a w hs => bkE ((WS.nxt ?_ a w hs))
    refine WS.sq (WS.rg (RS.mS 1 [(4, .val (Value.bool false))] (RS.dn (WS.nxt (WS.rt ?_)))))
    cases h
    exact fun a w hs => rtR (rS hs)
  · try dsimp only at h
    refine WS.lR (ref04_has_b0_ok (L := L) (E := E) (m := m) (H := H)) (L.ok hl) 0 ?_
    cases h
    exact fun a w hq => bkR (sqR (rtR hq))

def sort_open_enc : ((Option Addr) × AH) → Value
  | (r0, _) => (Value.pointer r0)

def sort_open_hp (_ : AH) : ((Option Addr) × AH) → AH := fun r => r.2

noncomputable def B36 : Code := (Tryd.f36.body).getD .skip

noncomputable def sort_open_b0 (_L : LC) (m : Nat) (a0_0 : Sl3) (_a0_1 : Sl3) (_a0_2 : Sl3) (p3 : Addr) : (AH × Int) → Option (Lp (AH × Int) ((Option Addr) × AH)) := fun (H5, v17_6) =>
  if v17_6 < (a0_0.n : Int) then
    Option.bind (idxA 1 a0_0 v17_6) fun p7 =>
    Option.bind (rd deS H5 p7) fun x8 =>
    Option.bind (rd deM H5 (Addr.add p3 3)) fun x9 =>
    Option.bind (upM Tryd.prog m 94 H5 x9 (Value.agg #[(Value.int .i64 5), (Value.string x8)]) (Value.int .i64 0)) fun H10 =>
    some (.next (H10, (IntKind.i64.wrap (v17_6 + 1))))
  else
    some (.brk (H5, v17_6))

def sort_open_b0_kn (_L : LC) (_m : Nat) (a0_0 : Sl3) (_a0_1 : Sl3) (_a0_2 : Sl3) (p3 : Addr) : (AH × Int) → KN := fun (_, v17_6) => [(17, .val (Value.int .i64 v17_6)), (1, .loc 0 0), (3, .val (Value.pointer (some p3))), (15, .val (Sl3.v a0_0)), (16, .val (Value.int .i64 (a0_0.n : Int)))]

def sort_open_b0_ls (_L : LC) (_m : Nat) (a0_0 : Sl3) (a0_1 : Sl3) (a0_2 : Sl3) (_p3 : Addr) : (AH × Int) → Lcs := fun (_, _) => [some (33, [(Sl3.v a0_0), (Sl3.v a0_1), (Sl3.v a0_2)])]

noncomputable def sort_open_b1 (_L : LC) (m : Nat) (_a0_0 : Sl3) (a0_1 : Sl3) (_a0_2 : Sl3) (p3 : Addr) : (AH × Int) → Option (Lp (AH × Int) ((Option Addr) × AH)) := fun (H13, v31_14) =>
  if v31_14 < (a0_1.n : Int) then
    Option.bind (α := AH) (
      Option.bind (idxA 2 a0_1 v31_14) fun p16 =>
      Option.bind (rd deS H13 (Addr.add p16 0)) fun x17_0 =>
      Option.bind (rd deSl H13 (Addr.add p16 1)) fun _ =>
      Option.bind (rd deM H13 (Addr.add p3 3)) fun x18 =>
      Option.bind (lkM Tryd.prog 94 (deI .i64) H13 x18 (Value.agg #[(Value.int .i64 6), (Value.string x17_0)])) fun (_, b20) =>
      if b20 = true then
        some H13
      else
        Option.bind (rd deM H13 (Addr.add p3 3)) fun x21 =>
        Option.bind (upM Tryd.prog m 94 H13 x21 (Value.agg #[(Value.int .i64 6), (Value.string x17_0)]) (Value.int .i64 v31_14)) fun H22 =>
        some H22) fun H15 =>
    some (.next (H15, (IntKind.i64.wrap (v31_14 + 1))))
  else
    some (.brk (H13, v31_14))

def sort_open_b1_kn (_L : LC) (_m : Nat) (_a0_0 : Sl3) (a0_1 : Sl3) (_a0_2 : Sl3) (p3 : Addr) : (AH × Int) → KN := fun (_, v31_14) => [(31, .val (Value.int .i64 v31_14)), (3, .val (Value.pointer (some p3))), (29, .val (Sl3.v a0_1)), (30, .val (Value.int .i64 (a0_1.n : Int)))]

def sort_open_b1_ls (_L : LC) (_m : Nat) (a0_0 : Sl3) (a0_1 : Sl3) (a0_2 : Sl3) (_p3 : Addr) : (AH × Int) → Lcs := fun (_, _) => [some (33, [(Sl3.v a0_0), (Sl3.v a0_1), (Sl3.v a0_2)])]

noncomputable def sort_open (L : LC) (m : Nat) (H : AH) (a0_0 : Sl3) (a0_1 : Sl3) (a0_2 : Sl3) : Option ((Option Addr) × AH) :=
  Option.bind (newM H) fun (p1, H2) =>
  Option.bind (newB 96 [(Sl3.v a0_0), (Sl3.v a0_1), (Sl3.v a0_2), (Value.map (some p1))] H2) fun (p3, H4) =>
  Option.bind (L.run (sort_open_b0 L m a0_0 a0_1 a0_2 p3) (H4, 0)) fun o => match o with
  | .inl (H11, _) =>
    Option.bind (L.run (sort_open_b1 L m a0_0 a0_1 a0_2 p3) (H11, 0)) fun o => match o with
    | .inl (H23, _) =>
      some ((some p3), H23)
    | .inr r => some r
  | .inr r => some r

theorem sort_open_b0_ok {E : Ent} {H : AH} {L : LC} {m : Nat} {a0_0 : Sl3} {a0_1 : Sl3} {a0_2 : Sl3} {p3 : Addr}  : ∀ s o, sort_open_b0 L m a0_0 a0_1 a0_2 p3 s = some o →
    WS Tryd.prog (NE.plain 1000) m E Tryd.f36.ntmps (cfst (cfst (csnd (cfst (csnd (csnd B36)))))) (sort_open_b0_kn L m a0_0 a0_1 a0_2 p3 s) (sort_open_b0_ls L m a0_0 a0_1 a0_2 p3 s) ((fun s => s.1) s) (lpS Tryd.prog (NE.plain 1000) m E Tryd.f36.ntmps (sort_open_b0_kn L m a0_0 a0_1 a0_2 p3) (sort_open_b0_ls L m a0_0 a0_1 a0_2 p3) (fun s => s.1) 0 (fun r => RT Tryd.prog (NE.plain 1000) m E Tryd.f36 (sort_open_enc r) (sort_open_hp H r)) o) := by
  rintro ⟨H5, v17_6⟩ o h
  unfold sort_open_b0 at h
  try dsimp only at h
  refine WS.sq (WS.rg (RS.mS 1 [(18, .val (Value.bool (decide (v17_6 < (a0_0.n : Int)))))] (RS.dn (WS.nxt (WS.sq ?_)))))
  rcases ite_some h with ⟨hp, h⟩ | ⟨hp, h⟩
  · refine WS.fx 18 true (decide_eq_true hp) (WS.cT (WS.sk (WS.nxt (WS.sq (WS.bk 1 (WS.sq (WS.rg ?_)))))))
    obtain ⟨p7, hx, h⟩ := bind_some h
    refine RS.o (H' := H5) (some 19) (Value.pointer (some p7)) (Abs.run_idx (s := a0_0) (k := .i64) (t := 29) (e := 9) (x := .tmp 15) (y := .tmp 17) (by kernel_rfl) (by kernel_rfl) (by kernel_rfl) (by kernel_rfl) (by kernel_rfl) hx) ?_
    obtain ⟨x8, hx, h⟩ := bind_some h
    refine RS.o (H' := H5) (some 20) (Value.string x8) (Abs.run_load (t := 9) (x := .tmp 19) (a := p7) (by kernel_rfl) (by kernel_rfl) (by kernel_rfl) (rd_cell hx deS_inv)) (RS.mS 1 [(5, .val (Value.string x8))] (RS.dn (WS.nxt (WS.rg (RS.mS 3 [(23, .val (Value.pointer (some (Addr.add p3 3)))), (22, .val (Value.pointer (some p3))), (21, .val (Value.pointer (some p3)))] ?_)))))
    obtain ⟨x9, hx, h⟩ := bind_some h
    refine RS.o (H' := H5) (some 24) (Value.map x9) (Abs.run_load (t := 94) (x := .tmp 23) (a := (Addr.add p3 3)) (by kernel_rfl) (by kernel_rfl) (by kernel_rfl) (rd_cell hx deM_inv)) (RS.mS 2 [(26, .val (Value.agg #[(Value.int .i64 5), (Value.string x8)])), (25, .val (Value.string x8))] ?_)
    obtain ⟨H10, hx, h⟩ := bind_some h
    refine RS.o (H' := H10) none undef (Abs.run_upM (t := 94) (x := .tmp 24) (y := .tmp 26) (z := .const (Value.int .i64 0)) (mm := x9) (k := (Value.agg #[(Value.int .i64 5), (Value.string x8)])) (v := (Value.int .i64 0)) (by kernel_rfl) (by kernel_rfl) (by kernel_rfl) (by kernel_rfl) (by kernel_rfl) hx) (RS.dn ?_)
    refine fun a w hs => bkN ((WS.nxt ?_ a w hs))
    refine WS.rg (RS.mS 2 [(17, .val (Value.int .i64 (IntKind.i64.wrap (v17_6 + 1)))), (27, .val (Value.int .i64 (IntKind.i64.wrap (v17_6 + 1))))] (RS.dn ?_))
    cases h
    exact fun a w hs => lsN rfl (hs.sb 1)
  · refine WS.fx 18 false (decide_eq_false hp) (WS.cF (WS.ex 0 ?_))
    cases h
    exact fun a w hs => sqE (lsB rfl (hs.sb 1))

theorem sort_open_b1_ok {E : Ent} {H : AH} {L : LC} {m : Nat} {a0_0 : Sl3} {a0_1 : Sl3} {a0_2 : Sl3} {p3 : Addr}  : ∀ s o, sort_open_b1 L m a0_0 a0_1 a0_2 p3 s = some o →
    WS Tryd.prog (NE.plain 1000) m E Tryd.f36.ntmps (cfst (cfst (csnd (cfst (csnd (csnd (csnd B36))))))) (sort_open_b1_kn L m a0_0 a0_1 a0_2 p3 s) (sort_open_b1_ls L m a0_0 a0_1 a0_2 p3 s) ((fun s => s.1) s) (lpS Tryd.prog (NE.plain 1000) m E Tryd.f36.ntmps (sort_open_b1_kn L m a0_0 a0_1 a0_2 p3) (sort_open_b1_ls L m a0_0 a0_1 a0_2 p3) (fun s => s.1) 2 (fun r => RT Tryd.prog (NE.plain 1000) m E Tryd.f36 (sort_open_enc r) (sort_open_hp H r)) o) := by
  rintro ⟨H13, v31_14⟩ o h
  unfold sort_open_b1 at h
  try dsimp only at h
  refine WS.sq (WS.rg (RS.mS 1 [(32, .val (Value.bool (decide (v31_14 < (a0_1.n : Int)))))] (RS.dn (WS.nxt (WS.sq ?_)))))
  rcases ite_some h with ⟨hp, h⟩ | ⟨hp, h⟩
  · refine WS.fx 32 true (decide_eq_true hp) (WS.cT (WS.sk (WS.nxt ?_)))
    obtain ⟨H15, hx, h⟩ := bind_some h
    refine WS.sq ?_
    refine WS.join ([(3, .val (Value.pointer (some p3))), (29, .val (Sl3.v a0_1)), (30, .val (Value.int .i64 (a0_1.n : Int))), (31, .val (Value.int .i64 v31_14))]) ([some (33, [(Sl3.v a0_0), (Sl3.v a0_1), (Sl3.v a0_2)])]) H15 ?_ (fun a w hs => WS.nxt ?_ a w hs)
    · clear h; rename _ => h
      refine WS.bk 3 (WS.sq (WS.rg (RS.mS 1 [(33, .val (Value.int .i64 v31_14))] ?_)))
      obtain ⟨p16, hx, h⟩ := bind_some h
      refine RS.o (H' := H13) (some 34) (Value.pointer (some p16)) (Abs.run_idx (s := a0_1) (k := .i64) (t := 30) (e := 46) (x := .tmp 29) (y := .tmp 31) (by kernel_rfl) (by kernel_rfl) (by kernel_rfl) (by kernel_rfl) (by kernel_rfl) hx) ?_
      obtain ⟨x17_0, hx0, h⟩ := bind_some h
      obtain ⟨x17_1, hx1, h⟩ := bind_some h
      refine RS.o (H' := H13) (some 35) (Value.agg #[(Value.string x17_0), (Sl3.v x17_1)]) (Abs.run_loadAg (t := 46) (x := .tmp 34) (a := p16) (k := 2) (by kernel_rfl) (by kernel_rfl) (by kernel_rfl) (by kernel_rfl) (rdc_cons (rd_cell hx0 deS_inv) (rdc_cons (rd_cell hx1 deSl_inv) rdc_nil))) (RS.mL 3 [(6, .val (Value.int .i64 v31_14)), (7, .loc 1 0)] ([some (33, [(Sl3.v a0_0), (Sl3.v a0_1), (Sl3.v a0_2)]), some (46, [(Value.string x17_0), (Sl3.v x17_1)])]) (RS.dn (WS.nxt (WS.sq ?_))))
      refine WS.dr [0, 1, 2, 3, 4, 5, 6, 7] [0, 1, 3, 7, 0, 16, 48, 127, 255, 511, 511, 1023, 4095] 13 (fun hcl => ?_)
      refine DA.tK 0 (some 37) (Value.pointer (some p3)) (DA.tK 1 (some 38) (Value.pointer (some p3)) (DA.tK 2 (some 39) (Value.pointer (some (Addr.add p3 3))) ?_))
      obtain ⟨x18, hx, h⟩ := bind_some h
      refine DA.tD 3 (some 40) (Value.map x18) (Abs.det_load (t := 94) (x := .tmp 39) (a := (Addr.add p3 3)) (by kernel_rfl) (by kernel_rfl) (by kernel_rfl) (by kernel_rfl) (rd_cell hx deM_inv)) (DA.tL 4 (some 41) (.loc 1 0) (DA.tL 5 (some 42) (.val (Value.string x17_0)) (DA.tK 6 (some 43) (Value.agg #[(Value.int .i64 6), (Value.string x17_0)]) ?_)))
      obtain ⟨⟨x19, b20⟩, hx, h⟩ := bind_some h
      try dsimp only at h
      refine DA.tD 7 (some 44) (Value.tuple #[(Value.int .i64 x19), (Value.bool b20)]) (Abs.det_look (t := 94) (x := .tmp 40) (y := .tmp 43) (mm := x18) (k := (Value.agg #[(Value.int .i64 6), (Value.string x17_0)])) (by kernel_rfl) (by kernel_rfl) (by kernel_rfl) (by kernel_rfl) (lkM_eq hx deI_inv)) (DA.tP 8 (some 36) (Value.tuple #[(Value.int .i64 x19), (Value.bool b20)]) (DA.tP 9 (some 45) (Value.int .i64 x19) (DA.tP 10 (some 46) (Value.bool b20) (DA.tP 11 (some 8) (Value.int .i64 x19) (DA.tP 12 (some 9) (Value.bool b20) (DA.dn (WS.nxt (WS.sq (WS.rg ?_)))))))))
      refine RS.mS 2 [(48, .val (Value.bool (!b20))), (47, .val (Value.bool b20))] (RS.dn (WS.nxt ?_))
      rcases ite_some h with ⟨hp, h⟩ | ⟨hp, h⟩
      · refine WS.fx 48 false (nb_not hp) (WS.cF (WS.sk ?_))
        cases h
        exact fun a w hs => bkN ((jsN (hs.sb 1)))
      · refine WS.fx 48 true (nb_not' hp) (WS.cT ?_)
        refine WS.dr [0, 1, 2, 3, 4, 5] [0, 1, 3, 7, 0, 16, 48, 0, 255] 9 (fun hcl => ?_)
        refine DA.tK 0 (some 49) (Value.pointer (some p3)) (DA.tK 1 (some 50) (Value.pointer (some p3)) (DA.tK 2 (some 51) (Value.pointer (some (Addr.add p3 3))) ?_))
        obtain ⟨x21, hx, h⟩ := bind_some h
        refine DA.tD 3 (some 52) (Value.map x21) (Abs.det_load (t := 94) (x := .tmp 51) (a := (Addr.add p3 3)) (by kernel_rfl) (by kernel_rfl) (by kernel_rfl) (by kernel_rfl) (rd_cell hx deM_inv)) (DA.tL 4 (some 53) (.loc 1 0) (DA.tL 5 (some 54) (.val (Value.string x17_0)) (DA.tP 7 (some 56) (Value.int .i64 v31_14) (DA.on 6 (DA.aHk (H' := H13) 6 (some 55) false (Value.agg #[(Value.int .i64 6), (Value.string x17_0)]) (by kernel_rfl) ?_)))))
        obtain ⟨H22, hx, h⟩ := bind_some h
        refine DA.on 8 (DA.aH (H' := H22) 8 none undef (Abs.run_upM (t := 94) (x := .tmp 52) (y := .tmp 55) (z := .tmp 56) (mm := x21) (k := (Value.agg #[(Value.int .i64 6), (Value.string x17_0)])) (v := (Value.int .i64 v31_14)) (by kernel_rfl) (by kernel_rfl) (by kernel_rfl) (by kernel_rfl) (by kernel_rfl) hx) (DA.dn ?_))
        cases h
        exact fun a w hs => bkN ((jsN (hs.sb 1)))
    · clear hx
      refine WS.rg (RS.mS 2 [(31, .val (Value.int .i64 (IntKind.i64.wrap (v31_14 + 1)))), (57, .val (Value.int .i64 (IntKind.i64.wrap (v31_14 + 1))))] (RS.dn ?_))
      cases h
      exact fun a w hs => lsN rfl (hs.sb 1)
  · refine WS.fx 32 false (decide_eq_false hp) (WS.cF (WS.ex 2 ?_))
    cases h
    exact fun a w hs => sqE (lsB rfl (hs.sb 1))

theorem sort_open_ok {L : LC} {m : Nat} {H : AH} {a0_0 : Sl3} {a0_1 : Sl3} {a0_2 : Sl3} {r : ((Option Addr) × AH)} (h : sort_open L m H a0_0 a0_1 a0_2 = some r) :
    CallS Tryd.prog (NE.plain 1000) m 36 #[(Value.agg #[(Sl3.v a0_0), (Sl3.v a0_1), (Sl3.v a0_2)])] H (sort_open_enc r) (sort_open_hp H r) := by
  refine CallS.mk (args := [(Value.agg #[(Sl3.v a0_0), (Sl3.v a0_1), (Sl3.v a0_2)])]) Tryd.func36 (B := B36) (by kernel_rfl) (fun E _ => ?_)
  unfold sort_open at h
  refine WS.sq (WS.rg (RS.mL 2 [(2, .val (Value.pointer none)), (1, .loc 0 0)] ([some (33, [(Sl3.v a0_0), (Sl3.v a0_1), (Sl3.v a0_2)])]) (RS.dn (WS.nxt (WS.sq (WS.rg (RS.mS 1 [(10, .val (Value.agg #[(Sl3.v a0_0), (Sl3.v a0_1), (Sl3.v a0_2)]))] ?_)))))))
  obtain ⟨⟨p1, H2⟩, hx, h⟩ := bind_some h
  try dsimp only at h
  refine RS.o (H' := H2) (some 11) (Value.map (some p1)) (Abs.run_newM (by kernel_rfl) hx) (RS.mS 1 [(12, .val (Value.agg #[(Sl3.v a0_0), (Sl3.v a0_1), (Sl3.v a0_2), (Value.map (some p1))]))] ?_)
  obtain ⟨⟨p3, H4⟩, hx, h⟩ := bind_some h
  try dsimp only at h
  refine RS.o (H' := H4) (some 13) (Value.pointer (some p3)) (Abs.run_newB (by kernel_rfl) hx) (RS.mS 1 [(3, .val (Value.pointer (some p3)))] (RS.dn (WS.nxt (WS.sq (WS.sq (WS.rg (RS.mS 4 [(17, .val (Value.int .i64 0)), (16, .val (Value.int .i64 (a0_0.n : Int))), (15, .val (Sl3.v a0_0)), (14, .loc 0 0)] (RS.dn (WS.nxt ?_)))))))))
  refine WS.bk 0 ?_
  obtain ⟨o, hl, h⟩ := bind_some h
  rcases o with ⟨H11, v17_12⟩ | r
  · try dsimp only at h
    refine WS.lI (sort_open_b0_ok (L := L) (E := E) (m := m) (H := H)) (L.ok hl) 1 ?_
    clear hl
    refine fun a w hs => bkE ((WS.nxt ?_ a w hs))
    refine WS.sq (WS.sq (WS.rg (RS.mS 4 [(31, .val (Value.int .i64 0)), (30, .val (Value.int .i64 (a0_1.n : Int))), (29, .val (Sl3.v a0_1)), (28, .loc 0 1)] (RS.dn (WS.nxt (WS.bk 2 ?_))))))
    obtain ⟨o, hl, h⟩ := bind_some h
    rcases o with ⟨H23, v31_24⟩ | r
    · try dsimp only at h
      refine WS.lI (sort_open_b1_ok (L := L) (E := E) (m := m) (H := H)) (L.ok hl) 1 ?_
      clear hl
      refine fun a w hs => bkE ((WS.nxt ?_ a w hs))
      refine WS.sq (WS.rg (RS.mS 2 [(2, .val (Value.pointer (some p3))), (58, .val (Value.pointer (some p3)))] (RS.dn (WS.nxt (WS.rt ?_)))))
      cases h
      exact fun a w hs => rtR (rS hs)
    · try dsimp only at h
      refine WS.lR (sort_open_b1_ok (L := L) (E := E) (m := m) (H := H)) (L.ok hl) 1 ?_
      cases h
      exact fun a w hq => bkR (sqR (rtR hq))
  · try dsimp only at h
    refine WS.lR (sort_open_b0_ok (L := L) (E := E) (m := m) (H := H)) (L.ok hl) 1 ?_
    cases h
    exact fun a w hq => bkR (sqR (rtR hq))

end Go.Proofs.YtccbilfbhecdaaaDoor


namespace Go.Proofs.YtccbilfbhecdaaaDoor
open Go Go.Abs
set_option maxRecDepth 100000

def hasS (l : List ByteArray) (s : ByteArray) : Bool := l.any fun x => x.toList == s.toList

theorem has_spec (k : Nat) {H : AH} {sl : Sl3} {xs : List ByteArray} (h : SlL StrA 1 H sl xs) (s : ByteArray) : ref04_has (LCo k) H sl s = some (hasS xs s) := by
  have hl : loopO (ref04_has_b0 (LCo k) H sl s) 0 = some (found xs.length ((List.range xs.length).findSome? (fun i => if ((xs.getD i ⟨#[]⟩).toList == s.toList) = true then some true else none))) := by
    refine loopO_up xs.length h.len _ (fun i hi => ?_) ?_
    · unfold ref04_has_b0
      have hn := h.n
      rw [if_pos (by omega)]
      obtain ⟨q, h1, h2⟩ := h.get hi (v := (i : Int)) rfl
      rw [h1]
      simp only [Option.bind_some]
      rw [h2.rd]
      simp only [deS, Option.bind_some]
      have : xs.getD i ⟨#[]⟩ = xs[i] := by simp [List.getD, hi]
      rw [this]
      cases (xs[i].toList == s.toList) <;> simp [stepO]
    · unfold ref04_has_b0
      have hn := h.n
      rw [if_neg (by omega)]
  unfold ref04_has
  show Option.bind (loopO (ref04_has_b0 (LCo k) H sl s) 0) _ = _
  rw [hl, find_any xs (fun x => x.toList == s.toList) true ⟨#[]⟩]
  unfold hasS
  cases xs.any fun x => x.toList == s.toList <;> simp [found]

end Go.Proofs.YtccbilfbhecdaaaDoor


namespace Go.Proofs.YtccbilfbhecdaaaDoor
open Go Go.Abs

theorem awake_run (L : LC) {H : AH} (h : HasT H) : law04_awake L H = some true := by
  unfold law04_awake
  rw [if_pos h]

end Go.Proofs.YtccbilfbhecdaaaDoor


namespace Go.Proofs.YtccbilfbhecdaaaDoor
open Go Go.Abs Go.ChangeShapes Go.WideShapes
set_option maxRecDepth 100000

theorem own : ownKnob Tryd.prog.godebug = none := by kernel_rfl
theorem laidOut : laidOutB Tryd.prog = true := by kernel_rfl
theorem globals_ok : globalsB Tryd.prog = true := by kernel_rfl
theorem sane : Sane Tryd.prog (NE.plain 1000) := sane_of (fun _ _ _ => rfl) (by kernel_rfl) (by kernel_rfl) (by kernel_rfl)

theorem laid_met (os : Os) (args : Array Value) : laidMet Tryd.prog Rows.sortNamesUptoRow.laid ((laidW2 Tryd.prog Rows.sortNamesUptoRow.laid os).forCall (fun _ _ => 0) ⟨#[], args, []⟩).memory :=
  laidMet_of_run3 8 (by kernel_rfl) (by kernel_rfl) (by kernel_rfl)

theorem tabs_met (W : World) (hL : laidMet Tryd.prog Rows.sortNamesUptoRow.laid W) (hsh : W.ShapedOpen Tryd.prog) : ∀ x ∈ tabs, ∃ fr, W.heap[x.1]? = some (.cells x.2.2 x.2.1 fr) := by
  intro x hx
  simp only [tabs, List.mem_cons, List.not_mem_nil, or_false] at hx
  rcases hx with rfl | rfl | rfl | rfl
  · exact tab_met (name := "strings.asciiSpace") (te := 5) (n := 256) (t := 130) hL (by kernel_rfl) (by kernel_rfl) (by kernel_rfl) (by kernel_rfl) (by kernel_rfl) (by kernel_rfl) (by kernel_rfl) (of_decide_eq_true (by kernel_rfl)) (by kernel_rfl) hsh
  · exact tab_met (name := "internal/strconv.uint64pow10") (te := 141) (n := 20) (t := 159) hL (by kernel_rfl) (by kernel_rfl) (by kernel_rfl) (by kernel_rfl) (by kernel_rfl) (by kernel_rfl) (by kernel_rfl) (of_decide_eq_true (by kernel_rfl)) (by kernel_rfl) hsh
  · exact tab_met (name := "math/bits.deBruijn32tab") (te := 5) (n := 32) (t := 165) hL (by kernel_rfl) (by kernel_rfl) (by kernel_rfl) (by kernel_rfl) (by kernel_rfl) (by kernel_rfl) (by kernel_rfl) (of_decide_eq_true (by kernel_rfl)) (by kernel_rfl) hsh
  · exact tab_met (name := "math/bits.deBruijn64tab") (te := 5) (n := 64) (t := 166) hL (by kernel_rfl) (by kernel_rfl) (by kernel_rfl) (by kernel_rfl) (by kernel_rfl) (by kernel_rfl) (by kernel_rfl) (of_decide_eq_true (by kernel_rfl)) (by kernel_rfl) hsh

theorem hasT_start : HasT H0 := by
  intro x hx
  simp only [tabs, List.mem_cons, List.not_mem_nil, or_false] at hx
  rcases hx with rfl | rfl | rfl | rfl <;> exact ⟨by kernel_rfl, by rw [show H0.next = Tryd.prog.globals.size from startH_next tabs, globals7]; decide⟩

theorem start_at {W : World} (hg : Tryd.prog.globals.size ≤ W.heap.size) (hL : laidMet Tryd.prog Rows.sortNamesUptoRow.laid W) (hsh : W.ShapedOpen Tryd.prog) : Imp Tryd.prog (φg Tryd.prog) H0 W :=
  Imp.startT hg tabs_ok (tabs_met W hL hsh)

namespace bulks
theorem bound {H : Type} {l : List (DataW H)} (hk : Rows.uptoSmall H l = true) : Rows.uptoBulkAll l ≤ 1048576 := of_decide_eq_true hk
end bulks

section
variable {H : Type} {enc : TypeId × Value → H} {W : World} {φ : Inj}

theorem ar2 {a a' b b' : Value} (h : VR φ a a') (h2 : VR φ b b') : AR φ #[a, b] #[a', b'] := by
  refine ⟨rfl, fun i x y hx hy => ?_⟩
  match i, hx, hy with
  | 0, hx, hy => simp at hx hy; subst hx hy; exact h
  | 1, hx, hy => simp at hx hy; subst hx hy; exact h2
  | i + 2, hx, _ => simp at hx

end

end Go.Proofs.YtccbilfbhecdaaaDoor


namespace Go.Proofs.YtccbilfbhecdaaaDoor
open Go Go.Abs
set_option maxRecDepth 100000

def sort_parts_enc : (Int × Bool) → Value
  | (r0, r1) => (Value.tuple #[(Value.int .i64 r0), (Value.bool r1)])

def sort_parts_hp (H : AH) : (Int × Bool) → AH := fun _ => H

noncomputable def B90 : Code := (Tryd.f90.body).getD .skip

noncomputable def sort_parts_b0 (_L : LC) (rec_sort_parts : AH → Int → Int → ByteArray → Sl3 → Int → Option (Int × Bool)) (H : AH) (_a0_0 : Int) (_a0_1 : Int) (_a0_2 : ByteArray) (a0_3 : Sl3) (a1 : Int) : (Int × Int) → Option (Lp (Int × Int) (Int × Bool)) := fun (v6_1, v16_2) =>
  if v16_2 < (a0_3.n : Int) then
    Option.bind (idxA 4 a0_3 v16_2) fun p3 =>
    Option.bind (rd (deI .i64) H (Addr.add p3 0)) fun x4_0 =>
    Option.bind (rd (deI .i64) H (Addr.add p3 1)) fun x4_1 =>
    Option.bind (rd deS H (Addr.add p3 2)) fun x4_2 =>
    Option.bind (rd deSl H (Addr.add p3 3)) fun x4_3 =>
    Option.bind (rec_sort_parts H x4_0 x4_1 x4_2 x4_3 (IntKind.i64.wrap (a1 + 1))) fun (x5, x6) =>
    Option.bind (α := Bool) (
      if x6 = true then
        some (decide ((IntKind.i64.wrap (v6_1 + x5)) > 256))
      else
        some true) fun v35_7 =>
    if v35_7 = true then
      some (.ret ((IntKind.i64.wrap (v6_1 + x5)), false))
    else
      some (.next ((IntKind.i64.wrap (v6_1 + x5)), (IntKind.i64.wrap (v16_2 + 1))))
  else
    some (.brk (v6_1, v16_2))

def sort_parts_b0_kn (_L : LC) (_rec_sort_parts : AH → Int → Int → ByteArray → Sl3 → Int → Option (Int × Bool)) (_H : AH) (_a0_0 : Int) (_a0_1 : Int) (_a0_2 : ByteArray) (a0_3 : Sl3) (a1 : Int) : (Int × Int) → KN := fun (v6_1, v16_2) => [(6, .val (Value.int .i64 v6_1)), (16, .val (Value.int .i64 v16_2)), (1, .val (Value.int .i64 a1)), (14, .val (Sl3.v a0_3)), (15, .val (Value.int .i64 (a0_3.n : Int)))]

def sort_parts_b0_ls (_L : LC) (_rec_sort_parts : AH → Int → Int → ByteArray → Sl3 → Int → Option (Int × Bool)) (_H : AH) (a0_0 : Int) (a0_1 : Int) (a0_2 : ByteArray) (a0_3 : Sl3) (_a1 : Int) : (Int × Int) → Lcs := fun (_, _) => [some (28, [(Value.int .i64 a0_0), (Value.int .i64 a0_1), (Value.string a0_2), (Sl3.v a0_3)])]

noncomputable def sort_parts_body (L : LC) (rec_sort_parts : AH → Int → Int → ByteArray → Sl3 → Int → Option (Int × Bool)) (H : AH) (a0_0 : Int) (a0_1 : Int) (a0_2 : ByteArray) (a0_3 : Sl3) (a1 : Int) : Option (Int × Bool) :=
  if a1 > 16 then
    some (0, false)
  else
    Option.bind (L.run (sort_parts_b0 L rec_sort_parts H a0_0 a0_1 a0_2 a0_3 a1) (1, 0)) fun o => match o with
    | .inl (v6_8, _) =>
      some (v6_8, true)
    | .inr r => some r

noncomputable def fam_sort_parts (L : LC) (n : Nat) : (AH → Int → Int → ByteArray → Sl3 → Int → Option (Int × Bool)) := Nat.rec (motive := fun _ => (AH → Int → Int → ByteArray → Sl3 → Int → Option (Int × Bool))) (fun _ _ _ _ _ _ => none) (fun _ p => sort_parts_body L p) n

noncomputable def sort_parts (L : LC) (H : AH) (a0_0 : Int) (a0_1 : Int) (a0_2 : ByteArray) (a0_3 : Sl3) (a1 : Int) : Option (Int × Bool) := (fam_sort_parts L L.fuel) H a0_0 a0_1 a0_2 a0_3 a1

theorem sort_parts_b0_ok {E : Ent} {m : Nat} {L : LC} {rec_sort_parts : AH → Int → Int → ByteArray → Sl3 → Int → Option (Int × Bool)} {H : AH} {a0_0 : Int} {a0_1 : Int} {a0_2 : ByteArray} {a0_3 : Sl3} {a1 : Int} (hrec_sort_parts : ∀ (m : Nat) (H : AH) (a0_0 : Int) (a0_1 : Int) (a0_2 : ByteArray) (a0_3 : Sl3) (a1 : Int) (r : (Int × Bool)), rec_sort_parts H a0_0 a0_1 a0_2 a0_3 a1 = some r → CallS Tryd.prog (NE.plain 1000) m 90 #[(Value.agg #[(Value.int .i64 a0_0), (Value.int .i64 a0_1), (Value.string a0_2), (Sl3.v a0_3)]), (Value.int .i64 a1)] H (sort_parts_enc r) (sort_parts_hp H r)) : ∀ s o, sort_parts_b0 L rec_sort_parts H a0_0 a0_1 a0_2 a0_3 a1 s = some o →
    WS Tryd.prog (NE.plain 1000) m E Tryd.f90.ntmps (cfst (cfst (csnd (cfst (csnd (csnd (csnd B90))))))) (sort_parts_b0_kn L rec_sort_parts H a0_0 a0_1 a0_2 a0_3 a1 s) (sort_parts_b0_ls L rec_sort_parts H a0_0 a0_1 a0_2 a0_3 a1 s) ((fun _ => H) s) (lpS Tryd.prog (NE.plain 1000) m E Tryd.f90.ntmps (sort_parts_b0_kn L rec_sort_parts H a0_0 a0_1 a0_2 a0_3 a1) (sort_parts_b0_ls L rec_sort_parts H a0_0 a0_1 a0_2 a0_3 a1) (fun _ => H) 0 (fun r => RT Tryd.prog (NE.plain 1000) m E Tryd.f90 (sort_parts_enc r) (sort_parts_hp H r)) o) := by
  rintro ⟨v6_1, v16_2⟩ o h
  unfold sort_parts_b0 at h
  try dsimp only at h
  refine WS.sq (WS.rg (RS.mS 1 [(17, .val (Value.bool (decide (v16_2 < (a0_3.n : Int)))))] (RS.dn (WS.nxt (WS.sq ?_)))))
  rcases ite_some h with ⟨hp, h⟩ | ⟨hp, h⟩
  · refine WS.fx 17 true (decide_eq_true hp) (WS.cT (WS.sk (WS.nxt (WS.sq (WS.bk 1 (WS.sq (WS.rg ?_)))))))
    obtain ⟨p3, hx, h⟩ := bind_some h
    refine RS.o (H' := H) (some 18) (Value.pointer (some p3)) (Abs.run_idx (s := a0_3) (k := .i64) (t := 26) (e := 28) (x := .tmp 14) (y := .tmp 16) (by kernel_rfl) (by kernel_rfl) (by kernel_rfl) (by kernel_rfl) (by kernel_rfl) hx) ?_
    obtain ⟨x4_0, hx0, h⟩ := bind_some h
    obtain ⟨x4_1, hx1, h⟩ := bind_some h
    obtain ⟨x4_2, hx2, h⟩ := bind_some h
    obtain ⟨x4_3, hx3, h⟩ := bind_some h
    refine RS.o (H' := H) (some 19) (Value.agg #[(Value.int .i64 x4_0), (Value.int .i64 x4_1), (Value.string x4_2), (Sl3.v x4_3)]) (Abs.run_loadAg (t := 28) (x := .tmp 18) (a := p3) (k := 4) (by kernel_rfl) (by kernel_rfl) (by kernel_rfl) (by kernel_rfl) (rdc_cons (rd_cell hx0 deI_inv) (rdc_cons (rd_cell hx1 deI_inv) (rdc_cons (rd_cell hx2 deS_inv) (rdc_cons (rd_cell hx3 deSl_inv) rdc_nil))))) (RS.mL 2 [(8, .loc 1 0)] ([some (28, [(Value.int .i64 a0_0), (Value.int .i64 a0_1), (Value.string a0_2), (Sl3.v a0_3)]), some (28, [(Value.int .i64 x4_0), (Value.int .i64 x4_1), (Value.string x4_2), (Sl3.v x4_3)])]) (RS.dn (WS.nxt (WS.sq (WS.rg (RS.mS 3 [(23, .val (Value.int .i64 (IntKind.i64.wrap (a1 + 1)))), (22, .val (Value.int .i64 a1)), (21, .val (Value.agg #[(Value.int .i64 x4_0), (Value.int .i64 x4_1), (Value.string x4_2), (Sl3.v x4_3)]))] ?_))))))
    obtain ⟨⟨x5, x6⟩, hx, h⟩ := bind_some h
    try dsimp only at h
    refine RS.cl (some 24) (v := (Value.tuple #[(Value.int .i64 x5), (Value.bool x6)])) 90 #[(Value.agg #[(Value.int .i64 x4_0), (Value.int .i64 x4_1), (Value.string x4_2), (Sl3.v x4_3)]), (Value.int .i64 (IntKind.i64.wrap (a1 + 1)))] (hrec_sort_parts _ _ _ _ _ _ _ _ hx) (RS.mS 5 [(10, .val (Value.bool x6)), (9, .val (Value.int .i64 x5)), (26, .val (Value.bool x6)), (25, .val (Value.int .i64 x5)), (20, .val (Value.tuple #[(Value.int .i64 x5), (Value.bool x6)]))] (RS.dn (WS.nxt (WS.sq (WS.rg (RS.mS 4 [(6, .val (Value.int .i64 (IntKind.i64.wrap (v6_1 + x5)))), (29, .val (Value.int .i64 (IntKind.i64.wrap (v6_1 + x5)))), (28, .val (Value.int .i64 x5)), (27, .val (Value.int .i64 v6_1))] (RS.dn (WS.nxt ?_))))))))
    obtain ⟨v35_7, hx, h⟩ := bind_some h
    refine WS.sq ?_
    refine WS.join ([(35, .val (Value.bool v35_7)), (1, .val (Value.int .i64 a1)), (6, .val (Value.int .i64 (IntKind.i64.wrap (v6_1 + x5)))), (14, .val (Sl3.v a0_3)), (15, .val (Value.int .i64 (a0_3.n : Int))), (16, .val (Value.int .i64 v16_2))]) ([some (28, [(Value.int .i64 a0_0), (Value.int .i64 a0_1), (Value.string a0_2), (Sl3.v a0_3)]), some (28, [(Value.int .i64 x4_0), (Value.int .i64 x4_1), (Value.string x4_2), (Sl3.v x4_3)])]) H ?_ (fun a w hs => WS.nxt ?_ a w hs)
    · clear h; rename _ => h
      refine WS.rg (RS.mS 3 [(32, .val (Value.bool (!x6))), (31, .val (Value.bool (!x6))), (30, .val (Value.bool x6))] ?_)
      rcases ite_some h with ⟨hp, h⟩ | ⟨hp, h⟩
      · refine RS.fx 32 false (nb_not hp) (RS.mS 3 [(35, .val (Value.bool (decide ((IntKind.i64.wrap (v6_1 + x5)) > 256)))), (34, .val (Value.bool (decide ((IntKind.i64.wrap (v6_1 + x5)) > 256)))), (33, .val (Value.int .i64 (IntKind.i64.wrap (v6_1 + x5))))] (RS.dn ?_))
        cases h
        exact fun a w hs => (jsN (hs.sb 2))
      · refine RS.fx 32 true (nb_not' hp) (RS.mS 3 [(35, .val (Value.bool true)), (34, .val undef), (33, .val undef)] (RS.dn ?_))
        cases h
        exact fun a w hs => (jsN (hs.sb 2))
    · clear hx
      rcases ite_some h with ⟨hp, h⟩ | ⟨hp, h⟩
      · refine WS.fx 35 true hp (WS.cT (WS.sq (WS.rg (RS.mS 3 [(5, .val (Value.bool false)), (4, .val (Value.int .i64 (IntKind.i64.wrap (v6_1 + x5)))), (36, .val (Value.int .i64 (IntKind.i64.wrap (v6_1 + x5))))] (RS.dn (WS.nxt (WS.rt ?_)))))))
        cases h
        exact fun a w hs => bkR (sqR (lsR rfl (rS hs)))
      · refine WS.fx 35 false (b_not hp) (WS.cF (WS.sk ?_))
        refine fun a w hs => bkN ((WS.nxt ?_ a w hs))
        refine WS.rg (RS.mS 2 [(16, .val (Value.int .i64 (IntKind.i64.wrap (v16_2 + 1)))), (37, .val (Value.int .i64 (IntKind.i64.wrap (v16_2 + 1))))] (RS.dn ?_))
        cases h
        exact fun a w hs => lsN rfl (hs.sb 1)
  · refine WS.fx 17 false (decide_eq_false hp) (WS.cF (WS.ex 0 ?_))
    cases h
    exact fun a w hs => sqE (lsB rfl (hs.sb 1))

theorem sort_parts_body_ok {L : LC} {rec_sort_parts : AH → Int → Int → ByteArray → Sl3 → Int → Option (Int × Bool)} (hrec_sort_parts : ∀ (m : Nat) (H : AH) (a0_0 : Int) (a0_1 : Int) (a0_2 : ByteArray) (a0_3 : Sl3) (a1 : Int) (r : (Int × Bool)), rec_sort_parts H a0_0 a0_1 a0_2 a0_3 a1 = some r → CallS Tryd.prog (NE.plain 1000) m 90 #[(Value.agg #[(Value.int .i64 a0_0), (Value.int .i64 a0_1), (Value.string a0_2), (Sl3.v a0_3)]), (Value.int .i64 a1)] H (sort_parts_enc r) (sort_parts_hp H r)) {m : Nat} {H : AH} {a0_0 : Int} {a0_1 : Int} {a0_2 : ByteArray} {a0_3 : Sl3} {a1 : Int} {r : (Int × Bool)} (h : sort_parts_body L rec_sort_parts H a0_0 a0_1 a0_2 a0_3 a1 = some r) :
    CallS Tryd.prog (NE.plain 1000) m 90 #[(Value.agg #[(Value.int .i64 a0_0), (Value.int .i64 a0_1), (Value.string a0_2), (Sl3.v a0_3)]), (Value.int .i64 a1)] H (sort_parts_enc r) (sort_parts_hp H r) := by
  refine CallS.mk (args := [(Value.agg #[(Value.int .i64 a0_0), (Value.int .i64 a0_1), (Value.string a0_2), (Sl3.v a0_3)]), (Value.int .i64 a1)]) Tryd.func90 (B := B90) (by kernel_rfl) (fun E _ => ?_)
  unfold sort_parts_body at h
  refine WS.sq (WS.rg (RS.mL 3 [(5, .val (Value.bool false)), (4, .val (Value.int .i64 0)), (2, .loc 0 0)] ([some (28, [(Value.int .i64 a0_0), (Value.int .i64 a0_1), (Value.string a0_2), (Sl3.v a0_3)])]) (RS.dn (WS.nxt (WS.sq (WS.sq (WS.rg (RS.mS 2 [(12, .val (Value.bool (decide (a1 > 16)))), (11, .val (Value.int .i64 a1))] (RS.dn ?_)))))))))
  refine WS.nxt ?_
  rcases ite_some h with ⟨hp, h⟩ | ⟨hp, h⟩
  · refine WS.fx 12 true (decide_eq_true hp) (WS.cT (WS.sq (WS.rg (RS.mS 2 [(5, .val (Value.bool false)), (4, .val (Value.int .i64 0))] (RS.dn (WS.nxt (WS.rt ?_)))))))
    cases h
    exact fun a w hs => sqR (rtR (rS hs))
  · refine WS.fx 12 false (decide_eq_false hp) (WS.cF (WS.sk (WS.nxt (WS.sq (WS.rg (RS.mS 1 [(6, .val (Value.int .i64 1))] (RS.dn (WS.nxt (WS.sq ?_)))))))))
    refine WS.sq (WS.rg (RS.mS 4 [(16, .val (Value.int .i64 0)), (15, .val (Value.int .i64 (a0_3.n : Int))), (14, .val (Sl3.v a0_3)), (13, .loc 0 3)] (RS.dn (WS.nxt (WS.bk 0 ?_)))))
    obtain ⟨o, hl, h⟩ := bind_some h
    rcases o with ⟨v6_8, v16_9⟩ | r
    · try dsimp only at h
      refine WS.lI (sort_parts_b0_ok (L := L) (E := E) (m := m) (H := H) hrec_sort_parts) (L.ok hl) 1 ?_
      clear hl
      refine fun a w hs => bkE ((WS.nxt ?_ a w hs))
      refine WS.sq (WS.rg (RS.mS 3 [(5, .val (Value.bool true)), (4, .val (Value.int .i64 v6_8)), (38, .val (Value.int .i64 v6_8))] (RS.dn (WS.nxt (WS.rt ?_)))))
      cases h
      exact fun a w hs => rtR (rS hs)
    · try dsimp only at h
      refine WS.lR (sort_parts_b0_ok (L := L) (E := E) (m := m) (H := H) hrec_sort_parts) (L.ok hl) 1 ?_
      cases h
      exact fun a w hq => bkR (sqR (rtR hq))

theorem fam_sort_parts_ok {L : LC} : ∀ n, (∀ (m : Nat) (H : AH) (a0_0 : Int) (a0_1 : Int) (a0_2 : ByteArray) (a0_3 : Sl3) (a1 : Int) (r : (Int × Bool)), ((fam_sort_parts L n)) H a0_0 a0_1 a0_2 a0_3 a1 = some r → CallS Tryd.prog (NE.plain 1000) m 90 #[(Value.agg #[(Value.int .i64 a0_0), (Value.int .i64 a0_1), (Value.string a0_2), (Sl3.v a0_3)]), (Value.int .i64 a1)] H (sort_parts_enc r) (sort_parts_hp H r)) := by
  intro n
  induction n with
  | zero => exact (fun _ _ _ _ _ _ _ _ h => (Option.some_ne_none _ h.symm).elim)
  | succ n ih => exact (fun _ _ _ _ _ _ _ _ h => sort_parts_body_ok (L := L) ih h)

theorem sort_parts_ok {L : LC} {m : Nat} {H : AH} {a0_0 : Int} {a0_1 : Int} {a0_2 : ByteArray} {a0_3 : Sl3} {a1 : Int} {r : (Int × Bool)} (h : sort_parts L H a0_0 a0_1 a0_2 a0_3 a1 = some r) :
    CallS Tryd.prog (NE.plain 1000) m 90 #[(Value.agg #[(Value.int .i64 a0_0), (Value.int .i64 a0_1), (Value.string a0_2), (Sl3.v a0_3)]), (Value.int .i64 a1)] H (sort_parts_enc r) (sort_parts_hp H r) :=
  (fam_sort_parts_ok _) _ _ _ _ _ _ _ _ h

def sort_shaped_enc : Bool → Value
  | r0 => (Value.bool r0)

def sort_shaped_hp (H : AH) : Bool → AH := fun _ => H

noncomputable def B91 : Code := (Tryd.f91.body).getD .skip

noncomputable def sort_shaped_b0 (_L : LC) (rec_sort_shaped : AH → Int → Int → ByteArray → Sl3 → Option Bool) (H : AH) (_a0_0 : Int) (_a0_1 : Int) (_a0_2 : ByteArray) (a0_3 : Sl3) : (Bool × Int) → Option (Lp (Bool × Int) Bool) := fun (v3_5, v82_6) =>
  if v82_6 < (a0_3.n : Int) then
    Option.bind (α := Bool) (
      Option.bind (idxA 4 a0_3 v82_6) fun p8 =>
      Option.bind (rd (deI .i64) H (Addr.add p8 0)) fun x9_0 =>
      Option.bind (rd (deI .i64) H (Addr.add p8 1)) fun x9_1 =>
      Option.bind (rd deS H (Addr.add p8 2)) fun x9_2 =>
      Option.bind (rd deSl H (Addr.add p8 3)) fun x9_3 =>
      if v3_5 = true then
        Option.bind (rec_sort_shaped H x9_0 x9_1 x9_2 x9_3) fun x10 =>
        some x10
      else
        some false) fun v3_7 =>
    some (.next (v3_7, (IntKind.i64.wrap (v82_6 + 1))))
  else
    some (.brk (v3_5, v82_6))

def sort_shaped_b0_kn (_L : LC) (_rec_sort_shaped : AH → Int → Int → ByteArray → Sl3 → Option Bool) (_H : AH) (_a0_0 : Int) (_a0_1 : Int) (_a0_2 : ByteArray) (a0_3 : Sl3) : (Bool × Int) → KN := fun (v3_5, v82_6) => [(3, .val (Value.bool v3_5)), (82, .val (Value.int .i64 v82_6)), (80, .val (Sl3.v a0_3)), (81, .val (Value.int .i64 (a0_3.n : Int)))]

def sort_shaped_b0_ls (_L : LC) (_rec_sort_shaped : AH → Int → Int → ByteArray → Sl3 → Option Bool) (_H : AH) (a0_0 : Int) (a0_1 : Int) (a0_2 : ByteArray) (a0_3 : Sl3) : (Bool × Int) → Lcs := fun (_, _) => [some (28, [(Value.int .i64 a0_0), (Value.int .i64 a0_1), (Value.string a0_2), (Sl3.v a0_3)])]

noncomputable def sort_shaped_body (L : LC) (rec_sort_shaped : AH → Int → Int → ByteArray → Sl3 → Option Bool) (H : AH) (a0_0 : Int) (a0_1 : Int) (a0_2 : ByteArray) (a0_3 : Sl3) : Option Bool :=
  Option.bind (α := Bool) (
    Option.bind (α := Bool) (
      if a0_0 = 1 then
        some true
      else
        some (decide (a0_0 = 2))) fun v8_2 =>
    if v8_2 = true then
      if a0_1 = 0 then
        if (a0_2.toList == (⟨#[]⟩ : ByteArray).toList) = true then
          some (decide ((a0_3.n : Int) = 0))
        else
          some false
      else
        some false
    else
      if a0_0 = 3 then
        if a0_1 ≥ 1 then
          if a0_1 ≤ 4096 then
            if (a0_2.toList == (⟨#[]⟩ : ByteArray).toList) = true then
              some (decide ((a0_3.n : Int) = 0))
            else
              some false
          else
            some false
        else
          some false
      else
        if a0_0 = 4 then
          if a0_1 = 0 then
            if (a0_2.toList == (⟨#[]⟩ : ByteArray).toList) = true then
              some (decide ((a0_3.n : Int) = 2))
            else
              some false
          else
            some false
        else
          Option.bind (α := Bool) (
            if a0_0 = 5 then
              some true
            else
              some (decide (a0_0 = 6))) fun v62_3 =>
          if v62_3 = true then
            if a0_1 = 0 then
              Option.bind (sort_Name L a0_2) fun x4 =>
              if x4 = true then
                some (decide ((a0_3.n : Int) = 0))
              else
                some false
            else
              some false
          else
            some false) fun v3_1 =>
  Option.bind (L.run (sort_shaped_b0 L rec_sort_shaped H a0_0 a0_1 a0_2 a0_3) (v3_1, 0)) fun o => match o with
  | .inl (v3_11, _) =>
    some v3_11
  | .inr r => some r

noncomputable def fam_sort_shaped (L : LC) (n : Nat) : (AH → Int → Int → ByteArray → Sl3 → Option Bool) := Nat.rec (motive := fun _ => (AH → Int → Int → ByteArray → Sl3 → Option Bool)) (fun _ _ _ _ _ => none) (fun _ p => sort_shaped_body L p) n

noncomputable def sort_shaped (L : LC) (H : AH) (a0_0 : Int) (a0_1 : Int) (a0_2 : ByteArray) (a0_3 : Sl3) : Option Bool := (fam_sort_shaped L L.fuel) H a0_0 a0_1 a0_2 a0_3

theorem sort_shaped_b0_ok {E : Ent} {m : Nat} {L : LC} {rec_sort_shaped : AH → Int → Int → ByteArray → Sl3 → Option Bool} {H : AH} {a0_0 : Int} {a0_1 : Int} {a0_2 : ByteArray} {a0_3 : Sl3} (hrec_sort_shaped : ∀ (m : Nat) (H : AH) (a0_0 : Int) (a0_1 : Int) (a0_2 : ByteArray) (a0_3 : Sl3) (r : Bool), rec_sort_shaped H a0_0 a0_1 a0_2 a0_3 = some r → CallS Tryd.prog (NE.plain 1000) m 91 #[(Value.agg #[(Value.int .i64 a0_0), (Value.int .i64 a0_1), (Value.string a0_2), (Sl3.v a0_3)])] H (sort_shaped_enc r) (sort_shaped_hp H r)) : ∀ s o, sort_shaped_b0 L rec_sort_shaped H a0_0 a0_1 a0_2 a0_3 s = some o →
    WS Tryd.prog (NE.plain 1000) m E Tryd.f91.ntmps (cfst (cfst (csnd (cfst (csnd (csnd (csnd B91))))))) (sort_shaped_b0_kn L rec_sort_shaped H a0_0 a0_1 a0_2 a0_3 s) (sort_shaped_b0_ls L rec_sort_shaped H a0_0 a0_1 a0_2 a0_3 s) ((fun _ => H) s) (lpS Tryd.prog (NE.plain 1000) m E Tryd.f91.ntmps (sort_shaped_b0_kn L rec_sort_shaped H a0_0 a0_1 a0_2 a0_3) (sort_shaped_b0_ls L rec_sort_shaped H a0_0 a0_1 a0_2 a0_3) (fun _ => H) 1 (fun r => RT Tryd.prog (NE.plain 1000) m E Tryd.f91 (sort_shaped_enc r) (sort_shaped_hp H r)) o) := by
  rintro ⟨v3_5, v82_6⟩ o h
  unfold sort_shaped_b0 at h
  try dsimp only at h
  refine WS.sq (WS.rg (RS.mS 1 [(83, .val (Value.bool (decide (v82_6 < (a0_3.n : Int)))))] (RS.dn (WS.nxt (WS.sq ?_)))))
  rcases ite_some h with ⟨hp, h⟩ | ⟨hp, h⟩
  · refine WS.fx 83 true (decide_eq_true hp) (WS.cT (WS.sk (WS.nxt ?_)))
    obtain ⟨v3_7, hx, h⟩ := bind_some h
    refine WS.sq ?_
    refine WS.join ([(3, .val (Value.bool v3_7)), (80, .val (Sl3.v a0_3)), (81, .val (Value.int .i64 (a0_3.n : Int))), (82, .val (Value.int .i64 v82_6))]) ([some (28, [(Value.int .i64 a0_0), (Value.int .i64 a0_1), (Value.string a0_2), (Sl3.v a0_3)])]) H ?_ (fun a w hs => WS.nxt ?_ a w hs)
    · clear h; rename _ => h
      refine WS.bk 2 (WS.sq (WS.rg ?_))
      obtain ⟨p8, hx, h⟩ := bind_some h
      refine RS.o (H' := H) (some 84) (Value.pointer (some p8)) (Abs.run_idx (s := a0_3) (k := .i64) (t := 26) (e := 28) (x := .tmp 80) (y := .tmp 82) (by kernel_rfl) (by kernel_rfl) (by kernel_rfl) (by kernel_rfl) (by kernel_rfl) hx) ?_
      obtain ⟨x9_0, hx0, h⟩ := bind_some h
      obtain ⟨x9_1, hx1, h⟩ := bind_some h
      obtain ⟨x9_2, hx2, h⟩ := bind_some h
      obtain ⟨x9_3, hx3, h⟩ := bind_some h
      refine RS.o (H' := H) (some 85) (Value.agg #[(Value.int .i64 x9_0), (Value.int .i64 x9_1), (Value.string x9_2), (Sl3.v x9_3)]) (Abs.run_loadAg (t := 28) (x := .tmp 84) (a := p8) (k := 4) (by kernel_rfl) (by kernel_rfl) (by kernel_rfl) (by kernel_rfl) (rdc_cons (rd_cell hx0 deI_inv) (rdc_cons (rd_cell hx1 deI_inv) (rdc_cons (rd_cell hx2 deS_inv) (rdc_cons (rd_cell hx3 deSl_inv) rdc_nil))))) (RS.mL 2 [(5, .loc 1 0)] ([some (28, [(Value.int .i64 a0_0), (Value.int .i64 a0_1), (Value.string a0_2), (Sl3.v a0_3)]), some (28, [(Value.int .i64 x9_0), (Value.int .i64 x9_1), (Value.string x9_2), (Sl3.v x9_3)])]) (RS.dn (WS.nxt (WS.rg (RS.mS 2 [(87, .val (Value.bool v3_5)), (86, .val (Value.bool v3_5))] ?_)))))
      rcases ite_some h with ⟨hp, h⟩ | ⟨hp, h⟩
      · refine RS.fx 87 true hp (RS.mS 1 [(88, .val (Value.agg #[(Value.int .i64 x9_0), (Value.int .i64 x9_1), (Value.string x9_2), (Sl3.v x9_3)]))] ?_)
        obtain ⟨x10, hx, h⟩ := bind_some h
        refine RS.cl (some 89) (v := (Value.bool x10)) 91 #[(Value.agg #[(Value.int .i64 x9_0), (Value.int .i64 x9_1), (Value.string x9_2), (Sl3.v x9_3)])] (hrec_sort_shaped _ _ _ _ _ _ _ hx) (RS.mS 2 [(3, .val (Value.bool x10)), (90, .val (Value.bool x10))] (RS.dn ?_))
        cases h
        exact fun a w hs => bkN ((jsN (hs.sb 1)))
      · refine RS.fx 87 false (b_not hp) (RS.mS 4 [(3, .val (Value.bool false)), (90, .val (Value.bool false)), (89, .val undef), (88, .val undef)] (RS.dn ?_))
        cases h
        exact fun a w hs => bkN ((jsN (hs.sb 1)))
    · clear hx
      refine WS.rg (RS.mS 2 [(82, .val (Value.int .i64 (IntKind.i64.wrap (v82_6 + 1)))), (91, .val (Value.int .i64 (IntKind.i64.wrap (v82_6 + 1))))] (RS.dn ?_))
      cases h
      exact fun a w hs => lsN rfl (hs.sb 1)
  · refine WS.fx 83 false (decide_eq_false hp) (WS.cF (WS.ex 1 ?_))
    cases h
    exact fun a w hs => sqE (lsB rfl (hs.sb 1))

theorem sort_shaped_body_ok {L : LC} {rec_sort_shaped : AH → Int → Int → ByteArray → Sl3 → Option Bool} (hrec_sort_shaped : ∀ (m : Nat) (H : AH) (a0_0 : Int) (a0_1 : Int) (a0_2 : ByteArray) (a0_3 : Sl3) (r : Bool), rec_sort_shaped H a0_0 a0_1 a0_2 a0_3 = some r → CallS Tryd.prog (NE.plain 1000) m 91 #[(Value.agg #[(Value.int .i64 a0_0), (Value.int .i64 a0_1), (Value.string a0_2), (Sl3.v a0_3)])] H (sort_shaped_enc r) (sort_shaped_hp H r)) {m : Nat} {H : AH} {a0_0 : Int} {a0_1 : Int} {a0_2 : ByteArray} {a0_3 : Sl3} {r : Bool} (h : sort_shaped_body L rec_sort_shaped H a0_0 a0_1 a0_2 a0_3 = some r) :
    CallS Tryd.prog (NE.plain 1000) m 91 #[(Value.agg #[(Value.int .i64 a0_0), (Value.int .i64 a0_1), (Value.string a0_2), (Sl3.v a0_3)])] H (sort_shaped_enc r) (sort_shaped_hp H r) := by
  refine CallS.mk (args := [(Value.agg #[(Value.int .i64 a0_0), (Value.int .i64 a0_1), (Value.string a0_2), (Sl3.v a0_3)])]) Tryd.func91 (B := B91) (by kernel_rfl) (fun E _ => ?_)
  unfold sort_shaped_body at h
  refine WS.sq (WS.rg (RS.mL 2 [(2, .val (Value.bool false)), (1, .loc 0 0)] ([some (28, [(Value.int .i64 a0_0), (Value.int .i64 a0_1), (Value.string a0_2), (Sl3.v a0_3)])]) (RS.dn (WS.nxt (WS.sq (WS.rg (RS.mS 1 [(3, .val (Value.bool false))] (RS.dn (WS.nxt ?_)))))))))
  obtain ⟨v3_1, hx, h⟩ := bind_some h
  refine WS.sq ?_
  refine WS.join ([(3, .val (Value.bool v3_1)), (1, .loc 0 0)]) ([some (28, [(Value.int .i64 a0_0), (Value.int .i64 a0_1), (Value.string a0_2), (Sl3.v a0_3)])]) H ?_ (fun a w hs => WS.nxt ?_ a w hs)
  · clear h; rename _ => h
    refine WS.sq (WS.rg (RS.mS 2 [(7, .val (Value.int .i64 a0_0)), (6, .loc 0 0)] (RS.dn (WS.nxt (WS.bk 0 ?_)))))
    obtain ⟨v8_2, hx, h⟩ := bind_some h
    refine WS.sq ?_
    refine WS.join ([(8, .val (Value.bool v8_2)), (1, .loc 0 0), (3, .val (Value.bool false)), (7, .val (Value.int .i64 a0_0))]) ([some (28, [(Value.int .i64 a0_0), (Value.int .i64 a0_1), (Value.string a0_2), (Sl3.v a0_3)])]) H ?_ (fun a w hs => WS.nxt ?_ a w hs)
    · clear h; rename _ => h
      refine WS.sq (WS.rg (RS.mS 2 [(8, .val (Value.bool (decide (a0_0 = 1)))), (9, .val (Value.bool (decide (a0_0 = 1))))] (RS.dn (WS.nxt ?_))))
      rcases ite_some h with ⟨hp, h⟩ | ⟨hp, h⟩
      · refine WS.fx 8 true (decide_eq_true hp) (WS.cT (WS.sk ?_))
        cases h
        exact fun a w hs => (jsN (hs.sb 1))
      · refine WS.fx 8 false (decide_eq_false hp) (WS.cF (WS.rg (RS.mS 2 [(8, .val (Value.bool (decide (a0_0 = 2)))), (10, .val (Value.bool (decide (a0_0 = 2))))] (RS.dn ?_))))
        cases h
        exact fun a w hs => (jsN (hs.sb 1))
    · clear hx
      rcases ite_some h with ⟨hp, h⟩ | ⟨hp, h⟩
      · refine WS.fx 8 true hp (WS.cT (WS.rg (RS.mS 4 [(14, .val (Value.bool (decide (a0_1 = 0)))), (13, .val (Value.bool (decide (a0_1 = 0)))), (12, .val (Value.int .i64 a0_1)), (11, .loc 0 1)] ?_)))
        rcases ite_some h with ⟨hp, h⟩ | ⟨hp, h⟩
        · refine RS.fx 14 true (decide_eq_true hp) (RS.mS 5 [(19, .val (Value.bool (a0_2.toList == (⟨#[]⟩ : ByteArray).toList))), (18, .val (Value.bool (a0_2.toList == (⟨#[]⟩ : ByteArray).toList))), (17, .val (Value.bool (a0_2.toList == (⟨#[]⟩ : ByteArray).toList))), (16, .val (Value.string a0_2)), (15, .loc 0 2)] ?_)
          rcases ite_some h with ⟨hp, h⟩ | ⟨hp, h⟩
          · refine RS.fx 19 true hp (RS.mS 6 [(3, .val (Value.bool (decide ((a0_3.n : Int) = 0)))), (24, .val (Value.bool (decide ((a0_3.n : Int) = 0)))), (23, .val (Value.bool (decide ((a0_3.n : Int) = 0)))), (22, .val (Value.int .i64 (a0_3.n : Int))), (21, .val (Sl3.v a0_3)), (20, .loc 0 3)] (RS.dn ?_))
            cases h
            exact fun a w hs => bkN ((jsN (hs.sb 1)))
          · refine RS.fx 19 false (b_not hp) (RS.mS 6 [(3, .val (Value.bool false)), (24, .val (Value.bool false)), (23, .val undef), (22, .val undef), (21, .val undef), (20, .val undef)] (RS.dn ?_))
            cases h
            exact fun a w hs => bkN ((jsN (hs.sb 1)))
        · refine RS.fx 14 false (decide_eq_false hp) (RS.mS 11 [(3, .val (Value.bool false)), (24, .val (Value.bool false)), (23, .val undef), (22, .val undef), (21, .val undef), (20, .val undef), (19, .val (Value.bool false)), (18, .val (Value.bool false)), (17, .val undef), (16, .val undef), (15, .val undef)] (RS.dn ?_))
          cases h
          exact fun a w hs => bkN ((jsN (hs.sb 1)))
      · refine WS.fx 8 false (b_not hp) (WS.cF (WS.sq (WS.rg (RS.mS 2 [(25, .val (Value.bool (decide (a0_0 = 3)))), (26, .val (Value.bool (decide (a0_0 = 3))))] (RS.dn (WS.nxt ?_))))))
        rcases ite_some h with ⟨hp, h⟩ | ⟨hp, h⟩
        · refine WS.fx 25 true (decide_eq_true hp) (WS.cT (WS.rg (RS.mS 4 [(30, .val (Value.bool (decide (a0_1 ≥ 1)))), (29, .val (Value.bool (decide (a0_1 ≥ 1)))), (28, .val (Value.int .i64 a0_1)), (27, .loc 0 1)] ?_)))
          rcases ite_some h with ⟨hp, h⟩ | ⟨hp, h⟩
          · refine RS.fx 30 true (decide_eq_true hp) (RS.mS 5 [(35, .val (Value.bool (decide (a0_1 ≤ 4096)))), (34, .val (Value.bool (decide (a0_1 ≤ 4096)))), (33, .val (Value.bool (decide (a0_1 ≤ 4096)))), (32, .val (Value.int .i64 a0_1)), (31, .loc 0 1)] ?_)
            rcases ite_some h with ⟨hp, h⟩ | ⟨hp, h⟩
            · refine RS.fx 35 true (decide_eq_true hp) (RS.mS 5 [(40, .val (Value.bool (a0_2.toList == (⟨#[]⟩ : ByteArray).toList))), (39, .val (Value.bool (a0_2.toList == (⟨#[]⟩ : ByteArray).toList))), (38, .val (Value.bool (a0_2.toList == (⟨#[]⟩ : ByteArray).toList))), (37, .val (Value.string a0_2)), (36, .loc 0 2)] ?_)
              rcases ite_some h with ⟨hp, h⟩ | ⟨hp, h⟩
              · refine RS.fx 40 true hp (RS.mS 6 [(3, .val (Value.bool (decide ((a0_3.n : Int) = 0)))), (45, .val (Value.bool (decide ((a0_3.n : Int) = 0)))), (44, .val (Value.bool (decide ((a0_3.n : Int) = 0)))), (43, .val (Value.int .i64 (a0_3.n : Int))), (42, .val (Sl3.v a0_3)), (41, .loc 0 3)] (RS.dn ?_))
                cases h
                exact fun a w hs => bkN ((jsN (hs.sb 1)))
              · refine RS.fx 40 false (b_not hp) (RS.mS 6 [(3, .val (Value.bool false)), (45, .val (Value.bool false)), (44, .val undef), (43, .val undef), (42, .val undef), (41, .val undef)] (RS.dn ?_))
                cases h
                exact fun a w hs => bkN ((jsN (hs.sb 1)))
            · refine RS.fx 35 false (decide_eq_false hp) (RS.mS 11 [(3, .val (Value.bool false)), (45, .val (Value.bool false)), (44, .val undef), (43, .val undef), (42, .val undef), (41, .val undef), (40, .val (Value.bool false)), (39, .val (Value.bool false)), (38, .val undef), (37, .val undef), (36, .val undef)] (RS.dn ?_))
              cases h
              exact fun a w hs => bkN ((jsN (hs.sb 1)))
          · refine RS.fx 30 false (decide_eq_false hp) (RS.mS 16 [(3, .val (Value.bool false)), (45, .val (Value.bool false)), (44, .val undef), (43, .val undef), (42, .val undef), (41, .val undef), (40, .val (Value.bool false)), (39, .val (Value.bool false)), (38, .val undef), (37, .val undef), (36, .val undef), (35, .val (Value.bool false)), (34, .val (Value.bool false)), (33, .val undef), (32, .val undef), (31, .val undef)] (RS.dn ?_))
            cases h
            exact fun a w hs => bkN ((jsN (hs.sb 1)))
        · refine WS.fx 25 false (decide_eq_false hp) (WS.cF (WS.sq (WS.rg (RS.mS 2 [(46, .val (Value.bool (decide (a0_0 = 4)))), (47, .val (Value.bool (decide (a0_0 = 4))))] (RS.dn (WS.nxt ?_))))))
          rcases ite_some h with ⟨hp, h⟩ | ⟨hp, h⟩
          · refine WS.fx 46 true (decide_eq_true hp) (WS.cT (WS.rg (RS.mS 4 [(51, .val (Value.bool (decide (a0_1 = 0)))), (50, .val (Value.bool (decide (a0_1 = 0)))), (49, .val (Value.int .i64 a0_1)), (48, .loc 0 1)] ?_)))
            rcases ite_some h with ⟨hp, h⟩ | ⟨hp, h⟩
            · refine RS.fx 51 true (decide_eq_true hp) (RS.mS 5 [(56, .val (Value.bool (a0_2.toList == (⟨#[]⟩ : ByteArray).toList))), (55, .val (Value.bool (a0_2.toList == (⟨#[]⟩ : ByteArray).toList))), (54, .val (Value.bool (a0_2.toList == (⟨#[]⟩ : ByteArray).toList))), (53, .val (Value.string a0_2)), (52, .loc 0 2)] ?_)
              rcases ite_some h with ⟨hp, h⟩ | ⟨hp, h⟩
              · refine RS.fx 56 true hp (RS.mS 6 [(3, .val (Value.bool (decide ((a0_3.n : Int) = 2)))), (61, .val (Value.bool (decide ((a0_3.n : Int) = 2)))), (60, .val (Value.bool (decide ((a0_3.n : Int) = 2)))), (59, .val (Value.int .i64 (a0_3.n : Int))), (58, .val (Sl3.v a0_3)), (57, .loc 0 3)] (RS.dn ?_))
                cases h
                exact fun a w hs => bkN ((jsN (hs.sb 1)))
              · refine RS.fx 56 false (b_not hp) (RS.mS 6 [(3, .val (Value.bool false)), (61, .val (Value.bool false)), (60, .val undef), (59, .val undef), (58, .val undef), (57, .val undef)] (RS.dn ?_))
                cases h
                exact fun a w hs => bkN ((jsN (hs.sb 1)))
            · refine RS.fx 51 false (decide_eq_false hp) (RS.mS 11 [(3, .val (Value.bool false)), (61, .val (Value.bool false)), (60, .val undef), (59, .val undef), (58, .val undef), (57, .val undef), (56, .val (Value.bool false)), (55, .val (Value.bool false)), (54, .val undef), (53, .val undef), (52, .val undef)] (RS.dn ?_))
              cases h
              exact fun a w hs => bkN ((jsN (hs.sb 1)))
          · refine WS.fx 46 false (decide_eq_false hp) (WS.cF ?_)
            obtain ⟨v62_3, hx, h⟩ := bind_some h
            refine WS.sq ?_
            refine WS.join ([(62, .val (Value.bool v62_3)), (1, .loc 0 0), (3, .val (Value.bool false))]) ([some (28, [(Value.int .i64 a0_0), (Value.int .i64 a0_1), (Value.string a0_2), (Sl3.v a0_3)])]) H ?_ (fun a w hs => WS.nxt ?_ a w hs)
            · clear h; rename _ => h
              refine WS.sq (WS.rg (RS.mS 2 [(62, .val (Value.bool (decide (a0_0 = 5)))), (63, .val (Value.bool (decide (a0_0 = 5))))] (RS.dn (WS.nxt ?_))))
              rcases ite_some h with ⟨hp, h⟩ | ⟨hp, h⟩
              · refine WS.fx 62 true (decide_eq_true hp) (WS.cT (WS.sk ?_))
                cases h
                exact fun a w hs => (jsN (hs.sb 1))
              · refine WS.fx 62 false (decide_eq_false hp) (WS.cF (WS.rg (RS.mS 2 [(62, .val (Value.bool (decide (a0_0 = 6)))), (64, .val (Value.bool (decide (a0_0 = 6))))] (RS.dn ?_))))
                cases h
                exact fun a w hs => (jsN (hs.sb 1))
            · clear hx
              rcases ite_some h with ⟨hp, h⟩ | ⟨hp, h⟩
              · refine WS.fx 62 true hp (WS.cT (WS.rg (RS.mS 4 [(68, .val (Value.bool (decide (a0_1 = 0)))), (67, .val (Value.bool (decide (a0_1 = 0)))), (66, .val (Value.int .i64 a0_1)), (65, .loc 0 1)] ?_)))
                rcases ite_some h with ⟨hp, h⟩ | ⟨hp, h⟩
                · refine RS.fx 68 true (decide_eq_true hp) (RS.mS 2 [(70, .val (Value.string a0_2)), (69, .loc 0 2)] ?_)
                  obtain ⟨x4, hx, h⟩ := bind_some h
                  refine RS.cl (some 71) (v := (Value.bool x4)) 13 #[(Value.string a0_2)] (sort_Name_ok hx) (RS.mS 2 [(73, .val (Value.bool x4)), (72, .val (Value.bool x4))] ?_)
                  rcases ite_some h with ⟨hp, h⟩ | ⟨hp, h⟩
                  · refine RS.fx 73 true hp (RS.mS 6 [(3, .val (Value.bool (decide ((a0_3.n : Int) = 0)))), (78, .val (Value.bool (decide ((a0_3.n : Int) = 0)))), (77, .val (Value.bool (decide ((a0_3.n : Int) = 0)))), (76, .val (Value.int .i64 (a0_3.n : Int))), (75, .val (Sl3.v a0_3)), (74, .loc 0 3)] (RS.dn ?_))
                    cases h
                    exact fun a w hs => bkN ((jsN (hs.sb 1)))
                  · refine RS.fx 73 false (b_not hp) (RS.mS 6 [(3, .val (Value.bool false)), (78, .val (Value.bool false)), (77, .val undef), (76, .val undef), (75, .val undef), (74, .val undef)] (RS.dn ?_))
                    cases h
                    exact fun a w hs => bkN ((jsN (hs.sb 1)))
                · refine RS.fx 68 false (decide_eq_false hp) (RS.mS 11 [(3, .val (Value.bool false)), (78, .val (Value.bool false)), (77, .val undef), (76, .val undef), (75, .val undef), (74, .val undef), (73, .val (Value.bool false)), (72, .val (Value.bool false)), (71, .val undef), (70, .val undef), (69, .val undef)] (RS.dn ?_))
                  cases h
                  exact fun a w hs => bkN ((jsN (hs.sb 1)))
              · refine WS.fx 62 false (b_not hp) (WS.cF (WS.sk ?_))
                cases h
                exact fun a w hs => bkN ((jsN (hs.sb 1)))
  · clear hx
    refine WS.sq (WS.sq (WS.rg (RS.mS 4 [(82, .val (Value.int .i64 0)), (81, .val (Value.int .i64 (a0_3.n : Int))), (80, .val (Sl3.v a0_3)), (79, .loc 0 3)] (RS.dn (WS.nxt (WS.bk 1 ?_))))))
    obtain ⟨o, hl, h⟩ := bind_some h
    rcases o with ⟨v3_11, v82_12⟩ | r
    · try dsimp only at h
      refine WS.lI (sort_shaped_b0_ok (L := L) (E := E) (m := m) (H := H) hrec_sort_shaped) (L.ok hl) 1 ?_
      clear hl
      refine fun a w hs => bkE ((WS.nxt ?_ a w hs))
      refine WS.sq (WS.rg (RS.mS 2 [(2, .val (Value.bool v3_11)), (92, .val (Value.bool v3_11))] (RS.dn (WS.nxt (WS.rt ?_)))))
      cases h
      exact fun a w hs => rtR (rS hs)
    · try dsimp only at h
      refine WS.lR (sort_shaped_b0_ok (L := L) (E := E) (m := m) (H := H) hrec_sort_shaped) (L.ok hl) 1 ?_
      cases h
      exact fun a w hq => bkR (sqR (rtR hq))

theorem fam_sort_shaped_ok {L : LC} : ∀ n, (∀ (m : Nat) (H : AH) (a0_0 : Int) (a0_1 : Int) (a0_2 : ByteArray) (a0_3 : Sl3) (r : Bool), ((fam_sort_shaped L n)) H a0_0 a0_1 a0_2 a0_3 = some r → CallS Tryd.prog (NE.plain 1000) m 91 #[(Value.agg #[(Value.int .i64 a0_0), (Value.int .i64 a0_1), (Value.string a0_2), (Sl3.v a0_3)])] H (sort_shaped_enc r) (sort_shaped_hp H r)) := by
  intro n
  induction n with
  | zero => exact (fun _ _ _ _ _ _ _ h => (Option.some_ne_none _ h.symm).elim)
  | succ n ih => exact (fun _ _ _ _ _ _ _ h => sort_shaped_body_ok (L := L) ih h)

theorem sort_shaped_ok {L : LC} {m : Nat} {H : AH} {a0_0 : Int} {a0_1 : Int} {a0_2 : ByteArray} {a0_3 : Sl3} {r : Bool} (h : sort_shaped L H a0_0 a0_1 a0_2 a0_3 = some r) :
    CallS Tryd.prog (NE.plain 1000) m 91 #[(Value.agg #[(Value.int .i64 a0_0), (Value.int .i64 a0_1), (Value.string a0_2), (Sl3.v a0_3)])] H (sort_shaped_enc r) (sort_shaped_hp H r) :=
  (fam_sort_shaped_ok _) _ _ _ _ _ _ _ h

def sort_wrong_enc : Int → Value
  | r0 => (Value.int .i64 r0)

def sort_wrong_hp (H : AH) : Int → AH := fun _ => H

noncomputable def B57 : Code := (Tryd.f57.body).getD .skip

noncomputable def sort_wrong (L : LC) (H : AH) (a0_0 : Int) (a0_1 : Int) (a0_2 : ByteArray) (a0_3 : Sl3) : Option Int :=
  Option.bind (sort_parts L H a0_0 a0_1 a0_2 a0_3 1) fun (_, x2) =>
  if x2 = true then
    Option.bind (sort_shaped L H a0_0 a0_1 a0_2 a0_3) fun x3 =>
    if x3 = true then
      some 0
    else
      some 40
  else
    some 3

theorem sort_wrong_ok {L : LC} {m : Nat} {H : AH} {a0_0 : Int} {a0_1 : Int} {a0_2 : ByteArray} {a0_3 : Sl3} {r : Int} (h : sort_wrong L H a0_0 a0_1 a0_2 a0_3 = some r) :
    CallS Tryd.prog (NE.plain 1000) m 57 #[(Value.agg #[(Value.int .i64 a0_0), (Value.int .i64 a0_1), (Value.string a0_2), (Sl3.v a0_3)])] H (sort_wrong_enc r) (sort_wrong_hp H r) := by
  refine CallS.mk (args := [(Value.agg #[(Value.int .i64 a0_0), (Value.int .i64 a0_1), (Value.string a0_2), (Sl3.v a0_3)])]) Tryd.func57 (B := B57) (by kernel_rfl) (fun E _ => ?_)
  unfold sort_wrong at h
  refine WS.sq (WS.rg (RS.mL 2 [(2, .val (Value.int .i64 0)), (1, .loc 0 0)] ([some (28, [(Value.int .i64 a0_0), (Value.int .i64 a0_1), (Value.string a0_2), (Sl3.v a0_3)])]) (RS.dn (WS.nxt (WS.sq (WS.sq (WS.rg (RS.mS 1 [(6, .val (Value.agg #[(Value.int .i64 a0_0), (Value.int .i64 a0_1), (Value.string a0_2), (Sl3.v a0_3)]))] ?_))))))))
  obtain ⟨⟨x1, x2⟩, hx, h⟩ := bind_some h
  try dsimp only at h
  refine RS.cl (some 7) (v := (Value.tuple #[(Value.int .i64 x1), (Value.bool x2)])) 90 #[(Value.agg #[(Value.int .i64 a0_0), (Value.int .i64 a0_1), (Value.string a0_2), (Sl3.v a0_3)]), (Value.int .i64 1)] (sort_parts_ok hx) (RS.mS 5 [(4, .val (Value.bool x2)), (3, .val (Value.int .i64 x1)), (9, .val (Value.bool x2)), (8, .val (Value.int .i64 x1)), (5, .val (Value.tuple #[(Value.int .i64 x1), (Value.bool x2)]))] (RS.dn (WS.nxt (WS.sq (WS.rg (RS.mS 2 [(11, .val (Value.bool (!x2))), (10, .val (Value.bool x2))] (RS.dn (WS.nxt ?_))))))))
  rcases ite_some h with ⟨hp, h⟩ | ⟨hp, h⟩
  · refine WS.fx 11 false (nb_not hp) (WS.cF (WS.sk (WS.nxt (WS.sq (WS.sq (WS.rg (RS.mS 1 [(12, .val (Value.agg #[(Value.int .i64 a0_0), (Value.int .i64 a0_1), (Value.string a0_2), (Sl3.v a0_3)]))] ?_)))))))
    obtain ⟨x3, hx, h⟩ := bind_some h
    refine RS.cl (some 13) (v := (Value.bool x3)) 91 #[(Value.agg #[(Value.int .i64 a0_0), (Value.int .i64 a0_1), (Value.string a0_2), (Sl3.v a0_3)])] (sort_shaped_ok hx) (RS.mS 1 [(14, .val (Value.bool (!x3)))] (RS.dn (WS.nxt ?_)))
    rcases ite_some h with ⟨hp, h⟩ | ⟨hp, h⟩
    · refine WS.fx 14 false (nb_not hp) (WS.cF (WS.sk (WS.nxt (WS.sq (WS.rg (RS.mS 1 [(2, .val (Value.int .i64 0))] (RS.dn (WS.nxt (WS.rt ?_)))))))))
      cases h
      exact fun a w hs => rtR (rS hs)
    · refine WS.fx 14 true (nb_not' hp) (WS.cT (WS.sq (WS.rg (RS.mS 1 [(2, .val (Value.int .i64 40))] (RS.dn (WS.nxt (WS.rt ?_)))))))
      cases h
      exact fun a w hs => sqR (rtR (rS hs))
  · refine WS.fx 11 true (nb_not' hp) (WS.cT (WS.sq (WS.rg (RS.mS 1 [(2, .val (Value.int .i64 3))] (RS.dn (WS.nxt (WS.rt ?_)))))))
    cases h
    exact fun a w hs => sqR (rtR (rS hs))

def sort_book_known_enc : Bool → Value
  | r0 => (Value.bool r0)

def sort_book_known_hp (H : AH) : Bool → AH := fun _ => H

noncomputable def B67 : Code := (Tryd.f67.body).getD .skip

noncomputable def sort_book_known_b0 (_L : LC) (rec_sort_book_known : AH → (Option Addr) → Int → Int → ByteArray → Sl3 → Option Bool) (H : AH) (a0 : Option Addr) (_a1_0 : Int) (_a1_1 : Int) (_a1_2 : ByteArray) (a1_3 : Sl3) : Int → Option (Lp Int Bool) := fun v34_6 =>
  if v34_6 < (a1_3.n : Int) then
    Option.bind (idxA 4 a1_3 v34_6) fun p7 =>
    Option.bind (rd (deI .i64) H (Addr.add p7 0)) fun x8_0 =>
    Option.bind (rd (deI .i64) H (Addr.add p7 1)) fun x8_1 =>
    Option.bind (rd deS H (Addr.add p7 2)) fun x8_2 =>
    Option.bind (rd deSl H (Addr.add p7 3)) fun x8_3 =>
    Option.bind (rec_sort_book_known H a0 x8_0 x8_1 x8_2 x8_3) fun x9 =>
    if x9 = true then
      some (.next (IntKind.i64.wrap (v34_6 + 1)))
    else
      some (.ret false)
  else
    some (.brk v34_6)

def sort_book_known_b0_kn (_L : LC) (_rec_sort_book_known : AH → (Option Addr) → Int → Int → ByteArray → Sl3 → Option Bool) (_H : AH) (a0 : Option Addr) (_a1_0 : Int) (_a1_1 : Int) (_a1_2 : ByteArray) (a1_3 : Sl3) : Int → KN := fun v34_6 => [(34, .val (Value.int .i64 v34_6)), (0, .val (Value.pointer a0)), (32, .val (Sl3.v a1_3)), (33, .val (Value.int .i64 (a1_3.n : Int)))]

def sort_book_known_b0_ls (_L : LC) (_rec_sort_book_known : AH → (Option Addr) → Int → Int → ByteArray → Sl3 → Option Bool) (_H : AH) (_a0 : Option Addr) (a1_0 : Int) (a1_1 : Int) (a1_2 : ByteArray) (a1_3 : Sl3) : Int → Lcs := fun _ => [some (28, [(Value.int .i64 a1_0), (Value.int .i64 a1_1), (Value.string a1_2), (Sl3.v a1_3)])]

noncomputable def sort_book_known_body (L : LC) (rec_sort_book_known : AH → (Option Addr) → Int → Int → ByteArray → Sl3 → Option Bool) (H : AH) (a0 : Option Addr) (a1_0 : Int) (a1_1 : Int) (a1_2 : ByteArray) (a1_3 : Sl3) : Option Bool :=
  Option.bind (α := Bool) (
    if a1_0 = 5 then
      some true
    else
      some (decide (a1_0 = 6))) fun v16_1 =>
  if v16_1 = true then
    Option.bind a0 fun q2 =>
    Option.bind (rd deM H (Addr.add q2 3)) fun x3 =>
    Option.bind (lkM Tryd.prog 94 (deI .i64) H x3 (Value.agg #[(Value.int .i64 a1_0), (Value.string a1_2)])) fun (_, b5) =>
    some b5
  else
    Option.bind (L.run (sort_book_known_b0 L rec_sort_book_known H a0 a1_0 a1_1 a1_2 a1_3) 0) fun o => match o with
    | .inl _ =>
      some true
    | .inr r => some r

noncomputable def fam_sort_book_known (L : LC) (n : Nat) : (AH → (Option Addr) → Int → Int → ByteArray → Sl3 → Option Bool) := Nat.rec (motive := fun _ => (AH → (Option Addr) → Int → Int → ByteArray → Sl3 → Option Bool)) (fun _ _ _ _ _ _ => none) (fun _ p => sort_book_known_body L p) n

noncomputable def sort_book_known (L : LC) (H : AH) (a0 : Option Addr) (a1_0 : Int) (a1_1 : Int) (a1_2 : ByteArray) (a1_3 : Sl3) : Option Bool := (fam_sort_book_known L L.fuel) H a0 a1_0 a1_1 a1_2 a1_3

theorem sort_book_known_b0_ok {E : Ent} {m : Nat} {L : LC} {rec_sort_book_known : AH → (Option Addr) → Int → Int → ByteArray → Sl3 → Option Bool} {H : AH} {a0 : Option Addr} {a1_0 : Int} {a1_1 : Int} {a1_2 : ByteArray} {a1_3 : Sl3} (hrec_sort_book_known : ∀ (m : Nat) (H : AH) (a0 : Option Addr) (a1_0 : Int) (a1_1 : Int) (a1_2 : ByteArray) (a1_3 : Sl3) (r : Bool), rec_sort_book_known H a0 a1_0 a1_1 a1_2 a1_3 = some r → CallS Tryd.prog (NE.plain 1000) m 67 #[(Value.pointer a0), (Value.agg #[(Value.int .i64 a1_0), (Value.int .i64 a1_1), (Value.string a1_2), (Sl3.v a1_3)])] H (sort_book_known_enc r) (sort_book_known_hp H r)) : ∀ s o, sort_book_known_b0 L rec_sort_book_known H a0 a1_0 a1_1 a1_2 a1_3 s = some o →
    WS Tryd.prog (NE.plain 1000) m E Tryd.f67.ntmps (cfst (cfst (csnd (cfst (csnd (csnd B67)))))) (sort_book_known_b0_kn L rec_sort_book_known H a0 a1_0 a1_1 a1_2 a1_3 s) (sort_book_known_b0_ls L rec_sort_book_known H a0 a1_0 a1_1 a1_2 a1_3 s) ((fun _ => H) s) (lpS Tryd.prog (NE.plain 1000) m E Tryd.f67.ntmps (sort_book_known_b0_kn L rec_sort_book_known H a0 a1_0 a1_1 a1_2 a1_3) (sort_book_known_b0_ls L rec_sort_book_known H a0 a1_0 a1_1 a1_2 a1_3) (fun _ => H) 0 (fun r => RT Tryd.prog (NE.plain 1000) m E Tryd.f67 (sort_book_known_enc r) (sort_book_known_hp H r)) o) := by
  rintro v34_6 o h
  unfold sort_book_known_b0 at h
  try dsimp only at h
  refine WS.sq (WS.rg (RS.mS 1 [(35, .val (Value.bool (decide (v34_6 < (a1_3.n : Int)))))] (RS.dn (WS.nxt (WS.sq ?_)))))
  rcases ite_some h with ⟨hp, h⟩ | ⟨hp, h⟩
  · refine WS.fx 35 true (decide_eq_true hp) (WS.cT (WS.sk (WS.nxt (WS.sq (WS.bk 1 (WS.sq (WS.rg ?_)))))))
    obtain ⟨p7, hx, h⟩ := bind_some h
    refine RS.o (H' := H) (some 36) (Value.pointer (some p7)) (Abs.run_idx (s := a1_3) (k := .i64) (t := 26) (e := 28) (x := .tmp 32) (y := .tmp 34) (by kernel_rfl) (by kernel_rfl) (by kernel_rfl) (by kernel_rfl) (by kernel_rfl) hx) ?_
    obtain ⟨x8_0, hx0, h⟩ := bind_some h
    obtain ⟨x8_1, hx1, h⟩ := bind_some h
    obtain ⟨x8_2, hx2, h⟩ := bind_some h
    obtain ⟨x8_3, hx3, h⟩ := bind_some h
    refine RS.o (H' := H) (some 37) (Value.agg #[(Value.int .i64 x8_0), (Value.int .i64 x8_1), (Value.string x8_2), (Sl3.v x8_3)]) (Abs.run_loadAg (t := 28) (x := .tmp 36) (a := p7) (k := 4) (by kernel_rfl) (by kernel_rfl) (by kernel_rfl) (by kernel_rfl) (rdc_cons (rd_cell hx0 deI_inv) (rdc_cons (rd_cell hx1 deI_inv) (rdc_cons (rd_cell hx2 deS_inv) (rdc_cons (rd_cell hx3 deSl_inv) rdc_nil))))) (RS.mL 2 [(8, .loc 1 0)] ([some (28, [(Value.int .i64 a1_0), (Value.int .i64 a1_1), (Value.string a1_2), (Sl3.v a1_3)]), some (28, [(Value.int .i64 x8_0), (Value.int .i64 x8_1), (Value.string x8_2), (Sl3.v x8_3)])]) (RS.dn (WS.nxt (WS.sq (WS.rg (RS.mS 2 [(39, .val (Value.agg #[(Value.int .i64 x8_0), (Value.int .i64 x8_1), (Value.string x8_2), (Sl3.v x8_3)])), (38, .val (Value.pointer a0))] ?_))))))
    obtain ⟨x9, hx, h⟩ := bind_some h
    refine RS.cl (some 40) (v := (Value.bool x9)) 67 #[(Value.pointer a0), (Value.agg #[(Value.int .i64 x8_0), (Value.int .i64 x8_1), (Value.string x8_2), (Sl3.v x8_3)])] (hrec_sort_book_known _ _ _ _ _ _ _ _ hx) (RS.mS 1 [(41, .val (Value.bool (!x9)))] (RS.dn (WS.nxt ?_)))
    rcases ite_some h with ⟨hp, h⟩ | ⟨hp, h⟩
    · refine WS.fx 41 false (nb_not hp) (WS.cF (WS.sk ?_))
      refine fun a w hs => bkN ((WS.nxt ?_ a w hs))
      refine WS.rg (RS.mS 2 [(34, .val (Value.int .i64 (IntKind.i64.wrap (v34_6 + 1)))), (42, .val (Value.int .i64 (IntKind.i64.wrap (v34_6 + 1))))] (RS.dn ?_))
      cases h
      exact fun a w hs => lsN rfl (hs.sb 1)
    · refine WS.fx 41 true (nb_not' hp) (WS.cT (WS.sq (WS.rg (RS.mS 1 [(4, .val (Value.bool false))] (RS.dn (WS.nxt (WS.rt ?_)))))))
      cases h
      exact fun a w hs => bkR (sqR (lsR rfl (rS hs)))
  · refine WS.fx 35 false (decide_eq_false hp) (WS.cF (WS.ex 0 ?_))
    cases h
    exact fun a w hs => sqE (lsB rfl (hs.sb 1))

theorem sort_book_known_body_ok {L : LC} {rec_sort_book_known : AH → (Option Addr) → Int → Int → ByteArray → Sl3 → Option Bool} (hrec_sort_book_known : ∀ (m : Nat) (H : AH) (a0 : Option Addr) (a1_0 : Int) (a1_1 : Int) (a1_2 : ByteArray) (a1_3 : Sl3) (r : Bool), rec_sort_book_known H a0 a1_0 a1_1 a1_2 a1_3 = some r → CallS Tryd.prog (NE.plain 1000) m 67 #[(Value.pointer a0), (Value.agg #[(Value.int .i64 a1_0), (Value.int .i64 a1_1), (Value.string a1_2), (Sl3.v a1_3)])] H (sort_book_known_enc r) (sort_book_known_hp H r)) {m : Nat} {H : AH} {a0 : Option Addr} {a1_0 : Int} {a1_1 : Int} {a1_2 : ByteArray} {a1_3 : Sl3} {r : Bool} (h : sort_book_known_body L rec_sort_book_known H a0 a1_0 a1_1 a1_2 a1_3 = some r) :
    CallS Tryd.prog (NE.plain 1000) m 67 #[(Value.pointer a0), (Value.agg #[(Value.int .i64 a1_0), (Value.int .i64 a1_1), (Value.string a1_2), (Sl3.v a1_3)])] H (sort_book_known_enc r) (sort_book_known_hp H r) := by
  refine CallS.mk (args := [(Value.pointer a0), (Value.agg #[(Value.int .i64 a1_0), (Value.int .i64 a1_1), (Value.string a1_2), (Sl3.v a1_3)])]) Tryd.func67 (B := B67) (by kernel_rfl) (fun E _ => ?_)
  unfold sort_book_known_body at h
  refine WS.sq (WS.rg (RS.mL 2 [(4, .val (Value.bool false)), (3, .loc 0 0)] ([some (28, [(Value.int .i64 a1_0), (Value.int .i64 a1_1), (Value.string a1_2), (Sl3.v a1_3)])]) (RS.dn (WS.nxt (WS.sq ?_)))))
  obtain ⟨v16_1, hx, h⟩ := bind_some h
  refine WS.sq ?_
  refine WS.join ([(16, .val (Value.bool v16_1)), (0, .val (Value.pointer a0)), (3, .loc 0 0)]) ([some (28, [(Value.int .i64 a1_0), (Value.int .i64 a1_1), (Value.string a1_2), (Sl3.v a1_3)])]) H ?_ (fun a w hs => WS.nxt ?_ a w hs)
  · clear h; rename _ => h
    refine WS.rg (RS.mS 4 [(12, .val (Value.bool (decide (a1_0 = 5)))), (11, .val (Value.bool (decide (a1_0 = 5)))), (10, .val (Value.int .i64 a1_0)), (9, .loc 0 0)] ?_)
    rcases ite_some h with ⟨hp, h⟩ | ⟨hp, h⟩
    · refine RS.fx 12 true (decide_eq_true hp) (RS.mS 4 [(16, .val (Value.bool true)), (15, .val undef), (14, .val undef), (13, .val undef)] (RS.dn ?_))
      cases h
      exact fun a w hs => (jsN (hs.sb 1))
    · refine RS.fx 12 false (decide_eq_false hp) (RS.mS 4 [(16, .val (Value.bool (decide (a1_0 = 6)))), (15, .val (Value.bool (decide (a1_0 = 6)))), (14, .val (Value.int .i64 a1_0)), (13, .loc 0 0)] (RS.dn ?_))
      cases h
      exact fun a w hs => (jsN (hs.sb 1))
  · clear hx
    rcases ite_some h with ⟨hp, h⟩ | ⟨hp, h⟩
    · refine WS.fx 16 true hp (WS.cT (WS.sq ?_))
      refine WS.dr [0, 1, 2, 3, 4, 5, 6, 7, 8, 9] [0, 1, 3, 7, 0, 16, 0, 64, 240, 511, 1023, 2047, 2047, 4095, 16383] 15 (fun hcl => ?_)
      refine DA.tK 0 (some 18) (Value.pointer a0) ?_
      obtain ⟨q2, hx, hq2⟩ := bind_some h
      subst hx
      have h := hq2
      refine DA.tK 1 (some 19) (Value.pointer (some q2)) (DA.tK 2 (some 20) (Value.pointer (some (Addr.add q2 3))) ?_)
      obtain ⟨x3, hx, h⟩ := bind_some h
      refine DA.tD 3 (some 21) (Value.map x3) (Abs.det_load (t := 94) (x := .tmp 20) (a := (Addr.add q2 3)) (by kernel_rfl) (by kernel_rfl) (by kernel_rfl) (by kernel_rfl) (rd_cell hx deM_inv)) (DA.tL 4 (some 22) (.loc 0 0) (DA.tL 5 (some 23) (.val (Value.int .i64 a1_0)) (DA.tL 6 (some 24) (.loc 0 2) (DA.tL 7 (some 25) (.val (Value.string a1_2)) (DA.tK 8 (some 26) (Value.agg #[(Value.int .i64 a1_0), (Value.string a1_2)]) ?_)))))
      obtain ⟨⟨x4, b5⟩, hx, h⟩ := bind_some h
      try dsimp only at h
      refine DA.tD 9 (some 27) (Value.tuple #[(Value.int .i64 x4), (Value.bool b5)]) (Abs.det_look (t := 94) (x := .tmp 21) (y := .tmp 26) (mm := x3) (k := (Value.agg #[(Value.int .i64 a1_0), (Value.string a1_2)])) (by kernel_rfl) (by kernel_rfl) (by kernel_rfl) (by kernel_rfl) (lkM_eq hx deI_inv)) (DA.tP 10 (some 17) (Value.tuple #[(Value.int .i64 x4), (Value.bool b5)]) (DA.tP 11 (some 28) (Value.int .i64 x4) (DA.tP 12 (some 29) (Value.bool b5) (DA.tP 13 (some 5) (Value.int .i64 x4) (DA.tP 14 (some 6) (Value.bool b5) (DA.dn (WS.nxt (WS.sq (WS.rg ?_)))))))))
      refine RS.mS 2 [(4, .val (Value.bool b5)), (30, .val (Value.bool b5))] (RS.dn (WS.nxt (WS.rt ?_)))
      cases h
      exact fun a w hs => sqR (rtR (rS hs))
    · refine WS.fx 16 false (b_not hp) (WS.cF (WS.sk (WS.nxt (WS.sq (WS.sq (WS.rg (RS.mS 4 [(34, .val (Value.int .i64 0)), (33, .val (Value.int .i64 (a1_3.n : Int))), (32, .val (Sl3.v a1_3)), (31, .loc 0 3)] (RS.dn (WS.nxt ?_)))))))))
      refine WS.bk 0 ?_
      obtain ⟨o, hl, h⟩ := bind_some h
      rcases o with v34_10 | r
      · try dsimp only at h
        refine WS.lI (sort_book_known_b0_ok (L := L) (E := E) (m := m) (H := H) hrec_sort_book_known) (L.ok hl) 1 ?_
        clear hl
        refine fun a w hs => bkE ((WS.nxt ?_ a w hs))
        refine WS.sq (WS.rg (RS.mS 1 [(4, .val (Value.bool true))] (RS.dn (WS.nxt (WS.rt ?_)))))
        cases h
        exact fun a w hs => rtR (rS hs)
      · try dsimp only at h
        refine WS.lR (sort_book_known_b0_ok (L := L) (E := E) (m := m) (H := H) hrec_sort_book_known) (L.ok hl) 1 ?_
        cases h
        exact fun a w hq => bkR (sqR (rtR hq))

theorem fam_sort_book_known_ok {L : LC} : ∀ n, (∀ (m : Nat) (H : AH) (a0 : Option Addr) (a1_0 : Int) (a1_1 : Int) (a1_2 : ByteArray) (a1_3 : Sl3) (r : Bool), ((fam_sort_book_known L n)) H a0 a1_0 a1_1 a1_2 a1_3 = some r → CallS Tryd.prog (NE.plain 1000) m 67 #[(Value.pointer a0), (Value.agg #[(Value.int .i64 a1_0), (Value.int .i64 a1_1), (Value.string a1_2), (Sl3.v a1_3)])] H (sort_book_known_enc r) (sort_book_known_hp H r)) := by
  intro n
  induction n with
  | zero => exact (fun _ _ _ _ _ _ _ _ h => (Option.some_ne_none _ h.symm).elim)
  | succ n ih => exact (fun _ _ _ _ _ _ _ _ h => sort_book_known_body_ok (L := L) ih h)

theorem sort_book_known_ok {L : LC} {m : Nat} {H : AH} {a0 : Option Addr} {a1_0 : Int} {a1_1 : Int} {a1_2 : ByteArray} {a1_3 : Sl3} {r : Bool} (h : sort_book_known L H a0 a1_0 a1_1 a1_2 a1_3 = some r) :
    CallS Tryd.prog (NE.plain 1000) m 67 #[(Value.pointer a0), (Value.agg #[(Value.int .i64 a1_0), (Value.int .i64 a1_1), (Value.string a1_2), (Sl3.v a1_3)])] H (sort_book_known_enc r) (sort_book_known_hp H r) :=
  (fam_sort_book_known_ok _) _ _ _ _ _ _ _ _ h

def sort_book_check_enc : Int → Value
  | r0 => (Value.int .i64 r0)

def sort_book_check_hp (H : AH) : Int → AH := fun _ => H

noncomputable def B37 : Code := (Tryd.f37.body).getD .skip

noncomputable def sort_book_check (L : LC) (H : AH) (a0 : Option Addr) (a1_0 : Int) (a1_1 : Int) (a1_2 : ByteArray) (a1_3 : Sl3) : Option Int :=
  Option.bind (sort_wrong L H a1_0 a1_1 a1_2 a1_3) fun x1 =>
  if x1 = 0 then
    Option.bind (sort_book_known L H a0 a1_0 a1_1 a1_2 a1_3) fun x2 =>
    if x2 = true then
      some 0
    else
      some 40
  else
    some x1

theorem sort_book_check_ok {L : LC} {m : Nat} {H : AH} {a0 : Option Addr} {a1_0 : Int} {a1_1 : Int} {a1_2 : ByteArray} {a1_3 : Sl3} {r : Int} (h : sort_book_check L H a0 a1_0 a1_1 a1_2 a1_3 = some r) :
    CallS Tryd.prog (NE.plain 1000) m 37 #[(Value.pointer a0), (Value.agg #[(Value.int .i64 a1_0), (Value.int .i64 a1_1), (Value.string a1_2), (Sl3.v a1_3)])] H (sort_book_check_enc r) (sort_book_check_hp H r) := by
  refine CallS.mk (args := [(Value.pointer a0), (Value.agg #[(Value.int .i64 a1_0), (Value.int .i64 a1_1), (Value.string a1_2), (Sl3.v a1_3)])]) Tryd.func37 (B := B37) (by kernel_rfl) (fun E _ => ?_)
  unfold sort_book_check at h
  refine WS.sq (WS.rg (RS.mL 2 [(4, .val (Value.int .i64 0)), (3, .loc 0 0)] ([some (28, [(Value.int .i64 a1_0), (Value.int .i64 a1_1), (Value.string a1_2), (Sl3.v a1_3)])]) (RS.dn (WS.nxt (WS.sq (WS.sq (WS.rg (RS.mS 1 [(6, .val (Value.agg #[(Value.int .i64 a1_0), (Value.int .i64 a1_1), (Value.string a1_2), (Sl3.v a1_3)]))] ?_))))))))
  obtain ⟨x1, hx, h⟩ := bind_some h
  refine RS.cl (some 7) (v := (Value.int .i64 x1)) 57 #[(Value.agg #[(Value.int .i64 a1_0), (Value.int .i64 a1_1), (Value.string a1_2), (Sl3.v a1_3)])] (sort_wrong_ok hx) (RS.mS 1 [(5, .val (Value.int .i64 x1))] (RS.dn (WS.nxt (WS.sq (WS.rg (RS.mS 2 [(9, .val (Value.bool (!decide (x1 = 0)))), (8, .val (Value.int .i64 x1))] (RS.dn (WS.nxt ?_))))))))
  rcases ite_some h with ⟨hp, h⟩ | ⟨hp, h⟩
  · refine WS.fx 9 false (dec_not hp) (WS.cF (WS.sk (WS.nxt (WS.sq (WS.sq (WS.rg (RS.mS 2 [(12, .val (Value.agg #[(Value.int .i64 a1_0), (Value.int .i64 a1_1), (Value.string a1_2), (Sl3.v a1_3)])), (11, .val (Value.pointer a0))] ?_)))))))
    obtain ⟨x2, hx, h⟩ := bind_some h
    refine RS.cl (some 13) (v := (Value.bool x2)) 67 #[(Value.pointer a0), (Value.agg #[(Value.int .i64 a1_0), (Value.int .i64 a1_1), (Value.string a1_2), (Sl3.v a1_3)])] (sort_book_known_ok hx) (RS.mS 1 [(14, .val (Value.bool (!x2)))] (RS.dn (WS.nxt ?_)))
    rcases ite_some h with ⟨hp, h⟩ | ⟨hp, h⟩
    · refine WS.fx 14 false (nb_not hp) (WS.cF (WS.sk (WS.nxt (WS.sq (WS.rg (RS.mS 1 [(4, .val (Value.int .i64 0))] (RS.dn (WS.nxt (WS.rt ?_)))))))))
      cases h
      exact fun a w hs => rtR (rS hs)
    · refine WS.fx 14 true (nb_not' hp) (WS.cT (WS.sq (WS.rg (RS.mS 1 [(4, .val (Value.int .i64 40))] (RS.dn (WS.nxt (WS.rt ?_)))))))
      cases h
      exact fun a w hs => sqR (rtR (rS hs))
  · refine WS.fx 9 true (dec_not' hp) (WS.cT (WS.sq (WS.rg (RS.mS 2 [(4, .val (Value.int .i64 x1)), (10, .val (Value.int .i64 x1))] (RS.dn (WS.nxt (WS.rt ?_)))))))
    cases h
    exact fun a w hs => sqR (rtR (rS hs))

end Go.Proofs.YtccbilfbhecdaaaDoor


namespace Go.Proofs.YtccbilfbhecdaaaDoor
open Go Go.Abs
set_option maxRecDepth 100000

def sort_Check_enc : (Int × AH) → Value
  | (r0, _) => (Value.int .i64 r0)

def sort_Check_hp (_ : AH) : (Int × AH) → AH := fun r => r.2

noncomputable def B18 : Code := (Tryd.f18.body).getD .skip

noncomputable def sort_Check (L : LC) (m : Nat) (H : AH) (a0_0 : Int) (a0_1 : Int) (a0_2 : ByteArray) (a0_3 : Sl3) (a1_0 : Sl3) (a1_1 : Sl3) (a1_2 : Sl3) : Option (Int × AH) :=
  Option.bind (sort_open L (Nat.max m H.next) H a1_0 a1_1 a1_2) fun (x1, H2) =>
  Option.bind (sort_book_check L H2 x1 a0_0 a0_1 a0_2 a0_3) fun x3 =>
  some (x3, H2)

theorem sort_Check_ok {L : LC} {m : Nat} {H : AH} {a0_0 : Int} {a0_1 : Int} {a0_2 : ByteArray} {a0_3 : Sl3} {a1_0 : Sl3} {a1_1 : Sl3} {a1_2 : Sl3} {r : (Int × AH)} (h : sort_Check L m H a0_0 a0_1 a0_2 a0_3 a1_0 a1_1 a1_2 = some r) :
    CallS Tryd.prog (NE.plain 1000) m 18 #[(Value.agg #[(Value.int .i64 a0_0), (Value.int .i64 a0_1), (Value.string a0_2), (Sl3.v a0_3)]), (Value.agg #[(Sl3.v a1_0), (Sl3.v a1_1), (Sl3.v a1_2)])] H (sort_Check_enc r) (sort_Check_hp H r) := by
  refine CallS.mk (args := [(Value.agg #[(Value.int .i64 a0_0), (Value.int .i64 a0_1), (Value.string a0_2), (Sl3.v a0_3)]), (Value.agg #[(Sl3.v a1_0), (Sl3.v a1_1), (Sl3.v a1_2)])]) Tryd.func18 (B := B18) (by kernel_rfl) (fun E _ => ?_)
  unfold sort_Check at h
  refine WS.sq (WS.rg (RS.mL 3 [(4, .val (Value.int .i64 0)), (3, .loc 1 0), (2, .loc 0 0)] ([some (28, [(Value.int .i64 a0_0), (Value.int .i64 a0_1), (Value.string a0_2), (Sl3.v a0_3)]), some (33, [(Sl3.v a1_0), (Sl3.v a1_1), (Sl3.v a1_2)])]) (RS.dn (WS.nxt (WS.sq ?_)))))
  refine WS.dr [0, 2] [0, 1, 0, 7, 15] 5 (fun hcl => ?_)
  refine DA.tL 0 (some 5) (.val (Value.agg #[(Sl3.v a1_0), (Sl3.v a1_1), (Sl3.v a1_2)])) (DA.tL 2 (some 7) (.val (Value.agg #[(Value.int .i64 a0_0), (Value.int .i64 a0_1), (Value.string a0_2), (Sl3.v a0_3)])) ?_)
  obtain ⟨⟨x1, H2⟩, hx, h⟩ := bind_some h
  try dsimp only at h
  refine DA.on 1 (DA.aCk 1 (some 6) false (v := (Value.pointer x1)) 36 #[(Value.agg #[(Sl3.v a1_0), (Sl3.v a1_1), (Sl3.v a1_2)])] (sort_open_ok hx) ?_)
  obtain ⟨x3, hx, h⟩ := bind_some h
  refine DA.on 3 (DA.aC 3 (some 8) (v := (Value.int .i64 x3)) 37 #[(Value.pointer x1), (Value.agg #[(Value.int .i64 a0_0), (Value.int .i64 a0_1), (Value.string a0_2), (Sl3.v a0_3)])] (sort_book_check_ok hx) (DA.tP 4 (some 4) (Value.int .i64 x3) (DA.dn (WS.nxt (WS.rt ?_)))))
  cases h
  exact fun a w hs => rtR (rS hs)

def ref04_Deep_enc : Bool → Value
  | r0 => (Value.bool r0)

def ref04_Deep_hp (H : AH) : Bool → AH := fun _ => H

noncomputable def B68 : Code := (Tryd.f68.body).getD .skip

noncomputable def ref04_Deep_b0 (_L : LC) (rec_ref04_Deep : AH → Int → Int → ByteArray → Sl3 → Int → Option Bool) (H : AH) (_a0_0 : Int) (_a0_1 : Int) (_a0_2 : ByteArray) (a0_3 : Sl3) (a1 : Int) : Int → Option (Lp Int Bool) := fun v5_1 =>
  if v5_1 < (a0_3.n : Int) then
    Option.bind (idxA 4 a0_3 v5_1) fun p2 =>
    Option.bind (rd (deI .i64) H (Addr.add p2 0)) fun x3_0 =>
    Option.bind (rd (deI .i64) H (Addr.add p2 1)) fun x3_1 =>
    Option.bind (rd deS H (Addr.add p2 2)) fun x3_2 =>
    Option.bind (rd deSl H (Addr.add p2 3)) fun x3_3 =>
    Option.bind (rec_ref04_Deep H x3_0 x3_1 x3_2 x3_3 (IntKind.i64.wrap (a1 - 1))) fun x4 =>
    if x4 = true then
      some (.ret true)
    else
      some (.next (IntKind.i64.wrap (v5_1 + 1)))
  else
    some (.brk v5_1)

def ref04_Deep_b0_kn (_L : LC) (_rec_ref04_Deep : AH → Int → Int → ByteArray → Sl3 → Int → Option Bool) (_H : AH) (_a0_0 : Int) (_a0_1 : Int) (_a0_2 : ByteArray) (_a0_3 : Sl3) (a1 : Int) : Int → KN := fun v5_1 => [(5, .val (Value.int .i64 v5_1)), (1, .val (Value.int .i64 a1)), (2, .loc 0 0)]

def ref04_Deep_b0_ls (_L : LC) (_rec_ref04_Deep : AH → Int → Int → ByteArray → Sl3 → Int → Option Bool) (_H : AH) (a0_0 : Int) (a0_1 : Int) (a0_2 : ByteArray) (a0_3 : Sl3) (_a1 : Int) : Int → Lcs := fun _ => [some (28, [(Value.int .i64 a0_0), (Value.int .i64 a0_1), (Value.string a0_2), (Sl3.v a0_3)])]

noncomputable def ref04_Deep_body (L : LC) (rec_ref04_Deep : AH → Int → Int → ByteArray → Sl3 → Int → Option Bool) (H : AH) (a0_0 : Int) (a0_1 : Int) (a0_2 : ByteArray) (a0_3 : Sl3) (a1 : Int) : Option Bool :=
  if a1 = 0 then
    some true
  else
    Option.bind (L.run (ref04_Deep_b0 L rec_ref04_Deep H a0_0 a0_1 a0_2 a0_3 a1) 0) fun o => match o with
    | .inl _ =>
      some false
    | .inr r => some r

noncomputable def fam_ref04_Deep (L : LC) (n : Nat) : (AH → Int → Int → ByteArray → Sl3 → Int → Option Bool) := Nat.rec (motive := fun _ => (AH → Int → Int → ByteArray → Sl3 → Int → Option Bool)) (fun _ _ _ _ _ _ => none) (fun _ p => ref04_Deep_body L p) n

noncomputable def ref04_Deep (L : LC) (H : AH) (a0_0 : Int) (a0_1 : Int) (a0_2 : ByteArray) (a0_3 : Sl3) (a1 : Int) : Option Bool := (fam_ref04_Deep L L.fuel) H a0_0 a0_1 a0_2 a0_3 a1

theorem ref04_Deep_b0_ok {E : Ent} {m : Nat} {L : LC} {rec_ref04_Deep : AH → Int → Int → ByteArray → Sl3 → Int → Option Bool} {H : AH} {a0_0 : Int} {a0_1 : Int} {a0_2 : ByteArray} {a0_3 : Sl3} {a1 : Int} (hrec_ref04_Deep : ∀ (m : Nat) (H : AH) (a0_0 : Int) (a0_1 : Int) (a0_2 : ByteArray) (a0_3 : Sl3) (a1 : Int) (r : Bool), rec_ref04_Deep H a0_0 a0_1 a0_2 a0_3 a1 = some r → CallS Tryd.prog (NE.plain 1000) m 68 #[(Value.agg #[(Value.int .i64 a0_0), (Value.int .i64 a0_1), (Value.string a0_2), (Sl3.v a0_3)]), (Value.int .i64 a1)] H (ref04_Deep_enc r) (ref04_Deep_hp H r)) : ∀ s o, ref04_Deep_b0 L rec_ref04_Deep H a0_0 a0_1 a0_2 a0_3 a1 s = some o →
    WS Tryd.prog (NE.plain 1000) m E Tryd.f68.ntmps (cfst (cfst (csnd (cfst (csnd (csnd B68)))))) (ref04_Deep_b0_kn L rec_ref04_Deep H a0_0 a0_1 a0_2 a0_3 a1 s) (ref04_Deep_b0_ls L rec_ref04_Deep H a0_0 a0_1 a0_2 a0_3 a1 s) ((fun _ => H) s) (lpS Tryd.prog (NE.plain 1000) m E Tryd.f68.ntmps (ref04_Deep_b0_kn L rec_ref04_Deep H a0_0 a0_1 a0_2 a0_3 a1) (ref04_Deep_b0_ls L rec_ref04_Deep H a0_0 a0_1 a0_2 a0_3 a1) (fun _ => H) 0 (fun r => RT Tryd.prog (NE.plain 1000) m E Tryd.f68 (ref04_Deep_enc r) (ref04_Deep_hp H r)) o) := by
  rintro v5_1 o h
  unfold ref04_Deep_b0 at h
  try dsimp only at h
  refine WS.sq (WS.sq (WS.rg (RS.mS 5 [(12, .val (Value.bool (decide (v5_1 < (a0_3.n : Int))))), (11, .val (Value.int .i64 (a0_3.n : Int))), (10, .val (Sl3.v a0_3)), (9, .loc 0 3), (8, .val (Value.int .i64 v5_1))] (RS.dn (WS.nxt ?_)))))
  rcases ite_some h with ⟨hp, h⟩ | ⟨hp, h⟩
  · refine WS.fx 12 true (decide_eq_true hp) (WS.cT (WS.sk (WS.nxt (WS.sq (WS.bk 1 (WS.sq (WS.rg (RS.mS 3 [(17, .val (Value.int .i64 v5_1)), (16, .val (Sl3.v a0_3)), (15, .loc 0 3)] ?_))))))))
    obtain ⟨p2, hx, h⟩ := bind_some h
    refine RS.o (H' := H) (some 18) (Value.pointer (some p2)) (Abs.run_idx (s := a0_3) (k := .i64) (t := 26) (e := 28) (x := .tmp 16) (y := .tmp 17) (by kernel_rfl) (by kernel_rfl) (by kernel_rfl) (by kernel_rfl) (by kernel_rfl) hx) ?_
    obtain ⟨x3_0, hx0, h⟩ := bind_some h
    obtain ⟨x3_1, hx1, h⟩ := bind_some h
    obtain ⟨x3_2, hx2, h⟩ := bind_some h
    obtain ⟨x3_3, hx3, h⟩ := bind_some h
    refine RS.o (H' := H) (some 19) (Value.agg #[(Value.int .i64 x3_0), (Value.int .i64 x3_1), (Value.string x3_2), (Sl3.v x3_3)]) (Abs.run_loadAg (t := 28) (x := .tmp 18) (a := p2) (k := 4) (by kernel_rfl) (by kernel_rfl) (by kernel_rfl) (by kernel_rfl) (rdc_cons (rd_cell hx0 deI_inv) (rdc_cons (rd_cell hx1 deI_inv) (rdc_cons (rd_cell hx2 deS_inv) (rdc_cons (rd_cell hx3 deSl_inv) rdc_nil))))) (RS.mS 2 [(21, .val (Value.int .i64 (IntKind.i64.wrap (a1 - 1)))), (20, .val (Value.int .i64 a1))] ?_)
    obtain ⟨x4, hx, h⟩ := bind_some h
    refine RS.cl (some 22) (v := (Value.bool x4)) 68 #[(Value.agg #[(Value.int .i64 x3_0), (Value.int .i64 x3_1), (Value.string x3_2), (Sl3.v x3_3)]), (Value.int .i64 (IntKind.i64.wrap (a1 - 1)))] (hrec_ref04_Deep _ _ _ _ _ _ _ _ hx) (RS.dn (WS.nxt ?_))
    rcases ite_some h with ⟨hp, h⟩ | ⟨hp, h⟩
    · refine WS.fx 22 true hp (WS.cT (WS.sq (WS.rg (RS.mS 1 [(4, .val (Value.bool true))] (RS.dn (WS.nxt (WS.rt ?_)))))))
      cases h
      exact fun a w hs => bkR (sqR (lsR rfl (rS hs)))
    · refine WS.fx 22 false (b_not hp) (WS.cF (WS.sk ?_))
      refine fun a w hs => bkN ((WS.nxt ?_ a w hs))
      refine WS.rg (RS.mS 3 [(5, .val (Value.int .i64 (IntKind.i64.wrap (v5_1 + 1)))), (14, .val (Value.int .i64 (IntKind.i64.wrap (v5_1 + 1)))), (13, .val (Value.int .i64 v5_1))] (RS.dn ?_))
      cases h
      exact fun a w hs => lsN rfl (hs.sb 1)
  · refine WS.fx 12 false (decide_eq_false hp) (WS.cF (WS.ex 0 ?_))
    cases h
    exact fun a w hs => sqE (lsB rfl (hs.sb 1))

theorem ref04_Deep_body_ok {L : LC} {rec_ref04_Deep : AH → Int → Int → ByteArray → Sl3 → Int → Option Bool} (hrec_ref04_Deep : ∀ (m : Nat) (H : AH) (a0_0 : Int) (a0_1 : Int) (a0_2 : ByteArray) (a0_3 : Sl3) (a1 : Int) (r : Bool), rec_ref04_Deep H a0_0 a0_1 a0_2 a0_3 a1 = some r → CallS Tryd.prog (NE.plain 1000) m 68 #[(Value.agg #[(Value.int .i64 a0_0), (Value.int .i64 a0_1), (Value.string a0_2), (Sl3.v a0_3)]), (Value.int .i64 a1)] H (ref04_Deep_enc r) (ref04_Deep_hp H r)) {m : Nat} {H : AH} {a0_0 : Int} {a0_1 : Int} {a0_2 : ByteArray} {a0_3 : Sl3} {a1 : Int} {r : Bool} (h : ref04_Deep_body L rec_ref04_Deep H a0_0 a0_1 a0_2 a0_3 a1 = some r) :
    CallS Tryd.prog (NE.plain 1000) m 68 #[(Value.agg #[(Value.int .i64 a0_0), (Value.int .i64 a0_1), (Value.string a0_2), (Sl3.v a0_3)]), (Value.int .i64 a1)] H (ref04_Deep_enc r) (ref04_Deep_hp H r) := by
  refine CallS.mk (args := [(Value.agg #[(Value.int .i64 a0_0), (Value.int .i64 a0_1), (Value.string a0_2), (Sl3.v a0_3)]), (Value.int .i64 a1)]) Tryd.func68 (B := B68) (by kernel_rfl) (fun E _ => ?_)
  unfold ref04_Deep_body at h
  refine WS.sq (WS.rg (RS.mL 2 [(4, .val (Value.bool false)), (2, .loc 0 0)] ([some (28, [(Value.int .i64 a0_0), (Value.int .i64 a0_1), (Value.string a0_2), (Sl3.v a0_3)])]) (RS.dn (WS.nxt (WS.sq (WS.sq (WS.rg (RS.mS 2 [(7, .val (Value.bool (decide (a1 = 0)))), (6, .val (Value.int .i64 a1))] (RS.dn ?_)))))))))
  refine WS.nxt ?_
  rcases ite_some h with ⟨hp, h⟩ | ⟨hp, h⟩
  · refine WS.fx 7 true (decide_eq_true hp) (WS.cT (WS.sq (WS.rg (RS.mS 1 [(4, .val (Value.bool true))] (RS.dn (WS.nxt (WS.rt ?_)))))))
    cases h
    exact fun a w hs => sqR (rtR (rS hs))
  · refine WS.fx 7 false (decide_eq_false hp) (WS.cF (WS.sk (WS.nxt (WS.sq (WS.sq (WS.rg (RS.mS 1 [(5, .val (Value.int .i64 0))] (RS.dn (WS.nxt ?_)))))))))
    refine WS.bk 0 ?_
    obtain ⟨o, hl, h⟩ := bind_some h
    rcases o with v5_5 | r
    · try dsimp only at h
      refine WS.lI (ref04_Deep_b0_ok (L := L) (E := E) (m := m) (H := H) hrec_ref04_Deep) (L.ok hl) 1 ?_
      clear hl
      refine fun a w hs => bkE ((WS.nxt ?_ a w hs))
      refine WS.sq (WS.rg (RS.mS 1 [(4, .val (Value.bool false))] (RS.dn (WS.nxt (WS.rt ?_)))))
      cases h
      exact fun a w hs => rtR (rS hs)
    · try dsimp only at h
      refine WS.lR (ref04_Deep_b0_ok (L := L) (E := E) (m := m) (H := H) hrec_ref04_Deep) (L.ok hl) 1 ?_
      cases h
      exact fun a w hq => bkR (sqR (rtR hq))

theorem fam_ref04_Deep_ok {L : LC} : ∀ n, (∀ (m : Nat) (H : AH) (a0_0 : Int) (a0_1 : Int) (a0_2 : ByteArray) (a0_3 : Sl3) (a1 : Int) (r : Bool), ((fam_ref04_Deep L n)) H a0_0 a0_1 a0_2 a0_3 a1 = some r → CallS Tryd.prog (NE.plain 1000) m 68 #[(Value.agg #[(Value.int .i64 a0_0), (Value.int .i64 a0_1), (Value.string a0_2), (Sl3.v a0_3)]), (Value.int .i64 a1)] H (ref04_Deep_enc r) (ref04_Deep_hp H r)) := by
  intro n
  induction n with
  | zero => exact (fun _ _ _ _ _ _ _ _ h => (Option.some_ne_none _ h.symm).elim)
  | succ n ih => exact (fun _ _ _ _ _ _ _ _ h => ref04_Deep_body_ok (L := L) ih h)

theorem ref04_Deep_ok {L : LC} {m : Nat} {H : AH} {a0_0 : Int} {a0_1 : Int} {a0_2 : ByteArray} {a0_3 : Sl3} {a1 : Int} {r : Bool} (h : ref04_Deep L H a0_0 a0_1 a0_2 a0_3 a1 = some r) :
    CallS Tryd.prog (NE.plain 1000) m 68 #[(Value.agg #[(Value.int .i64 a0_0), (Value.int .i64 a0_1), (Value.string a0_2), (Sl3.v a0_3)]), (Value.int .i64 a1)] H (ref04_Deep_enc r) (ref04_Deep_hp H r) :=
  (fam_ref04_Deep_ok _) _ _ _ _ _ _ _ _ h

def ref04_Parts_enc : Int → Value
  | r0 => (Value.int .i64 r0)

def ref04_Parts_hp (H : AH) : Int → AH := fun _ => H

noncomputable def B69 : Code := (Tryd.f69.body).getD .skip

noncomputable def ref04_Parts_b0 (_L : LC) (rec_ref04_Parts : AH → Int → Int → ByteArray → Sl3 → Option Int) (H : AH) (_a0_0 : Int) (_a0_1 : Int) (_a0_2 : ByteArray) (a0_3 : Sl3) : (Int × Int) → Option (Lp (Int × Int) Int) := fun (v3_1, v4_2) =>
  Option.bind (α := Bool) (
    if v4_2 < (a0_3.n : Int) then
      some (decide (v3_1 ≤ 256))
    else
      some false) fun v13_3 =>
  if v13_3 = true then
    Option.bind (idxA 4 a0_3 v4_2) fun p4 =>
    Option.bind (rd (deI .i64) H (Addr.add p4 0)) fun x5_0 =>
    Option.bind (rd (deI .i64) H (Addr.add p4 1)) fun x5_1 =>
    Option.bind (rd deS H (Addr.add p4 2)) fun x5_2 =>
    Option.bind (rd deSl H (Addr.add p4 3)) fun x5_3 =>
    Option.bind (rec_ref04_Parts H x5_0 x5_1 x5_2 x5_3) fun x6 =>
    Option.bind (gOp1 Tryd.prog (opsOf (cfst (cfst (csnd (cfst (cfst (csnd (cfst (csnd (csnd B69)))))))))) 8 [(23, .val (Value.int .i64 (IntKind.i64.wrap (v3_1 + x6))))] (deI .i64) H) fun x7 =>
    some (.next (x7, (IntKind.i64.wrap (v4_2 + 1))))
  else
    some (.brk (v3_1, v4_2))

def ref04_Parts_b0_kn (_L : LC) (_rec_ref04_Parts : AH → Int → Int → ByteArray → Sl3 → Option Int) (_H : AH) (_a0_0 : Int) (_a0_1 : Int) (_a0_2 : ByteArray) (_a0_3 : Sl3) : (Int × Int) → KN := fun (v3_1, v4_2) => [(3, .val (Value.int .i64 v3_1)), (4, .val (Value.int .i64 v4_2)), (1, .loc 0 0)]

def ref04_Parts_b0_ls (_L : LC) (_rec_ref04_Parts : AH → Int → Int → ByteArray → Sl3 → Option Int) (_H : AH) (a0_0 : Int) (a0_1 : Int) (a0_2 : ByteArray) (a0_3 : Sl3) : (Int × Int) → Lcs := fun (_, _) => [some (28, [(Value.int .i64 a0_0), (Value.int .i64 a0_1), (Value.string a0_2), (Sl3.v a0_3)])]

noncomputable def ref04_Parts_body (L : LC) (rec_ref04_Parts : AH → Int → Int → ByteArray → Sl3 → Option Int) (H : AH) (a0_0 : Int) (a0_1 : Int) (a0_2 : ByteArray) (a0_3 : Sl3) : Option Int :=
  Option.bind (L.run (ref04_Parts_b0 L rec_ref04_Parts H a0_0 a0_1 a0_2 a0_3) (1, 0)) fun o => match o with
  | .inl (v3_8, _) =>
    some v3_8
  | .inr r => some r

noncomputable def fam_ref04_Parts (L : LC) (n : Nat) : (AH → Int → Int → ByteArray → Sl3 → Option Int) := Nat.rec (motive := fun _ => (AH → Int → Int → ByteArray → Sl3 → Option Int)) (fun _ _ _ _ _ => none) (fun _ p => ref04_Parts_body L p) n

noncomputable def ref04_Parts (L : LC) (H : AH) (a0_0 : Int) (a0_1 : Int) (a0_2 : ByteArray) (a0_3 : Sl3) : Option Int := (fam_ref04_Parts L L.fuel) H a0_0 a0_1 a0_2 a0_3

theorem ref04_Parts_b0_ok {E : Ent} {m : Nat} {L : LC} {rec_ref04_Parts : AH → Int → Int → ByteArray → Sl3 → Option Int} {H : AH} {a0_0 : Int} {a0_1 : Int} {a0_2 : ByteArray} {a0_3 : Sl3} (hrec_ref04_Parts : ∀ (m : Nat) (H : AH) (a0_0 : Int) (a0_1 : Int) (a0_2 : ByteArray) (a0_3 : Sl3) (r : Int), rec_ref04_Parts H a0_0 a0_1 a0_2 a0_3 = some r → CallS Tryd.prog (NE.plain 1000) m 69 #[(Value.agg #[(Value.int .i64 a0_0), (Value.int .i64 a0_1), (Value.string a0_2), (Sl3.v a0_3)])] H (ref04_Parts_enc r) (ref04_Parts_hp H r)) : ∀ s o, ref04_Parts_b0 L rec_ref04_Parts H a0_0 a0_1 a0_2 a0_3 s = some o →
    WS Tryd.prog (NE.plain 1000) m E Tryd.f69.ntmps (cfst (cfst (csnd (cfst (csnd (csnd B69)))))) (ref04_Parts_b0_kn L rec_ref04_Parts H a0_0 a0_1 a0_2 a0_3 s) (ref04_Parts_b0_ls L rec_ref04_Parts H a0_0 a0_1 a0_2 a0_3 s) ((fun _ => H) s) (lpS Tryd.prog (NE.plain 1000) m E Tryd.f69.ntmps (ref04_Parts_b0_kn L rec_ref04_Parts H a0_0 a0_1 a0_2 a0_3) (ref04_Parts_b0_ls L rec_ref04_Parts H a0_0 a0_1 a0_2 a0_3) (fun _ => H) 0 (fun r => RT Tryd.prog (NE.plain 1000) m E Tryd.f69 (ref04_Parts_enc r) (ref04_Parts_hp H r)) o) := by
  rintro ⟨v3_1, v4_2⟩ o h
  unfold ref04_Parts_b0 at h
  try dsimp only at h
  refine WS.sq ?_
  obtain ⟨v13_3, hx, h⟩ := bind_some h
  refine WS.sq ?_
  refine WS.join ([(13, .val (Value.bool v13_3)), (1, .loc 0 0), (3, .val (Value.int .i64 v3_1)), (4, .val (Value.int .i64 v4_2))]) ([some (28, [(Value.int .i64 a0_0), (Value.int .i64 a0_1), (Value.string a0_2), (Sl3.v a0_3)])]) H ?_ (fun a w hs => WS.nxt ?_ a w hs)
  · clear h; rename _ => h
    refine WS.rg (RS.mS 6 [(10, .val (Value.bool (decide (v4_2 < (a0_3.n : Int))))), (9, .val (Value.bool (decide (v4_2 < (a0_3.n : Int))))), (8, .val (Value.int .i64 (a0_3.n : Int))), (7, .val (Sl3.v a0_3)), (6, .loc 0 3), (5, .val (Value.int .i64 v4_2))] ?_)
    rcases ite_some h with ⟨hp, h⟩ | ⟨hp, h⟩
    · refine RS.fx 10 true (decide_eq_true hp) (RS.mS 3 [(13, .val (Value.bool (decide (v3_1 ≤ 256)))), (12, .val (Value.bool (decide (v3_1 ≤ 256)))), (11, .val (Value.int .i64 v3_1))] (RS.dn ?_))
      cases h
      exact fun a w hs => (jsN (hs.sb 1))
    · refine RS.fx 10 false (decide_eq_false hp) (RS.mS 3 [(13, .val (Value.bool false)), (12, .val undef), (11, .val undef)] (RS.dn ?_))
      cases h
      exact fun a w hs => (jsN (hs.sb 1))
  · clear hx
    rcases ite_some h with ⟨hp, h⟩ | ⟨hp, h⟩
    · refine WS.fx 13 true hp (WS.cT (WS.sk (WS.nxt (WS.sq (WS.bk 1 (WS.rg (RS.mS 4 [(19, .val (Value.int .i64 v4_2)), (18, .val (Sl3.v a0_3)), (17, .loc 0 3), (16, .val (Value.int .i64 v3_1))] ?_)))))))
      obtain ⟨p4, hx, h⟩ := bind_some h
      refine RS.o (H' := H) (some 20) (Value.pointer (some p4)) (Abs.run_idx (s := a0_3) (k := .i64) (t := 26) (e := 28) (x := .tmp 18) (y := .tmp 19) (by kernel_rfl) (by kernel_rfl) (by kernel_rfl) (by kernel_rfl) (by kernel_rfl) hx) ?_
      obtain ⟨x5_0, hx0, h⟩ := bind_some h
      obtain ⟨x5_1, hx1, h⟩ := bind_some h
      obtain ⟨x5_2, hx2, h⟩ := bind_some h
      obtain ⟨x5_3, hx3, h⟩ := bind_some h
      refine RS.o (H' := H) (some 21) (Value.agg #[(Value.int .i64 x5_0), (Value.int .i64 x5_1), (Value.string x5_2), (Sl3.v x5_3)]) (Abs.run_loadAg (t := 28) (x := .tmp 20) (a := p4) (k := 4) (by kernel_rfl) (by kernel_rfl) (by kernel_rfl) (by kernel_rfl) (rdc_cons (rd_cell hx0 deI_inv) (rdc_cons (rd_cell hx1 deI_inv) (rdc_cons (rd_cell hx2 deS_inv) (rdc_cons (rd_cell hx3 deSl_inv) rdc_nil))))) ?_
      obtain ⟨x6, hx, h⟩ := bind_some h
      refine RS.cl (some 22) (v := (Value.int .i64 x6)) 69 #[(Value.agg #[(Value.int .i64 x5_0), (Value.int .i64 x5_1), (Value.string x5_2), (Sl3.v x5_3)])] (hrec_ref04_Parts _ _ _ _ _ _ _ hx) (RS.mS 1 [(23, .val (Value.int .i64 (IntKind.i64.wrap (v3_1 + x6))))] ?_)
      obtain ⟨x7, hx, h⟩ := bind_some h
      refine RS.o (H' := H) (some 24) (Value.int .i64 x7) (gOp1_run hx deI_inv (by kernel_rfl) (by kernel_rfl)) (RS.mS 1 [(3, .val (Value.int .i64 x7))] (RS.dn ?_))
      refine fun a w hs => bkN ((WS.nxt ?_ a w hs))
      refine WS.rg (RS.mS 3 [(4, .val (Value.int .i64 (IntKind.i64.wrap (v4_2 + 1)))), (15, .val (Value.int .i64 (IntKind.i64.wrap (v4_2 + 1)))), (14, .val (Value.int .i64 v4_2))] (RS.dn ?_))
      cases h
      exact fun a w hs => lsN rfl (hs.sb 1)
    · refine WS.fx 13 false (b_not hp) (WS.cF (WS.ex 0 ?_))
      cases h
      exact fun a w hs => sqE (lsB rfl (hs.sb 1))

theorem ref04_Parts_body_ok {L : LC} {rec_ref04_Parts : AH → Int → Int → ByteArray → Sl3 → Option Int} (hrec_ref04_Parts : ∀ (m : Nat) (H : AH) (a0_0 : Int) (a0_1 : Int) (a0_2 : ByteArray) (a0_3 : Sl3) (r : Int), rec_ref04_Parts H a0_0 a0_1 a0_2 a0_3 = some r → CallS Tryd.prog (NE.plain 1000) m 69 #[(Value.agg #[(Value.int .i64 a0_0), (Value.int .i64 a0_1), (Value.string a0_2), (Sl3.v a0_3)])] H (ref04_Parts_enc r) (ref04_Parts_hp H r)) {m : Nat} {H : AH} {a0_0 : Int} {a0_1 : Int} {a0_2 : ByteArray} {a0_3 : Sl3} {r : Int} (h : ref04_Parts_body L rec_ref04_Parts H a0_0 a0_1 a0_2 a0_3 = some r) :
    CallS Tryd.prog (NE.plain 1000) m 69 #[(Value.agg #[(Value.int .i64 a0_0), (Value.int .i64 a0_1), (Value.string a0_2), (Sl3.v a0_3)])] H (ref04_Parts_enc r) (ref04_Parts_hp H r) := by
  refine CallS.mk (args := [(Value.agg #[(Value.int .i64 a0_0), (Value.int .i64 a0_1), (Value.string a0_2), (Sl3.v a0_3)])]) Tryd.func69 (B := B69) (by kernel_rfl) (fun E _ => ?_)
  unfold ref04_Parts_body at h
  refine WS.sq (WS.rg (RS.mL 2 [(2, .val (Value.int .i64 0)), (1, .loc 0 0)] ([some (28, [(Value.int .i64 a0_0), (Value.int .i64 a0_1), (Value.string a0_2), (Sl3.v a0_3)])]) (RS.dn (WS.nxt (WS.sq (WS.rg (RS.mS 1 [(3, .val (Value.int .i64 1))] (RS.dn (WS.nxt ?_)))))))))
  refine WS.sq (WS.sq (WS.rg (RS.mS 1 [(4, .val (Value.int .i64 0))] (RS.dn (WS.nxt (WS.bk 0 ?_))))))
  obtain ⟨o, hl, h⟩ := bind_some h
  rcases o with ⟨v3_8, v4_9⟩ | r
  · try dsimp only at h
    refine WS.lI (ref04_Parts_b0_ok (L := L) (E := E) (m := m) (H := H) hrec_ref04_Parts) (L.ok hl) 1 ?_
    clear hl
    refine fun a w hs => bkE ((WS.nxt ?_ a w hs))
    refine WS.sq (WS.rg (RS.mS 2 [(2, .val (Value.int .i64 v3_8)), (25, .val (Value.int .i64 v3_8))] (RS.dn (WS.nxt (WS.rt ?_)))))
    cases h
    exact fun a w hs => rtR (rS hs)
  · try dsimp only at h
    refine WS.lR (ref04_Parts_b0_ok (L := L) (E := E) (m := m) (H := H) hrec_ref04_Parts) (L.ok hl) 1 ?_
    cases h
    exact fun a w hq => bkR (sqR (rtR hq))

theorem fam_ref04_Parts_ok {L : LC} : ∀ n, (∀ (m : Nat) (H : AH) (a0_0 : Int) (a0_1 : Int) (a0_2 : ByteArray) (a0_3 : Sl3) (r : Int), ((fam_ref04_Parts L n)) H a0_0 a0_1 a0_2 a0_3 = some r → CallS Tryd.prog (NE.plain 1000) m 69 #[(Value.agg #[(Value.int .i64 a0_0), (Value.int .i64 a0_1), (Value.string a0_2), (Sl3.v a0_3)])] H (ref04_Parts_enc r) (ref04_Parts_hp H r)) := by
  intro n
  induction n with
  | zero => exact (fun _ _ _ _ _ _ _ h => (Option.some_ne_none _ h.symm).elim)
  | succ n ih => exact (fun _ _ _ _ _ _ _ h => ref04_Parts_body_ok (L := L) ih h)

theorem ref04_Parts_ok {L : LC} {m : Nat} {H : AH} {a0_0 : Int} {a0_1 : Int} {a0_2 : ByteArray} {a0_3 : Sl3} {r : Int} (h : ref04_Parts L H a0_0 a0_1 a0_2 a0_3 = some r) :
    CallS Tryd.prog (NE.plain 1000) m 69 #[(Value.agg #[(Value.int .i64 a0_0), (Value.int .i64 a0_1), (Value.string a0_2), (Sl3.v a0_3)])] H (ref04_Parts_enc r) (ref04_Parts_hp H r) :=
  (fam_ref04_Parts_ok _) _ _ _ _ _ _ _ h

def ref04_shape_enc : Bool → Value
  | r0 => (Value.bool r0)

def ref04_shape_hp (H : AH) : Bool → AH := fun _ => H

noncomputable def B70 : Code := (Tryd.f70.body).getD .skip

noncomputable def ref04_shape_body (L : LC) (rec_ref04_shape : AH → Int → Int → ByteArray → Sl3 → Option Bool) (H : AH) (a0_0 : Int) (a0_1 : Int) (a0_2 : ByteArray) (a0_3 : Sl3) : Option Bool :=
  Option.bind (α := Bool) (
    if a0_0 = 1 then
      some true
    else
      some (decide (a0_0 = 2))) fun v5_1 =>
  if v5_1 = true then
    if a0_1 = 0 then
      if (a0_2.toList == (⟨#[]⟩ : ByteArray).toList) = true then
        some (decide ((a0_3.n : Int) = 0))
      else
        some false
    else
      some false
  else
    if a0_0 = 3 then
      if a0_1 ≥ 1 then
        if a0_1 ≤ 4096 then
          if (a0_2.toList == (⟨#[]⟩ : ByteArray).toList) = true then
            some (decide ((a0_3.n : Int) = 0))
          else
            some false
        else
          some false
      else
        some false
    else
      if a0_0 = 4 then
        if a0_1 = 0 then
          if (a0_2.toList == (⟨#[]⟩ : ByteArray).toList) = true then
            if (a0_3.n : Int) = 2 then
              Option.bind (idxA 4 a0_3 0) fun p2 =>
              Option.bind (rd (deI .i64) H (Addr.add p2 0)) fun x3_0 =>
              Option.bind (rd (deI .i64) H (Addr.add p2 1)) fun x3_1 =>
              Option.bind (rd deS H (Addr.add p2 2)) fun x3_2 =>
              Option.bind (rd deSl H (Addr.add p2 3)) fun x3_3 =>
              Option.bind (rec_ref04_shape H x3_0 x3_1 x3_2 x3_3) fun x4 =>
              if x4 = true then
                Option.bind (idxA 4 a0_3 1) fun p5 =>
                Option.bind (rd (deI .i64) H (Addr.add p5 0)) fun x6_0 =>
                Option.bind (rd (deI .i64) H (Addr.add p5 1)) fun x6_1 =>
                Option.bind (rd deS H (Addr.add p5 2)) fun x6_2 =>
                Option.bind (rd deSl H (Addr.add p5 3)) fun x6_3 =>
                Option.bind (rec_ref04_shape H x6_0 x6_1 x6_2 x6_3) fun x7 =>
                some x7
              else
                some false
            else
              some false
          else
            some false
        else
          some false
      else
        Option.bind (α := Bool) (
          if a0_0 = 5 then
            some true
          else
            some (decide (a0_0 = 6))) fun v73_8 =>
        if v73_8 = true then
          if a0_1 = 0 then
            if (a0_3.n : Int) = 0 then
              Option.bind (ref04_Name L a0_2) fun x9 =>
              some x9
            else
              some false
          else
            some false
        else
          some false

noncomputable def fam_ref04_shape (L : LC) (n : Nat) : (AH → Int → Int → ByteArray → Sl3 → Option Bool) := Nat.rec (motive := fun _ => (AH → Int → Int → ByteArray → Sl3 → Option Bool)) (fun _ _ _ _ _ => none) (fun _ p => ref04_shape_body L p) n

noncomputable def ref04_shape (L : LC) (H : AH) (a0_0 : Int) (a0_1 : Int) (a0_2 : ByteArray) (a0_3 : Sl3) : Option Bool := (fam_ref04_shape L L.fuel) H a0_0 a0_1 a0_2 a0_3

theorem ref04_shape_body_ok {L : LC} {rec_ref04_shape : AH → Int → Int → ByteArray → Sl3 → Option Bool} (hrec_ref04_shape : ∀ (m : Nat) (H : AH) (a0_0 : Int) (a0_1 : Int) (a0_2 : ByteArray) (a0_3 : Sl3) (r : Bool), rec_ref04_shape H a0_0 a0_1 a0_2 a0_3 = some r → CallS Tryd.prog (NE.plain 1000) m 70 #[(Value.agg #[(Value.int .i64 a0_0), (Value.int .i64 a0_1), (Value.string a0_2), (Sl3.v a0_3)])] H (ref04_shape_enc r) (ref04_shape_hp H r)) {m : Nat} {H : AH} {a0_0 : Int} {a0_1 : Int} {a0_2 : ByteArray} {a0_3 : Sl3} {r : Bool} (h : ref04_shape_body L rec_ref04_shape H a0_0 a0_1 a0_2 a0_3 = some r) :
    CallS Tryd.prog (NE.plain 1000) m 70 #[(Value.agg #[(Value.int .i64 a0_0), (Value.int .i64 a0_1), (Value.string a0_2), (Sl3.v a0_3)])] H (ref04_shape_enc r) (ref04_shape_hp H r) := by
  refine CallS.mk (args := [(Value.agg #[(Value.int .i64 a0_0), (Value.int .i64 a0_1), (Value.string a0_2), (Sl3.v a0_3)])]) Tryd.func70 (B := B70) (by kernel_rfl) (fun E _ => ?_)
  unfold ref04_shape_body at h
  refine WS.sq (WS.rg (RS.mL 2 [(2, .val (Value.bool false)), (1, .loc 0 0)] ([some (28, [(Value.int .i64 a0_0), (Value.int .i64 a0_1), (Value.string a0_2), (Sl3.v a0_3)])]) (RS.dn (WS.nxt (WS.sq (WS.sq (WS.rg (RS.mS 2 [(4, .val (Value.int .i64 a0_0)), (3, .loc 0 0)] (RS.dn ?_)))))))))
  refine WS.nxt (WS.bk 0 ?_)
  obtain ⟨v5_1, hx, h⟩ := bind_some h
  refine WS.sq ?_
  refine WS.join ([(5, .val (Value.bool v5_1)), (1, .loc 0 0), (4, .val (Value.int .i64 a0_0))]) ([some (28, [(Value.int .i64 a0_0), (Value.int .i64 a0_1), (Value.string a0_2), (Sl3.v a0_3)])]) H ?_ (fun a w hs => WS.nxt ?_ a w hs)
  · clear h; rename _ => h
    refine WS.sq (WS.rg (RS.mS 2 [(5, .val (Value.bool (decide (a0_0 = 1)))), (6, .val (Value.bool (decide (a0_0 = 1))))] (RS.dn (WS.nxt ?_))))
    rcases ite_some h with ⟨hp, h⟩ | ⟨hp, h⟩
    · refine WS.fx 5 true (decide_eq_true hp) (WS.cT (WS.sk ?_))
      cases h
      exact fun a w hs => (jsN (hs.sb 1))
    · refine WS.fx 5 false (decide_eq_false hp) (WS.cF (WS.rg (RS.mS 2 [(5, .val (Value.bool (decide (a0_0 = 2)))), (7, .val (Value.bool (decide (a0_0 = 2))))] (RS.dn ?_))))
      cases h
      exact fun a w hs => (jsN (hs.sb 1))
  · clear hx
    rcases ite_some h with ⟨hp, h⟩ | ⟨hp, h⟩
    · refine WS.fx 5 true hp (WS.cT (WS.sq (WS.rg (RS.mS 4 [(11, .val (Value.bool (decide (a0_1 = 0)))), (10, .val (Value.bool (decide (a0_1 = 0)))), (9, .val (Value.int .i64 a0_1)), (8, .loc 0 1)] ?_))))
      rcases ite_some h with ⟨hp, h⟩ | ⟨hp, h⟩
      · refine RS.fx 11 true (decide_eq_true hp) (RS.mS 5 [(16, .val (Value.bool (a0_2.toList == (⟨#[]⟩ : ByteArray).toList))), (15, .val (Value.bool (a0_2.toList == (⟨#[]⟩ : ByteArray).toList))), (14, .val (Value.bool (a0_2.toList == (⟨#[]⟩ : ByteArray).toList))), (13, .val (Value.string a0_2)), (12, .loc 0 2)] ?_)
        rcases ite_some h with ⟨hp, h⟩ | ⟨hp, h⟩
        · refine RS.fx 16 true hp (RS.mS 6 [(2, .val (Value.bool (decide ((a0_3.n : Int) = 0)))), (21, .val (Value.bool (decide ((a0_3.n : Int) = 0)))), (20, .val (Value.bool (decide ((a0_3.n : Int) = 0)))), (19, .val (Value.int .i64 (a0_3.n : Int))), (18, .val (Sl3.v a0_3)), (17, .loc 0 3)] (RS.dn (WS.nxt (WS.rt ?_))))
          cases h
          exact fun a w hs => bkR (sqR (rtR (rS hs)))
        · refine RS.fx 16 false (b_not hp) (RS.mS 6 [(2, .val (Value.bool false)), (21, .val (Value.bool false)), (20, .val undef), (19, .val undef), (18, .val undef), (17, .val undef)] (RS.dn (WS.nxt (WS.rt ?_))))
          cases h
          exact fun a w hs => bkR (sqR (rtR (rS hs)))
      · refine RS.fx 11 false (decide_eq_false hp) (RS.mS 11 [(2, .val (Value.bool false)), (21, .val (Value.bool false)), (20, .val undef), (19, .val undef), (18, .val undef), (17, .val undef), (16, .val (Value.bool false)), (15, .val (Value.bool false)), (14, .val undef), (13, .val undef), (12, .val undef)] (RS.dn (WS.nxt (WS.rt ?_))))
        cases h
        exact fun a w hs => bkR (sqR (rtR (rS hs)))
    · refine WS.fx 5 false (b_not hp) (WS.cF (WS.sq (WS.rg (RS.mS 2 [(22, .val (Value.bool (decide (a0_0 = 3)))), (23, .val (Value.bool (decide (a0_0 = 3))))] (RS.dn (WS.nxt ?_))))))
      rcases ite_some h with ⟨hp, h⟩ | ⟨hp, h⟩
      · refine WS.fx 22 true (decide_eq_true hp) (WS.cT (WS.sq (WS.rg (RS.mS 4 [(27, .val (Value.bool (decide (a0_1 ≥ 1)))), (26, .val (Value.bool (decide (a0_1 ≥ 1)))), (25, .val (Value.int .i64 a0_1)), (24, .loc 0 1)] ?_))))
        rcases ite_some h with ⟨hp, h⟩ | ⟨hp, h⟩
        · refine RS.fx 27 true (decide_eq_true hp) (RS.mS 5 [(32, .val (Value.bool (decide (a0_1 ≤ 4096)))), (31, .val (Value.bool (decide (a0_1 ≤ 4096)))), (30, .val (Value.bool (decide (a0_1 ≤ 4096)))), (29, .val (Value.int .i64 a0_1)), (28, .loc 0 1)] ?_)
          rcases ite_some h with ⟨hp, h⟩ | ⟨hp, h⟩
          · refine RS.fx 32 true (decide_eq_true hp) (RS.mS 5 [(37, .val (Value.bool (a0_2.toList == (⟨#[]⟩ : ByteArray).toList))), (36, .val (Value.bool (a0_2.toList == (⟨#[]⟩ : ByteArray).toList))), (35, .val (Value.bool (a0_2.toList == (⟨#[]⟩ : ByteArray).toList))), (34, .val (Value.string a0_2)), (33, .loc 0 2)] ?_)
            rcases ite_some h with ⟨hp, h⟩ | ⟨hp, h⟩
            · refine RS.fx 37 true hp (RS.mS 6 [(2, .val (Value.bool (decide ((a0_3.n : Int) = 0)))), (42, .val (Value.bool (decide ((a0_3.n : Int) = 0)))), (41, .val (Value.bool (decide ((a0_3.n : Int) = 0)))), (40, .val (Value.int .i64 (a0_3.n : Int))), (39, .val (Sl3.v a0_3)), (38, .loc 0 3)] (RS.dn (WS.nxt (WS.rt ?_))))
              cases h
              exact fun a w hs => bkR (sqR (rtR (rS hs)))
            · refine RS.fx 37 false (b_not hp) (RS.mS 6 [(2, .val (Value.bool false)), (42, .val (Value.bool false)), (41, .val undef), (40, .val undef), (39, .val undef), (38, .val undef)] (RS.dn (WS.nxt (WS.rt ?_))))
              cases h
              exact fun a w hs => bkR (sqR (rtR (rS hs)))
          · refine RS.fx 32 false (decide_eq_false hp) (RS.mS 11 [(2, .val (Value.bool false)), (42, .val (Value.bool false)), (41, .val undef), (40, .val undef), (39, .val undef), (38, .val undef), (37, .val (Value.bool false)), (36, .val (Value.bool false)), (35, .val undef), (34, .val undef), (33, .val undef)] (RS.dn (WS.nxt (WS.rt ?_))))
            cases h
            exact fun a w hs => bkR (sqR (rtR (rS hs)))
        · refine RS.fx 27 false (decide_eq_false hp) (RS.mS 16 [(2, .val (Value.bool false)), (42, .val (Value.bool false)), (41, .val undef), (40, .val undef), (39, .val undef), (38, .val undef), (37, .val (Value.bool false)), (36, .val (Value.bool false)), (35, .val undef), (34, .val undef), (33, .val undef), (32, .val (Value.bool false)), (31, .val (Value.bool false)), (30, .val undef), (29, .val undef), (28, .val undef)] (RS.dn (WS.nxt (WS.rt ?_))))
          cases h
          exact fun a w hs => bkR (sqR (rtR (rS hs)))
      · refine WS.fx 22 false (decide_eq_false hp) (WS.cF (WS.sq (WS.rg (RS.mS 2 [(43, .val (Value.bool (decide (a0_0 = 4)))), (44, .val (Value.bool (decide (a0_0 = 4))))] (RS.dn (WS.nxt ?_))))))
        rcases ite_some h with ⟨hp, h⟩ | ⟨hp, h⟩
        · refine WS.fx 43 true (decide_eq_true hp) (WS.cT (WS.sq (WS.rg (RS.mS 4 [(48, .val (Value.bool (decide (a0_1 = 0)))), (47, .val (Value.bool (decide (a0_1 = 0)))), (46, .val (Value.int .i64 a0_1)), (45, .loc 0 1)] ?_))))
          rcases ite_some h with ⟨hp, h⟩ | ⟨hp, h⟩
          · refine RS.fx 48 true (decide_eq_true hp) (RS.mS 5 [(53, .val (Value.bool (a0_2.toList == (⟨#[]⟩ : ByteArray).toList))), (52, .val (Value.bool (a0_2.toList == (⟨#[]⟩ : ByteArray).toList))), (51, .val (Value.bool (a0_2.toList == (⟨#[]⟩ : ByteArray).toList))), (50, .val (Value.string a0_2)), (49, .loc 0 2)] ?_)
            rcases ite_some h with ⟨hp, h⟩ | ⟨hp, h⟩
            · refine RS.fx 53 true hp (RS.mS 6 [(59, .val (Value.bool (decide ((a0_3.n : Int) = 2)))), (58, .val (Value.bool (decide ((a0_3.n : Int) = 2)))), (57, .val (Value.bool (decide ((a0_3.n : Int) = 2)))), (56, .val (Value.int .i64 (a0_3.n : Int))), (55, .val (Sl3.v a0_3)), (54, .loc 0 3)] ?_)
              rcases ite_some h with ⟨hp, h⟩ | ⟨hp, h⟩
              · refine RS.fx 59 true (decide_eq_true hp) (RS.mS 2 [(61, .val (Sl3.v a0_3)), (60, .loc 0 3)] ?_)
                obtain ⟨p2, hx, h⟩ := bind_some h
                refine RS.o (H' := H) (some 62) (Value.pointer (some p2)) (Abs.run_idx (s := a0_3) (k := .i64) (t := 26) (e := 28) (x := .tmp 61) (y := .const (Value.int .i64 0)) (by kernel_rfl) (by kernel_rfl) (by kernel_rfl) (by kernel_rfl) (by kernel_rfl) hx) ?_
                obtain ⟨x3_0, hx0, h⟩ := bind_some h
                obtain ⟨x3_1, hx1, h⟩ := bind_some h
                obtain ⟨x3_2, hx2, h⟩ := bind_some h
                obtain ⟨x3_3, hx3, h⟩ := bind_some h
                refine RS.o (H' := H) (some 63) (Value.agg #[(Value.int .i64 x3_0), (Value.int .i64 x3_1), (Value.string x3_2), (Sl3.v x3_3)]) (Abs.run_loadAg (t := 28) (x := .tmp 62) (a := p2) (k := 4) (by kernel_rfl) (by kernel_rfl) (by kernel_rfl) (by kernel_rfl) (rdc_cons (rd_cell hx0 deI_inv) (rdc_cons (rd_cell hx1 deI_inv) (rdc_cons (rd_cell hx2 deS_inv) (rdc_cons (rd_cell hx3 deSl_inv) rdc_nil))))) ?_
                obtain ⟨x4, hx, h⟩ := bind_some h
                refine RS.cl (some 64) (v := (Value.bool x4)) 70 #[(Value.agg #[(Value.int .i64 x3_0), (Value.int .i64 x3_1), (Value.string x3_2), (Sl3.v x3_3)])] (hrec_ref04_shape _ _ _ _ _ _ _ hx) (RS.mS 2 [(66, .val (Value.bool x4)), (65, .val (Value.bool x4))] ?_)
                rcases ite_some h with ⟨hp, h⟩ | ⟨hp, h⟩
                · refine RS.fx 66 true hp (RS.mS 2 [(68, .val (Sl3.v a0_3)), (67, .loc 0 3)] ?_)
                  obtain ⟨p5, hx, h⟩ := bind_some h
                  refine RS.o (H' := H) (some 69) (Value.pointer (some p5)) (Abs.run_idx (s := a0_3) (k := .i64) (t := 26) (e := 28) (x := .tmp 68) (y := .const (Value.int .i64 1)) (by kernel_rfl) (by kernel_rfl) (by kernel_rfl) (by kernel_rfl) (by kernel_rfl) hx) ?_
                  obtain ⟨x6_0, hx0, h⟩ := bind_some h
                  obtain ⟨x6_1, hx1, h⟩ := bind_some h
                  obtain ⟨x6_2, hx2, h⟩ := bind_some h
                  obtain ⟨x6_3, hx3, h⟩ := bind_some h
                  refine RS.o (H' := H) (some 70) (Value.agg #[(Value.int .i64 x6_0), (Value.int .i64 x6_1), (Value.string x6_2), (Sl3.v x6_3)]) (Abs.run_loadAg (t := 28) (x := .tmp 69) (a := p5) (k := 4) (by kernel_rfl) (by kernel_rfl) (by kernel_rfl) (by kernel_rfl) (rdc_cons (rd_cell hx0 deI_inv) (rdc_cons (rd_cell hx1 deI_inv) (rdc_cons (rd_cell hx2 deS_inv) (rdc_cons (rd_cell hx3 deSl_inv) rdc_nil))))) ?_
                  obtain ⟨x7, hx, h⟩ := bind_some h
                  refine RS.cl (some 71) (v := (Value.bool x7)) 70 #[(Value.agg #[(Value.int .i64 x6_0), (Value.int .i64 x6_1), (Value.string x6_2), (Sl3.v x6_3)])] (hrec_ref04_shape _ _ _ _ _ _ _ hx) (RS.mS 2 [(2, .val (Value.bool x7)), (72, .val (Value.bool x7))] (RS.dn (WS.nxt (WS.rt ?_))))
                  cases h
                  exact fun a w hs => bkR (sqR (rtR (rS hs)))
                · refine RS.fx 66 false (b_not hp) (RS.mS 7 [(2, .val (Value.bool false)), (72, .val (Value.bool false)), (71, .val undef), (70, .val undef), (69, .val undef), (68, .val undef), (67, .val undef)] (RS.dn (WS.nxt (WS.rt ?_))))
                  cases h
                  exact fun a w hs => bkR (sqR (rtR (rS hs)))
              · refine RS.fx 59 false (decide_eq_false hp) (RS.mS 14 [(2, .val (Value.bool false)), (72, .val (Value.bool false)), (71, .val undef), (70, .val undef), (69, .val undef), (68, .val undef), (67, .val undef), (66, .val (Value.bool false)), (65, .val (Value.bool false)), (64, .val undef), (63, .val undef), (62, .val undef), (61, .val undef), (60, .val undef)] (RS.dn (WS.nxt (WS.rt ?_))))
                cases h
                exact fun a w hs => bkR (sqR (rtR (rS hs)))
            · refine RS.fx 53 false (b_not hp) (RS.mS 20 [(2, .val (Value.bool false)), (72, .val (Value.bool false)), (71, .val undef), (70, .val undef), (69, .val undef), (68, .val undef), (67, .val undef), (66, .val (Value.bool false)), (65, .val (Value.bool false)), (64, .val undef), (63, .val undef), (62, .val undef), (61, .val undef), (60, .val undef), (59, .val (Value.bool false)), (58, .val (Value.bool false)), (57, .val undef), (56, .val undef), (55, .val undef), (54, .val undef)] (RS.dn (WS.nxt (WS.rt ?_))))
              cases h
              exact fun a w hs => bkR (sqR (rtR (rS hs)))
          · refine RS.fx 48 false (decide_eq_false hp) (RS.mS 25 [(2, .val (Value.bool false)), (72, .val (Value.bool false)), (71, .val undef), (70, .val undef), (69, .val undef), (68, .val undef), (67, .val undef), (66, .val (Value.bool false)), (65, .val (Value.bool false)), (64, .val undef), (63, .val undef), (62, .val undef), (61, .val undef), (60, .val undef), (59, .val (Value.bool false)), (58, .val (Value.bool false)), (57, .val undef), (56, .val undef), (55, .val undef), (54, .val undef), (53, .val (Value.bool false)), (52, .val (Value.bool false)), (51, .val undef), (50, .val undef), (49, .val undef)] (RS.dn (WS.nxt (WS.rt ?_))))
            cases h
            exact fun a w hs => bkR (sqR (rtR (rS hs)))
        · refine WS.fx 43 false (decide_eq_false hp) (WS.cF ?_)
          obtain ⟨v73_8, hx, h⟩ := bind_some h
          refine WS.sq ?_
          refine WS.join ([(73, .val (Value.bool v73_8)), (1, .loc 0 0)]) ([some (28, [(Value.int .i64 a0_0), (Value.int .i64 a0_1), (Value.string a0_2), (Sl3.v a0_3)])]) H ?_ (fun a w hs => WS.nxt ?_ a w hs)
          · clear h; rename _ => h
            refine WS.sq (WS.rg (RS.mS 2 [(73, .val (Value.bool (decide (a0_0 = 5)))), (74, .val (Value.bool (decide (a0_0 = 5))))] (RS.dn (WS.nxt ?_))))
            rcases ite_some h with ⟨hp, h⟩ | ⟨hp, h⟩
            · refine WS.fx 73 true (decide_eq_true hp) (WS.cT (WS.sk ?_))
              cases h
              exact fun a w hs => (jsN (hs.sb 1))
            · refine WS.fx 73 false (decide_eq_false hp) (WS.cF (WS.rg (RS.mS 2 [(73, .val (Value.bool (decide (a0_0 = 6)))), (75, .val (Value.bool (decide (a0_0 = 6))))] (RS.dn ?_))))
              cases h
              exact fun a w hs => (jsN (hs.sb 1))
          · clear hx
            rcases ite_some h with ⟨hp, h⟩ | ⟨hp, h⟩
            · refine WS.fx 73 true hp (WS.cT (WS.sq (WS.rg (RS.mS 4 [(79, .val (Value.bool (decide (a0_1 = 0)))), (78, .val (Value.bool (decide (a0_1 = 0)))), (77, .val (Value.int .i64 a0_1)), (76, .loc 0 1)] ?_))))
              rcases ite_some h with ⟨hp, h⟩ | ⟨hp, h⟩
              · refine RS.fx 79 true (decide_eq_true hp) (RS.mS 6 [(85, .val (Value.bool (decide ((a0_3.n : Int) = 0)))), (84, .val (Value.bool (decide ((a0_3.n : Int) = 0)))), (83, .val (Value.bool (decide ((a0_3.n : Int) = 0)))), (82, .val (Value.int .i64 (a0_3.n : Int))), (81, .val (Sl3.v a0_3)), (80, .loc 0 3)] ?_)
                rcases ite_some h with ⟨hp, h⟩ | ⟨hp, h⟩
                · refine RS.fx 85 true (decide_eq_true hp) (RS.mS 2 [(87, .val (Value.string a0_2)), (86, .loc 0 2)] ?_)
                  obtain ⟨x9, hx, h⟩ := bind_some h
                  refine RS.cl (some 88) (v := (Value.bool x9)) 14 #[(Value.string a0_2)] (ref04_Name_ok hx) (RS.mS 2 [(2, .val (Value.bool x9)), (89, .val (Value.bool x9))] (RS.dn (WS.nxt (WS.rt ?_))))
                  cases h
                  exact fun a w hs => bkR (sqR (rtR (rS hs)))
                · refine RS.fx 85 false (decide_eq_false hp) (RS.mS 5 [(2, .val (Value.bool false)), (89, .val (Value.bool false)), (88, .val undef), (87, .val undef), (86, .val undef)] (RS.dn (WS.nxt (WS.rt ?_))))
                  cases h
                  exact fun a w hs => bkR (sqR (rtR (rS hs)))
              · refine RS.fx 79 false (decide_eq_false hp) (RS.mS 11 [(2, .val (Value.bool false)), (89, .val (Value.bool false)), (88, .val undef), (87, .val undef), (86, .val undef), (85, .val (Value.bool false)), (84, .val (Value.bool false)), (83, .val undef), (82, .val undef), (81, .val undef), (80, .val undef)] (RS.dn (WS.nxt (WS.rt ?_))))
                cases h
                exact fun a w hs => bkR (sqR (rtR (rS hs)))
            · refine WS.fx 73 false (b_not hp) (WS.cF (WS.sk ?_))
              refine fun a w hs => bkN ((WS.nxt ?_ a w hs))
              refine WS.sq (WS.rg (RS.mS 1 [(2, .val (Value.bool false))] (RS.dn (WS.nxt (WS.rt ?_)))))
              cases h
              exact fun a w hs => rtR (rS hs)

theorem fam_ref04_shape_ok {L : LC} : ∀ n, (∀ (m : Nat) (H : AH) (a0_0 : Int) (a0_1 : Int) (a0_2 : ByteArray) (a0_3 : Sl3) (r : Bool), ((fam_ref04_shape L n)) H a0_0 a0_1 a0_2 a0_3 = some r → CallS Tryd.prog (NE.plain 1000) m 70 #[(Value.agg #[(Value.int .i64 a0_0), (Value.int .i64 a0_1), (Value.string a0_2), (Sl3.v a0_3)])] H (ref04_shape_enc r) (ref04_shape_hp H r)) := by
  intro n
  induction n with
  | zero => exact (fun _ _ _ _ _ _ _ h => (Option.some_ne_none _ h.symm).elim)
  | succ n ih => exact (fun _ _ _ _ _ _ _ h => ref04_shape_body_ok (L := L) ih h)

theorem ref04_shape_ok {L : LC} {m : Nat} {H : AH} {a0_0 : Int} {a0_1 : Int} {a0_2 : ByteArray} {a0_3 : Sl3} {r : Bool} (h : ref04_shape L H a0_0 a0_1 a0_2 a0_3 = some r) :
    CallS Tryd.prog (NE.plain 1000) m 70 #[(Value.agg #[(Value.int .i64 a0_0), (Value.int .i64 a0_1), (Value.string a0_2), (Sl3.v a0_3)])] H (ref04_shape_enc r) (ref04_shape_hp H r) :=
  (fam_ref04_shape_ok _) _ _ _ _ _ _ _ h

def ref04_fits_enc : Int → Value
  | r0 => (Value.int .i64 r0)

def ref04_fits_hp (H : AH) : Int → AH := fun _ => H

noncomputable def B38 : Code := (Tryd.f38.body).getD .skip

noncomputable def ref04_fits (L : LC) (H : AH) (a0_0 : Int) (a0_1 : Int) (a0_2 : ByteArray) (a0_3 : Sl3) : Option Int :=
  Option.bind (α := Bool) (
    Option.bind (ref04_Deep L H a0_0 a0_1 a0_2 a0_3 16) fun x2 =>
    if x2 = true then
      some true
    else
      Option.bind (ref04_Parts L H a0_0 a0_1 a0_2 a0_3) fun x3 =>
      some (decide (x3 > 256))) fun v9_1 =>
  if v9_1 = true then
    some 3
  else
    Option.bind (ref04_shape L H a0_0 a0_1 a0_2 a0_3) fun x4 =>
    if x4 = true then
      some 0
    else
      some 40

theorem ref04_fits_ok {L : LC} {m : Nat} {H : AH} {a0_0 : Int} {a0_1 : Int} {a0_2 : ByteArray} {a0_3 : Sl3} {r : Int} (h : ref04_fits L H a0_0 a0_1 a0_2 a0_3 = some r) :
    CallS Tryd.prog (NE.plain 1000) m 38 #[(Value.agg #[(Value.int .i64 a0_0), (Value.int .i64 a0_1), (Value.string a0_2), (Sl3.v a0_3)])] H (ref04_fits_enc r) (ref04_fits_hp H r) := by
  refine CallS.mk (args := [(Value.agg #[(Value.int .i64 a0_0), (Value.int .i64 a0_1), (Value.string a0_2), (Sl3.v a0_3)])]) Tryd.func38 (B := B38) (by kernel_rfl) (fun E _ => ?_)
  unfold ref04_fits at h
  refine WS.sq (WS.rg (RS.mL 2 [(2, .val (Value.int .i64 0)), (1, .loc 0 0)] ([some (28, [(Value.int .i64 a0_0), (Value.int .i64 a0_1), (Value.string a0_2), (Sl3.v a0_3)])]) (RS.dn (WS.nxt (WS.sq ?_)))))
  obtain ⟨v9_1, hx, h⟩ := bind_some h
  refine WS.sq ?_
  refine WS.join ([(9, .val (Value.bool v9_1)), (1, .loc 0 0)]) ([some (28, [(Value.int .i64 a0_0), (Value.int .i64 a0_1), (Value.string a0_2), (Sl3.v a0_3)])]) H ?_ (fun a w hs => WS.nxt ?_ a w hs)
  · clear h; rename _ => h
    refine WS.rg (RS.mS 1 [(3, .val (Value.agg #[(Value.int .i64 a0_0), (Value.int .i64 a0_1), (Value.string a0_2), (Sl3.v a0_3)]))] ?_)
    obtain ⟨x2, hx, h⟩ := bind_some h
    refine RS.cl (some 4) (v := (Value.bool x2)) 68 #[(Value.agg #[(Value.int .i64 a0_0), (Value.int .i64 a0_1), (Value.string a0_2), (Sl3.v a0_3)]), (Value.int .i64 16)] (ref04_Deep_ok hx) (RS.mS 1 [(5, .val (Value.bool x2))] ?_)
    rcases ite_some h with ⟨hp, h⟩ | ⟨hp, h⟩
    · refine RS.fx 5 true hp (RS.mS 4 [(9, .val (Value.bool true)), (8, .val undef), (7, .val undef), (6, .val undef)] (RS.dn ?_))
      cases h
      exact fun a w hs => (jsN (hs.sb 1))
    · refine RS.fx 5 false (b_not hp) (RS.mS 1 [(6, .val (Value.agg #[(Value.int .i64 a0_0), (Value.int .i64 a0_1), (Value.string a0_2), (Sl3.v a0_3)]))] ?_)
      obtain ⟨x3, hx, h⟩ := bind_some h
      refine RS.cl (some 7) (v := (Value.int .i64 x3)) 69 #[(Value.agg #[(Value.int .i64 a0_0), (Value.int .i64 a0_1), (Value.string a0_2), (Sl3.v a0_3)])] (ref04_Parts_ok hx) (RS.mS 2 [(9, .val (Value.bool (decide (x3 > 256)))), (8, .val (Value.bool (decide (x3 > 256))))] (RS.dn ?_))
      cases h
      exact fun a w hs => (jsN (hs.sb 1))
  · clear hx
    rcases ite_some h with ⟨hp, h⟩ | ⟨hp, h⟩
    · refine WS.fx 9 true hp (WS.cT (WS.sq (WS.rg (RS.mS 1 [(2, .val (Value.int .i64 3))] (RS.dn (WS.nxt (WS.rt ?_)))))))
      cases h
      exact fun a w hs => sqR (rtR (rS hs))
    · refine WS.fx 9 false (b_not hp) (WS.cF (WS.sk (WS.nxt (WS.sq (WS.sq (WS.rg (RS.mS 1 [(10, .val (Value.agg #[(Value.int .i64 a0_0), (Value.int .i64 a0_1), (Value.string a0_2), (Sl3.v a0_3)]))] ?_)))))))
      obtain ⟨x4, hx, h⟩ := bind_some h
      refine RS.cl (some 11) (v := (Value.bool x4)) 70 #[(Value.agg #[(Value.int .i64 a0_0), (Value.int .i64 a0_1), (Value.string a0_2), (Sl3.v a0_3)])] (ref04_shape_ok hx) (RS.mS 1 [(12, .val (Value.bool (!x4)))] (RS.dn (WS.nxt ?_)))
      rcases ite_some h with ⟨hp, h⟩ | ⟨hp, h⟩
      · refine WS.fx 12 false (nb_not hp) (WS.cF (WS.sk (WS.nxt (WS.sq (WS.rg (RS.mS 1 [(2, .val (Value.int .i64 0))] (RS.dn (WS.nxt (WS.rt ?_)))))))))
        cases h
        exact fun a w hs => rtR (rS hs)
      · refine WS.fx 12 true (nb_not' hp) (WS.cT (WS.sq (WS.rg (RS.mS 1 [(2, .val (Value.int .i64 40))] (RS.dn (WS.nxt (WS.rt ?_)))))))
        cases h
        exact fun a w hs => sqR (rtR (rS hs))

def ref04_Data_enc : Int → Value
  | r0 => (Value.int .i64 r0)

def ref04_Data_hp (H : AH) : Int → AH := fun _ => H

noncomputable def B72 : Code := (Tryd.f72.body).getD .skip

noncomputable def ref04_Data_b0 (_L : LC) (H : AH) (_a0_0 : Sl3) (a0_1 : Sl3) (_a0_2 : Sl3) (a1 : ByteArray) : Int → Option (Lp Int Int) := fun v5_1 =>
  if v5_1 < (a0_1.n : Int) then
    Option.bind (idxA 2 a0_1 v5_1) fun p2 =>
    Option.bind (rd deS H (Addr.add p2 0)) fun x3 =>
    if (x3.toList == a1.toList) = true then
      some (.ret v5_1)
    else
      some (.next (IntKind.i64.wrap (v5_1 + 1)))
  else
    some (.brk v5_1)

def ref04_Data_b0_kn (_L : LC) (_H : AH) (_a0_0 : Sl3) (_a0_1 : Sl3) (_a0_2 : Sl3) (a1 : ByteArray) : Int → KN := fun v5_1 => [(5, .val (Value.int .i64 v5_1)), (1, .val (Value.string a1)), (2, .loc 0 0)]

def ref04_Data_b0_ls (_L : LC) (_H : AH) (a0_0 : Sl3) (a0_1 : Sl3) (a0_2 : Sl3) (_a1 : ByteArray) : Int → Lcs := fun _ => [some (33, [(Sl3.v a0_0), (Sl3.v a0_1), (Sl3.v a0_2)])]

noncomputable def ref04_Data (L : LC) (H : AH) (a0_0 : Sl3) (a0_1 : Sl3) (a0_2 : Sl3) (a1 : ByteArray) : Option Int :=
  Option.bind (L.run (ref04_Data_b0 L H a0_0 a0_1 a0_2 a1) 0) fun o => match o with
  | .inl _ =>
    some (-1)
  | .inr r => some r

theorem ref04_Data_b0_ok {E : Ent} {m : Nat} {L : LC} {H : AH} {a0_0 : Sl3} {a0_1 : Sl3} {a0_2 : Sl3} {a1 : ByteArray}  : ∀ s o, ref04_Data_b0 L H a0_0 a0_1 a0_2 a1 s = some o →
    WS Tryd.prog (NE.plain 1000) m E Tryd.f72.ntmps (cfst (cfst (csnd (cfst (csnd B72))))) (ref04_Data_b0_kn L H a0_0 a0_1 a0_2 a1 s) (ref04_Data_b0_ls L H a0_0 a0_1 a0_2 a1 s) ((fun _ => H) s) (lpS Tryd.prog (NE.plain 1000) m E Tryd.f72.ntmps (ref04_Data_b0_kn L H a0_0 a0_1 a0_2 a1) (ref04_Data_b0_ls L H a0_0 a0_1 a0_2 a1) (fun _ => H) 0 (fun r => RT Tryd.prog (NE.plain 1000) m E Tryd.f72 (ref04_Data_enc r) (ref04_Data_hp H r)) o) := by
  rintro v5_1 o h
  unfold ref04_Data_b0 at h
  try dsimp only at h
  refine WS.sq (WS.sq (WS.rg (RS.mS 5 [(10, .val (Value.bool (decide (v5_1 < (a0_1.n : Int))))), (9, .val (Value.int .i64 (a0_1.n : Int))), (8, .val (Sl3.v a0_1)), (7, .loc 0 1), (6, .val (Value.int .i64 v5_1))] (RS.dn (WS.nxt ?_)))))
  rcases ite_some h with ⟨hp, h⟩ | ⟨hp, h⟩
  · refine WS.fx 10 true (decide_eq_true hp) (WS.cT (WS.sk (WS.nxt (WS.sq (WS.bk 1 (WS.sq (WS.rg (RS.mS 3 [(15, .val (Value.int .i64 v5_1)), (14, .val (Sl3.v a0_1)), (13, .loc 0 1)] ?_))))))))
    obtain ⟨p2, hx, h⟩ := bind_some h
    refine RS.o (H' := H) (some 16) (Value.pointer (some p2)) (Abs.run_idx (s := a0_1) (k := .i64) (t := 30) (e := 46) (x := .tmp 14) (y := .tmp 15) (by kernel_rfl) (by kernel_rfl) (by kernel_rfl) (by kernel_rfl) (by kernel_rfl) hx) (RS.mS 1 [(17, .val (Value.pointer (some (Addr.add p2 0))))] ?_)
    obtain ⟨x3, hx, h⟩ := bind_some h
    refine RS.o (H' := H) (some 18) (Value.string x3) (Abs.run_load (t := 9) (x := .tmp 17) (a := (Addr.add p2 0)) (by kernel_rfl) (by kernel_rfl) (by kernel_rfl) (rd_cell hx deS_inv)) (RS.mS 2 [(20, .val (Value.bool (x3.toList == a1.toList))), (19, .val (Value.string a1))] (RS.dn (WS.nxt ?_)))
    rcases ite_some h with ⟨hp, h⟩ | ⟨hp, h⟩
    · refine WS.fx 20 true hp (WS.cT (WS.sq (WS.rg (RS.mS 2 [(4, .val (Value.int .i64 v5_1)), (21, .val (Value.int .i64 v5_1))] (RS.dn (WS.nxt (WS.rt ?_)))))))
      cases h
      exact fun a w hs => bkR (sqR (lsR rfl (rS hs)))
    · refine WS.fx 20 false (b_not hp) (WS.cF (WS.sk ?_))
      refine fun a w hs => bkN ((WS.nxt ?_ a w hs))
      refine WS.rg (RS.mS 3 [(5, .val (Value.int .i64 (IntKind.i64.wrap (v5_1 + 1)))), (12, .val (Value.int .i64 (IntKind.i64.wrap (v5_1 + 1)))), (11, .val (Value.int .i64 v5_1))] (RS.dn ?_))
      cases h
      exact fun a w hs => lsN rfl (hs.sb 1)
  · refine WS.fx 10 false (decide_eq_false hp) (WS.cF (WS.ex 0 ?_))
    cases h
    exact fun a w hs => sqE (lsB rfl (hs.sb 1))

theorem ref04_Data_ok {L : LC} {m : Nat} {H : AH} {a0_0 : Sl3} {a0_1 : Sl3} {a0_2 : Sl3} {a1 : ByteArray} {r : Int} (h : ref04_Data L H a0_0 a0_1 a0_2 a1 = some r) :
    CallS Tryd.prog (NE.plain 1000) m 72 #[(Value.agg #[(Sl3.v a0_0), (Sl3.v a0_1), (Sl3.v a0_2)]), (Value.string a1)] H (ref04_Data_enc r) (ref04_Data_hp H r) := by
  refine CallS.mk (args := [(Value.agg #[(Sl3.v a0_0), (Sl3.v a0_1), (Sl3.v a0_2)]), (Value.string a1)]) Tryd.func72 (B := B72) (by kernel_rfl) (fun E _ => ?_)
  unfold ref04_Data at h
  refine WS.sq (WS.rg (RS.mL 2 [(4, .val (Value.int .i64 0)), (2, .loc 0 0)] ([some (33, [(Sl3.v a0_0), (Sl3.v a0_1), (Sl3.v a0_2)])]) (RS.dn (WS.nxt (WS.sq (WS.sq (WS.rg (RS.mS 1 [(5, .val (Value.int .i64 0))] (RS.dn ?_)))))))))
  refine WS.nxt (WS.bk 0 ?_)
  obtain ⟨o, hl, h⟩ := bind_some h
  rcases o with v5_4 | r
  · try dsimp only at h
    refine WS.lI (ref04_Data_b0_ok (L := L) (E := E) (m := m) (H := H)) (L.ok hl) 1 ?_
    clear hl
    refine fun a w hs => bkE ((WS.nxt ?_ a w hs))
    refine WS.sq (WS.rg (RS.mS 1 [(4, .val (Value.int .i64 (-1)))] (RS.dn (WS.nxt (WS.rt ?_)))))
    cases h
    exact fun a w hs => rtR (rS hs)
  · try dsimp only at h
    refine WS.lR (ref04_Data_b0_ok (L := L) (E := E) (m := m) (H := H)) (L.ok hl) 1 ?_
    cases h
    exact fun a w hq => bkR (sqR (rtR hq))

end Go.Proofs.YtccbilfbhecdaaaDoor


namespace Go.Proofs.YtccbilfbhecdaaaDoor
open Go Go.Abs
set_option maxRecDepth 100000

def ref04_known_enc : Bool → Value
  | r0 => (Value.bool r0)

def ref04_known_hp (H : AH) : Bool → AH := fun _ => H

noncomputable def B39 : Code := (Tryd.f39.body).getD .skip

noncomputable def ref04_known_b0 (_L : LC) (rec_ref04_known : AH → Int → Int → ByteArray → Sl3 → Sl3 → Sl3 → Sl3 → Option Bool) (H : AH) (_a0_0 : Int) (_a0_1 : Int) (_a0_2 : ByteArray) (a0_3 : Sl3) (a1_0 : Sl3) (a1_1 : Sl3) (a1_2 : Sl3) : Int → Option (Lp Int Bool) := fun v5_5 =>
  if v5_5 < (a0_3.n : Int) then
    Option.bind (idxA 4 a0_3 v5_5) fun p6 =>
    Option.bind (rd (deI .i64) H (Addr.add p6 0)) fun x7_0 =>
    Option.bind (rd (deI .i64) H (Addr.add p6 1)) fun x7_1 =>
    Option.bind (rd deS H (Addr.add p6 2)) fun x7_2 =>
    Option.bind (rd deSl H (Addr.add p6 3)) fun x7_3 =>
    Option.bind (rec_ref04_known H x7_0 x7_1 x7_2 x7_3 a1_0 a1_1 a1_2) fun x8 =>
    if x8 = true then
      some (.next (IntKind.i64.wrap (v5_5 + 1)))
    else
      some (.ret false)
  else
    some (.brk v5_5)

def ref04_known_b0_kn (_L : LC) (_rec_ref04_known : AH → Int → Int → ByteArray → Sl3 → Sl3 → Sl3 → Sl3 → Option Bool) (_H : AH) (_a0_0 : Int) (_a0_1 : Int) (_a0_2 : ByteArray) (_a0_3 : Sl3) (_a1_0 : Sl3) (_a1_1 : Sl3) (_a1_2 : Sl3) : Int → KN := fun v5_5 => [(5, .val (Value.int .i64 v5_5)), (2, .loc 0 0), (3, .loc 1 0)]

def ref04_known_b0_ls (_L : LC) (_rec_ref04_known : AH → Int → Int → ByteArray → Sl3 → Sl3 → Sl3 → Sl3 → Option Bool) (_H : AH) (a0_0 : Int) (a0_1 : Int) (a0_2 : ByteArray) (a0_3 : Sl3) (a1_0 : Sl3) (a1_1 : Sl3) (a1_2 : Sl3) : Int → Lcs := fun _ => [some (28, [(Value.int .i64 a0_0), (Value.int .i64 a0_1), (Value.string a0_2), (Sl3.v a0_3)]), some (33, [(Sl3.v a1_0), (Sl3.v a1_1), (Sl3.v a1_2)])]

noncomputable def ref04_known_body (L : LC) (rec_ref04_known : AH → Int → Int → ByteArray → Sl3 → Sl3 → Sl3 → Sl3 → Option Bool) (H : AH) (a0_0 : Int) (a0_1 : Int) (a0_2 : ByteArray) (a0_3 : Sl3) (a1_0 : Sl3) (a1_1 : Sl3) (a1_2 : Sl3) : Option Bool :=
  Option.bind (α := Bool) (
    if a0_0 = 5 then
      Option.bind (ref04_has L H a1_0 a0_2) fun x2 =>
      if x2 = true then
        if a0_0 = 6 then
          Option.bind (ref04_Data L H a1_0 a1_1 a1_2 a0_2) fun x3 =>
          some (decide (x3 < 0))
        else
          some false
      else
        some true
    else
      if a0_0 = 6 then
        Option.bind (ref04_Data L H a1_0 a1_1 a1_2 a0_2) fun x4 =>
        some (decide (x4 < 0))
      else
        some false) fun v28_1 =>
  if v28_1 = true then
    some false
  else
    Option.bind (L.run (ref04_known_b0 L rec_ref04_known H a0_0 a0_1 a0_2 a0_3 a1_0 a1_1 a1_2) 0) fun o => match o with
    | .inl _ =>
      some true
    | .inr r => some r

noncomputable def fam_ref04_known (L : LC) (n : Nat) : (AH → Int → Int → ByteArray → Sl3 → Sl3 → Sl3 → Sl3 → Option Bool) := Nat.rec (motive := fun _ => (AH → Int → Int → ByteArray → Sl3 → Sl3 → Sl3 → Sl3 → Option Bool)) (fun _ _ _ _ _ _ _ _ => none) (fun _ p => ref04_known_body L p) n

noncomputable def ref04_known (L : LC) (H : AH) (a0_0 : Int) (a0_1 : Int) (a0_2 : ByteArray) (a0_3 : Sl3) (a1_0 : Sl3) (a1_1 : Sl3) (a1_2 : Sl3) : Option Bool := (fam_ref04_known L L.fuel) H a0_0 a0_1 a0_2 a0_3 a1_0 a1_1 a1_2

theorem ref04_known_b0_ok {E : Ent} {m : Nat} {L : LC} {rec_ref04_known : AH → Int → Int → ByteArray → Sl3 → Sl3 → Sl3 → Sl3 → Option Bool} {H : AH} {a0_0 : Int} {a0_1 : Int} {a0_2 : ByteArray} {a0_3 : Sl3} {a1_0 : Sl3} {a1_1 : Sl3} {a1_2 : Sl3} (hrec_ref04_known : ∀ (m : Nat) (H : AH) (a0_0 : Int) (a0_1 : Int) (a0_2 : ByteArray) (a0_3 : Sl3) (a1_0 : Sl3) (a1_1 : Sl3) (a1_2 : Sl3) (r : Bool), rec_ref04_known H a0_0 a0_1 a0_2 a0_3 a1_0 a1_1 a1_2 = some r → CallS Tryd.prog (NE.plain 1000) m 39 #[(Value.agg #[(Value.int .i64 a0_0), (Value.int .i64 a0_1), (Value.string a0_2), (Sl3.v a0_3)]), (Value.agg #[(Sl3.v a1_0), (Sl3.v a1_1), (Sl3.v a1_2)])] H (ref04_known_enc r) (ref04_known_hp H r)) : ∀ s o, ref04_known_b0 L rec_ref04_known H a0_0 a0_1 a0_2 a0_3 a1_0 a1_1 a1_2 s = some o →
    WS Tryd.prog (NE.plain 1000) m E Tryd.f39.ntmps (cfst (cfst (csnd (cfst (csnd (csnd B39)))))) (ref04_known_b0_kn L rec_ref04_known H a0_0 a0_1 a0_2 a0_3 a1_0 a1_1 a1_2 s) (ref04_known_b0_ls L rec_ref04_known H a0_0 a0_1 a0_2 a0_3 a1_0 a1_1 a1_2 s) ((fun _ => H) s) (lpS Tryd.prog (NE.plain 1000) m E Tryd.f39.ntmps (ref04_known_b0_kn L rec_ref04_known H a0_0 a0_1 a0_2 a0_3 a1_0 a1_1 a1_2) (ref04_known_b0_ls L rec_ref04_known H a0_0 a0_1 a0_2 a0_3 a1_0 a1_1 a1_2) (fun _ => H) 0 (fun r => RT Tryd.prog (NE.plain 1000) m E Tryd.f39 (ref04_known_enc r) (ref04_known_hp H r)) o) := by
  rintro v5_5 o h
  unfold ref04_known_b0 at h
  try dsimp only at h
  refine WS.sq (WS.sq (WS.rg (RS.mS 5 [(33, .val (Value.bool (decide (v5_5 < (a0_3.n : Int))))), (32, .val (Value.int .i64 (a0_3.n : Int))), (31, .val (Sl3.v a0_3)), (30, .loc 0 3), (29, .val (Value.int .i64 v5_5))] (RS.dn (WS.nxt ?_)))))
  rcases ite_some h with ⟨hp, h⟩ | ⟨hp, h⟩
  · refine WS.fx 33 true (decide_eq_true hp) (WS.cT (WS.sk (WS.nxt (WS.sq (WS.bk 1 (WS.sq ?_))))))
    refine WS.dr [0, 1, 2, 3, 4, 5] [0, 1, 0, 7, 15, 0, 63, 127] 8 (fun hcl => ?_)
    refine DA.tL 0 (some 36) (.loc 0 3) (DA.tL 1 (some 37) (.val (Sl3.v a0_3)) (DA.tK 2 (some 38) (Value.int .i64 v5_5) ?_))
    obtain ⟨p6, hx, h⟩ := bind_some h
    refine DA.tD 3 (some 39) (Value.pointer (some p6)) (Abs.det_idx (s := a0_3) (k := .i64) (t := 26) (e := 28) (x := .tmp 37) (y := .tmp 38) (by kernel_rfl) (by kernel_rfl) (by kernel_rfl) (by kernel_rfl) (by kernel_rfl) hx) ?_
    obtain ⟨x7_0, hx0, h⟩ := bind_some h
    obtain ⟨x7_1, hx1, h⟩ := bind_some h
    obtain ⟨x7_2, hx2, h⟩ := bind_some h
    obtain ⟨x7_3, hx3, h⟩ := bind_some h
    refine DA.tD 4 (some 40) (Value.agg #[(Value.int .i64 x7_0), (Value.int .i64 x7_1), (Value.string x7_2), (Sl3.v x7_3)]) (Abs.det_loadA (t := 28) (x := .tmp 39) (a := p6) (k := 4) (by kernel_rfl) (by kernel_rfl) (by kernel_rfl) (by kernel_rfl) (rdc_cons (rd_cell hx0 deI_inv) (rdc_cons (rd_cell hx1 deI_inv) (rdc_cons (rd_cell hx2 deS_inv) (rdc_cons (rd_cell hx3 deSl_inv) rdc_nil))))) (DA.tL 5 (some 41) (.val (Value.agg #[(Sl3.v a1_0), (Sl3.v a1_1), (Sl3.v a1_2)])) ?_)
    obtain ⟨x8, hx, h⟩ := bind_some h
    refine DA.on 6 (DA.aC 6 (some 42) (v := (Value.bool x8)) 39 #[(Value.agg #[(Value.int .i64 x7_0), (Value.int .i64 x7_1), (Value.string x7_2), (Sl3.v x7_3)]), (Value.agg #[(Sl3.v a1_0), (Sl3.v a1_1), (Sl3.v a1_2)])] (hrec_ref04_known _ _ _ _ _ _ _ _ _ _ hx) (DA.tP 7 (some 43) (Value.bool (!x8)) (DA.dn (WS.nxt ?_))))
    rcases ite_some h with ⟨hp, h⟩ | ⟨hp, h⟩
    · refine WS.fx 43 false (nb_not hp) (WS.cF (WS.sk ?_))
      refine fun a w hs => bkN ((WS.nxt ?_ a w hs))
      refine WS.rg (RS.mS 3 [(5, .val (Value.int .i64 (IntKind.i64.wrap (v5_5 + 1)))), (35, .val (Value.int .i64 (IntKind.i64.wrap (v5_5 + 1)))), (34, .val (Value.int .i64 v5_5))] (RS.dn ?_))
      cases h
      exact fun a w hs => lsN rfl (hs.sb 2)
    · refine WS.fx 43 true (nb_not' hp) (WS.cT (WS.sq (WS.rg (RS.mS 1 [(4, .val (Value.bool false))] (RS.dn (WS.nxt (WS.rt ?_)))))))
      cases h
      exact fun a w hs => bkR (sqR (lsR rfl (rS hs)))
  · refine WS.fx 33 false (decide_eq_false hp) (WS.cF (WS.ex 0 ?_))
    cases h
    exact fun a w hs => sqE (lsB rfl (hs.sb 2))

theorem ref04_known_body_ok {L : LC} {rec_ref04_known : AH → Int → Int → ByteArray → Sl3 → Sl3 → Sl3 → Sl3 → Option Bool} (hrec_ref04_known : ∀ (m : Nat) (H : AH) (a0_0 : Int) (a0_1 : Int) (a0_2 : ByteArray) (a0_3 : Sl3) (a1_0 : Sl3) (a1_1 : Sl3) (a1_2 : Sl3) (r : Bool), rec_ref04_known H a0_0 a0_1 a0_2 a0_3 a1_0 a1_1 a1_2 = some r → CallS Tryd.prog (NE.plain 1000) m 39 #[(Value.agg #[(Value.int .i64 a0_0), (Value.int .i64 a0_1), (Value.string a0_2), (Sl3.v a0_3)]), (Value.agg #[(Sl3.v a1_0), (Sl3.v a1_1), (Sl3.v a1_2)])] H (ref04_known_enc r) (ref04_known_hp H r)) {m : Nat} {H : AH} {a0_0 : Int} {a0_1 : Int} {a0_2 : ByteArray} {a0_3 : Sl3} {a1_0 : Sl3} {a1_1 : Sl3} {a1_2 : Sl3} {r : Bool} (h : ref04_known_body L rec_ref04_known H a0_0 a0_1 a0_2 a0_3 a1_0 a1_1 a1_2 = some r) :
    CallS Tryd.prog (NE.plain 1000) m 39 #[(Value.agg #[(Value.int .i64 a0_0), (Value.int .i64 a0_1), (Value.string a0_2), (Sl3.v a0_3)]), (Value.agg #[(Sl3.v a1_0), (Sl3.v a1_1), (Sl3.v a1_2)])] H (ref04_known_enc r) (ref04_known_hp H r) := by
  refine CallS.mk (args := [(Value.agg #[(Value.int .i64 a0_0), (Value.int .i64 a0_1), (Value.string a0_2), (Sl3.v a0_3)]), (Value.agg #[(Sl3.v a1_0), (Sl3.v a1_1), (Sl3.v a1_2)])]) Tryd.func39 (B := B39) (by kernel_rfl) (fun E _ => ?_)
  unfold ref04_known_body at h
  refine WS.sq (WS.rg (RS.mL 3 [(4, .val (Value.bool false)), (3, .loc 1 0), (2, .loc 0 0)] ([some (28, [(Value.int .i64 a0_0), (Value.int .i64 a0_1), (Value.string a0_2), (Sl3.v a0_3)]), some (33, [(Sl3.v a1_0), (Sl3.v a1_1), (Sl3.v a1_2)])]) (RS.dn (WS.nxt (WS.sq ?_)))))
  obtain ⟨v28_1, hx, h⟩ := bind_some h
  refine WS.sq ?_
  refine WS.join ([(28, .val (Value.bool v28_1)), (2, .loc 0 0), (3, .loc 1 0)]) ([some (28, [(Value.int .i64 a0_0), (Value.int .i64 a0_1), (Value.string a0_2), (Sl3.v a0_3)]), some (33, [(Sl3.v a1_0), (Sl3.v a1_1), (Sl3.v a1_2)])]) H ?_ (fun a w hs => WS.nxt ?_ a w hs)
  · clear h; rename _ => h
    refine WS.rg (RS.mS 4 [(9, .val (Value.bool (decide (a0_0 = 5)))), (8, .val (Value.bool (decide (a0_0 = 5)))), (7, .val (Value.int .i64 a0_0)), (6, .loc 0 0)] ?_)
    rcases ite_some h with ⟨hp, h⟩ | ⟨hp, h⟩
    · refine RS.fx 9 true (decide_eq_true hp) (RS.mS 4 [(13, .val (Value.string a0_2)), (12, .loc 0 2), (11, .val (Sl3.v a1_0)), (10, .loc 1 0)] ?_)
      obtain ⟨x2, hx, h⟩ := bind_some h
      refine RS.cl (some 14) (v := (Value.bool x2)) 71 #[(Sl3.v a1_0), (Value.string a0_2)] (ref04_has_ok hx) (RS.mS 3 [(17, .val (Value.bool (!x2))), (16, .val (Value.bool (!x2))), (15, .val (Value.bool (!x2)))] ?_)
      rcases ite_some h with ⟨hp, h⟩ | ⟨hp, h⟩
      · refine RS.fx 17 false (nb_not hp) (RS.mS 4 [(21, .val (Value.bool (decide (a0_0 = 6)))), (20, .val (Value.bool (decide (a0_0 = 6)))), (19, .val (Value.int .i64 a0_0)), (18, .loc 0 0)] ?_)
        rcases ite_some h with ⟨hp, h⟩ | ⟨hp, h⟩
        · refine RS.fx 21 true (decide_eq_true hp) (RS.mS 3 [(24, .val (Value.string a0_2)), (23, .loc 0 2), (22, .val (Value.agg #[(Sl3.v a1_0), (Sl3.v a1_1), (Sl3.v a1_2)]))] ?_)
          obtain ⟨x3, hx, h⟩ := bind_some h
          refine RS.cl (some 25) (v := (Value.int .i64 x3)) 72 #[(Value.agg #[(Sl3.v a1_0), (Sl3.v a1_1), (Sl3.v a1_2)]), (Value.string a0_2)] (ref04_Data_ok hx) (RS.mS 3 [(28, .val (Value.bool (decide (x3 < 0)))), (27, .val (Value.bool (decide (x3 < 0)))), (26, .val (Value.bool (decide (x3 < 0))))] (RS.dn ?_))
          cases h
          exact fun a w hs => (jsN (hs.sb 2))
        · refine RS.fx 21 false (decide_eq_false hp) (RS.mS 7 [(28, .val (Value.bool false)), (27, .val (Value.bool false)), (26, .val undef), (25, .val undef), (24, .val undef), (23, .val undef), (22, .val undef)] (RS.dn ?_))
          cases h
          exact fun a w hs => (jsN (hs.sb 2))
      · refine RS.fx 17 true (nb_not' hp) (RS.mS 11 [(28, .val (Value.bool true)), (27, .val undef), (26, .val undef), (25, .val undef), (24, .val undef), (23, .val undef), (22, .val undef), (21, .val undef), (20, .val undef), (19, .val undef), (18, .val undef)] (RS.dn ?_))
        cases h
        exact fun a w hs => (jsN (hs.sb 2))
    · refine RS.fx 9 false (decide_eq_false hp) (RS.mS 12 [(21, .val (Value.bool (decide (a0_0 = 6)))), (20, .val (Value.bool (decide (a0_0 = 6)))), (19, .val (Value.int .i64 a0_0)), (18, .loc 0 0), (17, .val (Value.bool false)), (16, .val (Value.bool false)), (15, .val undef), (14, .val undef), (13, .val undef), (12, .val undef), (11, .val undef), (10, .val undef)] ?_)
      rcases ite_some h with ⟨hp, h⟩ | ⟨hp, h⟩
      · refine RS.fx 21 true (decide_eq_true hp) (RS.mS 3 [(24, .val (Value.string a0_2)), (23, .loc 0 2), (22, .val (Value.agg #[(Sl3.v a1_0), (Sl3.v a1_1), (Sl3.v a1_2)]))] ?_)
        obtain ⟨x4, hx, h⟩ := bind_some h
        refine RS.cl (some 25) (v := (Value.int .i64 x4)) 72 #[(Value.agg #[(Sl3.v a1_0), (Sl3.v a1_1), (Sl3.v a1_2)]), (Value.string a0_2)] (ref04_Data_ok hx) (RS.mS 3 [(28, .val (Value.bool (decide (x4 < 0)))), (27, .val (Value.bool (decide (x4 < 0)))), (26, .val (Value.bool (decide (x4 < 0))))] (RS.dn ?_))
        cases h
        exact fun a w hs => (jsN (hs.sb 2))
      · refine RS.fx 21 false (decide_eq_false hp) (RS.mS 7 [(28, .val (Value.bool false)), (27, .val (Value.bool false)), (26, .val undef), (25, .val undef), (24, .val undef), (23, .val undef), (22, .val undef)] (RS.dn ?_))
        cases h
        exact fun a w hs => (jsN (hs.sb 2))
  · clear hx
    rcases ite_some h with ⟨hp, h⟩ | ⟨hp, h⟩
    · refine WS.fx 28 true hp (WS.cT (WS.sq (WS.rg (RS.mS 1 [(4, .val (Value.bool false))] (RS.dn (WS.nxt (WS.rt ?_)))))))
      cases h
      exact fun a w hs => sqR (rtR (rS hs))
    · refine WS.fx 28 false (b_not hp) (WS.cF (WS.sk (WS.nxt (WS.sq (WS.sq (WS.rg (RS.mS 1 [(5, .val (Value.int .i64 0))] (RS.dn (WS.nxt ?_)))))))))
      refine WS.bk 0 ?_
      obtain ⟨o, hl, h⟩ := bind_some h
      rcases o with v5_9 | r
      · try dsimp only at h
        refine WS.lI (ref04_known_b0_ok (L := L) (E := E) (m := m) (H := H) hrec_ref04_known) (L.ok hl) 2 ?_
        clear hl
        refine fun a w hs => bkE ((WS.nxt ?_ a w hs))
        refine WS.sq (WS.rg (RS.mS 1 [(4, .val (Value.bool true))] (RS.dn (WS.nxt (WS.rt ?_)))))
        cases h
        exact fun a w hs => rtR (rS hs)
      · try dsimp only at h
        refine WS.lR (ref04_known_b0_ok (L := L) (E := E) (m := m) (H := H) hrec_ref04_known) (L.ok hl) 2 ?_
        cases h
        exact fun a w hq => bkR (sqR (rtR hq))

theorem fam_ref04_known_ok {L : LC} : ∀ n, (∀ (m : Nat) (H : AH) (a0_0 : Int) (a0_1 : Int) (a0_2 : ByteArray) (a0_3 : Sl3) (a1_0 : Sl3) (a1_1 : Sl3) (a1_2 : Sl3) (r : Bool), ((fam_ref04_known L n)) H a0_0 a0_1 a0_2 a0_3 a1_0 a1_1 a1_2 = some r → CallS Tryd.prog (NE.plain 1000) m 39 #[(Value.agg #[(Value.int .i64 a0_0), (Value.int .i64 a0_1), (Value.string a0_2), (Sl3.v a0_3)]), (Value.agg #[(Sl3.v a1_0), (Sl3.v a1_1), (Sl3.v a1_2)])] H (ref04_known_enc r) (ref04_known_hp H r)) := by
  intro n
  induction n with
  | zero => exact (fun _ _ _ _ _ _ _ _ _ _ h => (Option.some_ne_none _ h.symm).elim)
  | succ n ih => exact (fun _ _ _ _ _ _ _ _ _ _ h => ref04_known_body_ok (L := L) ih h)

theorem ref04_known_ok {L : LC} {m : Nat} {H : AH} {a0_0 : Int} {a0_1 : Int} {a0_2 : ByteArray} {a0_3 : Sl3} {a1_0 : Sl3} {a1_1 : Sl3} {a1_2 : Sl3} {r : Bool} (h : ref04_known L H a0_0 a0_1 a0_2 a0_3 a1_0 a1_1 a1_2 = some r) :
    CallS Tryd.prog (NE.plain 1000) m 39 #[(Value.agg #[(Value.int .i64 a0_0), (Value.int .i64 a0_1), (Value.string a0_2), (Sl3.v a0_3)]), (Value.agg #[(Sl3.v a1_0), (Sl3.v a1_1), (Sl3.v a1_2)])] H (ref04_known_enc r) (ref04_known_hp H r) :=
  (fam_ref04_known_ok _) _ _ _ _ _ _ _ _ _ _ h

def ref04_Check_enc : Int → Value
  | r0 => (Value.int .i64 r0)

def ref04_Check_hp (H : AH) : Int → AH := fun _ => H

noncomputable def B19 : Code := (Tryd.f19.body).getD .skip

noncomputable def ref04_Check (L : LC) (H : AH) (a0_0 : Int) (a0_1 : Int) (a0_2 : ByteArray) (a0_3 : Sl3) (a1_0 : Sl3) (a1_1 : Sl3) (a1_2 : Sl3) : Option Int :=
  Option.bind (ref04_fits L H a0_0 a0_1 a0_2 a0_3) fun x1 =>
  if x1 = 0 then
    Option.bind (ref04_known L H a0_0 a0_1 a0_2 a0_3 a1_0 a1_1 a1_2) fun x2 =>
    if x2 = true then
      some 0
    else
      some 40
  else
    some x1

theorem ref04_Check_ok {L : LC} {m : Nat} {H : AH} {a0_0 : Int} {a0_1 : Int} {a0_2 : ByteArray} {a0_3 : Sl3} {a1_0 : Sl3} {a1_1 : Sl3} {a1_2 : Sl3} {r : Int} (h : ref04_Check L H a0_0 a0_1 a0_2 a0_3 a1_0 a1_1 a1_2 = some r) :
    CallS Tryd.prog (NE.plain 1000) m 19 #[(Value.agg #[(Value.int .i64 a0_0), (Value.int .i64 a0_1), (Value.string a0_2), (Sl3.v a0_3)]), (Value.agg #[(Sl3.v a1_0), (Sl3.v a1_1), (Sl3.v a1_2)])] H (ref04_Check_enc r) (ref04_Check_hp H r) := by
  refine CallS.mk (args := [(Value.agg #[(Value.int .i64 a0_0), (Value.int .i64 a0_1), (Value.string a0_2), (Sl3.v a0_3)]), (Value.agg #[(Sl3.v a1_0), (Sl3.v a1_1), (Sl3.v a1_2)])]) Tryd.func19 (B := B19) (by kernel_rfl) (fun E _ => ?_)
  unfold ref04_Check at h
  refine WS.sq (WS.rg (RS.mL 3 [(4, .val (Value.int .i64 0)), (3, .loc 1 0), (2, .loc 0 0)] ([some (28, [(Value.int .i64 a0_0), (Value.int .i64 a0_1), (Value.string a0_2), (Sl3.v a0_3)]), some (33, [(Sl3.v a1_0), (Sl3.v a1_1), (Sl3.v a1_2)])]) (RS.dn (WS.nxt (WS.sq (WS.rg (RS.mS 1 [(6, .val (Value.agg #[(Value.int .i64 a0_0), (Value.int .i64 a0_1), (Value.string a0_2), (Sl3.v a0_3)]))] ?_)))))))
  obtain ⟨x1, hx, h⟩ := bind_some h
  refine RS.cl (some 7) (v := (Value.int .i64 x1)) 38 #[(Value.agg #[(Value.int .i64 a0_0), (Value.int .i64 a0_1), (Value.string a0_2), (Sl3.v a0_3)])] (ref04_fits_ok hx) (RS.mS 1 [(5, .val (Value.int .i64 x1))] (RS.dn (WS.nxt (WS.sq (WS.sq (WS.rg (RS.mS 2 [(9, .val (Value.bool (!decide (x1 = 0)))), (8, .val (Value.int .i64 x1))] (RS.dn (WS.nxt ?_)))))))))
  rcases ite_some h with ⟨hp, h⟩ | ⟨hp, h⟩
  · refine WS.fx 9 false (dec_not hp) (WS.cF (WS.sk (WS.nxt (WS.sq (WS.sq (WS.rg (RS.mS 2 [(12, .val (Value.agg #[(Sl3.v a1_0), (Sl3.v a1_1), (Sl3.v a1_2)])), (11, .val (Value.agg #[(Value.int .i64 a0_0), (Value.int .i64 a0_1), (Value.string a0_2), (Sl3.v a0_3)]))] ?_)))))))
    obtain ⟨x2, hx, h⟩ := bind_some h
    refine RS.cl (some 13) (v := (Value.bool x2)) 39 #[(Value.agg #[(Value.int .i64 a0_0), (Value.int .i64 a0_1), (Value.string a0_2), (Sl3.v a0_3)]), (Value.agg #[(Sl3.v a1_0), (Sl3.v a1_1), (Sl3.v a1_2)])] (ref04_known_ok hx) (RS.mS 1 [(14, .val (Value.bool (!x2)))] (RS.dn (WS.nxt ?_)))
    rcases ite_some h with ⟨hp, h⟩ | ⟨hp, h⟩
    · refine WS.fx 14 false (nb_not hp) (WS.cF (WS.sk (WS.nxt (WS.sq (WS.rg (RS.mS 1 [(4, .val (Value.int .i64 0))] (RS.dn (WS.nxt (WS.rt ?_)))))))))
      cases h
      exact fun a w hs => rtR (rS hs)
    · refine WS.fx 14 true (nb_not' hp) (WS.cT (WS.sq (WS.rg (RS.mS 1 [(4, .val (Value.int .i64 40))] (RS.dn (WS.nxt (WS.rt ?_)))))))
      cases h
      exact fun a w hs => sqR (rtR (rS hs))
  · refine WS.fx 9 true (dec_not' hp) (WS.cT (WS.sq (WS.rg (RS.mS 2 [(4, .val (Value.int .i64 x1)), (10, .val (Value.int .i64 x1))] (RS.dn (WS.nxt (WS.rt ?_)))))))
    cases h
    exact fun a w hs => sqR (rtR (rS hs))

def law04_SortChecks_enc : (Bool × AH) → Value
  | (r0, _) => (Value.bool r0)

def law04_SortChecks_hp (_ : AH) : (Bool × AH) → AH := fun r => r.2

noncomputable def B4 : Code := (Tryd.f4.body).getD .skip

noncomputable def law04_SortChecks (L : LC) (m : Nat) (H : AH) (a0_0 : Int) (a0_1 : Int) (a0_2 : ByteArray) (a0_3 : Sl3) (a1_0 : Sl3) (a1_1 : Sl3) (a1_2 : Sl3) : Option (Bool × AH) :=
  Option.bind (sort_Check L (Nat.max m H.next) H a0_0 a0_1 a0_2 a0_3 a1_0 a1_1 a1_2) fun (x1, H2) =>
  Option.bind (ref04_Check L H2 a0_0 a0_1 a0_2 a0_3 a1_0 a1_1 a1_2) fun x3 =>
  if x1 = x3 then
    Option.bind (law04_awake L H2) fun x4 =>
    some (x4, H2)
  else
    some (false, H2)

theorem law04_SortChecks_ok {L : LC} {m : Nat} {H : AH} {a0_0 : Int} {a0_1 : Int} {a0_2 : ByteArray} {a0_3 : Sl3} {a1_0 : Sl3} {a1_1 : Sl3} {a1_2 : Sl3} {r : (Bool × AH)} (h : law04_SortChecks L m H a0_0 a0_1 a0_2 a0_3 a1_0 a1_1 a1_2 = some r) :
    CallS Tryd.prog (NE.plain 1000) m 4 #[(Value.agg #[(Value.int .i64 a0_0), (Value.int .i64 a0_1), (Value.string a0_2), (Sl3.v a0_3)]), (Value.agg #[(Sl3.v a1_0), (Sl3.v a1_1), (Sl3.v a1_2)])] H (law04_SortChecks_enc r) (law04_SortChecks_hp H r) := by
  refine CallS.mk (args := [(Value.agg #[(Value.int .i64 a0_0), (Value.int .i64 a0_1), (Value.string a0_2), (Sl3.v a0_3)]), (Value.agg #[(Sl3.v a1_0), (Sl3.v a1_1), (Sl3.v a1_2)])]) Tryd.func4 (B := B4) (by kernel_rfl) (fun E _ => ?_)
  unfold law04_SortChecks at h
  refine WS.sq (WS.rg (RS.mL 3 [(4, .val (Value.bool false)), (3, .loc 1 0), (2, .loc 0 0)] ([some (28, [(Value.int .i64 a0_0), (Value.int .i64 a0_1), (Value.string a0_2), (Sl3.v a0_3)]), some (33, [(Sl3.v a1_0), (Sl3.v a1_1), (Sl3.v a1_2)])]) (RS.dn (WS.nxt (WS.sq ?_)))))
  refine WS.dr [0, 1, 3, 4] [0, 0, 3, 0, 0, 31, 63, 127, 255, 511, 1023] 11 (fun hcl => ?_)
  refine DA.tL 0 (some 5) (.val (Value.agg #[(Value.int .i64 a0_0), (Value.int .i64 a0_1), (Value.string a0_2), (Sl3.v a0_3)])) (DA.tL 1 (some 6) (.val (Value.agg #[(Sl3.v a1_0), (Sl3.v a1_1), (Sl3.v a1_2)])) (DA.tL 3 (some 8) (.val (Value.agg #[(Value.int .i64 a0_0), (Value.int .i64 a0_1), (Value.string a0_2), (Sl3.v a0_3)])) (DA.tL 4 (some 9) (.val (Value.agg #[(Sl3.v a1_0), (Sl3.v a1_1), (Sl3.v a1_2)])) ?_)))
  obtain ⟨⟨x1, H2⟩, hx, h⟩ := bind_some h
  try dsimp only at h
  refine DA.on 2 (DA.aCk 2 (some 7) false (v := (Value.int .i64 x1)) 18 #[(Value.agg #[(Value.int .i64 a0_0), (Value.int .i64 a0_1), (Value.string a0_2), (Sl3.v a0_3)]), (Value.agg #[(Sl3.v a1_0), (Sl3.v a1_1), (Sl3.v a1_2)])] (sort_Check_ok hx) ?_)
  obtain ⟨x3, hx, h⟩ := bind_some h
  refine DA.on 5 (DA.aC 5 (some 10) (v := (Value.int .i64 x3)) 19 #[(Value.agg #[(Value.int .i64 a0_0), (Value.int .i64 a0_1), (Value.string a0_2), (Sl3.v a0_3)]), (Value.agg #[(Sl3.v a1_0), (Sl3.v a1_1), (Sl3.v a1_2)])] (ref04_Check_ok hx) (DA.tP 6 (some 11) (Value.bool (decide (x1 = x3))) (DA.tP 7 (some 12) (Value.bool (decide (x1 = x3))) ?_)))
  rcases ite_some h with ⟨hp, h⟩ | ⟨hp, h⟩
  · refine DA.fx 12 true (decide_eq_true hp) ?_
    obtain ⟨x4, hx, h⟩ := bind_some h
    refine DA.on 8 (DA.aC 8 (some 13) (v := (Value.bool x4)) 17 #[] (law04_awake_ok hx) (DA.tP 9 (some 14) (Value.bool x4) (DA.tP 10 (some 4) (Value.bool x4) (DA.dn (WS.nxt (WS.rt ?_))))))
    cases h
    exact fun a w hs => rtR (rS hs)
  · refine DA.fx 12 false (decide_eq_false hp) ?_
    refine DA.tskipP 8 (some 13) (by kernel_rfl) (by kernel_rfl) (by kernel_rfl) hcl (fun _ _ _ h => h) (by kernel_rfl) ?_
    refine DA.tP 9 (some 14) (Value.bool false) (DA.tP 10 (some 4) (Value.bool false) (DA.dn (WS.nxt (WS.rt ?_))))
    cases h
    exact fun a w hs => rtR (rS hs)

end Go.Proofs.YtccbilfbhecdaaaDoor


namespace Go.Proofs.YtccbilfbhecdaaaDoor
open Go Go.Abs
set_option maxRecDepth 100000

theorem min_op (x : Int) (H : AH) : gOp1 Tryd.prog (opsOf (cfst (cfst (csnd (cfst (cfst (csnd (cfst (csnd (csnd B69)))))))))) 8 [(23, .val (Value.int .i64 x))] (deI .i64) H = some (min x 257) := by
  have h : gOp1 Tryd.prog (opsOf (cfst (cfst (csnd (cfst (cfst (csnd (cfst (csnd (csnd B69)))))))))) 8 [(23, .val (Value.int .i64 x))] (deI .i64) H = some (if (257 : Int) < x then 257 else x) := by kernel_rfl
  rw [h]
  congr 1
  split <;> omega

end Go.Proofs.YtccbilfbhecdaaaDoor


namespace Go.Proofs.YtccbilfbhecdaaaDoor
open Go Go.Abs
set_option maxRecDepth 100000

theorem HasT.ext {H H' : AH} (h : HasT H) (hf : Ext H H') : HasT H' := fun x hx =>
  ⟨hf.2 _ _ (h x hx).2 (fun h => h) (h x hx).1, Nat.lt_of_lt_of_le (h x hx).2 hf.1⟩

end Go.Proofs.YtccbilfbhecdaaaDoor


namespace Go.Proofs.YtccbilfbhecdaaaDoor
open Go Go.Abs
set_option maxRecDepth 100000

/-- Sorts in a row: kind, width, name, arguments; and those behind. -/
inductive Fo where
  | nil
  | cons (k w : Int) (n : ByteArray) (a r : Fo)

def Fo.len : Fo → Nat
  | .nil => 0
  | .cons _ _ _ _ r => r.len + 1
def Fo.dep : Fo → Nat
  | .nil => 0
  | .cons _ _ _ a r => max (a.dep + 1) r.dep

/-- The longest name that comes in. -/
def maxS : Nat := 140737488351232

/-- A sort's four cells. -/
structure SoC (H : AH) (q : Addr) (k w : Int) (n : ByteArray) (s : Sl3) : Prop where
  ck : Cel H (q.add 0) (.int .i64 k)
  cw : Cel H (q.add 1) (.int .i64 w)
  cn : Cel H (q.add 2) (.string n)
  cs : Cel H (q.add 3) s.v
  hn : n.size ≤ maxS

theorem SoC.ext {H H' : AH} {q : Addr} {k w : Int} {n : ByteArray} {s : Sl3} (h : SoC H q k w n s) (hf : Ext H H') : SoC H' q k w n s :=
  ⟨h.ck.ext hf, h.cw.ext hf, h.cn.ext hf, h.cs.ext hf, h.hn⟩

def FoA (H : AH) : Option Addr → Nat → Fo → Prop
  | _, _, .nil => True
  | p, i, .cons k w n a r => (∃ q s, p = some q ∧ SoC H (q.add (i * 4)) k w n s ∧ s.n = a.len ∧ s.n ≤ maxN ∧ FoA H s.p 0 a) ∧ FoA H p (i + 1) r

/-- A slice of sorts. -/
def SlF (H : AH) (s : Sl3) (f : Fo) : Prop := s.n = f.len ∧ s.n ≤ maxN ∧ FoA H s.p 0 f

theorem FoA.ext {H H' : AH} (hf : Ext H H') : ∀ {f : Fo} {p : Option Addr} {i : Nat}, FoA H p i f → FoA H' p i f
  | .nil, _, _, _ => trivial
  | .cons _ _ _ _ _, _, _, h => by
    obtain ⟨⟨q, s, h1, h2, h3, h4, h5⟩, h6⟩ := h
    exact ⟨⟨q, s, h1, h2.ext hf, h3, h4, FoA.ext hf h5⟩, FoA.ext hf h6⟩

theorem SlF.ext {H H' : AH} {s : Sl3} {f : Fo} (h : SlF H s f) (hf : Ext H H') : SlF H' s f := ⟨h.1, h.2.1, h.2.2.ext hf⟩

/-- What is read at a place. -/
theorem FoA.rd {H : AH} {s : Sl3} {i : Nat} {k w : Int} {n : ByteArray} {a r : Fo} (h : FoA H s.p i (.cons k w n a r)) (hi : i < s.n) :
    ∃ q s', idxA 4 s (i : Int) = some q ∧ rd (deI .i64) H (Addr.add q 0) = some k ∧ rd (deI .i64) H (Addr.add q 1) = some w ∧ rd deS H (Addr.add q 2) = some n ∧ rd deSl H (Addr.add q 3) = some s' ∧ SlF H s' a ∧ n.size ≤ maxS ∧ FoA H s.p (i + 1) r := by
  obtain ⟨⟨q, s', h1, h2, h3, h4, h5⟩, h6⟩ := h
  exact ⟨_, s', idxA_some h1 rfl hi, by rw [h2.ck.rd]; rfl, by rw [h2.cw.rd]; rfl, by rw [h2.cn.rd]; rfl, by rw [h2.cs.rd]; rfl, ⟨h3, h4, h5⟩, h2.hn, h6⟩

/-- As the program counts. -/
def pF (d : Int) : Fo → Int → Int × Bool
  | .nil, n => (n, true)
  | .cons _ _ _ a r, n =>
    let q := if IntKind.i64.wrap (d + 1) > 16 then (0, false) else pF (IntKind.i64.wrap (d + 1)) a 1
    let n' := IntKind.i64.wrap (n + q.1)
    if (!q.2 || decide (n' > 256)) = true then (n', false) else pF d r n'

def pS (d : Int) (a : Fo) : Int × Bool := if d > 16 then (0, false) else pF d a 1

theorem parts_loop (k : Nat) {H : AH} : ∀ (f : Fo) (s : Sl3) (i : Nat) (n d : Int) (fuel : Nat) (x0 x1 : Int) (x2 : ByteArray), FoA H s.p i f → s.n = i + f.len → s.n ≤ maxN → f.dep ≤ fuel →
    loopO (sort_parts_b0 (LCo k) (fam_sort_parts (LCo k) fuel) H x0 x1 x2 s d) (n, (i : Int)) = some (if (pF d f n).2 = true then .inl ((pF d f n).1, (s.n : Int)) else .inr ((pF d f n).1, false)) := by
  intro f
  induction f with
  | nil =>
    intro s i n d fuel x0 x1 x2 h hn hm hd
    refine loopO_brk ?_
    simp only [Fo.len, Nat.add_zero] at hn
    unfold sort_parts_b0
    simp only [if_neg (show ¬ ((i : Int) < (s.n : Int)) by omega), pF]
    rw [hn]
  | cons k' w' n' a r iha ihr =>
    intro s i n d fuel x0 x1 x2 h hn hm hd
    simp only [Fo.len] at hn
    simp only [Fo.dep] at hd
    obtain ⟨q, s', r1, r2, r3, r4, r5, r6, _, r7⟩ := h.rd (by omega)
    obtain ⟨g, rfl⟩ : ∃ g, fuel = g + 1 := ⟨fuel - 1, by omega⟩
    have hrec : fam_sort_parts (LCo k) (g + 1) H k' w' n' s' (IntKind.i64.wrap (d + 1)) = some (pS (IntKind.i64.wrap (d + 1)) a) := by
      show sort_parts_body (LCo k) (fam_sort_parts (LCo k) g) H k' w' n' s' (IntKind.i64.wrap (d + 1)) = _
      unfold sort_parts_body pS
      split
      · rfl
      · have := iha s' 0 1 (IntKind.i64.wrap (d + 1)) g k' w' n' r6.2.2 (by rw [r6.1]; omega) r6.2.1 (by omega)
        show Option.bind (loopO (sort_parts_b0 (LCo k) (fam_sort_parts (LCo k) g) H k' w' n' s' (IntKind.i64.wrap (d + 1))) (1, ((0 : Nat) : Int))) _ = _
        rw [this]
        cases hq : pF (IntKind.i64.wrap (d + 1)) a 1 with
        | mk y b => cases b <;> rfl
    have hb : sort_parts_b0 (LCo k) (fam_sort_parts (LCo k) (g + 1)) H x0 x1 x2 s d (n, (i : Int)) =
        some (if (!(pS (IntKind.i64.wrap (d + 1)) a).2 || decide (IntKind.i64.wrap (n + (pS (IntKind.i64.wrap (d + 1)) a).1) > 256)) = true then .ret (IntKind.i64.wrap (n + (pS (IntKind.i64.wrap (d + 1)) a).1), false)
          else .next (IntKind.i64.wrap (n + (pS (IntKind.i64.wrap (d + 1)) a).1), IntKind.i64.wrap ((i : Int) + 1))) := by
      unfold sort_parts_b0
      simp only [if_pos (show (i : Int) < (s.n : Int) by omega), r1, r2, r3, r4, r5, Option.bind_some, hrec]
      cases (pS (IntKind.i64.wrap (d + 1)) a).2 with
      | false => rfl
      | true =>
        by_cases hc : IntKind.i64.wrap (n + (pS (IntKind.i64.wrap (d + 1)) a).1) > 256
        · simp [hc]
        · simp [hc]
    have hp : pF d (.cons k' w' n' a r) n = if (!(pS (IntKind.i64.wrap (d + 1)) a).2 || decide (IntKind.i64.wrap (n + (pS (IntKind.i64.wrap (d + 1)) a).1) > 256)) = true then (IntKind.i64.wrap (n + (pS (IntKind.i64.wrap (d + 1)) a).1), false) else pF d r (IntKind.i64.wrap (n + (pS (IntKind.i64.wrap (d + 1)) a).1)) := rfl
    rw [hp]
    split at hb
    · rename_i hc
      rw [if_pos hc]
      exact loopO_ret hb
    · rename_i hc
      rw [if_neg hc, loopO_next hb, wrap_next (n := s.n) (by omega) hm]
      exact ihr s (i + 1) _ d (g + 1) x0 x1 x2 r7 (by omega) hm (by omega)

theorem parts_spec (k fuel : Nat) {H : AH} {s : Sl3} {a : Fo} (h : SlF H s a) (hd : a.dep ≤ fuel) (x0 x1 : Int) (x2 : ByteArray) (d : Int) : fam_sort_parts (LCo k) (fuel + 1) H x0 x1 x2 s d = some (pS d a) := by
  show sort_parts_body (LCo k) (fam_sort_parts (LCo k) fuel) H x0 x1 x2 s d = _
  unfold sort_parts_body pS
  split
  · rfl
  · have := parts_loop k a s 0 1 d fuel x0 x1 x2 h.2.2 (by rw [h.1]; omega) h.2.1 hd
    show Option.bind (loopO (sort_parts_b0 (LCo k) (fam_sort_parts (LCo k) fuel) H x0 x1 x2 s d) (1, ((0 : Nat) : Int))) _ = _
    rw [this]
    cases hq : pF d a 1 with
    | mk y b => cases b <;> rfl

/-- As the definition counts. -/
def qF : Fo → Int → Int
  | .nil, n => n
  | .cons _ _ _ a r, n => if n ≤ 256 then qF r (min (IntKind.i64.wrap (n + qF a 1)) 257) else n

theorem refParts_loop (k : Nat) {H : AH} : ∀ (f : Fo) (s : Sl3) (i : Nat) (n : Int) (fuel : Nat) (x0 x1 : Int) (x2 : ByteArray), FoA H s.p i f → s.n = i + f.len → s.n ≤ maxN → f.dep ≤ fuel →
    ∃ j, loopO (ref04_Parts_b0 (LCo k) (fam_ref04_Parts (LCo k) fuel) H x0 x1 x2 s) (n, (i : Int)) = some (.inl (qF f n, j)) := by
  intro f
  induction f with
  | nil =>
    intro s i n fuel x0 x1 x2 h hn hm hd
    refine ⟨_, loopO_brk (s' := (n, (i : Int))) ?_⟩
    simp only [Fo.len, Nat.add_zero] at hn
    unfold ref04_Parts_b0
    simp only [if_neg (show ¬ ((i : Int) < (s.n : Int)) by omega)]
    rfl
  | cons k' w' n' a r iha ihr =>
    intro s i n fuel x0 x1 x2 h hn hm hd
    simp only [Fo.len] at hn
    simp only [Fo.dep] at hd
    obtain ⟨q, s', r1, r2, r3, r4, r5, r6, _, r7⟩ := h.rd (by omega)
    obtain ⟨g, rfl⟩ : ∃ g, fuel = g + 1 := ⟨fuel - 1, by omega⟩
    by_cases hc : n ≤ 256
    · have hrec : fam_ref04_Parts (LCo k) (g + 1) H k' w' n' s' = some (qF a 1) := by
        show ref04_Parts_body (LCo k) (fam_ref04_Parts (LCo k) g) H k' w' n' s' = _
        unfold ref04_Parts_body
        obtain ⟨j, hj⟩ := iha s' 0 1 g k' w' n' r6.2.2 (by rw [r6.1]; omega) r6.2.1 (by omega)
        show Option.bind (loopO (ref04_Parts_b0 (LCo k) (fam_ref04_Parts (LCo k) g) H k' w' n' s') (1, ((0 : Nat) : Int))) _ = _
        rw [hj]
        rfl
      have hb : ref04_Parts_b0 (LCo k) (fam_ref04_Parts (LCo k) (g + 1)) H x0 x1 x2 s (n, (i : Int)) = some (.next (min (IntKind.i64.wrap (n + qF a 1)) 257, IntKind.i64.wrap ((i : Int) + 1))) := by
        unfold ref04_Parts_b0
        simp only [if_pos (show (i : Int) < (s.n : Int) by omega), r1, r2, r3, r4, r5, Option.bind_some, hrec, decide_eq_true hc, if_true]
        rw [min_op]
        rfl
      obtain ⟨j, hj⟩ := ihr s (i + 1) (min (IntKind.i64.wrap (n + qF a 1)) 257) (g + 1) x0 x1 x2 r7 (by omega) hm (by omega)
      refine ⟨j, ?_⟩
      rw [loopO_next hb, wrap_next (n := s.n) (by omega) hm, hj]
      simp only [qF, if_pos hc]
    · refine ⟨(i : Int), loopO_brk ?_⟩
      unfold ref04_Parts_b0
      simp [if_pos (show (i : Int) < (s.n : Int) by omega), hc, qF]

theorem refParts_spec (k fuel : Nat) {H : AH} {s : Sl3} {a : Fo} (h : SlF H s a) (hd : a.dep ≤ fuel) (x0 x1 : Int) (x2 : ByteArray) : fam_ref04_Parts (LCo k) (fuel + 1) H x0 x1 x2 s = some (qF a 1) := by
  show ref04_Parts_body (LCo k) (fam_ref04_Parts (LCo k) fuel) H x0 x1 x2 s = _
  unfold ref04_Parts_body
  obtain ⟨j, hj⟩ := refParts_loop k a s 0 1 fuel x0 x1 x2 h.2.2 (by rw [h.1]; omega) h.2.1 hd
  show Option.bind (loopO (ref04_Parts_b0 (LCo k) (fam_ref04_Parts (LCo k) fuel) H x0 x1 x2 s) (1, ((0 : Nat) : Int))) _ = _
  rw [hj]
  rfl

/-- Deeper than so much? -/
def dF (most : Int) : Fo → Bool
  | .nil => false
  | .cons _ _ _ a r => (if IntKind.i64.wrap (most - 1) = 0 then true else dF (IntKind.i64.wrap (most - 1)) a) || dF most r

def dS (most : Int) (a : Fo) : Bool := if most = 0 then true else dF most a

theorem deep_loop (k : Nat) {H : AH} : ∀ (f : Fo) (s : Sl3) (i : Nat) (d : Int) (fuel : Nat) (x0 x1 : Int) (x2 : ByteArray), FoA H s.p i f → s.n = i + f.len → s.n ≤ maxN → f.dep ≤ fuel →
    ∃ j, loopO (ref04_Deep_b0 (LCo k) (fam_ref04_Deep (LCo k) fuel) H x0 x1 x2 s d) (i : Int) = some (if dF d f = true then .inr true else .inl j) := by
  intro f
  induction f with
  | nil =>
    intro s i d fuel x0 x1 x2 h hn hm hd
    refine ⟨(i : Int), loopO_brk ?_⟩
    simp only [Fo.len, Nat.add_zero] at hn
    unfold ref04_Deep_b0
    rw [if_neg (show ¬ ((i : Int) < (s.n : Int)) by omega)]
  | cons k' w' n' a r iha ihr =>
    intro s i d fuel x0 x1 x2 h hn hm hd
    simp only [Fo.len] at hn
    simp only [Fo.dep] at hd
    obtain ⟨q, s', r1, r2, r3, r4, r5, r6, _, r7⟩ := h.rd (by omega)
    obtain ⟨g, rfl⟩ : ∃ g, fuel = g + 1 := ⟨fuel - 1, by omega⟩
    have hrec : fam_ref04_Deep (LCo k) (g + 1) H k' w' n' s' (IntKind.i64.wrap (d - 1)) = some (dS (IntKind.i64.wrap (d - 1)) a) := by
      show ref04_Deep_body (LCo k) (fam_ref04_Deep (LCo k) g) H k' w' n' s' (IntKind.i64.wrap (d - 1)) = _
      unfold ref04_Deep_body dS
      split
      · rfl
      · obtain ⟨j, hj⟩ := iha s' 0 (IntKind.i64.wrap (d - 1)) g k' w' n' r6.2.2 (by rw [r6.1]; omega) r6.2.1 (by omega)
        show Option.bind (loopO (ref04_Deep_b0 (LCo k) (fam_ref04_Deep (LCo k) g) H k' w' n' s' (IntKind.i64.wrap (d - 1))) ((0 : Nat) : Int)) _ = _
        rw [hj]
        cases dF (IntKind.i64.wrap (d - 1)) a <;> rfl
    have hb : ref04_Deep_b0 (LCo k) (fam_ref04_Deep (LCo k) (g + 1)) H x0 x1 x2 s d (i : Int) = some (if dS (IntKind.i64.wrap (d - 1)) a = true then .ret true else .next (IntKind.i64.wrap ((i : Int) + 1))) := by
      unfold ref04_Deep_b0
      simp only [if_pos (show (i : Int) < (s.n : Int) by omega), r1, r2, r3, r4, r5, Option.bind_some, hrec]
      cases dS (IntKind.i64.wrap (d - 1)) a <;> rfl
    have hp : dF d (.cons k' w' n' a r) = (dS (IntKind.i64.wrap (d - 1)) a || dF d r) := rfl
    rw [hp]
    cases hc : dS (IntKind.i64.wrap (d - 1)) a with
    | true =>
      rw [hc] at hb
      exact ⟨0, loopO_ret hb⟩
    | false =>
      rw [hc] at hb
      simp only [Bool.false_eq_true, if_false] at hb
      rw [loopO_next hb, wrap_next (n := s.n) (by omega) hm]
      simp only [Bool.false_or]
      exact ihr s (i + 1) d (g + 1) x0 x1 x2 r7 (by omega) hm (by omega)

theorem deep_spec (k fuel : Nat) {H : AH} {s : Sl3} {a : Fo} (h : SlF H s a) (hd : a.dep ≤ fuel) (x0 x1 : Int) (x2 : ByteArray) (d : Int) : fam_ref04_Deep (LCo k) (fuel + 1) H x0 x1 x2 s d = some (dS d a) := by
  show ref04_Deep_body (LCo k) (fam_ref04_Deep (LCo k) fuel) H x0 x1 x2 s d = _
  unfold ref04_Deep_body dS
  split
  · rfl
  · obtain ⟨j, hj⟩ := deep_loop k a s 0 d fuel x0 x1 x2 h.2.2 (by rw [h.1]; omega) h.2.1 hd
    show Option.bind (loopO (ref04_Deep_b0 (LCo k) (fam_ref04_Deep (LCo k) fuel) H x0 x1 x2 s d) ((0 : Nat) : Int)) _ = _
    rw [hj]
    cases dF d a <;> rfl

def Fo.size : Fo → Nat
  | .nil => 0
  | .cons _ _ _ a r => a.size + 1 + r.size

end Go.Proofs.YtccbilfbhecdaaaDoor


namespace Go.Proofs.YtccbilfbhecdaaaDoor
open Go Go.Abs Go.ChangeShapes Go.WideShapes
set_option maxRecDepth 100000

theorem cells28 : Tryd.prog.cellsOf 28 = 4 := by kernel_rfl
theorem cells25 : Tryd.prog.cellsOf 25 = 1 := by kernel_rfl
theorem cells3 : Tryd.prog.cellsOf 3 = 1 := by kernel_rfl
theorem cells9 : Tryd.prog.cellsOf 9 = 1 := by kernel_rfl
theorem cells26 : Tryd.prog.cellsOf 26 = 1 := by kernel_rfl

/-- A sort's cells as they come in. -/
structure SortV (H : AH) (cs : List Value) (b : (Int × Int × ByteArray × Fo)) : Prop where
  ex : ∃ s, cs = [.int .i64 b.1, .int .i64 b.2.1, .string b.2.2.1, Sl3.v s] ∧ b.2.2.1.size ≤ maxS ∧ SlF H s b.2.2.2

def foOf : List (Int × Int × ByteArray × Fo) → Fo
  | [] => .nil
  | x :: l => .cons x.1 x.2.1 x.2.2.1 x.2.2.2 (foOf l)

theorem foOf_len : ∀ l, (foOf l).len = l.length
  | [] => rfl
  | x :: l => by simp [foOf, Fo.len, foOf_len l]

theorem SortV.ext (H H' : AH) (cs : List Value) (b : (Int × Int × ByteArray × Fo)) (hf : Ext H H') (h : SortV H cs b) : SortV H' cs b := by
  obtain ⟨s, h1, h2, h3⟩ := h.ex
  exact ⟨s, h1, h2, h3.ext hf⟩

theorem stands_so {H : AH} {q : Addr} {b : (Int × Int × ByteArray × Fo)} (h : Stands 4 SortV H q b) : ∃ s, SoC H q b.1 b.2.1 b.2.2.1 s ∧ SlF H s b.2.2.2 := by
  obtain ⟨cs, h1, h2, h3⟩ := h
  obtain ⟨s, rfl, h4, h5⟩ := h3.ex
  exact ⟨s, ⟨h2 0 _ rfl, h2 1 _ rfl, h2 2 _ rfl, h2 3 _ rfl, h4⟩, h5⟩

theorem slF_of {H : AH} {s : Sl3} {l : List (Int × Int × ByteArray × Fo)} (h : SlL (Stands 4 SortV) 4 H s l) : SlF H s (foOf l) := by
  refine ⟨by rw [foOf_len]; exact h.n, h.top, ?_⟩
  have key : ∀ (l : List (Int × Int × ByteArray × Fo)) (p : Option Addr) (i : Nat), LAt (Stands 4 SortV) 4 H p i l → FoA H p i (foOf l) := by
    intro l
    induction l with
    | nil => intro p i _; trivial
    | cons x l ih =>
      intro p i h
      obtain ⟨⟨a, h1, h2⟩, h3⟩ := h
      obtain ⟨s, h4, h5⟩ := stands_so h2
      exact ⟨⟨a, s, h1, h4, h5.1, h5.2.1, h5.2.2⟩, ih p (i + 1) h3⟩
  exact key l s.p 0 h.at_

section
variable {H : Type} {enc : TypeId × Value → H} {W : World}

theorem wt_all {l : List Nat} (h : l.all (· ≤ reachBytes) = true) {n : Nat} (hn : n ∈ l) : n ≤ maxS := by
  rw [List.all_eq_true] at h
  have := h n hn
  simp only [decide_eq_true_eq] at this
  exact this

theorem weightsAll_mem {P : Program} {e : TypeId} : ∀ {l : List (DataW H)} {d : DataW H}, d ∈ l → ∀ n ∈ d.weights P e, n ∈ DataW.weightsAll P e l
  | x :: l, d, hd, n, hn => by
    simp only [DataW.weightsAll, List.mem_append]
    rcases List.mem_cons.1 hd with rfl | hd
    · exact .inl hn
    · exact .inr (weightsAll_mem hd n hn)

/-- A slice's elements, each of which comes in. -/
theorem import_slice {t e : TypeId} {sz : Nat} (ht : Tryd.prog.underlying t = some (.slice e)) (hc : Tryd.prog.cellsOf e = sz) (hsz : 0 < sz) {β : Type} {R : AH → List Value → β → Prop} (hR : ∀ H H' cs b, Ext H H' → R H cs b → R H' cs b)
    {fuel : Nat} (elem : ∀ n, n < fuel → ∀ cs x, DataW.trod enc Tryd.prog W 0 (fun _ => true) true n e cs = some x → (x.1.weights Tryd.prog e).all (· ≤ reachBytes) = true → ElemIn Tryd.prog W sz R cs)
    {cs : List Value} {x : DataW H × List MemPlace} (hx : DataW.trod enc Tryd.prog W 0 (fun _ => true) true fuel t cs = some x) (hw : (x.1.weights Tryd.prog t).all (· ≤ reachBytes) = true) {φ : Inj} {H0 : AH} (h : Imp Tryd.prog φ H0 W) :
    ∃ v φ' H' s bs, cs = [v] ∧ Imp Tryd.prog φ' H' W ∧ φ.le φ' ∧ Ext H0 H' ∧ VR φ' (Sl3.v s) v ∧ SlL (Stands sz R) sz H' s (bs : List β) := by
  rcases DataW.trod_slice ht hx with ⟨rfl, rfl⟩ | ⟨a, len, cap, elems, rest, n, rfl, rfl, rfl, hb, hl, hm, hlen, hel, hsp, _⟩
  · obtain ⟨φ', H', s, bs, h1, h2, h3, h4, h5, _⟩ := Imp.slice (n := 0) (c := 0) (A := none) hsz hR h some_globals (Nat.le_refl _) (Nat.zero_le _) (fun _ => rfl) (C := fun _ => []) (fun i hi => absurd hi (Nat.not_lt_zero _)) (fun a ha => by cases ha) (fun a ha => by cases ha)
    exact ⟨_, φ', H', s, bs, rfl, h1, h2, h3, h4, h5⟩
  · have get : ∀ i, i < len → ∃ cs' y, W.cells? 0 (a.add (i * sz)) sz = some cs' ∧ DataW.trod enc Tryd.prog W 0 (fun _ => true) true n e cs' = some y ∧ y ∈ elems := by
      intro i hi
      have := hel i hi
      rw [hc, List.getElem?_eq_getElem (by omega)] at this
      obtain ⟨cs', h1, h2⟩ := Option.bind_eq_some_iff.1 this
      exact ⟨cs', _, h1, h2, List.getElem_mem _⟩
    have hww : ∀ y ∈ elems, (y.1.weights Tryd.prog e).all (· ≤ reachBytes) = true := by
      intro y hy
      rw [List.all_eq_true]
      intro w hw'
      rw [List.all_eq_true] at hw
      refine hw w ?_
      simp only [DataW.weights, ht, List.mem_cons, List.mem_append]
      exact .inr (.inl (weightsAll_mem (List.mem_map.2 ⟨y, hy, rfl⟩) w hw'))
    obtain ⟨φ', H', s, bs, h1, h2, h3, h4, h5, _⟩ := Imp.slice (n := len) (c := cap) (A := some a) hsz hR h some_globals hl hm (fun h => by cases h) (C := fun i => (W.cells? 0 (a.add (i * sz)) sz).getD []) (fun i hi => by
        obtain ⟨cs', y, g1, g2, g3⟩ := get i hi
        simp only [g1, Option.getD_some]
        exact elem n (Nat.lt_succ_self n) cs' y g2 (hww y g3)) (fun a' ha' hpos => by
        cases ha'
        by_cases h0 : 0 < len
        · obtain ⟨cs', y, g1, g2, g3⟩ := get 0 h0
          obtain ⟨_, k2, k3⟩ := World.cells?_some g1
          have := k3 0 hsz
          rw [Nat.zero_mul, add_zero, add_zero] at this
          exact ⟨_, this.trans (List.getElem?_eq_getElem (by omega))⟩
        · obtain rfl : len = 0 := by omega
          obtain ⟨q1, q2⟩ := hsp rfl
          have := q2 0 (by omega)
          rw [hc, List.getElem?_eq_getElem (by omega)] at this
          obtain ⟨cs', g1, g2⟩ := Option.bind_eq_some_iff.1 this
          obtain ⟨_, k2, k3⟩ := World.cells?_some g1
          have := k3 0 hsz
          rw [Nat.zero_add, Nat.zero_mul, add_zero, add_zero] at this
          exact ⟨_, this.trans (List.getElem?_eq_getElem (by omega))⟩) (fun a' ha' i hi j hj => by
        cases ha'
        obtain ⟨cs', y, g1, g2, g3⟩ := get i hi
        obtain ⟨_, k2, k3⟩ := World.cells?_some g1
        have := k3 j hj
        simp only [g1, Option.getD_some]
        rw [← this]
        have hsp : a.spot = none := by
          obtain ⟨cs0, y0, g1, g2, g3⟩ := get 0 (by omega)
          obtain ⟨_, k2, k3⟩ := World.cells?_some g1
          have k0 := k3 0 hsz
          rw [Nat.zero_mul, add_zero, add_zero] at k0
          obtain ⟨_, _, _, _, hs, _⟩ := cell?_some (k0.trans (List.getElem?_eq_getElem (by omega)))
          exact hs
        rw [add_add hsp])
    exact ⟨_, φ', H', s, bs, rfl, h1, h2, h3, h4, h5⟩

theorem trod_str {fuel : Nat} {t : TypeId} (ht : Tryd.prog.underlying t = some .string) {cs : List Value} {x : DataW H × List MemPlace} (h : DataW.trod enc Tryd.prog W 0 (fun _ => true) true fuel t cs = some x) (hw : (x.1.weights Tryd.prog t).all (· ≤ reachBytes) = true) :
    ∃ s, cs = [.string s] ∧ s.size ≤ maxS := by
  obtain ⟨s, rfl, rfl, _⟩ := DataW.trod_string ht h
  refine ⟨s, rfl, ?_⟩
  have := wt_all hw (n := s.data.toList.length) (by simp [DataW.weights])
  simpa using this

/-- A sort's cells come in. -/
theorem import_sortv : ∀ (fuel : Nat) (cs : List Value) (x : DataW H × List MemPlace), DataW.trod enc Tryd.prog W 0 (fun _ => true) true fuel 28 cs = some x → (x.1.weights Tryd.prog 28).all (· ≤ reachBytes) = true → ElemIn Tryd.prog W 4 SortV cs := by
  intro fuel
  induction fuel using Nat.strongRecOn with
  | ind fuel ih =>
    intro cs x hx hw φ H0 h
    obtain ⟨xs, n, rfl, rfl, hl, hlen, hf⟩ := DataW.trod_struct Tryd.underlying28 hx
    rw [cells28] at hl
    match xs, hlen with
    | [y0, y1, y2, y3], _ =>
      match cs, hl with
      | [c0, c1, c2, c3], _ =>
        have f0 : DataW.trod enc Tryd.prog W 0 (fun _ => true) true n 25 (([c0, c1, c2, c3].drop 0).take (Tryd.prog.cellsOf 25)) = some y0 := hf 0 _ rfl
        rw [cells25] at f0
        change DataW.trod enc Tryd.prog W 0 (fun _ => true) true n 25 [c0] = some y0 at f0
        have f1 : DataW.trod enc Tryd.prog W 0 (fun _ => true) true n 3 (([c0, c1, c2, c3].drop 1).take (Tryd.prog.cellsOf 3)) = some y1 := hf 1 _ rfl
        rw [cells3] at f1
        change DataW.trod enc Tryd.prog W 0 (fun _ => true) true n 3 [c1] = some y1 at f1
        have f2 : DataW.trod enc Tryd.prog W 0 (fun _ => true) true n 9 (([c0, c1, c2, c3].drop 2).take (Tryd.prog.cellsOf 9)) = some y2 := hf 2 _ rfl
        rw [cells9] at f2
        change DataW.trod enc Tryd.prog W 0 (fun _ => true) true n 9 [c2] = some y2 at f2
        have f3 : DataW.trod enc Tryd.prog W 0 (fun _ => true) true n 26 (([c0, c1, c2, c3].drop 3).take (Tryd.prog.cellsOf 26)) = some y3 := hf 3 _ rfl
        rw [cells26] at f3
        change DataW.trod enc Tryd.prog W 0 (fun _ => true) true n 26 [c3] = some y3 at f3
        simp only [DataW.weights, Tryd.underlying28, List.map_cons, List.map_nil, DataW.weightsEach, List.append_nil, List.all_append, Bool.and_eq_true] at hw
        obtain ⟨n0, e0, _, _⟩ := DataW.trod_int Tryd.underlying25 f0
        obtain ⟨n1, e1, _, _⟩ := DataW.trod_int Tryd.underlying3 f1
        obtain ⟨s2, e2, hs2⟩ := trod_str Tryd.underlying9 f2 hw.2.2.1
        obtain ⟨v, φ', H', s, bs, e3, g1, g2, g3, g4, g5⟩ := import_slice (enc := enc) Tryd.underlying26 cells28 (by omega) SortV.ext (fun m hm cs x => ih m (by omega) cs x) f3 hw.2.2.2 h
        simp only [List.cons.injEq, and_true] at e0 e1 e2 e3
        subst e0 e1 e2 e3
        exact ⟨φ', H', [.int .i64 n0, .int .i64 n1, .string s2, Sl3.v s], (n0, n1, s2, foOf bs), g1, g2, g3, rfl, rfl, .cons (.int _ _) (.cons (.int _ _) (.cons (.string _) (.cons g4 .nil))), ⟨s, rfl, hs2, slF_of g5⟩⟩

/-- A sort that comes in. -/
theorem import_sort {φ : Inj} {H0 : AH} (h : Imp Tryd.prog φ H0 W) {v : Value} {d : DataW H} {ps : List MemPlace} {base : Nat} (hd : DataW.Trod enc Tryd.prog W 0 (fun _ => true) true 28 v d ps) (hv : Value.okWide Tryd.prog W .any base 28 v)
    (hw : (d.weights Tryd.prog 28).all (· ≤ reachBytes) = true) : ∃ φ' H' k w n s a, Imp Tryd.prog φ' H' W ∧ φ.le φ' ∧ Ext H0 H' ∧ VR φ' (.agg #[.int .i64 k, .int .i64 w, .string n, Sl3.v s]) v ∧ SlF H' s a ∧ n.size ≤ maxS := by
  obtain ⟨fuel, hf⟩ := hd
  have hvv := hv
  simp only [Value.okWide, Tryd.underlying28] at hvv
  obtain ⟨cs, rfl, hs, _⟩ := hvv
  obtain ⟨φ', H', cs', b, h1, h2, h3, h4, h5, h6, h7⟩ := import_sortv fuel _ _ hf hw φ H0 h
  obtain ⟨s, rfl, h8, h9⟩ := h7.ex
  refine ⟨φ', H', b.1, b.2.1, b.2.2.1, s, b.2.2.2, h1, h2, h3, ?_, h9, h8⟩
  have hg := get_of_forall₂ h6
  exact .agg _ _ (by have := hg.1; simpa [Value.cells] using this) fun i x y hx hy => hg.2 i x y (by simpa using hx) (by simpa [Value.cells] using hy)

end

end Go.Proofs.YtccbilfbhecdaaaDoor


namespace Go.Proofs.YtccbilfbhecdaaaDoor
open Go Go.Abs
set_option maxRecDepth 100000

theorem wrap_small {x : Int} (h0 : -1000000 ≤ x) (h1 : x ≤ 1000000) : IntKind.i64.wrap x = x := wrap_i64' (by omega) (by omega)

theorem dF_eq : ∀ (f : Fo) (m : Nat), 1 ≤ m → m ≤ 100 → dF (m : Int) f = decide (m ≤ f.dep) := by
  intro f
  induction f with
  | nil => intro m h1 h2; simp [dF, Fo.dep]; omega
  | cons k w n a r iha ihr =>
    intro m h1 h2
    have e : IntKind.i64.wrap ((m : Int) - 1) = ((m - 1 : Nat) : Int) := by rw [wrap_small (by omega) (by omega)]; omega
    simp only [dF, e, Fo.dep]
    rw [ihr m h1 h2]
    by_cases hm : m = 1
    · subst hm
      have : 1 ≤ max (a.dep + 1) r.dep := by omega
      simp [this]
    · rw [if_neg (show ¬ (((m - 1 : Nat) : Int) = 0) by omega), iha (m - 1) (by omega) (by omega)]
      by_cases h3 : m - 1 ≤ a.dep
      · have : m ≤ max (a.dep + 1) r.dep := by omega
        simp [h3, this]
      · by_cases h4 : m ≤ r.dep
        · have : m ≤ max (a.dep + 1) r.dep := by omega
          simp [h4, this]
        · have : ¬ m ≤ max (a.dep + 1) r.dep := by omega
          simp [h3, h4, this]

theorem qF_eq : ∀ (f : Fo) (n : Nat), n ≤ 257 → qF f (n : Int) = ((min (n + f.size) 257 : Nat) : Int) := by
  intro f
  induction f with
  | nil => intro n h; simp only [qF, Fo.size]; omega
  | cons k w nm a r iha ihr =>
    intro n h
    simp only [qF, Fo.size]
    by_cases hn : (n : Int) ≤ 256
    · rw [if_pos hn]
      have e1 := iha 1 (by omega)
      rw [show ((1 : Nat) : Int) = 1 from rfl] at e1
      rw [e1, wrap_small (by omega) (by omega)]
      have : (min ((n : Int) + ((min (1 + a.size) 257 : Nat) : Int)) 257) = ((min (n + min (1 + a.size) 257) 257 : Nat) : Int) := by omega
      rw [this, ihr _ (by omega)]
      omega
    · rw [if_neg hn]; omega

theorem pF_eq : ∀ (f : Fo) (d n : Nat), 1 ≤ d → d ≤ 16 → n ≤ 256 →
    (pF (d : Int) f (n : Int)).2 = decide (d + f.dep ≤ 16 ∧ n + f.size ≤ 256) ∧ ((pF (d : Int) f (n : Int)).2 = true → (pF (d : Int) f (n : Int)).1 = ((n + f.size : Nat) : Int)) := by
  intro f
  induction f with
  | nil =>
    intro d n h1 h2 h3
    simp only [pF, Fo.dep, Fo.size]
    exact ⟨(decide_eq_true (show d + 0 ≤ 16 ∧ n + 0 ≤ 256 by omega)).symm, fun _ => by simp⟩
  | cons k w nm a r iha ihr =>
    intro d n h1 h2 h3
    have e : IntKind.i64.wrap ((d : Int) + 1) = ((d + 1 : Nat) : Int) := by rw [wrap_small (by omega) (by omega)]; omega
    have hp : pF (d : Int) (.cons k w nm a r) (n : Int) = if (!(pS (IntKind.i64.wrap ((d : Int) + 1)) a).2 || decide (IntKind.i64.wrap ((n : Int) + (pS (IntKind.i64.wrap ((d : Int) + 1)) a).1) > 256)) = true then (IntKind.i64.wrap ((n : Int) + (pS (IntKind.i64.wrap ((d : Int) + 1)) a).1), false) else pF (d : Int) r (IntKind.i64.wrap ((n : Int) + (pS (IntKind.i64.wrap ((d : Int) + 1)) a).1)) := rfl
    rw [hp, e]
    have hq : (pS ((d + 1 : Nat) : Int) a).2 = decide (d + 1 + a.dep ≤ 16 ∧ 1 + a.size ≤ 256) ∧ ((pS ((d + 1 : Nat) : Int) a).2 = true → (pS ((d + 1 : Nat) : Int) a).1 = ((1 + a.size : Nat) : Int)) := by
      unfold pS
      by_cases hd : d + 1 ≤ 16
      · rw [if_neg (show ¬ (((d + 1 : Nat) : Int) > 16) by omega)]
        exact iha (d + 1) 1 (by omega) hd (by omega)
      · rw [if_pos (show (((d + 1 : Nat) : Int) > 16) by omega)]
        exact ⟨(decide_eq_false (by omega)).symm, fun h => by cases h⟩
    generalize pS ((d + 1 : Nat) : Int) a = q at hq ⊢
    obtain ⟨q1, q2⟩ := hq
    simp only [Fo.dep, Fo.size]
    by_cases hc : d + 1 + a.dep ≤ 16 ∧ 1 + a.size ≤ 256
    · have q1' : q.2 = true := by rw [q1]; exact decide_eq_true hc
      have q2' := q2 q1'
      have e2 : IntKind.i64.wrap ((n : Int) + q.1) = ((n + (1 + a.size) : Nat) : Int) := by rw [q2', wrap_small (by omega) (by omega)]; omega
      rw [e2, q1']
      by_cases h5 : n + (1 + a.size) ≤ 256
      · have : ¬ (((n + (1 + a.size) : Nat) : Int) > 256) := by omega
        simp only [Bool.not_true, decide_eq_false this, Bool.or_self, Bool.false_eq_true, if_false]
        obtain ⟨p1, p2⟩ := ihr d (n + (1 + a.size)) h1 h2 h5
        refine ⟨?_, fun hh => ?_⟩
        · rw [p1]
          congr 1
          apply propext
          constructor <;> intro hh <;> omega
        · rw [p2 hh]; omega
      · have : ((n + (1 + a.size) : Nat) : Int) > 256 := by omega
        simp only [decide_eq_true this, Bool.or_true, if_true]
        exact ⟨(decide_eq_false (by omega)).symm, fun h => by cases h⟩
    · have q1' : q.2 = false := by rw [q1]; exact decide_eq_false hc
      rw [q1']
      simp only [Bool.not_false, Bool.true_or, if_true]
      exact ⟨(decide_eq_false (by omega)).symm, fun h => by cases h⟩

/-- Neither too deep nor of too many parts. -/
def fewS (a : Fo) : Bool := decide (1 + a.dep ≤ 16 ∧ 1 + a.size ≤ 256)

theorem pS_few (a : Fo) : (pS 1 a).2 = fewS a := by
  unfold pS fewS
  rw [if_neg (by omega)]
  exact (pF_eq a 1 1 (by omega) (by omega) (by omega)).1

def emptyT : ByteArray := ⟨#[]⟩

def headS (k w : Int) (n : ByteArray) (l : Nat) : Bool :=
  if k = 1 ∨ k = 2 then decide (w = 0) && (n.toList == emptyT.toList) && decide (l = 0)
  else if k = 3 then decide (w ≥ 1) && decide (w ≤ 4096) && (n.toList == emptyT.toList) && decide (l = 0)
  else if k = 4 then decide (w = 0) && (n.toList == emptyT.toList) && decide (l = 2)
  else if k = 5 ∨ k = 6 then decide (w = 0) && nameS n && decide (l = 0)
  else false

def shF : Fo → Bool
  | .nil => true
  | .cons k w n a r => headS k w n a.len && shF a && shF r

def shS (k w : Int) (n : ByteArray) (a : Fo) : Bool := headS k w n a.len && shF a

theorem name_maxN {n : ByteArray} (h : n.size ≤ maxS) : n.size ≤ maxN := by rw [maxN_eq]; unfold maxS at h; omega

theorem shaped_loop (c : Nat) {H : AH} : ∀ (f : Fo), (∀ (fuel : Nat) (k w : Int) (n : ByteArray) (s : Sl3) (a : Fo), SlF H s a → n.size ≤ maxS → a.dep ≤ fuel → a.dep < f.dep → fam_sort_shaped (LCo c) (fuel + 1) H k w n s = some (shS k w n a)) →
    ∀ (s : Sl3) (i : Nat) (b : Bool) (fuel : Nat) (x0 x1 : Int) (x2 : ByteArray), FoA H s.p i f → s.n = i + f.len → s.n ≤ maxN → f.dep ≤ fuel →
    ∃ j, loopO (sort_shaped_b0 (LCo c) (fam_sort_shaped (LCo c) fuel) H x0 x1 x2 s) (b, (i : Int)) = some (.inl (b && shF f, j)) := by
  intro f
  induction f with
  | nil =>
    intro hrec s i b fuel x0 x1 x2 h hn hm hd
    refine ⟨(i : Int), loopO_brk (s' := (b && shF .nil, (i : Int))) ?_⟩
    simp only [Fo.len, Nat.add_zero] at hn
    unfold sort_shaped_b0
    simp only [if_neg (show ¬ ((i : Int) < (s.n : Int)) by omega), shF, Bool.and_true]
  | cons k' w' n' a r iha ihr =>
    intro hrec s i b fuel x0 x1 x2 h hn hm hd
    simp only [Fo.len] at hn
    simp only [Fo.dep] at hd hrec
    obtain ⟨q, s', r1, r2, r3, r4, r5, r6, r8, r7⟩ := h.rd (by omega)
    obtain ⟨g, rfl⟩ : ∃ g, fuel = g + 1 := ⟨fuel - 1, by omega⟩
    have hr := hrec g k' w' n' s' a r6 r8 (by omega) (by omega)
    have hb : sort_shaped_b0 (LCo c) (fam_sort_shaped (LCo c) (g + 1)) H x0 x1 x2 s (b, (i : Int)) = some (.next (b && shS k' w' n' a, IntKind.i64.wrap ((i : Int) + 1))) := by
      unfold sort_shaped_b0
      simp only [if_pos (show (i : Int) < (s.n : Int) by omega), r1, r2, r3, r4, r5, Option.bind_some, hr]
      cases b <;> rfl
    obtain ⟨j, hj⟩ := ihr (fun fuel k w n s a h1 h2 h3 h4 => hrec fuel k w n s a h1 h2 h3 (by omega)) s (i + 1) (b && shS k' w' n' a) (g + 1) x0 x1 x2 r7 (by omega) hm (by omega)
    refine ⟨j, ?_⟩
    rw [loopO_next hb, wrap_next (n := s.n) (by omega) hm, hj]
    simp only [shF, shS, Bool.and_assoc]

/-- The head as the program asks for it. -/
theorem shaped_head (c : Nat) {k w : Int} {n : ByteArray} {l : Nat} (hn : n.size ≤ maxS) :
    (Option.bind (α := Bool) (if k = 1 then some true else some (decide (k = 2))) fun v8_2 =>
    if v8_2 = true then
      if w = 0 then if (n.toList == (⟨#[]⟩ : ByteArray).toList) = true then some (decide ((l : Int) = 0)) else some false else some false
    else
      if k = 3 then
        if w ≥ 1 then if w ≤ 4096 then if (n.toList == (⟨#[]⟩ : ByteArray).toList) = true then some (decide ((l : Int) = 0)) else some false else some false else some false
      else
        if k = 4 then
          if w = 0 then if (n.toList == (⟨#[]⟩ : ByteArray).toList) = true then some (decide ((l : Int) = 2)) else some false else some false
        else
          Option.bind (α := Bool) (if k = 5 then some true else some (decide (k = 6))) fun v62_3 =>
          if v62_3 = true then
            if w = 0 then Option.bind (sort_Name (LCo c) n) fun x4 => if x4 = true then some (decide ((l : Int) = 0)) else some false else some false
          else some false) = some (headS k w n l) := by
  have hN := Name_spec c (name_maxN hn)
  have e0 : decide ((l : Int) = 0) = decide (l = 0) := by congr 1; apply propext; omega
  have e2 : decide ((l : Int) = 2) = decide (l = 2) := by congr 1; apply propext; omega
  rw [e0, e2]
  unfold headS emptyT
  generalize (n.toList == (⟨#[]⟩ : ByteArray).toList) = bn
  by_cases h1 : k = 1
  · subst h1
    by_cases hw : w = 0 <;> cases bn <;> simp [hw]
  · by_cases h2 : k = 2
    · subst h2
      by_cases hw : w = 0 <;> cases bn <;> simp [hw]
    · by_cases h3 : k = 3
      · subst h3
        by_cases hw : w ≥ 1 <;> by_cases hw2 : w ≤ 4096 <;> cases bn <;> simp [hw, hw2]
      · by_cases h4 : k = 4
        · subst h4
          by_cases hw : w = 0 <;> cases bn <;> simp [hw]
        · by_cases h5 : k = 5
          · subst h5
            by_cases hw : w = 0
            · simp only [hw, hN, Option.bind_some]
              cases nameS n <;> simp
            · simp [hw]
          · by_cases h6 : k = 6
            · subst h6
              by_cases hw : w = 0
              · simp only [hw, hN, Option.bind_some]
                cases nameS n <;> simp
              · simp [hw]
            · simp [h1, h2, h3, h4, h5, h6]

theorem shaped_spec (c : Nat) {H : AH} : ∀ (d : Nat) (fuel : Nat) (k w : Int) (n : ByteArray) (s : Sl3) (a : Fo), SlF H s a → n.size ≤ maxS → a.dep ≤ fuel → a.dep < d → fam_sort_shaped (LCo c) (fuel + 1) H k w n s = some (shS k w n a) := by
  intro d
  induction d with
  | zero => intro fuel k w n s a _ _ _ h; omega
  | succ d ih =>
    intro fuel k w n s a h hn hd hlt
    show sort_shaped_body (LCo c) (fam_sort_shaped (LCo c) fuel) H k w n s = _
    unfold sort_shaped_body
    have hh := shaped_head c (k := k) (w := w) (n := n) (l := s.n) hn
    obtain ⟨j, hj⟩ := shaped_loop c a (fun fuel k w n s a' h1 h2 h3 h4 => ih fuel k w n s a' h1 h2 h3 (by omega)) s 0 (headS k w n s.n) fuel k w n h.2.2 (by rw [h.1]; omega) h.2.1 hd
    rw [hh]
    simp only [Option.bind_some]
    show Option.bind (loopO (sort_shaped_b0 (LCo c) (fam_sort_shaped (LCo c) fuel) H k w n s) (headS k w n s.n, ((0 : Nat) : Int))) _ = _
    rw [hj, h.1]
    rfl

theorem refShape_spec (c : Nat) {H : AH} : ∀ (d : Nat) (fuel : Nat) (k w : Int) (n : ByteArray) (s : Sl3) (a : Fo), SlF H s a → n.size ≤ maxS → a.dep ≤ fuel → a.dep < d → fam_ref04_shape (LCo c) (fuel + 1) H k w n s = some (shS k w n a) := by
  intro d
  induction d with
  | zero => intro fuel k w n s a _ _ _ h; omega
  | succ d ih =>
    intro fuel k w n s a h hn hd hlt
    show ref04_shape_body (LCo c) (fam_ref04_shape (LCo c) fuel) H k w n s = _
    unfold ref04_shape_body
    have hN := refName_spec c (name_maxN hn)
    have e0 : decide ((s.n : Int) = 0) = decide (s.n = 0) := by congr 1; apply propext; omega
    rw [e0]
    have nil0 : s.n = 0 → shF a = true := by
      intro h0
      have := h.1
      cases a with
      | nil => rfl
      | cons => simp only [Fo.len] at this; omega
    have fin : ∀ b : Bool, (b && decide (s.n = 0)) = (b && decide (a.len = 0) && shF a) := by
      intro b
      rw [← h.1]
      by_cases h0 : s.n = 0
      · rw [nil0 h0]; simp
      · simp [h0]
    unfold shS headS emptyT
    generalize hbn : (n.toList == (⟨#[]⟩ : ByteArray).toList) = bn
    by_cases h1 : k = 1
    · subst h1
      have := fin (decide (w = 0) && bn)
      by_cases hw : w = 0 <;> cases bn <;> simp [hw] at this ⊢
      exact this
    · by_cases h2 : k = 2
      · subst h2
        have := fin (decide (w = 0) && bn)
        by_cases hw : w = 0 <;> cases bn <;> simp [hw] at this ⊢
        exact this
      · by_cases h3 : k = 3
        · subst h3
          have := fin (decide (w ≥ 1) && decide (w ≤ 4096) && bn)
          by_cases hw : w ≥ 1 <;> by_cases hw2 : w ≤ 4096 <;> cases bn <;> simp [hw, hw2] at this ⊢
          exact this
        · by_cases h4 : k = 4
          · subst h4
            by_cases hw : w = 0
            · cases bn with
              | false => simp [hw]
              | true =>
                by_cases hl : s.n = 2
                · have hl' : (s.n : Int) = 2 := by omega
                  have hal := h.1
                  rw [hl] at hal
                  cases a with
                  | nil => simp [Fo.len] at hal
                  | cons k1 w1 n1 a1 r1 =>
                    cases r1 with
                    | nil => simp [Fo.len] at hal
                    | cons k2 w2 n2 a2 r2 =>
                      have hr2 : r2 = .nil := by
                        cases r2 with
                        | nil => rfl
                        | cons => simp [Fo.len] at hal
                      subst hr2
                      simp only [Fo.dep] at hd hlt
                      obtain ⟨q1, s1, p1, p2, p3, p4, p5, p6, p7, p8⟩ := h.2.2.rd (by omega)
                      obtain ⟨q2, s2, t1, t2, t3, t4, t5, t6, t7, t8⟩ := p8.rd (by omega)
                      obtain ⟨g, rfl⟩ : ∃ g, fuel = g + 1 := ⟨fuel - 1, by omega⟩
                      have c1 := ih g k1 w1 n1 s1 a1 p6 p7 (by omega) (by omega)
                      have c2 := ih g k2 w2 n2 s2 a2 t6 t7 (by omega) (by omega)
                      have z0 : idxA 4 s 0 = some q1 := p1
                      have z1 : idxA 4 s 1 = some q2 := t1
                      have hF : shF (.cons k1 w1 n1 a1 (.cons k2 w2 n2 a2 .nil)) = (shS k1 w1 n1 a1 && shS k2 w2 n2 a2) := by simp only [shF, shS, Bool.and_true]
                      rw [hF]
                      simp only [hw, hl', z0, p2, p3, p4, p5, Option.bind_some, c1, z1, t2, t3, t4, t5, c2]
                      cases shS k1 w1 n1 a1 <;> cases shS k2 w2 n2 a2 <;> simp [Fo.len]
                · have hl' : ¬ ((s.n : Int) = 2) := by omega
                  have : ¬ (a.len = 2) := by rw [← h.1]; exact hl
                  simp [hw, hl', this]
            · simp [hw]
          · by_cases h56 : k = 5 ∨ k = 6
            · have e : (if k = 5 then some true else some (decide (k = 6))) = some true := by
                rcases h56 with rfl | rfl <;> rfl
              simp only [h1, h2, h3, h4, h56, e, if_false, Option.bind_some, decide_false, Bool.false_eq_true, if_true, or_self]
              have := fin (decide (w = 0) && nameS n)
              by_cases hw : w = 0
              · by_cases h0 : s.n = 0
                · have h0' : (s.n : Int) = 0 := by omega
                  simp only [hw, if_true, h0', hN, Option.bind_some] at this ⊢
                  rw [h0] at this
                  simp at this ⊢
                  cases hb : nameS n <;> simp [hb] at this ⊢
                  exact this
                · have h0' : ¬ ((s.n : Int) = 0) := by omega
                  have : ¬ (a.len = 0) := by rw [← h.1]; exact h0
                  simp [hw, h0, this]
              · simp [hw]
            · have h5 : ¬ k = 5 := fun h => h56 (.inl h)
              have h6 : ¬ k = 6 := fun h => h56 (.inr h)
              simp [h1, h2, h3, h4, h5, h6]

def wrongS (k w : Int) (n : ByteArray) (a : Fo) : Int := if fewS a = true then if shS k w n a = true then 0 else 40 else 3

theorem wrong_spec (L0 fuel : Nat) (hF : L0 = fuel + 1) {H : AH} {k w : Int} {n : ByteArray} {s : Sl3} {a : Fo} (h : SlF H s a) (hn : n.size ≤ maxS) (hd : a.dep ≤ fuel) : sort_wrong (LCo L0) H k w n s = some (wrongS k w n a) := by
  subst hF
  unfold sort_wrong sort_parts sort_shaped wrongS
  have e1 : (LCo (fuel + 1)).fuel = fuel + 1 := rfl
  rw [e1, parts_spec (fuel + 1) fuel h hd k w n 1, shaped_spec (fuel + 1) (a.dep + 1) fuel k w n s a h hn hd (by omega)]
  simp only [Option.bind_some]
  have := pS_few a
  generalize pS 1 a = q at this
  obtain ⟨x, b⟩ := q
  simp only at this
  subst this
  simp only
  cases fewS a <;> cases shS k w n a <;> rfl

theorem fits_spec (L0 fuel : Nat) (hF : L0 = fuel + 1) {H : AH} {k w : Int} {n : ByteArray} {s : Sl3} {a : Fo} (h : SlF H s a) (hn : n.size ≤ maxS) (hd : a.dep ≤ fuel) : ref04_fits (LCo L0) H k w n s = some (wrongS k w n a) := by
  subst hF
  unfold ref04_fits ref04_Deep ref04_Parts ref04_shape wrongS
  have e1 : (LCo (fuel + 1)).fuel = fuel + 1 := rfl
  rw [e1, deep_spec (fuel + 1) fuel h hd k w n 16, refParts_spec (fuel + 1) fuel h hd k w n, refShape_spec (fuel + 1) (a.dep + 1) fuel k w n s a h hn hd (by omega)]
  simp only [Option.bind_some]
  have d1 : dS 16 a = decide (16 ≤ a.dep) := by
    unfold dS
    rw [if_neg (by omega)]
    exact dF_eq a 16 (by omega) (by omega)
  have q1 : qF a 1 = ((min (1 + a.size) 257 : Nat) : Int) := qF_eq a 1 (by omega)
  rw [d1, q1]
  unfold fewS
  by_cases h1 : 16 ≤ a.dep
  · have : ¬ (1 + a.dep ≤ 16 ∧ 1 + a.size ≤ 256) := by omega
    simp [h1, this]
  · by_cases h2 : 1 + a.size ≤ 256
    · have h3 : 1 + a.dep ≤ 16 ∧ 1 + a.size ≤ 256 := by omega
      have h4 : ¬ (((min (1 + a.size) 257 : Nat) : Int) > 256) := by omega
      simp only [decide_eq_false h1, Bool.false_eq_true, if_false, Option.bind_some, decide_eq_false h4, decide_eq_true h3, if_true]
      cases shS k w n a <;> rfl
    · have h3 : ¬ (1 + a.dep ≤ 16 ∧ 1 + a.size ≤ 256) := by omega
      have h4 : (((min (1 + a.size) 257 : Nat) : Int) > 256) := by omega
      simp only [decide_eq_false h1, Bool.false_eq_true, if_false, Option.bind_some, decide_eq_true h4, decide_eq_false h3, if_true]

theorem shS_cases {k w : Int} {n : ByteArray} {a : Fo} (h : shS k w n a = true) :
    (a = .nil ∧ (k = 1 ∨ k = 2 ∨ (k = 3 ∧ 1 ≤ w ∧ w ≤ 4096) ∨ ((k = 5 ∨ k = 6) ∧ nameS n = true))) ∨
    (k = 4 ∧ ∃ k1 w1 n1 a1 k2 w2 n2 a2, a = .cons k1 w1 n1 a1 (.cons k2 w2 n2 a2 .nil) ∧ shS k1 w1 n1 a1 = true ∧ shS k2 w2 n2 a2 = true) := by
  simp only [shS, Bool.and_eq_true] at h
  obtain ⟨h1, h2⟩ := h
  have nil0 : a.len = 0 → a = .nil := by
    intro h0
    cases a with
    | nil => rfl
    | cons => simp [Fo.len] at h0
  unfold headS at h1
  split at h1
  · rename_i hk
    simp only [Bool.and_eq_true, decide_eq_true_eq] at h1
    refine .inl ⟨nil0 h1.2, ?_⟩
    omega
  · split at h1
    · rename_i hk
      simp only [Bool.and_eq_true, decide_eq_true_eq] at h1
      refine .inl ⟨nil0 h1.2, ?_⟩
      omega
    · split at h1
      · rename_i hk
        simp only [Bool.and_eq_true, decide_eq_true_eq] at h1
        refine .inr ⟨hk, ?_⟩
        have hl := h1.2
        cases a with
        | nil => simp [Fo.len] at hl
        | cons k1 w1 n1 a1 r1 =>
          cases r1 with
          | nil => simp [Fo.len] at hl
          | cons k2 w2 n2 a2 r2 =>
            have hr2 : r2 = .nil := by
              cases r2 with
              | nil => rfl
              | cons => simp [Fo.len] at hl
            subst hr2
            simp only [shF, Bool.and_eq_true] at h2
            refine ⟨_, _, _, _, _, _, _, _, rfl, ?_, ?_⟩
            · simp only [shS, Bool.and_eq_true]; exact h2.1
            · simp only [shS, Bool.and_eq_true]; exact h2.2.1
      · split at h1
        · rename_i hk
          simp only [Bool.and_eq_true, decide_eq_true_eq] at h1
          refine .inl ⟨nil0 h1.2, ?_⟩
          have := h1.1.2
          rcases hk with rfl | rfl <;> simp [this]
        · cases h1

theorem shS_nil {k w : Int} {n : ByteArray} {a : Fo} (h : shS k w n a = true) (hk : k = 5 ∨ k = 6) : a = .nil := by
  rcases shS_cases h with ⟨h1, _⟩ | ⟨h1, _⟩
  · exact h1
  · omega

theorem wrong_zero {k w : Int} {n : ByteArray} {a : Fo} (h : wrongS k w n a = 0) : shS k w n a = true ∧ 1 + a.dep ≤ 16 ∧ 1 + a.size ≤ 256 := by
  unfold wrongS fewS at h
  split at h
  · rename_i h1
    split at h
    · rename_i h2
      exact ⟨h2, of_decide_eq_true h1⟩
    · cases h
  · cases h

end Go.Proofs.YtccbilfbhecdaaaDoor


namespace Go.Proofs.YtccbilfbhecdaaaDoor
open Go Go.Abs
set_option maxRecDepth 100000

theorem pe_int (a b : Int) : peval Tryd.prog (Op.equalIn 9999 25 (.int .i64 a) (.int .i64 b)) = some (a == b) := by kernel_rfl
theorem pe_str (s t : ByteArray) : peval Tryd.prog (Op.equalIn 9999 9 (.string s) (.string t)) = some (s == t) := by kernel_rfl
noncomputable def keyFs : Array Field := match Tryd.prog.underlying 98 with | some (.struct fs) => fs | _ => #[]
theorem keyFs_eq : Tryd.prog.underlying 98 = some (.struct keyFs) := by kernel_rfl
theorem keyFs_two : keyFs = #[keyFs[0]!, keyFs[1]!] := by kernel_rfl
theorem peval_sb {P : Program} {α β : Type} (s : Sem α) (k : α → Sem β) : peval P (Sem.bind s k) = (peval P s).bind fun a => peval P (k a) := by
  have := peval_bind (P := P) s k
  refine this.trans ?_
  cases peval P s <;> rfl

theorem key_eq (a b : Int) (s t : ByteArray) : peval Tryd.prog (Op.equal 98 (.agg #[.int .i64 a, .string s]) (.agg #[.int .i64 b, .string t])) = some ((a == b) && (s == t)) := by
  show peval Tryd.prog (Op.equalIn (9999 + 1) 98 _ _) = _
  rw [Op.equalIn]
  have hst : Tryd.prog.stoodInHeld 98 = false := by kernel_rfl
  have t0 : keyFs[0]!.type = 25 := by kernel_rfl
  have t1 : keyFs[1]!.type = 9 := by kernel_rfl
  have n0 : keyFs[0]!.name = "kind" := by kernel_rfl
  have n1 : keyFs[1]!.name = "name" := by kernel_rfl
  have p0 : ∀ (v w : Value), peval Tryd.prog (part 25 #[v, w] keyFs[0]!.offset) = some v := by intro v w; kernel_rfl
  have p1 : ∀ (v w : Value), peval Tryd.prog (part 9 #[v, w] keyFs[1]!.offset) = some w := by intro v w; kernel_rfl
  simp only [Go.underlying, Go.program, bind, peval, keyFs_eq, Pure.pure, Sem.bind, hst, Bool.false_eq_true, if_false]
  rw [keyFs_two]
  simp [t0, t1, n0, n1, bind, pure]
  rw [peval_sb, peval_sb, peval_sb, p0]
  simp only [Option.bind_some]
  rw [peval_sb, p0]
  simp only [Option.bind_some]
  rw [peval_sb, pe_int]
  simp only [Option.bind_some]
  cases a == b with
  | false => rfl
  | true =>
    simp only [Bool.true_eq_false, if_false, peval, Option.bind_some, Bool.true_and]
    rw [peval_sb, peval_sb, p1]
    simp only [Option.bind_some]
    rw [peval_sb, p1]
    simp only [Option.bind_some]
    rw [peval_sb, pe_str]
    simp only [Option.bind_some]
    cases s == t <;> rfl

def keyV (x : Int × ByteArray) : Value := .agg #[.int .i64 x.1, .string x.2]

theorem keyK : KeyK Tryd.prog 98 keyV := by
  refine ⟨⟨_, keyFs_eq, .inr ⟨fun a b => rfl, fun a b => ?_⟩⟩, fun a b => by kernel_rfl, fun a => ?_⟩
  · refine (key_eq a.1 b.1 a.2 b.2).trans ?_
    rw [ba_beq]
    obtain ⟨a1, a2⟩ := a
    obtain ⟨b1, b2⟩ := b
    congr 1
    rw [Bool.eq_iff_iff]
    simp
  · obtain ⟨a1, a2⟩ := a
    have h : (a2 == a2) = true := by rw [ba_beq]; simp
    have h1 : (a1 == a1) = true := by simp
    show ((#[Value.int .i64 a1, .string a2] : Array Value).size == (#[Value.int .i64 a1, .string a2] : Array Value).size && (([(Value.int .i64 a1, Value.int .i64 a1), (.string a2, .string a2)]).all fun (x, y) => Instr.sameBits 9999 x y)) = true
    simp [Instr.sameBits, h]

theorem und94 : Tryd.prog.underlying 94 = some (.map 98 3) := by kernel_rfl
theorem zero3 : (Tryd.prog.info? 3).bind (·.zero) = some (.int .i64 0) := by kernel_rfl

end Go.Proofs.YtccbilfbhecdaaaDoor


namespace Go.Proofs.YtccbilfbhecdaaaDoor
open Go Go.Abs
set_option maxRecDepth 100000

structure Sel where
  n : ByteArray
  k : Int
  w : Int
  sn : ByteArray
  a : Fo
structure Con where
  n : ByteArray
  sels : List Sel
structure Dat where
  n : ByteArray
  cons : List Con
structure Fnc where
  n : ByteArray
  args : Fo
  k : Int
  w : Int
  sn : ByteArray
  a : Fo
structure Sg where
  users : List ByteArray
  datas : List Dat
  funs : List Fnc

def StrM (H : AH) (q : Addr) (s : ByteArray) : Prop := StrA H q s ∧ s.size ≤ maxS

structure SelA (H : AH) (q : Addr) (x : Sel) : Prop where
  n : Cel H (q.add 0) (.string x.n)
  nm : x.n.size ≤ maxS
  ex : ∃ s, Cel H (q.add 1) (.int .i64 x.k) ∧ Cel H (q.add 2) (.int .i64 x.w) ∧ Cel H (q.add 3) (.string x.sn) ∧ Cel H (q.add 4) (Sl3.v s) ∧ x.sn.size ≤ maxS ∧ SlF H s x.a
structure ConA (H : AH) (q : Addr) (x : Con) : Prop where
  n : Cel H (q.add 0) (.string x.n)
  nm : x.n.size ≤ maxS
  ex : ∃ s, Cel H (q.add 1) (Sl3.v s) ∧ SlL SelA 5 H s x.sels
structure DatA (H : AH) (q : Addr) (x : Dat) : Prop where
  n : Cel H (q.add 0) (.string x.n)
  nm : x.n.size ≤ maxS
  ex : ∃ s, Cel H (q.add 1) (Sl3.v s) ∧ SlL ConA 2 H s x.cons
structure FncA (H : AH) (q : Addr) (x : Fnc) : Prop where
  n : Cel H (q.add 0) (.string x.n)
  nm : x.n.size ≤ maxS
  ar : ∃ s, Cel H (q.add 1) (Sl3.v s) ∧ SlF H s x.args
  ex : ∃ s, Cel H (q.add 2) (.int .i64 x.k) ∧ Cel H (q.add 3) (.int .i64 x.w) ∧ Cel H (q.add 4) (.string x.sn) ∧ Cel H (q.add 5) (Sl3.v s) ∧ x.sn.size ≤ maxS ∧ SlF H s x.a
structure SigA (H : AH) (s1 s2 s3 : Sl3) (g : Sg) : Prop where
  u : SlL StrM 1 H s1 g.users
  d : SlL DatA 2 H s2 g.datas
  f : SlL FncA 6 H s3 g.funs

theorem StrM.ext {H H' : AH} (hf : Ext H H') {q : Addr} {x : ByteArray} (h : StrM H q x) : StrM H' q x := ⟨Cel.ext h.1 hf, h.2⟩
theorem SelA.ext {H H' : AH} (hf : Ext H H') {q : Addr} {x : Sel} (h : SelA H q x) : SelA H' q x :=
  ⟨h.n.ext hf, h.nm, let ⟨s, a, b, c, d, e, f⟩ := h.ex; ⟨s, a.ext hf, b.ext hf, c.ext hf, d.ext hf, e, f.ext hf⟩⟩
theorem ConA.ext {H H' : AH} (hf : Ext H H') {q : Addr} {x : Con} (h : ConA H q x) : ConA H' q x :=
  ⟨h.n.ext hf, h.nm, let ⟨s, a, b⟩ := h.ex; ⟨s, a.ext hf, b.ext hf fun _ _ h => h.ext hf⟩⟩
theorem DatA.ext {H H' : AH} (hf : Ext H H') {q : Addr} {x : Dat} (h : DatA H q x) : DatA H' q x :=
  ⟨h.n.ext hf, h.nm, let ⟨s, a, b⟩ := h.ex; ⟨s, a.ext hf, b.ext hf fun _ _ h => h.ext hf⟩⟩
theorem FncA.ext {H H' : AH} (hf : Ext H H') {q : Addr} {x : Fnc} (h : FncA H q x) : FncA H' q x :=
  ⟨h.n.ext hf, h.nm, let ⟨s, a, b⟩ := h.ar; ⟨s, a.ext hf, b.ext hf⟩, let ⟨s, a, b, c, d, e, f⟩ := h.ex; ⟨s, a.ext hf, b.ext hf, c.ext hf, d.ext hf, e, f.ext hf⟩⟩
theorem SigA.ext {H H' : AH} (hf : Ext H H') {s1 s2 s3 : Sl3} {g : Sg} (h : SigA H s1 s2 s3 g) : SigA H' s1 s2 s3 g :=
  ⟨h.u.ext hf fun _ _ h => h.ext hf, h.d.ext hf fun _ _ h => h.ext hf, h.f.ext hf fun _ _ h => h.ext hf⟩

def dataIx (l : List Dat) (n : ByteArray) : Option Nat := l.findIdx? fun d => decide (d.n = n)

def hasU (us : List ByteArray) (n : ByteArray) : Bool := us.any fun u => decide (u = n)

def bookF (us : List ByteArray) (ds : List Dat) (x : Int × ByteArray) : Option Value :=
  if x.1 = 5 then if hasU us x.2 = true then some (.int .i64 0) else none
  else if x.1 = 6 then (dataIx ds x.2).map fun (i : Nat) => Value.int .i64 (i : Int)
  else none

structure Book (H : AH) (p : Addr) (s1 s2 s3 : Sl3) (g : Sg) : Prop where
  c1 : Cel H (p.add 0) s1.v
  c2 : Cel H (p.add 1) s2.v
  c3 : Cel H (p.add 2) s3.v
  ex : ∃ id, Cel H (p.add 3) (.map (some id)) ∧ id < H.next ∧ MapA keyV H id (bookF g.users g.datas)

theorem Book.ext {H H' : AH} (hf : Ext H H') {p : Addr} {s1 s2 s3 : Sl3} {g : Sg} (h : Book H p s1 s2 s3 g) : Book H' p s1 s2 s3 g :=
  ⟨h.c1.ext hf, h.c2.ext hf, h.c3.ext hf, let ⟨id, a, b, c⟩ := h.ex; ⟨id, a.ext hf, Nat.lt_of_lt_of_le b hf.1, c.fr hf b fun h => h⟩⟩

theorem MapA.congr {H : AH} {id : Nat} {f f' : Int × ByteArray → Option Value} (h : MapA keyV H id f) (e : ∀ x, f x = f' x) : MapA keyV H id f' := by
  have : f = f' := funext e
  rw [← this]; exact h

theorem hasU_take {us : List ByteArray} {i : Nat} (hi : i < us.length) (n : ByteArray) : hasU (us.take (i + 1)) n = (hasU (us.take i) n || decide (us[i] = n)) := by
  unfold hasU
  rw [List.take_succ_eq_append_getElem hi, List.any_append, List.any_cons, List.any_nil, Bool.or_false]

theorem open_b0 (c m : Nat) {H4 : AH} {s1 s2 s3 : Sl3} {us : List ByteArray} {p3 : Addr} {id : Nat} (hu : SlL StrM 1 H4 s1 us) (hc : Cel H4 (p3.add 3) (.map (some id))) (hp : p3.block ≠ id)
    (hub : ∀ a, s1.p = some a → a.block ≠ id) (hid : id < H4.next) (hm : m ≤ id) (hM : MapA keyV H4 id fun _ => none) :
    ∃ H5, loopO (sort_open_b0 (LCo c) m s1 s2 s3 p3) (H4, 0) = some (.inl (H5, (s1.n : Int))) ∧ Fm (fun i => i = id) H4 H5 ∧ H5.next = H4.next ∧ MapA keyV H5 id (bookF us []) := by
  obtain ⟨o, h1, h2⟩ := loopO_list (body := sort_open_b0 (LCo c) m s1 s2 s3 p3) us
    (fun i st => st.2 = (i : Int) ∧ Fm (fun j => j = id) H4 st.1 ∧ st.1.next = H4.next ∧ MapA keyV st.1 id (bookF (us.take i) []))
    (fun o => ∃ H5, o = .inl (H5, (s1.n : Int)) ∧ Fm (fun i => i = id) H4 H5 ∧ H5.next = H4.next ∧ MapA keyV H5 id (bookF us []))
    (fun i st hi h => by
      obtain ⟨H5, v⟩ := st
      obtain ⟨h1, h2, h3, h4⟩ := h
      simp only at h1 h2 h3 h4
      subst h1 hi
      refine ⟨(H5, (us.length : Int)), ?_, H5, by rw [hu.n], h2, h3, by rw [List.take_length] at h4; exact h4⟩
      unfold sort_open_b0
      have := hu.n
      simp only [if_neg (show ¬ ((us.length : Int) < (s1.n : Int)) by omega)])
    (fun i hi st h => by
      obtain ⟨H5, v⟩ := st
      obtain ⟨h1, h2, h3, h4⟩ := h
      simp only at h1 h2 h3 h4
      subst h1
      have hn := hu.n
      obtain ⟨a, g1, g2⟩ := hu.at_.get i hi
      rw [Nat.zero_add] at g2
      have hne : (a.add (i * 1)).block ≠ id := by rw [add_block]; exact hub a g1
      have r1 : rd deS H5 (a.add (i * 1)) = some us[i] := by
        rw [(Cel.fr g2.1 h2 hne).rd]; rfl
      have r2 : rd deM H5 (p3.add 3) = some (some id) := by
        rw [(Cel.fr hc h2 (by rw [add_block]; exact hp)).rd]; rfl
      obtain ⟨H', u1, u2, u3, u4⟩ := upM_spec keyK und94 h4 hm (5, us[i]) (.int .i64 0)
      refine .inr ⟨(H', ((i + 1 : Nat) : Int)), ?_, rfl, h2.comp u3 fun _ _ h => h, u4.trans h3, MapA.congr u2 fun x => ?_⟩
      · unfold sort_open_b0
        simp only [if_pos (show (i : Int) < (s1.n : Int) by omega), idxA_some g1 rfl (show i < s1.n by omega), Option.bind_some, r1, r2]
        have u1' : upM Tryd.prog m 94 H5 (some id) (Value.agg #[(Value.int .i64 5), (Value.string us[i])]) (Value.int .i64 0) = some H' := u1
        rw [u1', wrap_next hi hu.len]
        rfl
      · obtain ⟨xk, xn⟩ := x
        simp only [bookF, hasU_take hi, Prod.mk.injEq]
        generalize hasU (us.take i) xn = b
        by_cases e1 : xk = 5
        · by_cases e2 : xn = us[i]
          · subst e2; cases b <;> simp [e1]
          · have e2' : ¬ us[i] = xn := fun h => e2 h.symm
            cases b <;> simp [e1, e2, e2']
        · simp [e1])
    (s := (H4, 0)) ⟨rfl, Fm.refl _ _, rfl, MapA.congr hM fun x => by simp [bookF, dataIx, hasU]⟩
  obtain ⟨H5, rfl, h3⟩ := h2
  exact ⟨H5, h1, h3⟩

theorem dataIx_take {ds : List Dat} {i : Nat} (hi : i < ds.length) (n : ByteArray) : dataIx (ds.take (i + 1)) n = match dataIx (ds.take i) n with | some j => some j | none => if ds[i].n = n then some i else none := by
  unfold dataIx
  rw [List.take_succ_eq_append_getElem hi, List.findIdx?_append]
  cases (ds.take i).findIdx? fun d => decide (d.n = n) with
  | some j => rfl
  | none =>
    have : (ds.take i).length = i := by simp; omega
    by_cases h : ds[i].n = n <;> simp [h, this]

theorem open_b1 (c m : Nat) {H4 : AH} {s1 s2 s3 : Sl3} {us : List ByteArray} {ds : List Dat} {p3 : Addr} {id : Nat} (hd : SlL DatA 2 H4 s2 ds) (hc : Cel H4 (p3.add 3) (.map (some id))) (hp : p3.block ≠ id)
    (hdb : ∀ a, s2.p = some a → a.block ≠ id) (hid : id < H4.next) (hm : m ≤ id) (hM : MapA keyV H4 id (bookF us [])) :
    ∃ H5, loopO (sort_open_b1 (LCo c) m s1 s2 s3 p3) (H4, 0) = some (.inl (H5, (s2.n : Int))) ∧ Fm (fun i => i = id) H4 H5 ∧ H5.next = H4.next ∧ MapA keyV H5 id (bookF us ds) := by
  obtain ⟨o, h1, h2⟩ := loopO_list (body := sort_open_b1 (LCo c) m s1 s2 s3 p3) ds
    (fun i st => st.2 = (i : Int) ∧ Fm (fun j => j = id) H4 st.1 ∧ st.1.next = H4.next ∧ MapA keyV st.1 id (bookF us (ds.take i)))
    (fun o => ∃ H5, o = .inl (H5, (s2.n : Int)) ∧ Fm (fun i => i = id) H4 H5 ∧ H5.next = H4.next ∧ MapA keyV H5 id (bookF us ds))
    (fun i st hi h => by
      obtain ⟨H5, v⟩ := st
      obtain ⟨h1, h2, h3, h4⟩ := h
      simp only at h1 h2 h3 h4
      subst h1 hi
      refine ⟨(H5, (ds.length : Int)), ?_, H5, by rw [hd.n], h2, h3, by rw [List.take_length] at h4; exact h4⟩
      unfold sort_open_b1
      have := hd.n
      simp only [if_neg (show ¬ ((ds.length : Int) < (s2.n : Int)) by omega)])
    (fun i hi st h => by
      obtain ⟨H5, v⟩ := st
      obtain ⟨h1, h2, h3, h4⟩ := h
      simp only at h1 h2 h3 h4
      subst h1
      have hn := hd.n
      obtain ⟨a, g1, g2⟩ := hd.at_.get i hi
      rw [Nat.zero_add] at g2
      obtain ⟨sc, g3, _⟩ := g2.ex
      have hne : ∀ j, ((a.add (i * 2)).add j).block ≠ id := fun j => by rw [add_block, add_block]; exact hdb a g1
      have r1 : rd deS H5 ((a.add (i * 2)).add 0) = some ds[i].n := by
        rw [(Cel.fr g2.n h2 (hne 0)).rd]; rfl
      have r3 : rd deSl H5 ((a.add (i * 2)).add 1) = some sc := by
        rw [(Cel.fr g3 h2 (hne 1)).rd]; rfl
      have r2 : rd deM H5 (p3.add 3) = some (some id) := by
        rw [(Cel.fr hc h2 (by rw [add_block]; exact hp)).rd]; rfl
      have hl := lkM_spec keyK und94 zero3 rfl h4 (6, ds[i].n) (deI .i64)
      have hl' : lkM Tryd.prog 94 (deI .i64) H5 (some id) (Value.agg #[(Value.int .i64 6), (Value.string ds[i].n)]) = some ((deI .i64 ((bookF us (ds.take i) (6, ds[i].n)).getD (.int .i64 0))).getD 0, (bookF us (ds.take i) (6, ds[i].n)).isSome) := by
        refine hl.trans ?_
        simp only [bookF, if_neg (show ¬ ((6 : Int) = 5) by omega), if_pos (show (6 : Int) = 6 from rfl)]
        cases dataIx (ds.take i) ds[i].n <;> rfl
      cases hq : dataIx (ds.take i) ds[i].n with
      | some j =>
        refine .inr ⟨(H5, ((i + 1 : Nat) : Int)), ?_, rfl, h2, h3, MapA.congr h4 fun x => ?_⟩
        · unfold sort_open_b1
          simp only [if_pos (show (i : Int) < (s2.n : Int) by omega), idxA_some g1 rfl (show i < s2.n by omega), Option.bind_some, r1, r2, r3, hl']
          simp only [bookF, if_neg (show ¬ ((6 : Int) = 5) by omega), if_pos (show (6 : Int) = 6 from rfl), hq, Option.map_some, Option.isSome_some, if_true, Option.bind_some]
          rw [wrap_next hi hd.len]
        · obtain ⟨xk, xn⟩ := x
          simp only [bookF]
          by_cases e1 : xk = 5
          · simp [e1]
          · by_cases e2 : xk = 6
            · simp only [if_neg e1, if_pos e2, dataIx_take hi xn]
              cases hr : dataIx (ds.take i) xn with
              | some _ => rfl
              | none =>
                by_cases e3 : ds[i].n = xn
                · subst e3; rw [hq] at hr; cases hr
                · simp [e3]
            · simp [e1, e2]
      | none =>
        obtain ⟨H', u1, u2, u3, u4⟩ := upM_spec keyK und94 h4 hm (6, ds[i].n) (.int .i64 (i : Int))
        refine .inr ⟨(H', ((i + 1 : Nat) : Int)), ?_, rfl, h2.comp u3 fun _ _ h => h, u4.trans h3, MapA.congr u2 fun x => ?_⟩
        · unfold sort_open_b1
          have u1' : upM Tryd.prog m 94 H5 (some id) (Value.agg #[(Value.int .i64 6), (Value.string ds[i].n)]) (Value.int .i64 (i : Int)) = some H' := u1
          simp only [if_pos (show (i : Int) < (s2.n : Int) by omega), idxA_some g1 rfl (show i < s2.n by omega), Option.bind_some, r1, r2, r3, hl']
          simp only [bookF, if_neg (show ¬ ((6 : Int) = 5) by omega), if_pos (show (6 : Int) = 6 from rfl), hq, Option.map_none, Option.isSome_none, Bool.false_eq_true, if_false, Option.bind_some, u1']
          rw [wrap_next hi hd.len]
          rfl
        · obtain ⟨xk, xn⟩ := x
          simp only [bookF, Prod.mk.injEq]
          by_cases e1 : xk = 5
          · simp [e1]
          · by_cases e2 : xk = 6
            · simp only [if_neg e1, if_pos e2, dataIx_take hi xn, e2, true_and]
              by_cases e3 : xn = ds[i].n
              · subst e3; simp [hq]
              · have e3' : ¬ ds[i].n = xn := fun h => e3 h.symm
                simp only [if_neg e3, if_neg e3']
                cases dataIx (ds.take i) xn <;> rfl
            · simp [e1, e2])
    (s := (H4, 0)) ⟨rfl, Fm.refl _ _, rfl, MapA.congr hM fun x => by simp [bookF, dataIx]⟩
  obtain ⟨H5, rfl, h3⟩ := h2
  exact ⟨H5, h1, h3⟩

theorem open_spec (c m : Nat) {H : AH} {s1 s2 s3 : Sl3} {g : Sg} (h : SigA H s1 s2 s3 g) (hm : m ≤ H.next) :
    ∃ p H', sort_open (LCo c) m H s1 s2 s3 = some (some p, H') ∧ Ext H H' ∧ Book H' p s1 s2 s3 g ∧ p.block < H'.next ∧ H.next ≤ p.block := by
  -- the new blocks
  have x2 : Ext H (H.push mapB) := Fm.push _ _ _
  have x4 : Ext (H.push mapB) ((H.push mapB).push (pubB 96 [Sl3.v s1, Sl3.v s2, Sl3.v s3, .map (some H.next)])) := Fm.push _ _ _
  generalize hH4 : (H.push mapB).push (pubB 96 [Sl3.v s1, Sl3.v s2, Sl3.v s3, .map (some H.next)]) = H4 at x4
  have xx : Ext H H4 := x2.trans x4
  have n4 : H4.next = H.next + 2 := by rw [← hH4]; simp
  have cel : ∀ (i : Nat) (v : Value), [Sl3.v s1, Sl3.v s2, Sl3.v s3, .map (some H.next)][i]? = some v → Cel H4 ((⟨H.next + 1, 0, none⟩ : Addr).add i) v := by
    intro i v hv
    rw [addr_add, Nat.zero_add, ← hH4]
    have := Cel.push (H := H.push mapB) (b := pubB 96 [Sl3.v s1, Sl3.v s2, Sl3.v s3, .map (some H.next)]) (c := [Sl3.v s1, Sl3.v s2, Sl3.v s3, .map (some H.next)].toArray) (e := 96) (f := (0, 0)) rfl (i := i) (v := v) (by simpa using hv)
    exact this
  have hM4 : MapA keyV H4 H.next fun _ => none := (MapA.new keyV (H := H)).fr x4 (by simp) fun h => h
  have sg := h.ext xx
  obtain ⟨H5, l1, f1, n1, M1⟩ := open_b0 c m (s2 := s2) (s3 := s3) sg.u (cel 3 _ rfl) (by simp) (fun a ha => by have := (h.u.low a ha).1; omega) (by omega) hm hM4
  have keep : ∀ {α : Type} {R : AH → Addr → α → Prop} {sz : Nat} {s : Sl3} {xs : List α}, SlL R sz H s xs → True := fun _ => trivial
  have x5 : Ext H H5 := by
    refine xx.comp f1 fun i hi _ => ?_
    omega
  obtain ⟨H6, l2, f2, n2, M2⟩ := open_b1 c m (s1 := s1) (s3 := s3) (us := g.users) (h.d.ext x5 fun _ _ h => h.ext x5) (Cel.fr (cel 3 _ rfl) f1 (by rw [add_block]; simp)) (by simp) (fun a ha => by have := (h.d.low a ha).1; omega) (by omega) hm M1
  have x6 : Ext H H6 := by
    refine x5.comp f2 fun i hi _ => ?_
    omega
  have cel6 : ∀ (i : Nat) (v : Value), [Sl3.v s1, Sl3.v s2, Sl3.v s3, .map (some H.next)][i]? = some v → Cel H6 ((⟨H.next + 1, 0, none⟩ : Addr).add i) v := fun i v hv =>
    Cel.fr (Cel.fr (cel i v hv) f1 (by rw [add_block]; simp)) f2 (by rw [add_block]; simp)
  refine ⟨⟨H.next + 1, 0, none⟩, H6, ?_, x6, ⟨cel6 0 _ rfl, cel6 1 _ rfl, cel6 2 _ rfl, H.next, cel6 3 _ rfl, by omega, M2⟩, by simp; omega, by simp⟩
  unfold sort_open newM newB
  simp only [Option.bind_some, AH.next_push]
  rw [hH4]
  show Option.bind (loopO (sort_open_b0 (LCo c) m s1 s2 s3 ⟨H.next + 1, 0, none⟩) (H4, 0)) _ = _
  rw [l1]
  simp only [Option.bind_some]
  show Option.bind (loopO (sort_open_b1 (LCo c) m s1 s2 s3 ⟨H.next + 1, 0, none⟩) (H5, 0)) _ = _
  rw [l2]
  rfl

def knF (us : List ByteArray) (ds : List Dat) : Fo → Bool
  | .nil => true
  | .cons k _ n a r => (if k = 5 then hasU us n else if k = 6 then (dataIx ds n).isSome else knF us ds a) && knF us ds r

def knS (us : List ByteArray) (ds : List Dat) (k : Int) (n : ByteArray) (a : Fo) : Bool := if k = 5 then hasU us n else if k = 6 then (dataIx ds n).isSome else knF us ds a

/-- A loop over sorts that ends at the first that fails. -/
theorem all_loop {H : AH} {body : Int → Option (Lp Int Bool)} (ok : Int → Int → ByteArray → Fo → Bool) (all : Fo → Bool) (h0 : all .nil = true) (h1 : ∀ k w n a r, all (.cons k w n a r) = (ok k w n a && all r)) : ∀ (f : Fo) (s : Sl3) (i : Nat), FoA H s.p i f → s.n = i + f.len → s.n ≤ maxN →
    (∀ (j : Nat), j < s.n → ∀ k w n a r, FoA H s.p j (.cons k w n a r) → a.dep < f.dep → body (j : Int) = some (if ok k w n a = true then .next (IntKind.i64.wrap ((j : Int) + 1)) else .ret false)) →
    (body (s.n : Int) = some (.brk (s.n : Int))) → loopO body (i : Int) = some (if all f = true then .inl (s.n : Int) else .inr false) := by
  intro f
  induction f with
  | nil =>
    intro s i h hn hm hb he
    simp only [Fo.len, Nat.add_zero] at hn
    subst hn
    rw [h0]
    exact loopO_brk he
  | cons k w n a r iha ihr =>
    intro s i h hn hm hb he
    simp only [Fo.len] at hn
    have hbi := hb i (by omega) k w n a r h (by simp only [Fo.dep]; omega)
    rw [h1]
    cases hq : ok k w n a with
    | false => rw [hq] at hbi; exact loopO_ret hbi
    | true =>
      rw [hq] at hbi
      simp only [if_true] at hbi
      rw [loopO_next hbi, wrap_next (n := s.n) (by omega) hm, Bool.true_and]
      exact ihr s (i + 1) h.2 (by omega) hm (fun j hj k w n a r2 g1 g2 => hb j hj k w n a r2 g1 (by simp only [Fo.dep]; omega)) he

theorem known_spec (c : Nat) {H : AH} {p : Addr} {s1 s2 s3 : Sl3} {g : Sg} (hB : Book H p s1 s2 s3 g) : ∀ (d fuel : Nat) (k w : Int) (n : ByteArray) (s : Sl3) (a : Fo), SlF H s a → a.dep ≤ fuel → a.dep < d →
    fam_sort_book_known (LCo c) (fuel + 1) H (some p) k w n s = some (knS g.users g.datas k n a) := by
  intro d
  induction d with
  | zero => intro fuel k w n s a _ _ h; omega
  | succ d ih =>
    intro fuel k w n s a h hf hd
    show sort_book_known_body (LCo c) (fam_sort_book_known (LCo c) fuel) H (some p) k w n s = _
    unfold sort_book_known_body knS
    obtain ⟨id, q1, q2, q3⟩ := hB.ex
    have r1 : rd deM H (p.add 3) = some (some id) := by rw [q1.rd]; rfl
    have hl := lkM_spec keyK und94 zero3 rfl q3 (k, n) (deI .i64)
    by_cases e5 : k = 5
    · subst e5
      have hl' : lkM Tryd.prog 94 (deI .i64) H (some id) (Value.agg #[(Value.int .i64 5), (Value.string n)]) = some (0, hasU g.users n) := by
        refine hl.trans ?_
        simp only [bookF]
        cases hasU g.users n <;> rfl
      simp only [if_true, Option.bind_some, r1, hl']
    · by_cases e6 : k = 6
      · subst e6
        have hl' : lkM Tryd.prog 94 (deI .i64) H (some id) (Value.agg #[(Value.int .i64 6), (Value.string n)]) = some (((dataIx g.datas n).map fun (i : Nat) => (i : Int)).getD 0, (dataIx g.datas n).isSome) := by
          refine hl.trans ?_
          simp only [bookF]
          cases dataIx g.datas n <;> rfl
        simp only [if_neg (show ¬ ((6 : Int) = 5) by omega), Option.bind_some, decide_true, if_true, r1, hl']
      · simp only [if_neg e5, if_neg e6, decide_eq_false e6, Option.bind_some, Bool.false_eq_true, if_false]
        show Option.bind (loopO (sort_book_known_b0 (LCo c) (fam_sort_book_known (LCo c) fuel) H (some p) k w n s) ((0 : Nat) : Int)) _ = _
        rw [all_loop (fun k w n a => knS g.users g.datas k n a) (knF g.users g.datas) rfl (fun _ _ _ _ _ => rfl) a s 0 h.2.2 (by rw [h.1]; omega) h.2.1 ?_ ?_]
        · cases knF g.users g.datas a <;> rfl
        · intro j hj k1 w1 n1 a1 r f1 f3
          unfold sort_book_known_b0
          obtain ⟨q1, t1, p1, p2, p3, p4, p5, p6, p7, p8⟩ := f1.rd hj
          obtain ⟨g', rfl⟩ : ∃ g', fuel = g' + 1 := ⟨fuel - 1, by omega⟩
          have hr := ih g' k1 w1 n1 t1 a1 p6 (by omega) (by omega)
          simp only [if_pos (show (j : Int) < (s.n : Int) by omega), p1, p2, p3, p4, p5, Option.bind_some, hr]
          cases knS g.users g.datas k1 n1 a1 <;> rfl
        · unfold sort_book_known_b0
          rw [if_neg (by omega)]

theorem find_idx {α R : Type} (l : List α) (bad : α → Bool) (f : Nat → R) (d : α) :
    (List.range l.length).findSome? (fun i => if bad (l.getD i d) = true then some (f i) else none) = (l.findIdx? bad).map f := by
  induction l generalizing f with
  | nil => rfl
  | cons x l ih =>
    rw [List.length_cons, List.range_succ_eq_map, List.findSome?_cons, List.findIdx?_cons]
    cases hx : bad x with
    | true => simp [hx]
    | false =>
      simp only [List.getD_cons_zero, hx, Bool.false_eq_true, if_false, List.findSome?_map, Function.comp_def, List.getD_cons_succ]
      rw [ih (fun i => f (i + 1))]
      cases l.findIdx? bad <;> rfl

theorem hasS_hasU (l : List ByteArray) (s : ByteArray) : hasS l s = hasU l s := by
  unfold hasS hasU
  congr 1
  funext x
  exact ba_list x s

theorem SigA.str {H : AH} {s1 s2 s3 : Sl3} {g : Sg} (h : SigA H s1 s2 s3 g) : SlL StrA 1 H s1 g.users := h.u.imp (Nat.le_refl _) fun _ _ h => h.1

theorem Data_spec (c : Nat) {H : AH} {s1 s2 s3 : Sl3} {g : Sg} (h : SigA H s1 s2 s3 g) (n : ByteArray) : ref04_Data (LCo c) H s1 s2 s3 n = some (match dataIx g.datas n with | some i => (i : Int) | none => -1) := by
  have hd := h.d
  have hl : loopO (ref04_Data_b0 (LCo c) H s1 s2 s3 n) 0 = some (found g.datas.length ((List.range g.datas.length).findSome? (fun i => if (fun d : Dat => decide (d.n = n)) (g.datas.getD i ⟨n, []⟩) = true then some (i : Int) else none))) := by
    refine loopO_up g.datas.length hd.len _ (fun i hi => ?_) ?_
    · unfold ref04_Data_b0
      have hn := hd.n
      obtain ⟨q, h1, h2⟩ := hd.get hi (v := (i : Int)) rfl
      have r1 : rd deS H (q.add 0) = some g.datas[i].n := by rw [h2.n.rd]; rfl
      have : g.datas.getD i ⟨n, []⟩ = g.datas[i] := by simp [List.getD, hi]
      simp only [if_pos (show (i : Int) < (s2.n : Int) by omega), h1, Option.bind_some, r1, this, ba_list]
      by_cases e : g.datas[i].n = n <;> simp [e, stepO]
    · unfold ref04_Data_b0
      have hn := hd.n
      rw [if_neg (by omega)]
  unfold ref04_Data
  show Option.bind (loopO (ref04_Data_b0 (LCo c) H s1 s2 s3 n) 0) _ = _
  rw [hl, find_idx g.datas (fun d => decide (d.n = n)) (fun i => (i : Int)) ⟨n, []⟩]
  unfold dataIx
  cases g.datas.findIdx? fun d => decide (d.n = n) <;> rfl

theorem refKnown_spec (c : Nat) {H : AH} {s1 s2 s3 : Sl3} {g : Sg} (hS : SigA H s1 s2 s3 g) : ∀ (d fuel : Nat) (k w : Int) (n : ByteArray) (s : Sl3) (a : Fo), SlF H s a → shS k w n a = true → a.dep ≤ fuel → a.dep < d →
    fam_ref04_known (LCo c) (fuel + 1) H k w n s s1 s2 s3 = some (knS g.users g.datas k n a) := by
  intro d
  induction d with
  | zero => intro fuel k w n s a _ _ _ h; omega
  | succ d ih =>
    intro fuel k w n s a h hsh hf hd
    show ref04_known_body (LCo c) (fam_ref04_known (LCo c) fuel) H k w n s s1 s2 s3 = _
    unfold ref04_known_body
    have hH := has_spec c hS.str n
    have hD := Data_spec c hS n
    rw [hasS_hasU] at hH
    have hshF : shF a = true := by simp only [shS, Bool.and_eq_true] at hsh; exact hsh.2
    have loop : ∀ (a' : Fo), a' = a → (Option.bind ((LCo c).run (ref04_known_b0 (LCo c) (fam_ref04_known (LCo c) fuel) H k w n s s1 s2 s3) 0) fun o => match o with | .inl _ => some true | .inr r => some r) = some (knF g.users g.datas a) := by
      intro a' _
      show Option.bind (loopO (ref04_known_b0 (LCo c) (fam_ref04_known (LCo c) fuel) H k w n s s1 s2 s3) ((0 : Nat) : Int)) _ = _
      have gen : ∀ (f : Fo) (i : Nat), FoA H s.p i f → s.n = i + f.len → shF f = true → f.dep ≤ a.dep → loopO (ref04_known_b0 (LCo c) (fam_ref04_known (LCo c) fuel) H k w n s s1 s2 s3) (i : Int) = some (if knF g.users g.datas f = true then .inl (s.n : Int) else .inr false) := by
        intro f
        induction f with
        | nil =>
          intro i f1 hn _ _
          simp only [Fo.len, Nat.add_zero] at hn
          subst hn
          refine loopO_brk ?_
          unfold ref04_known_b0
          rw [if_neg (by omega)]
        | cons k1 w1 n1 a1 r iha ihr =>
          intro i f1 hn hs1 hdep
          simp only [Fo.len] at hn
          simp only [Fo.dep] at hdep
          simp only [shF, Bool.and_eq_true] at hs1
          obtain ⟨q1, t1, p1, p2, p3, p4, p5, p6, p7, p8⟩ := f1.rd (by omega)
          obtain ⟨g', rfl⟩ : ∃ g', fuel = g' + 1 := ⟨fuel - 1, by omega⟩
          have hr := ih g' k1 w1 n1 t1 a1 p6 (by simp only [shS, Bool.and_eq_true]; exact hs1.1) (by omega) (by omega)
          have hb : ref04_known_b0 (LCo c) (fam_ref04_known (LCo c) (g' + 1)) H k w n s s1 s2 s3 (i : Int) = some (if knS g.users g.datas k1 n1 a1 = true then .next (IntKind.i64.wrap ((i : Int) + 1)) else .ret false) := by
            unfold ref04_known_b0
            simp only [if_pos (show (i : Int) < (s.n : Int) by omega), p1, p2, p3, p4, p5, Option.bind_some, hr]
            cases knS g.users g.datas k1 n1 a1 <;> rfl
          have hp : knF g.users g.datas (.cons k1 w1 n1 a1 r) = (knS g.users g.datas k1 n1 a1 && knF g.users g.datas r) := rfl
          rw [hp]
          cases hq : knS g.users g.datas k1 n1 a1 with
          | false => rw [hq] at hb; exact loopO_ret hb
          | true =>
            rw [hq] at hb
            simp only [if_true] at hb
            rw [loopO_next hb, wrap_next (n := s.n) (by omega) h.2.1, Bool.true_and]
            exact ihr (i + 1) p8 (by omega) hs1.2 (by omega)
      rw [gen a 0 h.2.2 (by rw [h.1]; omega) hshF (Nat.le_refl _)]
      cases knF g.users g.datas a <;> rfl
    have hlp := loop a rfl
    have nil56 : (k = 5 ∨ k = 6) → knF g.users g.datas a = true := by
      intro hk
      rcases shS_nil hsh hk with rfl
      rfl
    unfold knS
    by_cases e5 : k = 5
    · subst e5
      rw [nil56 (.inl rfl)] at hlp
      simp only [if_true, hH, Option.bind_some, if_neg (show ¬ ((5 : Int) = 6) by omega)]
      cases hasU g.users n with
      | false => rfl
      | true =>
        simp only [if_true, Option.bind_some, Bool.false_eq_true, if_false]
        exact hlp
    · by_cases e6 : k = 6
      · subst e6
        rw [nil56 (.inr rfl)] at hlp
        simp only [if_neg (show ¬ ((6 : Int) = 5) by omega), if_true, hD, Option.bind_some]
        cases dataIx g.datas n with
        | none => rfl
        | some i =>
          have : ¬ ((i : Int) < 0) := by omega
          simp only [decide_eq_false this, Bool.false_eq_true, if_false]
          exact hlp
      · simp only [if_neg e5, if_neg e6, Option.bind_some, Bool.false_eq_true, if_false]
        exact hlp

def checkS (g : Sg) (k w : Int) (n : ByteArray) (a : Fo) : Int := if wrongS k w n a = 0 then if knS g.users g.datas k n a = true then 0 else 40 else wrongS k w n a

theorem check_spec (L0 fuel : Nat) (hF : L0 = fuel + 1) {H : AH} {p : Addr} {s1 s2 s3 : Sl3} {g : Sg} (hB : Book H p s1 s2 s3 g) {k w : Int} {n : ByteArray} {s : Sl3} {a : Fo} (h : SlF H s a) (hn : n.size ≤ maxS) (hd : a.dep ≤ fuel) :
    sort_book_check (LCo L0) H (some p) k w n s = some (checkS g k w n a) := by
  unfold sort_book_check checkS
  rw [wrong_spec L0 fuel hF h hn hd]
  simp only [Option.bind_some]
  unfold sort_book_known
  have e1 : (LCo L0).fuel = fuel + 1 := hF
  rw [e1, known_spec L0 hB (a.dep + 1) fuel k w n s a h hd (by omega)]
  simp only [Option.bind_some]
  by_cases hw : wrongS k w n a = 0
  · rw [if_pos hw, if_pos hw]
    cases knS g.users g.datas k n a <;> rfl
  · rw [if_neg hw, if_neg hw]

theorem refCheck_spec (L0 fuel : Nat) (hF : L0 = fuel + 1) {H : AH} {s1 s2 s3 : Sl3} {g : Sg} (hS : SigA H s1 s2 s3 g) {k w : Int} {n : ByteArray} {s : Sl3} {a : Fo} (h : SlF H s a) (hn : n.size ≤ maxS) (hd : a.dep ≤ fuel) :
    ref04_Check (LCo L0) H k w n s s1 s2 s3 = some (checkS g k w n a) := by
  unfold ref04_Check checkS
  rw [fits_spec L0 fuel hF h hn hd]
  simp only [Option.bind_some]
  by_cases hw : wrongS k w n a = 0
  · rw [if_pos hw, if_pos hw]
    unfold ref04_known
    have e1 : (LCo L0).fuel = fuel + 1 := hF
    rw [e1, refKnown_spec L0 hS (a.dep + 1) fuel k w n s a h (wrong_zero hw).1 hd (by omega)]
    simp only [Option.bind_some]
    cases knS g.users g.datas k n a <;> rfl
  · rw [if_neg hw, if_neg hw]

theorem Check_spec (L0 fuel : Nat) (hF : L0 = fuel + 1) {m : Nat} {H : AH} {s1 s2 s3 : Sl3} {g : Sg} (hS : SigA H s1 s2 s3 g) (hm : m ≤ H.next) {k w : Int} {n : ByteArray} {s : Sl3} {a : Fo} (h : SlF H s a) (hn : n.size ≤ maxS) (hd : a.dep ≤ fuel) :
    ∃ H', sort_Check (LCo L0) m H k w n s s1 s2 s3 = some (checkS g k w n a, H') ∧ Ext H H' := by
  unfold sort_Check
  obtain ⟨p, H', h1, h2, h3, h4, _⟩ := open_spec L0 (Nat.max m H.next) hS (Nat.max_le.2 ⟨hm, Nat.le_refl _⟩)
  rw [h1]
  simp only [Option.bind_some]
  rw [check_spec L0 fuel hF h3 (h.ext h2) hn hd]
  exact ⟨H', rfl, h2⟩

theorem Checks_true (L0 fuel : Nat) (hF : L0 = fuel + 1) {H : AH} (hT : HasT H) {s1 s2 s3 : Sl3} {g : Sg} (hS : SigA H s1 s2 s3 g) {k w : Int} {n : ByteArray} {s : Sl3} {a : Fo} (h : SlF H s a) (hn : n.size ≤ maxS) (hd : a.dep ≤ fuel) :
    ∃ H', law04_SortChecks (LCo L0) H.next H k w n s s1 s2 s3 = some (true, H') := by
  unfold law04_SortChecks
  rw [show Nat.max H.next H.next = H.next from Nat.max_self _]
  obtain ⟨H', h1, h2⟩ := Check_spec L0 fuel hF (m := H.next) hS (Nat.le_refl _) h hn hd (k := k) (w := w)
  rw [h1]
  simp only [Option.bind_some]
  rw [refCheck_spec L0 fuel hF (hS.ext h2) (h.ext h2) hn hd]
  simp only [Option.bind_some, if_true]
  rw [awake_run _ (hT.ext h2)]
  exact ⟨H', rfl⟩

end Go.Proofs.YtccbilfbhecdaaaDoor


namespace Go.Proofs.YtccbilfbhecdaaaDoor
open Go Go.Abs Go.ChangeShapes Go.WideShapes
set_option maxRecDepth 100000

theorem cells52 : Tryd.prog.cellsOf 52 = 5 := by kernel_rfl
theorem cells50 : Tryd.prog.cellsOf 50 = 2 := by kernel_rfl
theorem cells46 : Tryd.prog.cellsOf 46 = 2 := by kernel_rfl
theorem cells89 : Tryd.prog.cellsOf 89 = 6 := by kernel_rfl
theorem cells33 : Tryd.prog.cellsOf 33 = 3 := by kernel_rfl
theorem cells48 : Tryd.prog.cellsOf 48 = 1 := by kernel_rfl
theorem cells44 : Tryd.prog.cellsOf 44 = 1 := by kernel_rfl
theorem cells29 : Tryd.prog.cellsOf 29 = 1 := by kernel_rfl
theorem cells30 : Tryd.prog.cellsOf 30 = 1 := by kernel_rfl
theorem cells31 : Tryd.prog.cellsOf 31 = 1 := by kernel_rfl

structure StrV (H : AH) (cs : List Value) (b : ByteArray) : Prop where
  ex : cs = [.string b] ∧ b.size ≤ maxS
structure SelV (H : AH) (cs : List Value) (b : Sel) : Prop where
  ex : ∃ s, cs = [.string b.n, .int .i64 b.k, .int .i64 b.w, .string b.sn, Sl3.v s] ∧ b.n.size ≤ maxS ∧ b.sn.size ≤ maxS ∧ SlF H s b.a
structure ConV (H : AH) (cs : List Value) (b : Con) : Prop where
  ex : ∃ s, cs = [.string b.n, Sl3.v s] ∧ b.n.size ≤ maxS ∧ SlL (Stands 5 SelV) 5 H s b.sels
structure DatV (H : AH) (cs : List Value) (b : Dat) : Prop where
  ex : ∃ s, cs = [.string b.n, Sl3.v s] ∧ b.n.size ≤ maxS ∧ SlL (Stands 2 ConV) 2 H s b.cons
structure FncV (H : AH) (cs : List Value) (b : Fnc) : Prop where
  ex : ∃ s s', cs = [.string b.n, Sl3.v s, .int .i64 b.k, .int .i64 b.w, .string b.sn, Sl3.v s'] ∧ b.n.size ≤ maxS ∧ SlF H s b.args ∧ b.sn.size ≤ maxS ∧ SlF H s' b.a

theorem Stands.ext {β : Type} {sz : Nat} {R : AH → List Value → β → Prop} (hR : ∀ H H' cs b, Ext H H' → R H cs b → R H' cs b) {H H' : AH} (hf : Ext H H') {q : Addr} {b : β} (h : Stands sz R H q b) : Stands sz R H' q b := by
  obtain ⟨cs, h1, h2, h3⟩ := h
  exact ⟨cs, h1, fun j v hv => (h2 j v hv).ext hf, hR _ _ _ _ hf h3⟩

theorem StrV.ext (H H' : AH) (cs : List Value) (b : ByteArray) (hf : Ext H H') (h : StrV H cs b) : StrV H' cs b := ⟨h.ex⟩
theorem SelV.ext (H H' : AH) (cs : List Value) (b : Sel) (hf : Ext H H') (h : SelV H cs b) : SelV H' cs b := ⟨let ⟨s, a, b, c, d⟩ := h.ex; ⟨s, a, b, c, d.ext hf⟩⟩
theorem ConV.ext (H H' : AH) (cs : List Value) (b : Con) (hf : Ext H H') (h : ConV H cs b) : ConV H' cs b := ⟨let ⟨s, a, b, c⟩ := h.ex; ⟨s, a, b, c.ext hf fun _ _ h => Stands.ext SelV.ext hf h⟩⟩
theorem DatV.ext (H H' : AH) (cs : List Value) (b : Dat) (hf : Ext H H') (h : DatV H cs b) : DatV H' cs b := ⟨let ⟨s, a, b, c⟩ := h.ex; ⟨s, a, b, c.ext hf fun _ _ h => Stands.ext ConV.ext hf h⟩⟩
theorem FncV.ext (H H' : AH) (cs : List Value) (b : Fnc) (hf : Ext H H') (h : FncV H cs b) : FncV H' cs b := ⟨let ⟨s, s', a, b, c, d, e⟩ := h.ex; ⟨s, s', a, b, c.ext hf, d, e.ext hf⟩⟩

theorem str_of {H : AH} {q : Addr} {b : ByteArray} (h : Stands 1 StrV H q b) : StrM H q b := by
  obtain ⟨cs, h1, h2, h3⟩ := h
  obtain ⟨rfl, h4⟩ := h3.ex
  exact ⟨h2 0 _ rfl, h4⟩
theorem sel_of {H : AH} {q : Addr} {b : Sel} (h : Stands 5 SelV H q b) : SelA H q b := by
  obtain ⟨cs, h1, h2, h3⟩ := h
  obtain ⟨s, rfl, h4, h5, h6⟩ := h3.ex
  exact ⟨h2 0 _ rfl, h4, s, h2 1 _ rfl, h2 2 _ rfl, h2 3 _ rfl, h2 4 _ rfl, h5, h6⟩
theorem con_of {H : AH} {q : Addr} {b : Con} (h : Stands 2 ConV H q b) : ConA H q b := by
  obtain ⟨cs, h1, h2, h3⟩ := h
  obtain ⟨s, rfl, h4, h5⟩ := h3.ex
  exact ⟨h2 0 _ rfl, h4, s, h2 1 _ rfl, h5.imp (Nat.le_refl _) fun _ _ h => sel_of h⟩
theorem dat_of {H : AH} {q : Addr} {b : Dat} (h : Stands 2 DatV H q b) : DatA H q b := by
  obtain ⟨cs, h1, h2, h3⟩ := h
  obtain ⟨s, rfl, h4, h5⟩ := h3.ex
  exact ⟨h2 0 _ rfl, h4, s, h2 1 _ rfl, h5.imp (Nat.le_refl _) fun _ _ h => con_of h⟩
theorem fnc_of {H : AH} {q : Addr} {b : Fnc} (h : Stands 6 FncV H q b) : FncA H q b := by
  obtain ⟨cs, h1, h2, h3⟩ := h
  obtain ⟨s, s', rfl, h4, h5, h6, h7⟩ := h3.ex
  exact ⟨h2 0 _ rfl, h4, ⟨s, h2 1 _ rfl, h5⟩, s', h2 2 _ rfl, h2 3 _ rfl, h2 4 _ rfl, h2 5 _ rfl, h6, h7⟩

section
variable {H : Type} {enc : TypeId × Value → H} {W : World}

theorem import_strv (fuel : Nat) (cs : List Value) (x : DataW H × List MemPlace) (hx : DataW.trod enc Tryd.prog W 0 (fun _ => true) true fuel 9 cs = some x) (hw : (x.1.weights Tryd.prog 9).all (· ≤ reachBytes) = true) : ElemIn Tryd.prog W 1 StrV cs := by
  intro φ H0 h
  obtain ⟨s, rfl, hs⟩ := trod_str Tryd.underlying9 hx hw
  exact ⟨φ, H0, [.string s], s, h, Inj.le_refl _, Fm.refl _ _, rfl, rfl, .cons (.string _) .nil, ⟨rfl, hs⟩⟩

theorem import_selv (fuel : Nat) (cs : List Value) (x : DataW H × List MemPlace) (hx : DataW.trod enc Tryd.prog W 0 (fun _ => true) true fuel 52 cs = some x) (hw : (x.1.weights Tryd.prog 52).all (· ≤ reachBytes) = true) : ElemIn Tryd.prog W 5 SelV cs := by
  intro φ H0 h
  obtain ⟨xs, n, rfl, rfl, hl, hlen, hf⟩ := DataW.trod_struct Tryd.underlying52 hx
  rw [cells52] at hl
  match xs, hlen with
  | [y0, y1], _ =>
    match cs, hl with
    | [c0, c1, c2, c3, c4], _ =>
      have f0 : DataW.trod enc Tryd.prog W 0 (fun _ => true) true n 9 (([c0, c1, c2, c3, c4].drop 0).take (Tryd.prog.cellsOf 9)) = some y0 := hf 0 _ rfl
      rw [cells9] at f0
      change DataW.trod enc Tryd.prog W 0 (fun _ => true) true n 9 [c0] = some y0 at f0
      have f1 : DataW.trod enc Tryd.prog W 0 (fun _ => true) true n 28 (([c0, c1, c2, c3, c4].drop 1).take (Tryd.prog.cellsOf 28)) = some y1 := hf 1 _ rfl
      rw [cells28] at f1
      change DataW.trod enc Tryd.prog W 0 (fun _ => true) true n 28 [c1, c2, c3, c4] = some y1 at f1
      simp only [DataW.weights, Tryd.underlying52, List.map_cons, List.map_nil, DataW.weightsEach, List.append_nil, List.all_append, Bool.and_eq_true] at hw
      obtain ⟨s0, e0, hs0⟩ := trod_str Tryd.underlying9 f0 hw.1
      simp only [List.cons.injEq, and_true] at e0
      subst e0
      obtain ⟨φ', H', cs', b, g1, g2, g3, g4, g5, g6, g7⟩ := import_sortv n _ _ f1 hw.2 φ H0 h
      obtain ⟨s, rfl, h8, h9⟩ := g7.ex
      exact ⟨φ', H', [.string s0, .int .i64 b.1, .int .i64 b.2.1, .string b.2.2.1, Sl3.v s], ⟨s0, b.1, b.2.1, b.2.2.1, b.2.2.2⟩, g1, g2, g3, rfl, rfl, .cons (.string _) g6, ⟨s, rfl, hs0, h8, h9⟩⟩

/-- A name and a slice. -/
theorem import_named {t u e : TypeId} {f0 f1 : Field} (ht : Tryd.prog.underlying t = some (.struct #[f0, f1])) (hf0 : f0.type = 9 ∧ f0.offset = 0) (hf1 : f1.type = u ∧ f1.offset = 1) (hc : Tryd.prog.cellsOf t = 2) (hu : Tryd.prog.cellsOf u = 1) (hus : Tryd.prog.underlying u = some (.slice e))
    {sz : Nat} (hce : Tryd.prog.cellsOf e = sz) (hsz : 0 < sz) {β : Type} {R : AH → List Value → β → Prop} (hR : ∀ H H' cs b, Ext H H' → R H cs b → R H' cs b)
    (elem : ∀ n cs x, DataW.trod enc Tryd.prog W 0 (fun _ => true) true n e cs = some x → (x.1.weights Tryd.prog e).all (· ≤ reachBytes) = true → ElemIn Tryd.prog W sz R cs)
    {fuel : Nat} {cs : List Value} {x : DataW H × List MemPlace} (hx : DataW.trod enc Tryd.prog W 0 (fun _ => true) true fuel t cs = some x) (hw : (x.1.weights Tryd.prog t).all (· ≤ reachBytes) = true) {φ : Inj} {H0 : AH} (h : Imp Tryd.prog φ H0 W) :
    ∃ φ' H' nm s bs, Imp Tryd.prog φ' H' W ∧ φ.le φ' ∧ Ext H0 H' ∧ cs.length = 2 ∧ LR φ' [.string nm, Sl3.v s] cs ∧ nm.size ≤ maxS ∧ SlL (Stands sz R) sz H' s (bs : List β) := by
  obtain ⟨xs, n, rfl, rfl, hl, hlen, hf⟩ := DataW.trod_struct ht hx
  rw [hc] at hl
  match xs, hlen with
  | [y0, y1], _ =>
    match cs, hl with
    | [c0, c1], _ =>
      have g0 : DataW.trod enc Tryd.prog W 0 (fun _ => true) true n f0.type (([c0, c1].drop f0.offset).take (Tryd.prog.cellsOf f0.type)) = some y0 := hf 0 _ rfl
      rw [hf0.1, hf0.2, cells9] at g0
      change DataW.trod enc Tryd.prog W 0 (fun _ => true) true n 9 [c0] = some y0 at g0
      have g1 : DataW.trod enc Tryd.prog W 0 (fun _ => true) true n f1.type (([c0, c1].drop f1.offset).take (Tryd.prog.cellsOf f1.type)) = some y1 := hf 1 _ rfl
      rw [hf1.1, hf1.2, hu] at g1
      change DataW.trod enc Tryd.prog W 0 (fun _ => true) true n u [c1] = some y1 at g1
      simp only [DataW.weights, ht, List.map_cons, List.map_nil, DataW.weightsEach, List.append_nil, List.all_append, Bool.and_eq_true, hf0.1, hf1.1] at hw
      obtain ⟨s0, e0, hs0⟩ := trod_str Tryd.underlying9 g0 hw.1
      obtain ⟨v, φ', H', s, bs, e3, k1, k2, k3, k4, k5⟩ := import_slice (enc := enc) hus hce hsz hR (fun m hm cs x => elem m cs x) g1 hw.2 h
      simp only [List.cons.injEq, and_true] at e0 e3
      subst e0 e3
      exact ⟨φ', H', s0, s, bs, k1, k2, k3, rfl, .cons (.string _) (.cons k4 .nil), hs0, k5⟩

theorem import_conv (fuel : Nat) (cs : List Value) (x : DataW H × List MemPlace) (hx : DataW.trod enc Tryd.prog W 0 (fun _ => true) true fuel 50 cs = some x) (hw : (x.1.weights Tryd.prog 50).all (· ≤ reachBytes) = true) : ElemIn Tryd.prog W 2 ConV cs := by
  intro φ H0 h
  obtain ⟨φ', H', nm, s, bs, h1, h2, h3, h4, h5, h6, h7⟩ := import_named Tryd.underlying50 ⟨rfl, rfl⟩ ⟨rfl, rfl⟩ cells50 cells48 Tryd.underlying48 cells52 (by omega) SelV.ext import_selv hx hw h
  exact ⟨φ', H', _, ⟨nm, bs⟩, h1, h2, h3, rfl, h4, h5, ⟨s, rfl, h6, h7⟩⟩

theorem import_datv (fuel : Nat) (cs : List Value) (x : DataW H × List MemPlace) (hx : DataW.trod enc Tryd.prog W 0 (fun _ => true) true fuel 46 cs = some x) (hw : (x.1.weights Tryd.prog 46).all (· ≤ reachBytes) = true) : ElemIn Tryd.prog W 2 DatV cs := by
  intro φ H0 h
  obtain ⟨φ', H', nm, s, bs, h1, h2, h3, h4, h5, h6, h7⟩ := import_named Tryd.underlying46 ⟨rfl, rfl⟩ ⟨rfl, rfl⟩ cells46 cells44 Tryd.underlying44 cells50 (by omega) ConV.ext import_conv hx hw h
  exact ⟨φ', H', _, ⟨nm, bs⟩, h1, h2, h3, rfl, h4, h5, ⟨s, rfl, h6, h7⟩⟩

theorem import_fncv (fuel : Nat) (cs : List Value) (x : DataW H × List MemPlace) (hx : DataW.trod enc Tryd.prog W 0 (fun _ => true) true fuel 89 cs = some x) (hw : (x.1.weights Tryd.prog 89).all (· ≤ reachBytes) = true) : ElemIn Tryd.prog W 6 FncV cs := by
  intro φ H0 h
  obtain ⟨xs, n, rfl, rfl, hl, hlen, hf⟩ := DataW.trod_struct Tryd.underlying89 hx
  rw [cells89] at hl
  match xs, hlen with
  | [y0, y1, y2], _ =>
    match cs, hl with
    | [c0, c1, c2, c3, c4, c5], _ =>
      have f0 : DataW.trod enc Tryd.prog W 0 (fun _ => true) true n 9 (([c0, c1, c2, c3, c4, c5].drop 0).take (Tryd.prog.cellsOf 9)) = some y0 := hf 0 _ rfl
      rw [cells9] at f0
      change DataW.trod enc Tryd.prog W 0 (fun _ => true) true n 9 [c0] = some y0 at f0
      have f1 : DataW.trod enc Tryd.prog W 0 (fun _ => true) true n 26 (([c0, c1, c2, c3, c4, c5].drop 1).take (Tryd.prog.cellsOf 26)) = some y1 := hf 1 _ rfl
      rw [cells26] at f1
      change DataW.trod enc Tryd.prog W 0 (fun _ => true) true n 26 [c1] = some y1 at f1
      have f2 : DataW.trod enc Tryd.prog W 0 (fun _ => true) true n 28 (([c0, c1, c2, c3, c4, c5].drop 2).take (Tryd.prog.cellsOf 28)) = some y2 := hf 2 _ rfl
      rw [cells28] at f2
      change DataW.trod enc Tryd.prog W 0 (fun _ => true) true n 28 [c2, c3, c4, c5] = some y2 at f2
      simp only [DataW.weights, Tryd.underlying89, List.map_cons, List.map_nil, DataW.weightsEach, List.append_nil, List.all_append, Bool.and_eq_true] at hw
      obtain ⟨s0, e0, hs0⟩ := trod_str Tryd.underlying9 f0 hw.1
      obtain ⟨v, φ1, H1, s1, bs, e3, k1, k2, k3, k4, k5⟩ := import_slice (enc := enc) Tryd.underlying26 cells28 (by omega) SortV.ext (fun m hm cs x => import_sortv m cs x) f1 hw.2.1 h
      simp only [List.cons.injEq, and_true] at e0 e3
      subst e0 e3
      obtain ⟨φ', H', cs', b, g1, g2, g3, g4, g5, g6, g7⟩ := import_sortv n _ _ f2 hw.2.2 φ1 H1 k1
      obtain ⟨s, rfl, h8, h9⟩ := g7.ex
      exact ⟨φ', H', [.string s0, Sl3.v s1, .int .i64 b.1, .int .i64 b.2.1, .string b.2.2.1, Sl3.v s], ⟨s0, foOf bs, b.1, b.2.1, b.2.2.1, b.2.2.2⟩, g1, Inj.le_trans k2 g2, k3.trans g3, rfl, rfl, .cons (.string _) (.cons (k4.mono g2) g6), ⟨s1, s, rfl, hs0, (slF_of k5).ext g3, h8, h9⟩⟩

/-- A signature that comes in. -/
theorem import_sig {φ : Inj} {H0 : AH} (h : Imp Tryd.prog φ H0 W) {v : Value} {d : DataW H} {ps : List MemPlace} {base : Nat} (hd : DataW.Trod enc Tryd.prog W 0 (fun _ => true) true 33 v d ps) (hv : Value.okWide Tryd.prog W .any base 33 v)
    (hw : (d.weights Tryd.prog 33).all (· ≤ reachBytes) = true) : ∃ φ' H' s1 s2 s3 g, Imp Tryd.prog φ' H' W ∧ φ.le φ' ∧ Ext H0 H' ∧ VR φ' (.agg #[Sl3.v s1, Sl3.v s2, Sl3.v s3]) v ∧ SigA H' s1 s2 s3 g := by
  obtain ⟨fuel, hx⟩ := hd
  have hvv := hv
  simp only [Value.okWide, Tryd.underlying33] at hvv
  obtain ⟨cs, rfl, hs, _⟩ := hvv
  change DataW.trod enc Tryd.prog W 0 (fun _ => true) true fuel 33 cs.toList = some (d, ps) at hx
  obtain ⟨xs, n, rfl, he, hl, hlen, hf⟩ := DataW.trod_struct Tryd.underlying33 hx
  simp only [Prod.mk.injEq] at he
  obtain ⟨rfl, _⟩ := he
  rw [cells33] at hl
  obtain ⟨cs⟩ := cs
  match xs, hlen with
  | [y0, y1, y2], _ =>
    match cs, hl with
    | [c0, c1, c2], _ =>
      have f0 : DataW.trod enc Tryd.prog W 0 (fun _ => true) true n 29 (([c0, c1, c2].drop 0).take (Tryd.prog.cellsOf 29)) = some y0 := hf 0 _ rfl
      rw [cells29] at f0
      change DataW.trod enc Tryd.prog W 0 (fun _ => true) true n 29 [c0] = some y0 at f0
      have f1 : DataW.trod enc Tryd.prog W 0 (fun _ => true) true n 30 (([c0, c1, c2].drop 1).take (Tryd.prog.cellsOf 30)) = some y1 := hf 1 _ rfl
      rw [cells30] at f1
      change DataW.trod enc Tryd.prog W 0 (fun _ => true) true n 30 [c1] = some y1 at f1
      have f2 : DataW.trod enc Tryd.prog W 0 (fun _ => true) true n 31 (([c0, c1, c2].drop 2).take (Tryd.prog.cellsOf 31)) = some y2 := hf 2 _ rfl
      rw [cells31] at f2
      change DataW.trod enc Tryd.prog W 0 (fun _ => true) true n 31 [c2] = some y2 at f2
      simp only [DataW.weights, Tryd.underlying33, List.map_cons, List.map_nil, DataW.weightsEach, List.append_nil, List.all_append, Bool.and_eq_true] at hw
      obtain ⟨v0, φ1, H1, s1, us, e0, k1, k2, k3, k4, k5⟩ := import_slice (enc := enc) Tryd.underlying29 cells9 (by omega) StrV.ext (fun m hm cs x => import_strv m cs x) f0 hw.1 h
      obtain ⟨v1, φ2, H2, s2, ds, e1, l1, l2, l3, l4, l5⟩ := import_slice (enc := enc) Tryd.underlying30 cells46 (by omega) DatV.ext (fun m hm cs x => import_datv m cs x) f1 hw.2.1 k1
      obtain ⟨v2, φ3, H3, s3, fs, e2, m1, m2, m3, m4, m5⟩ := import_slice (enc := enc) Tryd.underlying31 cells89 (by omega) FncV.ext (fun m hm cs x => import_fncv m cs x) f2 hw.2.2 l1
      simp only [List.cons.injEq, and_true] at e0 e1 e2
      subst e0 e1 e2
      refine ⟨φ3, H3, s1, s2, s3, ⟨us, ds, fs⟩, m1, Inj.le_trans k2 (Inj.le_trans l2 m2), (k3.trans l3).trans m3, ?_, ⟨?_, ?_, ?_⟩⟩
      · have hg := get_of_forall₂ (show LR φ3 [Sl3.v s1, Sl3.v s2, Sl3.v s3] [c0, c1, c2] from .cons (k4.mono (Inj.le_trans l2 m2)) (.cons (l4.mono m2) (.cons m4 .nil)))
        exact .agg _ _ rfl fun i x y hx hy => hg.2 i x y (by simpa using hx) (by simpa using hy)
      · exact (k5.imp (Nat.le_refl _) fun _ _ h => str_of h).ext (l3.trans m3) fun _ _ h => h.ext (l3.trans m3)
      · exact (l5.imp (Nat.le_refl _) fun _ _ h => dat_of h).ext m3 fun _ _ h => h.ext m3
      · exact m5.imp (Nat.le_refl _) fun _ _ h => fnc_of h

end

end Go.Proofs.YtccbilfbhecdaaaDoor


namespace Go.Proofs.YtccbilfbhecdaaaDoor
open Go Go.Abs Go.ChangeShapes Go.WideShapes
set_option maxRecDepth 100000

theorem checks_calls {H : Type} {enc : TypeId × Value → H} {W : World} {base : Nat} {args : Array Value} {ds : List (DataW H)} {ps : List MemPlace} (hg : Tryd.prog.globals.size ≤ W.heap.size)
    (hval : ∀ (j : Nat) t v, Tryd.f4.params[j]? = some t → args[j]? = some v → Value.okWide Tryd.prog W .any base t v)
    (hA : DataW.TrodAll enc Tryd.prog W 0 (fun _ => true) true Tryd.f4.params.toList args.toList ds ps) (hk : Rows.uptoSmall H ds = true) (hL : laidMet Tryd.prog Rows.sortChecksUptoRow.laid W) (hsh : W.ShapedOpen Tryd.prog)
    (hwt : (DataW.weightsEach Tryd.prog (Tryd.f4.params.toList ++ []) ds).all (· ≤ reachBytes) = true) :
    Calls Tryd.prog 4 args W fun e W' => e = .returned (.bool true) ∧ RowKit.Below W.heap.size W W' := by
  rw [Tryd.params4] at hA hval hwt
  obtain ⟨v0, vs0, d0, ds0, p0, q0, hargs, rfl, rfl, h0, r0⟩ := trodAll_cons hA
  obtain ⟨v1, vs1, d1, ds1, p1, q1, rfl, rfl, rfl, h1, r1⟩ := trodAll_cons r0
  obtain ⟨rfl, rfl, rfl⟩ := trodAll_nil r1
  obtain rfl : args = #[v0, v1] := by cases args; simp_all
  have hb := bulks.bound hk
  simp only [Rows.uptoBulkAll] at hb
  simp only [List.append_nil, DataW.weightsEach, List.all_append, Bool.and_eq_true] at hwt
  obtain ⟨φ0, H0x, k0, w0, n0, s0, a0, i0, le0, e0, vr0, sl0, hn0⟩ := import_sort (start_at hg hL hsh) h0 (hval 0 28 v0 rfl rfl) hwt.1
  obtain ⟨φ1, H1x, s1u, s1d, s1f, g1, i1, le1, e1, vr1, sg1⟩ := import_sig i0 h1 (hval 1 33 v1 rfl rfl) hwt.2
  obtain ⟨H', hr⟩ := Checks_true (a0.dep + 1) a0.dep rfl (hasT_start.ext (e0.trans e1)) sg1 (sl0.ext e1) hn0 (Nat.le_refl _) (k := k0) (w := w0)
  exact true_of_callI (ne := NE.plain 1000) sane (law04_SortChecks_ok hr) i1 (ar2 (vr0.mono le1) vr1)

theorem checks_reads (os : Os) {H : Type} (enc : TypeId × Value → H) : ∃ x, DataW.whole enc Tryd.prog ((laidW2 Tryd.prog Rows.sortChecksUptoRow.laid os).forCall (fun _ _ => 0) ⟨#[], #[.agg #[.int .i64 0, .int .i64 0, .string ⟨#[]⟩, .slice none 0 0], .agg #[.slice none 0 0, .slice none 0 0, .slice none 0 0]], []⟩).memory Tryd.f4.params.toList Rows.sortChecksSpec.vars false (#[.agg #[.int .i64 0, .int .i64 0, .string ⟨#[]⟩, .slice none 0 0], .agg #[.slice none 0 0, .slice none 0 0, .slice none 0 0]] : Array Value).toList 8 = some ([.agg [.lit (.int .i64 0), .lit (.int .i64 0), .lit (.string []), .nil], .agg [.nil, .nil, .nil]], [], x) :=
  ⟨[], by kernel_rfl⟩

theorem checks_lifted (os : Os) (started : os.Started) (H : Type) (enc : TypeId × Value → H) (F : Stop.Interp) :
    ReturnsInHanded {} Tryd.checked os 4 .any ((Rows.OpenSpec.upto Rows.sortChecksSpec).preRow enc Tryd.prog Tryd.f4 Rows.sortChecksUptoRow.domain false Rows.sortChecksUptoRow.laid) (((Rows.OpenSpec.upto Rows.sortChecksSpec).at F).post enc Tryd.prog Tryd.f4 false true false false) := by
  obtain ⟨x, hx⟩ := checks_reads os enc
  exact lifted_row_tabs (C := Tryd.checked) (s := Rows.OpenSpec.upto Rows.sortChecksSpec) (k := Rows.uptoSmall) rfl own started (by kernel_rfl) Tryd.func4 globals_ok laidOut (by kernel_rfl) rfl (by kernel_rfl)
    (fun ds hds => by
      have h1 : ds.length = 2 := hds
      match ds, h1 with
      | [d0, d1], _ => exact ⟨rfl, rfl, rfl⟩)
    rfl (by kernel_rfl)
    (witness_row_atRef (enc := enc) (C := Tryd.checked) false (laidW2 Tryd.prog Rows.sortChecksUptoRow.laid os) #[.agg #[.int .i64 0, .int .i64 0, .string ⟨#[]⟩, .slice none 0 0], .agg #[.slice none 0 0, .slice none 0 0, .slice none 0 0]] rfl (by kernel_rfl) (by kernel_rfl) (by kernel_rfl)
      (OpenSpec.preRow_of_cond 8 hx (by kernel_rfl) (fun k hk => by cases hk; kernel_rfl) (by kernel_rfl) (laid_met os _)))
    (fun W base args ds ps hg hval hA hk hL hsh hwt => checks_calls hg hval hA hk hL hsh hwt)

theorem checks_said : Rows.SortChecksUptoSaid :=
  OpenClaim.holds_of_cond 4 Tryd.f4 rfl rfl rfl rfl rfl rfl rfl ⟨rfl, rfl, rfl, rfl, rfl⟩ rfl rfl rfl rfl rfl (by kernel_rfl) Tryd.func4 (by kernel_rfl)
    (of_decide_eq_true (by kernel_rfl)) (by unfold Func.isWrapper; first | (rw [if_pos (by decide +kernel)]; kernel_rfl) | (rw [if_neg (by decide +kernel)]; exact ⟨rfl, rfl⟩))
    (fun os started H enc _ F => by rw [OpenClaim.pre_eq_preRow]; exact checks_lifted os started H enc F)

theorem checks_plain (f : FuncId) (fn : Func) (hf : Tryd.pinned.checked.prog.funcNamed "tribunal/tribunallaw04.SortChecks" = some f) (hfn : Tryd.pinned.checked.prog.funcs[f]? = some fn) :
    false = Tryd.pinned.checked.prog.looks [] ∧ ∀ (j : Nat) t, fn.params[j]? = some t → Tryd.pinned.checked.prog.wantsStandIn t = false := by
  obtain rfl : f = 4 := Option.some.inj ((show Tryd.prog.funcNamed "tribunal/tribunallaw04.SortChecks" = some 4 by kernel_rfl).symm.trans hf) |>.symm
  obtain rfl : fn = Tryd.f4 := (Option.some.inj (Tryd.func4.symm.trans hfn)).symm
  exact ⟨by kernel_rfl, fun j t ht => by
    have hall : (Tryd.f4.params.toList.all fun u => !Tryd.prog.wantsStandIn u) = true := by kernel_rfl
    have hm : t ∈ Tryd.f4.params.toList := by simpa using Array.mem_of_getElem? ht
    exact (show Tryd.prog.wantsStandIn t = false by simpa using List.all_eq_true.1 hall t hm)⟩

theorem sortChecks_holds : Rows.SortChecksUptoCardSaid :=
  Claim7.holds_tied_plain_at .later [] _ _ _ _ checks_said (fun _ h => by cases h) (by kernel_rfl) (fun _ h => by cases h) sortChecksUpto_row_tie rfl ⟨rfl, rfl⟩ (by kernel_rfl) rfl checks_plain (by kernel_rfl)

#print axioms sortChecks_holds
end Go.Proofs.YtccbilfbhecdaaaDoor

