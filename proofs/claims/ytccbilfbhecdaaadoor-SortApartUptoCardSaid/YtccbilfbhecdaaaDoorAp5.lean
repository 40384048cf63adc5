/- SortApart is proved where what it reads is of bulk at most 1048576: it returns true and its arguments read as before. No condition beyond the row's own (five listed tables of Go's library as the text lays them). -/
import Derived.Test.YtccbilfbhecdaaaDoorAp4
namespace Go.Proofs.YtccbilfbhecdaaaDoor
open Go Go.Abs
set_option maxRecDepth 100000

def law04_plain_enc : Bool → Value
  | r0 => (Value.bool r0)

def law04_plain_hp (H : AH) : Bool → AH := fun _ => H

noncomputable def B61 : Code := (Tryd.f61.body).getD .skip

noncomputable def law04_plain_b0 (_L : LC) (rec_law04_plain : AH → Int → Int → ByteArray → Sl3 → Option Bool) (H : AH) (_a0_0 : Int) (_a0_1 : Int) (_a0_2 : ByteArray) (a0_3 : Sl3) : Int → Option (Lp Int Bool) := fun v3_2 =>
  if v3_2 < (a0_3.n : Int) then
    Option.bind (idxA 4 a0_3 v3_2) fun p3 =>
    Option.bind (rd (deI .i64) H (Addr.add p3 0)) fun x4_0 =>
    Option.bind (rd (deI .i64) H (Addr.add p3 1)) fun x4_1 =>
    Option.bind (rd deS H (Addr.add p3 2)) fun x4_2 =>
    Option.bind (rd deSl H (Addr.add p3 3)) fun x4_3 =>
    Option.bind (rec_law04_plain H x4_0 x4_1 x4_2 x4_3) fun x5 =>
    if x5 = true then
      some (.next (IntKind.i64.wrap (v3_2 + 1)))
    else
      some (.ret false)
  else
    some (.brk v3_2)

def law04_plain_b0_kn (_L : LC) (_rec_law04_plain : AH → Int → Int → ByteArray → Sl3 → Option Bool) (_H : AH) (_a0_0 : Int) (_a0_1 : Int) (_a0_2 : ByteArray) (_a0_3 : Sl3) : Int → KN := fun v3_2 => [(3, .val (Value.int .i64 v3_2)), (1, .loc 0 0)]

def law04_plain_b0_ls (_L : LC) (_rec_law04_plain : AH → Int → Int → ByteArray → Sl3 → Option Bool) (_H : AH) (a0_0 : Int) (a0_1 : Int) (a0_2 : ByteArray) (a0_3 : Sl3) : Int → Lcs := fun _ => [some (28, [(Value.int .i64 a0_0), (Value.int .i64 a0_1), (Value.string a0_2), (Sl3.v a0_3)])]

noncomputable def law04_plain_body (L : LC) (rec_law04_plain : AH → Int → Int → ByteArray → Sl3 → Option Bool) (H : AH) (a0_0 : Int) (a0_1 : Int) (a0_2 : ByteArray) (a0_3 : Sl3) : Option Bool :=
  Option.bind (α := Bool) (
    if a0_0 = 6 then
      some true
    else
      if a0_0 = 5 then
        if (a0_2.toList == (⟨#[66, 111, 111, 108]⟩ : ByteArray).toList) = true then
          some true
        else
          some (a0_2.toList == (⟨#[73, 110, 116]⟩ : ByteArray).toList)
      else
        some false) fun v21_1 =>
  if v21_1 = true then
    some false
  else
    Option.bind (L.run (law04_plain_b0 L rec_law04_plain H a0_0 a0_1 a0_2 a0_3) 0) fun o => match o with
    | .inl _ =>
      some true
    | .inr r => some r

noncomputable def fam_law04_plain (L : LC) (n : Nat) : (AH → Int → Int → ByteArray → Sl3 → Option Bool) := Nat.rec (motive := fun _ => (AH → Int → Int → ByteArray → Sl3 → Option Bool)) (fun _ _ _ _ _ => none) (fun _ p => law04_plain_body L p) n

noncomputable def law04_plain (L : LC) (H : AH) (a0_0 : Int) (a0_1 : Int) (a0_2 : ByteArray) (a0_3 : Sl3) : Option Bool := (fam_law04_plain L L.fuel) H a0_0 a0_1 a0_2 a0_3

theorem law04_plain_b0_ok {E : Ent} {m : Nat} {L : LC} {rec_law04_plain : AH → Int → Int → ByteArray → Sl3 → Option Bool} {H : AH} {a0_0 : Int} {a0_1 : Int} {a0_2 : ByteArray} {a0_3 : Sl3} (hrec_law04_plain : ∀ (m : Nat) (H : AH) (a0_0 : Int) (a0_1 : Int) (a0_2 : ByteArray) (a0_3 : Sl3) (r : Bool), rec_law04_plain H a0_0 a0_1 a0_2 a0_3 = some r → CallS Tryd.prog (NE.plain 1000) m 61 #[(Value.agg #[(Value.int .i64 a0_0), (Value.int .i64 a0_1), (Value.string a0_2), (Sl3.v a0_3)])] H (law04_plain_enc r) (law04_plain_hp H r)) : ∀ s o, law04_plain_b0 L rec_law04_plain H a0_0 a0_1 a0_2 a0_3 s = some o →
    WS Tryd.prog (NE.plain 1000) m E Tryd.f61.ntmps (cfst (cfst (csnd (cfst (csnd (csnd B61)))))) (law04_plain_b0_kn L rec_law04_plain H a0_0 a0_1 a0_2 a0_3 s) (law04_plain_b0_ls L rec_law04_plain H a0_0 a0_1 a0_2 a0_3 s) ((fun _ => H) s) (lpS Tryd.prog (NE.plain 1000) m E Tryd.f61.ntmps (law04_plain_b0_kn L rec_law04_plain H a0_0 a0_1 a0_2 a0_3) (law04_plain_b0_ls L rec_law04_plain H a0_0 a0_1 a0_2 a0_3) (fun _ => H) 0 (fun r => RT Tryd.prog (NE.plain 1000) m E Tryd.f61 (law04_plain_enc r) (law04_plain_hp H r)) o) := by
  rintro v3_2 o h
  unfold law04_plain_b0 at h
  try dsimp only at h
  refine WS.sq (WS.sq (WS.rg (RS.mS 5 [(26, .val (Value.bool (decide (v3_2 < (a0_3.n : Int))))), (25, .val (Value.int .i64 (a0_3.n : Int))), (24, .val (Sl3.v a0_3)), (23, .loc 0 3), (22, .val (Value.int .i64 v3_2))] (RS.dn (WS.nxt ?_)))))
  rcases ite_some h with ⟨hp, h⟩ | ⟨hp, h⟩
  · refine WS.fx 26 true (decide_eq_true hp) (WS.cT (WS.sk (WS.nxt (WS.sq (WS.bk 1 (WS.sq (WS.rg (RS.mS 3 [(31, .val (Value.int .i64 v3_2)), (30, .val (Sl3.v a0_3)), (29, .loc 0 3)] ?_))))))))
    obtain ⟨p3, hx, h⟩ := bind_some h
    refine RS.o (H' := H) (some 32) (Value.pointer (some p3)) (Abs.run_idx (s := a0_3) (k := .i64) (t := 26) (e := 28) (x := .tmp 30) (y := .tmp 31) (by kernel_rfl) (by kernel_rfl) (by kernel_rfl) (by kernel_rfl) (by kernel_rfl) hx) ?_
    obtain ⟨x4_0, hx0, h⟩ := bind_some h
    obtain ⟨x4_1, hx1, h⟩ := bind_some h
    obtain ⟨x4_2, hx2, h⟩ := bind_some h
    obtain ⟨x4_3, hx3, h⟩ := bind_some h
    refine RS.o (H' := H) (some 33) (Value.agg #[(Value.int .i64 x4_0), (Value.int .i64 x4_1), (Value.string x4_2), (Sl3.v x4_3)]) (Abs.run_loadAg (t := 28) (x := .tmp 32) (a := p3) (k := 4) (by kernel_rfl) (by kernel_rfl) (by kernel_rfl) (by kernel_rfl) (rdc_cons (rd_cell hx0 deI_inv) (rdc_cons (rd_cell hx1 deI_inv) (rdc_cons (rd_cell hx2 deS_inv) (rdc_cons (rd_cell hx3 deSl_inv) rdc_nil))))) ?_
    obtain ⟨x5, hx, h⟩ := bind_some h
    refine RS.cl (some 34) (v := (Value.bool x5)) 61 #[(Value.agg #[(Value.int .i64 x4_0), (Value.int .i64 x4_1), (Value.string x4_2), (Sl3.v x4_3)])] (hrec_law04_plain _ _ _ _ _ _ _ hx) (RS.mS 1 [(35, .val (Value.bool (!x5)))] (RS.dn (WS.nxt ?_)))
    rcases ite_some h with ⟨hp, h⟩ | ⟨hp, h⟩
    · refine WS.fx 35 false (nb_not hp) (WS.cF (WS.sk ?_))
      refine fun a w hs => bkN ((WS.nxt ?_ a w hs))
      refine WS.rg (RS.mS 3 [(3, .val (Value.int .i64 (IntKind.i64.wrap (v3_2 + 1)))), (28, .val (Value.int .i64 (IntKind.i64.wrap (v3_2 + 1)))), (27, .val (Value.int .i64 v3_2))] (RS.dn ?_))
      cases h
      exact fun a w hs => lsN rfl (hs.sb 1)
    · refine WS.fx 35 true (nb_not' hp) (WS.cT (WS.sq (WS.rg (RS.mS 1 [(2, .val (Value.bool false))] (RS.dn (WS.nxt (WS.rt ?_)))))))
      cases h
      exact fun a w hs => bkR (sqR (lsR rfl (rS hs)))
  · refine WS.fx 26 false (decide_eq_false hp) (WS.cF (WS.ex 0 ?_))
    cases h
    exact fun a w hs => sqE (lsB rfl (hs.sb 1))

theorem law04_plain_body_ok {L : LC} {rec_law04_plain : AH → Int → Int → ByteArray → Sl3 → Option Bool} (hrec_law04_plain : ∀ (m : Nat) (H : AH) (a0_0 : Int) (a0_1 : Int) (a0_2 : ByteArray) (a0_3 : Sl3) (r : Bool), rec_law04_plain H a0_0 a0_1 a0_2 a0_3 = some r → CallS Tryd.prog (NE.plain 1000) m 61 #[(Value.agg #[(Value.int .i64 a0_0), (Value.int .i64 a0_1), (Value.string a0_2), (Sl3.v a0_3)])] H (law04_plain_enc r) (law04_plain_hp H r)) {m : Nat} {H : AH} {a0_0 : Int} {a0_1 : Int} {a0_2 : ByteArray} {a0_3 : Sl3} {r : Bool} (h : law04_plain_body L rec_law04_plain H a0_0 a0_1 a0_2 a0_3 = some r) :
    CallS Tryd.prog (NE.plain 1000) m 61 #[(Value.agg #[(Value.int .i64 a0_0), (Value.int .i64 a0_1), (Value.string a0_2), (Sl3.v a0_3)])] H (law04_plain_enc r) (law04_plain_hp H r) := by
  refine CallS.mk (args := [(Value.agg #[(Value.int .i64 a0_0), (Value.int .i64 a0_1), (Value.string a0_2), (Sl3.v a0_3)])]) Tryd.func61 (B := B61) (by kernel_rfl) (fun E _ => ?_)
  unfold law04_plain_body at h
  refine WS.sq (WS.rg (RS.mL 2 [(2, .val (Value.bool false)), (1, .loc 0 0)] ([some (28, [(Value.int .i64 a0_0), (Value.int .i64 a0_1), (Value.string a0_2), (Sl3.v a0_3)])]) (RS.dn (WS.nxt (WS.sq ?_)))))
  obtain ⟨v21_1, hx, h⟩ := bind_some h
  refine WS.sq ?_
  refine WS.join ([(21, .val (Value.bool v21_1)), (1, .loc 0 0)]) ([some (28, [(Value.int .i64 a0_0), (Value.int .i64 a0_1), (Value.string a0_2), (Sl3.v a0_3)])]) H ?_ (fun a w hs => WS.nxt ?_ a w hs)
  · clear h; rename _ => h
    refine WS.rg (RS.mS 4 [(7, .val (Value.bool (decide (a0_0 = 6)))), (6, .val (Value.bool (decide (a0_0 = 6)))), (5, .val (Value.int .i64 a0_0)), (4, .loc 0 0)] ?_)
    rcases ite_some h with ⟨hp, h⟩ | ⟨hp, h⟩
    · refine RS.fx 7 true (decide_eq_true hp) (RS.mS 14 [(21, .val (Value.bool true)), (20, .val undef), (19, .val undef), (18, .val undef), (17, .val undef), (16, .val undef), (15, .val undef), (14, .val undef), (13, .val undef), (12, .val undef), (11, .val undef), (10, .val undef), (9, .val undef), (8, .val undef)] (RS.dn ?_))
      cases h
      exact fun a w hs => (jsN (hs.sb 1))
    · refine RS.fx 7 false (decide_eq_false hp) (RS.mS 4 [(11, .val (Value.bool (decide (a0_0 = 5)))), (10, .val (Value.bool (decide (a0_0 = 5)))), (9, .val (Value.int .i64 a0_0)), (8, .loc 0 0)] ?_)
      rcases ite_some h with ⟨hp, h⟩ | ⟨hp, h⟩
      · refine RS.fx 11 true (decide_eq_true hp) (RS.mS 4 [(15, .val (Value.bool (a0_2.toList == (⟨#[66, 111, 111, 108]⟩ : ByteArray).toList))), (14, .val (Value.bool (a0_2.toList == (⟨#[66, 111, 111, 108]⟩ : ByteArray).toList))), (13, .val (Value.string a0_2)), (12, .loc 0 2)] ?_)
        rcases ite_some h with ⟨hp, h⟩ | ⟨hp, h⟩
        · refine RS.fx 15 true hp (RS.mS 6 [(21, .val (Value.bool true)), (20, .val (Value.bool true)), (19, .val (Value.bool true)), (18, .val undef), (17, .val undef), (16, .val undef)] (RS.dn ?_))
          cases h
          exact fun a w hs => (jsN (hs.sb 1))
        · refine RS.fx 15 false (b_not hp) (RS.mS 6 [(21, .val (Value.bool (a0_2.toList == (⟨#[73, 110, 116]⟩ : ByteArray).toList))), (20, .val (Value.bool (a0_2.toList == (⟨#[73, 110, 116]⟩ : ByteArray).toList))), (19, .val (Value.bool (a0_2.toList == (⟨#[73, 110, 116]⟩ : ByteArray).toList))), (18, .val (Value.bool (a0_2.toList == (⟨#[73, 110, 116]⟩ : ByteArray).toList))), (17, .val (Value.string a0_2)), (16, .loc 0 2)] (RS.dn ?_))
          cases h
          exact fun a w hs => (jsN (hs.sb 1))
      · refine RS.fx 11 false (decide_eq_false hp) (RS.mS 10 [(21, .val (Value.bool false)), (20, .val (Value.bool false)), (19, .val undef), (18, .val undef), (17, .val undef), (16, .val undef), (15, .val undef), (14, .val undef), (13, .val undef), (12, .val undef)] (RS.dn ?_))
        cases h
        exact fun a w hs => (jsN (hs.sb 1))
  · clear hx
    rcases ite_some h with ⟨hp, h⟩ | ⟨hp, h⟩
    · refine WS.fx 21 true hp (WS.cT (WS.sq (WS.rg (RS.mS 1 [(2, .val (Value.bool false))] (RS.dn (WS.nxt (WS.rt ?_)))))))
      cases h
      exact fun a w hs => sqR (rtR (rS hs))
    · refine WS.fx 21 false (b_not hp) (WS.cF (WS.sk (WS.nxt (WS.sq (WS.sq (WS.rg (RS.mS 1 [(3, .val (Value.int .i64 0))] (RS.dn (WS.nxt ?_)))))))))
      refine WS.bk 0 ?_
      obtain ⟨o, hl, h⟩ := bind_some h
      rcases o with v3_6 | r
      · try dsimp only at h
        refine WS.lI (law04_plain_b0_ok (L := L) (E := E) (m := m) (H := H) hrec_law04_plain) (L.ok hl) 1 ?_
        clear hl
        refine fun a w hs => bkE ((WS.nxt ?_ a w hs))
        refine WS.sq (WS.rg (RS.mS 1 [(2, .val (Value.bool true))] (RS.dn (WS.nxt (WS.rt ?_)))))
        cases h
        exact fun a w hs => rtR (rS hs)
      · try dsimp only at h
        refine WS.lR (law04_plain_b0_ok (L := L) (E := E) (m := m) (H := H) hrec_law04_plain) (L.ok hl) 1 ?_
        cases h
        exact fun a w hq => bkR (sqR (rtR hq))

theorem fam_law04_plain_ok {L : LC} : ∀ n, (∀ (m : Nat) (H : AH) (a0_0 : Int) (a0_1 : Int) (a0_2 : ByteArray) (a0_3 : Sl3) (r : Bool), ((fam_law04_plain L n)) H a0_0 a0_1 a0_2 a0_3 = some r → CallS Tryd.prog (NE.plain 1000) m 61 #[(Value.agg #[(Value.int .i64 a0_0), (Value.int .i64 a0_1), (Value.string a0_2), (Sl3.v a0_3)])] H (law04_plain_enc r) (law04_plain_hp H r)) := by
  intro n
  induction n with
  | zero => exact (fun _ _ _ _ _ _ _ h => (Option.some_ne_none _ h.symm).elim)
  | succ n ih => exact (fun _ _ _ _ _ _ _ h => law04_plain_body_ok (L := L) ih h)

theorem law04_plain_ok {L : LC} {m : Nat} {H : AH} {a0_0 : Int} {a0_1 : Int} {a0_2 : ByteArray} {a0_3 : Sl3} {r : Bool} (h : law04_plain L H a0_0 a0_1 a0_2 a0_3 = some r) :
    CallS Tryd.prog (NE.plain 1000) m 61 #[(Value.agg #[(Value.int .i64 a0_0), (Value.int .i64 a0_1), (Value.string a0_2), (Sl3.v a0_3)])] H (law04_plain_enc r) (law04_plain_hp H r) :=
  (fam_law04_plain_ok _) _ _ _ _ _ _ _ h

def law04_alike_enc : Bool → Value
  | r0 => (Value.bool r0)

def law04_alike_hp (H : AH) : Bool → AH := fun _ => H

noncomputable def B32 : Code := (Tryd.f32.body).getD .skip

noncomputable def law04_alike (L : LC) (H : AH) (a0_0 : Int) (a0_1 : Int) (a0_2 : ByteArray) (a0_3 : Sl3) (a1_0 : Int) (a1_1 : Int) (a1_2 : ByteArray) (a1_3 : Sl3) : Option Bool :=
  Option.bind (law04_plain L H a0_0 a0_1 a0_2 a0_3) fun x1 =>
  if x1 = true then
    Option.bind (law04_plain L H a1_0 a1_1 a1_2 a1_3) fun x2 =>
    some x2
  else
    some false

theorem law04_alike_ok {L : LC} {m : Nat} {H : AH} {a0_0 : Int} {a0_1 : Int} {a0_2 : ByteArray} {a0_3 : Sl3} {a1_0 : Int} {a1_1 : Int} {a1_2 : ByteArray} {a1_3 : Sl3} {r : Bool} (h : law04_alike L H a0_0 a0_1 a0_2 a0_3 a1_0 a1_1 a1_2 a1_3 = some r) :
    CallS Tryd.prog (NE.plain 1000) m 32 #[(Value.agg #[(Value.int .i64 a0_0), (Value.int .i64 a0_1), (Value.string a0_2), (Sl3.v a0_3)]), (Value.agg #[(Value.int .i64 a1_0), (Value.int .i64 a1_1), (Value.string a1_2), (Sl3.v a1_3)])] H (law04_alike_enc r) (law04_alike_hp H r) := by
  refine CallS.mk (args := [(Value.agg #[(Value.int .i64 a0_0), (Value.int .i64 a0_1), (Value.string a0_2), (Sl3.v a0_3)]), (Value.agg #[(Value.int .i64 a1_0), (Value.int .i64 a1_1), (Value.string a1_2), (Sl3.v a1_3)])]) Tryd.func32 (B := B32) (by kernel_rfl) (fun E _ => ?_)
  unfold law04_alike at h
  refine WS.sq (WS.rg (RS.mL 3 [(4, .val (Value.bool false)), (3, .loc 1 0), (2, .loc 0 0)] ([some (28, [(Value.int .i64 a0_0), (Value.int .i64 a0_1), (Value.string a0_2), (Sl3.v a0_3)]), some (28, [(Value.int .i64 a1_0), (Value.int .i64 a1_1), (Value.string a1_2), (Sl3.v a1_3)])]) (RS.dn (WS.nxt (WS.sq (WS.rg (RS.mS 1 [(5, .val (Value.agg #[(Value.int .i64 a0_0), (Value.int .i64 a0_1), (Value.string a0_2), (Sl3.v a0_3)]))] ?_)))))))
  obtain ⟨x1, hx, h⟩ := bind_some h
  refine RS.cl (some 6) (v := (Value.bool x1)) 61 #[(Value.agg #[(Value.int .i64 a0_0), (Value.int .i64 a0_1), (Value.string a0_2), (Sl3.v a0_3)])] (law04_plain_ok hx) (RS.mS 1 [(7, .val (Value.bool x1))] ?_)
  rcases ite_some h with ⟨hp, h⟩ | ⟨hp, h⟩
  · refine RS.fx 7 true hp (RS.mS 1 [(8, .val (Value.agg #[(Value.int .i64 a1_0), (Value.int .i64 a1_1), (Value.string a1_2), (Sl3.v a1_3)]))] ?_)
    obtain ⟨x2, hx, h⟩ := bind_some h
    refine RS.cl (some 9) (v := (Value.bool x2)) 61 #[(Value.agg #[(Value.int .i64 a1_0), (Value.int .i64 a1_1), (Value.string a1_2), (Sl3.v a1_3)])] (law04_plain_ok hx) (RS.mS 2 [(4, .val (Value.bool x2)), (10, .val (Value.bool x2))] (RS.dn (WS.nxt (WS.rt ?_))))
    cases h
    exact fun a w hs => rtR (rS hs)
  · refine RS.fx 7 false (b_not hp) (RS.mS 4 [(4, .val (Value.bool false)), (10, .val (Value.bool false)), (9, .val undef), (8, .val undef)] (RS.dn (WS.nxt (WS.rt ?_))))
    cases h
    exact fun a w hs => rtR (rS hs)

def law04_SortApart_enc : (Bool × AH) → Value
  | (r0, _) => (Value.bool r0)

def law04_SortApart_hp (_ : AH) : (Bool × AH) → AH := fun r => r.2

noncomputable def B12 : Code := (Tryd.f12.body).getD .skip

noncomputable def law04_SortApart (L : LC) (m : Nat) (H : AH) (a0_0 : Int) (a0_1 : Int) (a0_2 : ByteArray) (a0_3 : Sl3) (a1_0 : Int) (a1_1 : Int) (a1_2 : ByteArray) (a1_3 : Sl3) : Option (Bool × AH) :=
  Option.bind (sort_Text L m H a0_0 a0_1 a0_2 a0_3) fun (x1, x2, H3) =>
  Option.bind (sort_Text L m H3 a1_0 a1_1 a1_2 a1_3) fun (x4, x5, H6) =>
  Option.bind (α := Bool) (
    Option.bind (law04_awake L H6) fun x8 =>
    if x8 = true then
      if x2 = 0 then
        some false
      else
        some (!(x1.toList == (⟨#[]⟩ : ByteArray).toList))
    else
      some true) fun v28_7 =>
  if v28_7 = true then
    some (false, H6)
  else
    Option.bind (α := Bool) (
      if x2 = 0 then
        some (!decide (x5 = 0))
      else
        some true) fun v34_9 =>
    if v34_9 = true then
      some (true, H6)
    else
      Option.bind (law04_alike L H6 a0_0 a0_1 a0_2 a0_3 a1_0 a1_1 a1_2 a1_3) fun x10 =>
      if x10 = true then
        Option.bind (sort_Same L H6 a0_0 a0_1 a0_2 a0_3 a1_0 a1_1 a1_2 a1_3) fun x11 =>
        if ((x1.toList == x4.toList) == x11) = true then
          some ((decide ((x1.size : Int) > 0)), H6)
        else
          some (false, H6)
      else
        if (x1.size : Int) > 0 then
          some ((decide ((x4.size : Int) > 0)), H6)
        else
          some (false, H6)

theorem law04_SortApart_ok {L : LC} {m : Nat} {H : AH} {a0_0 : Int} {a0_1 : Int} {a0_2 : ByteArray} {a0_3 : Sl3} {a1_0 : Int} {a1_1 : Int} {a1_2 : ByteArray} {a1_3 : Sl3} {r : (Bool × AH)} (h : law04_SortApart L m H a0_0 a0_1 a0_2 a0_3 a1_0 a1_1 a1_2 a1_3 = some r) :
    CallS Tryd.prog (NE.plain 1000) m 12 #[(Value.agg #[(Value.int .i64 a0_0), (Value.int .i64 a0_1), (Value.string a0_2), (Sl3.v a0_3)]), (Value.agg #[(Value.int .i64 a1_0), (Value.int .i64 a1_1), (Value.string a1_2), (Sl3.v a1_3)])] H (law04_SortApart_enc r) (law04_SortApart_hp H r) := by
  refine CallS.mk (args := [(Value.agg #[(Value.int .i64 a0_0), (Value.int .i64 a0_1), (Value.string a0_2), (Sl3.v a0_3)]), (Value.agg #[(Value.int .i64 a1_0), (Value.int .i64 a1_1), (Value.string a1_2), (Sl3.v a1_3)])]) Tryd.func12 (B := B12) (by kernel_rfl) (fun E _ => ?_)
  unfold law04_SortApart at h
  refine WS.sq (WS.rg (RS.mL 3 [(4, .val (Value.bool false)), (3, .loc 1 0), (2, .loc 0 0)] ([some (28, [(Value.int .i64 a0_0), (Value.int .i64 a0_1), (Value.string a0_2), (Sl3.v a0_3)]), some (28, [(Value.int .i64 a1_0), (Value.int .i64 a1_1), (Value.string a1_2), (Sl3.v a1_3)])]) (RS.dn (WS.nxt (WS.sq (WS.rg (RS.mS 1 [(10, .val (Value.agg #[(Value.int .i64 a0_0), (Value.int .i64 a0_1), (Value.string a0_2), (Sl3.v a0_3)]))] ?_)))))))
  obtain ⟨⟨x1, x2, H3⟩, hx, h⟩ := bind_some h
  try dsimp only at h
  refine RS.cl (some 11) (v := (Value.tuple #[(Value.string x1), (Value.int .i64 x2)])) 28 #[(Value.agg #[(Value.int .i64 a0_0), (Value.int .i64 a0_1), (Value.string a0_2), (Sl3.v a0_3)])] (sort_Text_ok hx) (RS.mS 5 [(6, .val (Value.int .i64 x2)), (5, .val (Value.string x1)), (13, .val (Value.int .i64 x2)), (12, .val (Value.string x1)), (9, .val (Value.tuple #[(Value.string x1), (Value.int .i64 x2)]))] (RS.dn (WS.nxt (WS.sq (WS.rg (RS.mS 1 [(15, .val (Value.agg #[(Value.int .i64 a1_0), (Value.int .i64 a1_1), (Value.string a1_2), (Sl3.v a1_3)]))] ?_))))))
  obtain ⟨⟨x4, x5, H6⟩, hx, h⟩ := bind_some h
  try dsimp only at h
  refine RS.cl (some 16) (v := (Value.tuple #[(Value.string x4), (Value.int .i64 x5)])) 28 #[(Value.agg #[(Value.int .i64 a1_0), (Value.int .i64 a1_1), (Value.string a1_2), (Sl3.v a1_3)])] (sort_Text_ok hx) (RS.mS 5 [(8, .val (Value.int .i64 x5)), (7, .val (Value.string x4)), (18, .val (Value.int .i64 x5)), (17, .val (Value.string x4)), (14, .val (Value.tuple #[(Value.string x4), (Value.int .i64 x5)]))] (RS.dn (WS.nxt (WS.sq ?_))))
  obtain ⟨v28_7, hx, h⟩ := bind_some h
  refine WS.sq ?_
  refine WS.join ([(28, .val (Value.bool v28_7)), (2, .loc 0 0), (3, .loc 1 0), (5, .val (Value.string x1)), (6, .val (Value.int .i64 x2)), (7, .val (Value.string x4)), (8, .val (Value.int .i64 x5))]) ([some (28, [(Value.int .i64 a0_0), (Value.int .i64 a0_1), (Value.string a0_2), (Sl3.v a0_3)]), some (28, [(Value.int .i64 a1_0), (Value.int .i64 a1_1), (Value.string a1_2), (Sl3.v a1_3)])]) H6 ?_ (fun a w hs => WS.nxt ?_ a w hs)
  · clear h; rename _ => h
    refine WS.rg ?_
    obtain ⟨x8, hx, h⟩ := bind_some h
    refine RS.cl (some 19) (v := (Value.bool x8)) 17 #[] (law04_awake_ok hx) (RS.mS 2 [(21, .val (Value.bool (!x8))), (20, .val (Value.bool (!x8)))] ?_)
    rcases ite_some h with ⟨hp, h⟩ | ⟨hp, h⟩
    · refine RS.fx 21 false (nb_not hp) (RS.mS 3 [(24, .val (Value.bool (!decide (x2 = 0)))), (23, .val (Value.bool (!decide (x2 = 0)))), (22, .val (Value.int .i64 x2))] ?_)
      rcases ite_some h with ⟨hp, h⟩ | ⟨hp, h⟩
      · refine RS.fx 24 false (dec_not hp) (RS.mS 4 [(28, .val (Value.bool false)), (27, .val (Value.bool false)), (26, .val undef), (25, .val undef)] (RS.dn ?_))
        cases h
        exact fun a w hs => (jsN (hs.sb 2))
      · refine RS.fx 24 true (dec_not' hp) (RS.mS 4 [(28, .val (Value.bool (!(x1.toList == (⟨#[]⟩ : ByteArray).toList)))), (27, .val (Value.bool (!(x1.toList == (⟨#[]⟩ : ByteArray).toList)))), (26, .val (Value.bool (!(x1.toList == (⟨#[]⟩ : ByteArray).toList)))), (25, .val (Value.string x1))] (RS.dn ?_))
        cases h
        exact fun a w hs => (jsN (hs.sb 2))
    · refine RS.fx 21 true (nb_not' hp) (RS.mS 7 [(28, .val (Value.bool true)), (27, .val undef), (26, .val undef), (25, .val undef), (24, .val undef), (23, .val undef), (22, .val undef)] (RS.dn ?_))
      cases h
      exact fun a w hs => (jsN (hs.sb 2))
  · clear hx
    rcases ite_some h with ⟨hp, h⟩ | ⟨hp, h⟩
    · refine WS.fx 28 true hp (WS.cT (WS.sq (WS.rg (RS.mS 1 [(4, .val (Value.bool false))] (RS.dn (WS.nxt (WS.rt ?_)))))))
      cases h
      exact fun a w hs => sqR (rtR (rS hs))
    · refine WS.fx 28 false (b_not hp) (WS.cF (WS.sk (WS.nxt (WS.sq ?_))))
      obtain ⟨v34_9, hx, h⟩ := bind_some h
      refine WS.sq ?_
      refine WS.join ([(34, .val (Value.bool v34_9)), (2, .loc 0 0), (3, .loc 1 0), (5, .val (Value.string x1)), (7, .val (Value.string x4))]) ([some (28, [(Value.int .i64 a0_0), (Value.int .i64 a0_1), (Value.string a0_2), (Sl3.v a0_3)]), some (28, [(Value.int .i64 a1_0), (Value.int .i64 a1_1), (Value.string a1_2), (Sl3.v a1_3)])]) H6 ?_ (fun a w hs => WS.nxt ?_ a w hs)
      · clear h; rename _ => h
        refine WS.rg (RS.mS 3 [(31, .val (Value.bool (!decide (x2 = 0)))), (30, .val (Value.bool (!decide (x2 = 0)))), (29, .val (Value.int .i64 x2))] ?_)
        rcases ite_some h with ⟨hp, h⟩ | ⟨hp, h⟩
        · refine RS.fx 31 false (dec_not hp) (RS.mS 3 [(34, .val (Value.bool (!decide (x5 = 0)))), (33, .val (Value.bool (!decide (x5 = 0)))), (32, .val (Value.int .i64 x5))] (RS.dn ?_))
          cases h
          exact fun a w hs => (jsN (hs.sb 2))
        · refine RS.fx 31 true (dec_not' hp) (RS.mS 3 [(34, .val (Value.bool true)), (33, .val undef), (32, .val undef)] (RS.dn ?_))
          cases h
          exact fun a w hs => (jsN (hs.sb 2))
      · clear hx
        rcases ite_some h with ⟨hp, h⟩ | ⟨hp, h⟩
        · refine WS.fx 34 true hp (WS.cT (WS.sq (WS.rg (RS.mS 1 [(4, .val (Value.bool true))] (RS.dn (WS.nxt (WS.rt ?_)))))))
          cases h
          exact fun a w hs => sqR (rtR (rS hs))
        · refine WS.fx 34 false (b_not hp) (WS.cF (WS.sk (WS.nxt (WS.sq (WS.sq (WS.rg (RS.mS 2 [(36, .val (Value.agg #[(Value.int .i64 a1_0), (Value.int .i64 a1_1), (Value.string a1_2), (Sl3.v a1_3)])), (35, .val (Value.agg #[(Value.int .i64 a0_0), (Value.int .i64 a0_1), (Value.string a0_2), (Sl3.v a0_3)]))] ?_)))))))
          obtain ⟨x10, hx, h⟩ := bind_some h
          refine RS.cl (some 37) (v := (Value.bool x10)) 32 #[(Value.agg #[(Value.int .i64 a0_0), (Value.int .i64 a0_1), (Value.string a0_2), (Sl3.v a0_3)]), (Value.agg #[(Value.int .i64 a1_0), (Value.int .i64 a1_1), (Value.string a1_2), (Sl3.v a1_3)])] (law04_alike_ok hx) (RS.mS 1 [(38, .val (Value.bool (!x10)))] (RS.dn (WS.nxt ?_)))
          rcases ite_some h with ⟨hp, h⟩ | ⟨hp, h⟩
          · refine WS.fx 38 false (nb_not hp) (WS.cF (WS.sk (WS.nxt (WS.sq (WS.rg (RS.mS 5 [(51, .val (Value.agg #[(Value.int .i64 a1_0), (Value.int .i64 a1_1), (Value.string a1_2), (Sl3.v a1_3)])), (50, .val (Value.agg #[(Value.int .i64 a0_0), (Value.int .i64 a0_1), (Value.string a0_2), (Sl3.v a0_3)])), (49, .val (Value.bool (x1.toList == x4.toList))), (48, .val (Value.string x4)), (47, .val (Value.string x1))] ?_))))))
            obtain ⟨x11, hx, h⟩ := bind_some h
            refine RS.cl (some 52) (v := (Value.bool x11)) 30 #[(Value.agg #[(Value.int .i64 a0_0), (Value.int .i64 a0_1), (Value.string a0_2), (Sl3.v a0_3)]), (Value.agg #[(Value.int .i64 a1_0), (Value.int .i64 a1_1), (Value.string a1_2), (Sl3.v a1_3)])] (sort_Same_ok hx) (RS.mS 2 [(54, .val (Value.bool ((x1.toList == x4.toList) == x11))), (53, .val (Value.bool ((x1.toList == x4.toList) == x11)))] ?_)
            rcases ite_some h with ⟨hp, h⟩ | ⟨hp, h⟩
            · refine RS.fx 54 true hp (RS.mS 5 [(4, .val (Value.bool (decide ((x1.size : Int) > 0)))), (58, .val (Value.bool (decide ((x1.size : Int) > 0)))), (57, .val (Value.bool (decide ((x1.size : Int) > 0)))), (56, .val (Value.int .i64 (x1.size : Int))), (55, .val (Value.string x1))] (RS.dn (WS.nxt (WS.rt ?_))))
              cases h
              exact fun a w hs => rtR (rS hs)
            · refine RS.fx 54 false (b_not hp) (RS.mS 5 [(4, .val (Value.bool false)), (58, .val (Value.bool false)), (57, .val undef), (56, .val undef), (55, .val undef)] (RS.dn (WS.nxt (WS.rt ?_))))
              cases h
              exact fun a w hs => rtR (rS hs)
          · refine WS.fx 38 true (nb_not' hp) (WS.cT (WS.sq (WS.rg (RS.mS 4 [(42, .val (Value.bool (decide ((x1.size : Int) > 0)))), (41, .val (Value.bool (decide ((x1.size : Int) > 0)))), (40, .val (Value.int .i64 (x1.size : Int))), (39, .val (Value.string x1))] ?_))))
            rcases ite_some h with ⟨hp, h⟩ | ⟨hp, h⟩
            · refine RS.fx 42 true (decide_eq_true hp) (RS.mS 5 [(4, .val (Value.bool (decide ((x4.size : Int) > 0)))), (46, .val (Value.bool (decide ((x4.size : Int) > 0)))), (45, .val (Value.bool (decide ((x4.size : Int) > 0)))), (44, .val (Value.int .i64 (x4.size : Int))), (43, .val (Value.string x4))] (RS.dn (WS.nxt (WS.rt ?_))))
              cases h
              exact fun a w hs => sqR (rtR (rS hs))
            · refine RS.fx 42 false (decide_eq_false hp) (RS.mS 5 [(4, .val (Value.bool false)), (46, .val (Value.bool false)), (45, .val undef), (44, .val undef), (43, .val undef)] (RS.dn (WS.nxt (WS.rt ?_))))
              cases h
              exact fun a w hs => sqR (rtR (rS hs))

end Go.Proofs.YtccbilfbhecdaaaDoor


namespace Go.Proofs.YtccbilfbhecdaaaDoor
open Go Go.Abs
set_option maxRecDepth 100000

/-- Whether so many widths, from one on, have their digits. -/
noncomputable def itoaC (b : Nat) : Bool := (List.range 512).all fun i => match itoaR ((b + i + 1 : Nat) : Int) with | some s => decide (s.size ≤ 4) | none => false

set_option maxHeartbeats 0 in
theorem itoc_0 : itoaC 0 = true := by kernel_rfl

set_option maxHeartbeats 0 in
theorem itoc_1 : itoaC 512 = true := by kernel_rfl

set_option maxHeartbeats 0 in
theorem itoc_2 : itoaC 1024 = true := by kernel_rfl

set_option maxHeartbeats 0 in
theorem itoc_3 : itoaC 1536 = true := by kernel_rfl

set_option maxHeartbeats 0 in
theorem itoc_4 : itoaC 2048 = true := by kernel_rfl

set_option maxHeartbeats 0 in
theorem itoc_5 : itoaC 2560 = true := by kernel_rfl

set_option maxHeartbeats 0 in
theorem itoc_6 : itoaC 3072 = true := by kernel_rfl

set_option maxHeartbeats 0 in
theorem itoc_7 : itoaC 3584 = true := by kernel_rfl

theorem itoc_all : ((List.range 4096).all fun i => match itoaR ((i + 1 : Nat) : Int) with | some s => decide (s.size ≤ 4) | none => false) = true := by
  rw [List.all_eq_true]
  intro i hi
  have hi := List.mem_range.1 hi
  have key : ∀ b, itoaC b = true → b ≤ i → i < b + 512 → (match itoaR ((i + 1 : Nat) : Int) with | some s => decide (s.size ≤ 4) | none => false) = true := by
    intro b hb h1 h2
    unfold itoaC at hb
    rw [List.all_eq_true] at hb
    have := hb (i - b) (List.mem_range.2 (by omega))
    rw [show b + (i - b) + 1 = i + 1 by omega] at this
    exact this
  rcases (show i < 512 ∨ (512 ≤ i ∧ i < 1024) ∨ (1024 ≤ i ∧ i < 1536) ∨ (1536 ≤ i ∧ i < 2048) ∨ (2048 ≤ i ∧ i < 2560) ∨ (2560 ≤ i ∧ i < 3072) ∨ (3072 ≤ i ∧ i < 3584) ∨ (3584 ≤ i ∧ i < 4096) by omega) with h | h | h | h | h | h | h | h
  · exact key 0 itoc_0 (by omega) (by omega)
  · exact key 512 itoc_1 (by omega) (by omega)
  · exact key 1024 itoc_2 (by omega) (by omega)
  · exact key 1536 itoc_3 (by omega) (by omega)
  · exact key 2048 itoc_4 (by omega) (by omega)
  · exact key 2560 itoc_5 (by omega) (by omega)
  · exact key 3072 itoc_6 (by omega) (by omega)
  · exact key 3584 itoc_7 (by omega) (by omega)

end Go.Proofs.YtccbilfbhecdaaaDoor


namespace Go.Proofs.YtccbilfbhecdaaaDoor
open Go Go.Abs
set_option maxRecDepth 100000

/-- A sort's text. -/
noncomputable def wrS (k w : Int) (n : ByteArray) : Fo → ByteArray
  | .nil => if k = 1 then ⟨#[66, 111, 111, 108]⟩ else if k = 2 then ⟨#[73, 110, 116]⟩ else if k = 3 then (⟨#[40, 95, 32, 66, 105, 116, 86, 101, 99, 32]⟩ ++ (itoaR w).getD emptyT) ++ ⟨#[41]⟩ else quoteS n
  | .cons k1 w1 n1 a1 r => match r with
    | .nil => emptyT
    | .cons k2 w2 n2 a2 _ => (((⟨#[40, 65, 114, 114, 97, 121, 32]⟩ ++ wrS k1 w1 n1 a1) ++ ⟨#[32]⟩) ++ wrS k2 w2 n2 a2) ++ ⟨#[41]⟩

/-- What the digits of a width are. -/
theorem itoa_some {w : Int} (h1 : 1 ≤ w) (h2 : w ≤ 4096) : ∃ s, itoaR w = some s ∧ s.size ≤ 4 := by
  have h := itoc_all
  rw [List.all_eq_true] at h
  have hm := h (w - 1).toNat (List.mem_range.2 (by omega))
  have e : (((w - 1).toNat + 1 : Nat) : Int) = w := by omega
  rw [e] at hm
  cases hq : itoaR w with
  | none => rw [hq] at hm; cases hm
  | some s => rw [hq] at hm; exact ⟨s, rfl, of_decide_eq_true hm⟩

theorem quote_size (n : ByteArray) : (quoteS n).size ≤ n.size + 2 := by
  unfold quoteS
  split
  · omega
  · rw [ByteArray.size_append, ByteArray.size_append]
    have h1 : (⟨#[124]⟩ : ByteArray).size = 1 := rfl
    rw [h1]; omega

def big : Nat := 281474976710656

/-- All names are of a length that comes in. -/
def nmF : Fo → Prop
  | .nil => True
  | .cons _ _ n a r => n.size ≤ maxS ∧ nmF a ∧ nmF r

theorem FoA.nm {H : AH} : ∀ {f : Fo} {p : Option Addr} {i : Nat}, FoA H p i f → nmF f
  | .nil, _, _, _ => trivial
  | .cons _ _ _ _ _, _, _, h => by
    obtain ⟨⟨q, s, h1, h2, h3, h4, h5⟩, h6⟩ := h
    exact ⟨h2.hn, FoA.nm h5, FoA.nm h6⟩

theorem wr_size : ∀ (d : Nat) (a : Fo) (k w : Int) (n : ByteArray), a.dep < d → n.size ≤ maxS → nmF a → shS k w n a = true → (wrS k w n a).size ≤ (1 + a.size) * big := by
  intro d
  induction d with
  | zero => intro a k w n h; omega
  | succ d ih =>
    intro a k w n hd hn hm hs
    have hb : big = 281474976710656 := rfl
    rcases shS_cases hs with ⟨rfl, hk⟩ | ⟨rfl, k1, w1, n1, a1, k2, w2, n2, a2, rfl, h1, h2⟩
    · simp only [wrS, Fo.size]
      unfold maxS at hn
      split
      · have : (⟨#[66, 111, 111, 108]⟩ : ByteArray).size = 4 := rfl
        rw [this]; omega
      · split
        · have : (⟨#[73, 110, 116]⟩ : ByteArray).size = 3 := rfl
          rw [this]; omega
        · split
          · rename_i h1 h2 h3
            subst h3
            obtain ⟨s, h5, h6⟩ := itoa_some (w := w) (by omega) (by omega)
            rw [h5, ByteArray.size_append, ByteArray.size_append]
            have e1 : (⟨#[40, 95, 32, 66, 105, 116, 86, 101, 99, 32]⟩ : ByteArray).size = 10 := rfl
            have e2 : (⟨#[41]⟩ : ByteArray).size = 1 := rfl
            rw [e1, e2]
            simp only [Option.getD_some]
            omega
          · have := quote_size n
            omega
    · simp only [Fo.dep] at hd
      have i1 := ih a1 k1 w1 n1 (by omega) hm.1 hm.2.1 h1
      have i2 := ih a2 k2 w2 n2 (by omega) hm.2.2.1 hm.2.2.2.1 h2
      simp only [wrS, ByteArray.size_append, Fo.size]
      have e1 : (⟨#[40, 65, 114, 114, 97, 121, 32]⟩ : ByteArray).size = 7 := rfl
      have e2 : (⟨#[32]⟩ : ByteArray).size = 1 := rfl
      have e3 : (⟨#[41]⟩ : ByteArray).size = 1 := rfl
      rw [e1, e2, e3]
      unfold big at i1 i2 ⊢
      omega

theorem four_cats {x y : ByteArray} (h : x.size + y.size ≤ 4611686018427387904) {R : Type} (f : ByteArray → Option R) :
    (Option.bind (strcat (⟨#[40, 65, 114, 114, 97, 121, 32]⟩ : ByteArray) x) fun s10 => Option.bind (strcat s10 (⟨#[32]⟩ : ByteArray)) fun s11 => Option.bind (strcat s11 y) fun s14 => Option.bind (strcat s14 (⟨#[41]⟩ : ByteArray)) f) =
      f ((((⟨#[40, 65, 114, 114, 97, 121, 32]⟩ ++ x) ++ ⟨#[32]⟩) ++ y) ++ ⟨#[41]⟩) := by
  have e1 : (⟨#[40, 65, 114, 114, 97, 121, 32]⟩ : ByteArray).size = 7 := rfl
  have e2 : (⟨#[32]⟩ : ByteArray).size = 1 := rfl
  have e3 : (⟨#[41]⟩ : ByteArray).size = 1 := rfl
  rw [strcat_ok (by rw [maxN_eq, e1]; omega)]
  simp only [Option.bind_some]
  rw [strcat_ok (by rw [ByteArray.size_append, maxN_eq, e1, e2]; omega)]
  simp only [Option.bind_some]
  rw [strcat_ok (by rw [ByteArray.size_append, ByteArray.size_append, maxN_eq, e1, e2]; omega)]
  simp only [Option.bind_some]
  rw [strcat_ok (by rw [ByteArray.size_append, ByteArray.size_append, ByteArray.size_append, maxN_eq, e1, e2, e3]; omega)]
  rfl

theorem two_cats {x : ByteArray} (h : x.size ≤ 4) : (Option.bind (strcat (⟨#[40, 95, 32, 66, 105, 116, 86, 101, 99, 32]⟩ : ByteArray) x) fun s2 => strcat s2 (⟨#[41]⟩ : ByteArray)) = some ((⟨#[40, 95, 32, 66, 105, 116, 86, 101, 99, 32]⟩ ++ x) ++ ⟨#[41]⟩) := by
  have e1 : (⟨#[40, 95, 32, 66, 105, 116, 86, 101, 99, 32]⟩ : ByteArray).size = 10 := rfl
  have e3 : (⟨#[41]⟩ : ByteArray).size = 1 := rfl
  rw [strcat_ok (by rw [maxN_eq, e1]; omega)]
  simp only [Option.bind_some]
  rw [strcat_ok (by rw [ByteArray.size_append, maxN_eq, e1, e3]; omega)]

theorem itoa_run (L : LC) {H : AH} (hT : HasT H) (w : Int) : strconv_Itoa L H w = itoaR w := by
  unfold strconv_Itoa
  rw [if_pos hT]

theorem written_spec (c : Nat) : ∀ (d : Nat) (fuel m : Nat) (H : AH) (k w : Int) (n : ByteArray) (s : Sl3) (a : Fo), HasT H → SlF H s a → n.size ≤ maxS → a.dep ≤ fuel → a.dep < d → 1 + a.size ≤ 256 → shS k w n a = true →
    ∃ H', fam_sort_written (LCo c) (fuel + 1) m H k w n s = some (wrS k w n a, H') ∧ Ext H H' := by
  intro d
  induction d with
  | zero => intro fuel m H k w n s a _ _ _ _ h; omega
  | succ d ih =>
    intro fuel m H k w n s a hT h hn hd hlt hsz hs
    show ∃ H', sort_written_body (LCo c) (fam_sort_written (LCo c) fuel) m H k w n s = _ ∧ _
    unfold sort_written_body
    have hs0 := hs
    rcases shS_cases hs with ⟨rfl, hk⟩ | ⟨rfl, k1, w1, n1, a1, k2, w2, n2, a2, rfl, h1, h2⟩
    · simp only [wrS]
      by_cases e1 : k = 1
      · rw [if_pos e1, if_pos e1]; exact ⟨H, rfl, Fm.refl _ _⟩
      · rw [if_neg e1, if_neg e1]
        by_cases e2 : k = 2
        · rw [if_pos e2, if_pos e2]; exact ⟨H, rfl, Fm.refl _ _⟩
        · rw [if_neg e2, if_neg e2]
          by_cases e3 : k = 3
          · rw [if_pos e3, if_pos e3]
            obtain ⟨x, h5, h6⟩ := itoa_some (w := w) (by omega) (by omega)
            rw [itoa_run _ hT, h5]
            have := two_cats h6
            simp only [Option.bind_some, Option.getD_some]
            cases h7 : strcat (⟨#[40, 95, 32, 66, 105, 116, 86, 101, 99, 32]⟩ : ByteArray) x with
            | none => rw [h7] at this; cases this
            | some y =>
              rw [h7] at this
              simp only [Option.bind_some] at this ⊢
              rw [this]
              exact ⟨H, rfl, Fm.refl _ _⟩
          · rw [if_neg e3, if_neg e3, if_neg (by omega)]
            obtain ⟨H', h8, h9⟩ := Quote_spec c m hT (s := n) (by unfold maxS at hn; omega)
            rw [h8]
            exact ⟨H', rfl, h9⟩
    · have hl := h.1
      simp only [Fo.len] at hl
      simp only [Fo.dep] at hd hlt
      simp only [Fo.size] at hsz
      obtain ⟨q1, s1, p1, p2, p3, p4, p5, p6, p7, p8⟩ := h.2.2.rd (by omega)
      obtain ⟨q2, s2, t1, t2, t3, t4, t5, t6, t7, t8⟩ := p8.rd (by omega)
      obtain ⟨g, rfl⟩ : ∃ g, fuel = g + 1 := ⟨fuel - 1, by omega⟩
      obtain ⟨H1, c1, x1⟩ := ih g (Nat.max m H.next) H k1 w1 n1 s1 a1 hT p6 p7 (by omega) (by omega) (by omega) h1
      obtain ⟨H2, c2, x2⟩ := ih g (Nat.max m H1.next) H1 k2 w2 n2 s2 a2 (hT.ext x1) (t6.ext x1) t7 (by omega) (by omega) (by omega) h2
      have z0 : idxA 4 s 0 = some q1 := p1
      have z1 : idxA 4 s 1 = some q2 := t1
      refine ⟨H2, ?_, x1.trans x2⟩
      rw [if_neg (by omega), if_neg (by omega), if_neg (by omega), if_pos rfl]
      have hnm := h.2.2.nm
      have b1 := wr_size d a1 k1 w1 n1 (by omega) p7 hnm.2.1 h1
      have b2 := wr_size d a2 k2 w2 n2 (by omega) t7 hnm.2.2.2.1 h2
      have hbig : (wrS k1 w1 n1 a1).size + (wrS k2 w2 n2 a2).size ≤ 4611686018427387904 := by
        unfold big at b1 b2
        have : (1 + a1.size) + (1 + a2.size) ≤ 256 := by omega
        omega
      simp only [z0, p2, p3, p4, p5, z1, t2, t3, t4, t5, Option.bind_some, c1, c2]
      have := four_cats hbig (fun s15 => some (s15, H2))
      exact this

noncomputable def textS (k w : Int) (n : ByteArray) (a : Fo) : ByteArray × Int := if wrongS k w n a = 0 then (wrS k w n a, 0) else (emptyT, wrongS k w n a)

theorem Text_spec (L0 fuel : Nat) (hF : L0 = fuel + 1) (m : Nat) {H : AH} (hT : HasT H) {k w : Int} {n : ByteArray} {s : Sl3} {a : Fo} (h : SlF H s a) (hn : n.size ≤ maxS) (hd : a.dep ≤ fuel) :
    ∃ H', sort_Text (LCo L0) m H k w n s = some ((textS k w n a).1, (textS k w n a).2, H') ∧ Ext H H' := by
  unfold sort_Text textS
  rw [wrong_spec L0 fuel hF h hn hd]
  simp only [Option.bind_some]
  by_cases hw : wrongS k w n a = 0
  · obtain ⟨w1, w2, w3⟩ := wrong_zero hw
    obtain ⟨H', h1, h2⟩ := written_spec L0 (a.dep + 1) fuel m H k w n s a hT h hn hd (by omega) w3 w1
    rw [if_pos hw, if_pos hw]
    unfold sort_written
    have e1 : (LCo L0).fuel = fuel + 1 := hF
    rw [e1, h1]
    exact ⟨H', rfl, h2⟩
  · rw [if_neg hw, if_neg hw]
    exact ⟨H, rfl, Fm.refl _ _⟩

def smF : Fo → Fo → Bool
  | .nil, .nil => true
  | .cons k w n a r, .cons k' w' n' a' r' => (decide (k = k') && (decide (w = w') && ((n.toList == n'.toList) && smF a a'))) && smF r r'
  | _, _ => false

def smS (k w : Int) (n : ByteArray) (a : Fo) (k' w' : Int) (n' : ByteArray) (a' : Fo) : Bool := decide (k = k') && (decide (w = w') && ((n.toList == n'.toList) && smF a a'))

theorem smF_len : ∀ {a b : Fo}, smF a b = true → a.len = b.len
  | .nil, .nil, _ => rfl
  | .nil, .cons .., h => by simp [smF] at h
  | .cons .., .nil, h => by simp [smF] at h
  | .cons k w n a r, .cons k' w' n' a' r', h => by
    simp only [smF, Bool.and_eq_true] at h
    simp only [Fo.len]
    rw [smF_len h.2]

theorem same_loop (c : Nat) {H : AH} {body : Int → Option (Lp Int Bool)} : ∀ (f g : Fo) (s t : Sl3) (i : Nat), FoA H s.p i f → FoA H t.p i g → s.n = i + f.len → t.n = i + g.len → f.len = g.len → s.n ≤ maxN →
    (∀ (j : Nat), j < s.n → ∀ k w n a r k' w' n' a' r', FoA H s.p j (.cons k w n a r) → FoA H t.p j (.cons k' w' n' a' r') → a.dep < f.dep →
      body (j : Int) = some (if smS k w n a k' w' n' a' = true then .next (IntKind.i64.wrap ((j : Int) + 1)) else .ret false)) →
    (body (s.n : Int) = some (.brk (s.n : Int))) → loopO body (i : Int) = some (if smF f g = true then .inl (s.n : Int) else .inr false) := by
  intro f
  induction f with
  | nil =>
    intro g s t i h1 h2 hn ht hl hm hb he
    cases g with
    | cons => simp [Fo.len] at hl
    | nil =>
      simp only [Fo.len, Nat.add_zero] at hn
      subst hn
      exact loopO_brk he
  | cons k w n a r iha ihr =>
    intro g s t i h1 h2 hn ht hl hm hb he
    cases g with
    | nil => simp [Fo.len] at hl
    | cons k' w' n' a' r' =>
      simp only [Fo.len] at hn ht hl
      have hbi := hb i (by omega) k w n a r k' w' n' a' r' h1 h2 (by simp only [Fo.dep]; omega)
      have hp : smF (.cons k w n a r) (.cons k' w' n' a' r') = (smS k w n a k' w' n' a' && smF r r') := rfl
      rw [hp]
      cases hq : smS k w n a k' w' n' a' with
      | false => rw [hq] at hbi; exact loopO_ret hbi
      | true =>
        rw [hq] at hbi
        simp only [if_true] at hbi
        rw [loopO_next hbi, wrap_next (n := s.n) (by omega) hm, Bool.true_and]
        refine ihr r' s t (i + 1) h1.2 h2.2 (by omega) (by omega) (by omega) hm (fun j hj k w n a r2 k' w' n' a' r2' g1 g2 g3 => hb j hj k w n a r2 k' w' n' a' r2' g1 g2 (by simp only [Fo.dep]; omega)) he

theorem Same_spec (c : Nat) {H : AH} : ∀ (d fuel : Nat) (k w : Int) (n : ByteArray) (s : Sl3) (a : Fo) (k' w' : Int) (n' : ByteArray) (s' : Sl3) (a' : Fo), SlF H s a → SlF H s' a' → 2 * a.dep + 1 ≤ fuel → a.dep < d →
    (fam_sort_Same (LCo c) (fuel + 1)).1 H k w n s k' w' n' s' = some (smS k w n a k' w' n' a') := by
  intro d
  induction d with
  | zero => intro fuel k w n s a k' w' n' s' a' _ _ _ h; omega
  | succ d ih =>
    intro fuel k w n s a k' w' n' s' a' h h' hf hd
    obtain ⟨g, rfl⟩ : ∃ g, fuel = g + 1 := ⟨fuel - 1, by omega⟩
    show sort_Same_body (LCo c) (fam_sort_Same (LCo c) (g + 1)).2 H k w n s k' w' n' s' = _
    have hE : (fam_sort_Same (LCo c) (g + 1)).2 H s s' = some (smF a a') := by
      show slices_EqualFunc__30_body (LCo c) (fam_sort_Same (LCo c) g).1 H s s' = _
      unfold slices_EqualFunc__30_body
      by_cases hl : a.len = a'.len
      · rw [if_pos (by rw [h.1, h'.1, hl])]
        show Option.bind (loopO (slices_EqualFunc__30_b0 (LCo c) (fam_sort_Same (LCo c) g).1 H s s') ((0 : Nat) : Int)) _ = _
        rw [same_loop c a a' s s' 0 h.2.2 h'.2.2 (by rw [h.1]; omega) (by rw [h'.1]; omega) hl h.2.1 ?_ ?_]
        · cases smF a a' <;> rfl
        · intro j hj k w n a1 r k' w' n' a1' r' f1 f2 f3
          unfold slices_EqualFunc__30_b0
          obtain ⟨q1, s1, p1, p2, p3, p4, p5, p6, p7, p8⟩ := f1.rd hj
          obtain ⟨q2, s2, t1, t2, t3, t4, t5, t6, t7, t8⟩ := f2.rd (s := s') (by rw [h'.1, ← hl, ← h.1]; exact hj)
          obtain ⟨g', rfl⟩ : ∃ g', g = g' + 1 := ⟨g - 1, by omega⟩
          have hr := ih g' k w n s1 a1 k' w' n' s2 a1' p6 t6 (by omega) (by omega)
          simp only [if_pos (show (j : Int) < (s.n : Int) by omega), p1, p2, p3, p4, p5, t1, t2, t3, t4, t5, Option.bind_some, hr]
          cases smS k w n a1 k' w' n' a1' <;> rfl
        · unfold slices_EqualFunc__30_b0
          rw [if_neg (by omega)]
      · rw [if_neg (by rw [h.1, h'.1]; omega)]
        cases hq : smF a a' with
        | false => rfl
        | true => exact absurd (smF_len hq) hl
    unfold sort_Same_body smS
    rw [hE]
    by_cases e1 : k = k' <;> by_cases e2 : w = w' <;> cases (n.toList == n'.toList) <;> cases smF a a' <;> simp [e1, e2]

end Go.Proofs.YtccbilfbhecdaaaDoor


namespace Go.Proofs.YtccbilfbhecdaaaDoor
open Go Go.Abs
set_option maxRecDepth 100000

def keyV (x : Int × ByteArray) : Value := .agg #[.int .i64 x.1, .string x.2]

end Go.Proofs.YtccbilfbhecdaaaDoor


namespace Go.Proofs.YtccbilfbhecdaaaDoor
open Go Go.Abs
set_option maxRecDepth 100000

structure Sel where
  n : ByteArray
  k : Int
  w : Int
  sn : ByteArray
  a : Fo
structure Con where
  n : ByteArray
  sels : List Sel
structure Dat where
  n : ByteArray
  cons : List Con
structure Fnc where
  n : ByteArray
  args : Fo
  k : Int
  w : Int
  sn : ByteArray
  a : Fo
structure Sg where
  users : List ByteArray
  datas : List Dat
  funs : List Fnc

/-- No row is longer than what may come in. -/
structure SgB (g : Sg) : Prop where
  u : g.users.length ≤ maxS
  d : g.datas.length ≤ maxS
  f : g.funs.length ≤ maxS

def StrM (H : AH) (q : Addr) (s : ByteArray) : Prop := StrA H q s ∧ s.size ≤ maxS

structure SelA (H : AH) (q : Addr) (x : Sel) : Prop where
  n : Cel H (q.add 0) (.string x.n)
  nm : x.n.size ≤ maxS
  ex : ∃ s, Cel H (q.add 1) (.int .i64 x.k) ∧ Cel H (q.add 2) (.int .i64 x.w) ∧ Cel H (q.add 3) (.string x.sn) ∧ Cel H (q.add 4) (Sl3.v s) ∧ x.sn.size ≤ maxS ∧ SlF H s x.a
structure ConA (H : AH) (q : Addr) (x : Con) : Prop where
  n : Cel H (q.add 0) (.string x.n)
  nm : x.n.size ≤ maxS
  ex : ∃ s, Cel H (q.add 1) (Sl3.v s) ∧ SlL SelA 5 H s x.sels
structure DatA (H : AH) (q : Addr) (x : Dat) : Prop where
  n : Cel H (q.add 0) (.string x.n)
  nm : x.n.size ≤ maxS
  ex : ∃ s, Cel H (q.add 1) (Sl3.v s) ∧ SlL ConA 2 H s x.cons
structure FncA (H : AH) (q : Addr) (x : Fnc) : Prop where
  n : Cel H (q.add 0) (.string x.n)
  nm : x.n.size ≤ maxS
  ar : ∃ s, Cel H (q.add 1) (Sl3.v s) ∧ SlF H s x.args
  ex : ∃ s, Cel H (q.add 2) (.int .i64 x.k) ∧ Cel H (q.add 3) (.int .i64 x.w) ∧ Cel H (q.add 4) (.string x.sn) ∧ Cel H (q.add 5) (Sl3.v s) ∧ x.sn.size ≤ maxS ∧ SlF H s x.a
structure SigA (H : AH) (s1 s2 s3 : Sl3) (g : Sg) : Prop where
  u : SlL StrM 1 H s1 g.users
  d : SlL DatA 2 H s2 g.datas
  f : SlL FncA 6 H s3 g.funs

theorem StrM.ext {H H' : AH} (hf : Ext H H') {q : Addr} {x : ByteArray} (h : StrM H q x) : StrM H' q x := ⟨Cel.ext h.1 hf, h.2⟩
theorem SelA.ext {H H' : AH} (hf : Ext H H') {q : Addr} {x : Sel} (h : SelA H q x) : SelA H' q x :=
  ⟨h.n.ext hf, h.nm, let ⟨s, a, b, c, d, e, f⟩ := h.ex; ⟨s, a.ext hf, b.ext hf, c.ext hf, d.ext hf, e, f.ext hf⟩⟩
theorem ConA.ext {H H' : AH} (hf : Ext H H') {q : Addr} {x : Con} (h : ConA H q x) : ConA H' q x :=
  ⟨h.n.ext hf, h.nm, let ⟨s, a, b⟩ := h.ex; ⟨s, a.ext hf, b.ext hf fun _ _ h => h.ext hf⟩⟩
theorem DatA.ext {H H' : AH} (hf : Ext H H') {q : Addr} {x : Dat} (h : DatA H q x) : DatA H' q x :=
  ⟨h.n.ext hf, h.nm, let ⟨s, a, b⟩ := h.ex; ⟨s, a.ext hf, b.ext hf fun _ _ h => h.ext hf⟩⟩
theorem FncA.ext {H H' : AH} (hf : Ext H H') {q : Addr} {x : Fnc} (h : FncA H q x) : FncA H' q x :=
  ⟨h.n.ext hf, h.nm, let ⟨s, a, b⟩ := h.ar; ⟨s, a.ext hf, b.ext hf⟩, let ⟨s, a, b, c, d, e, f⟩ := h.ex; ⟨s, a.ext hf, b.ext hf, c.ext hf, d.ext hf, e, f.ext hf⟩⟩
theorem SigA.ext {H H' : AH} (hf : Ext H H') {s1 s2 s3 : Sl3} {g : Sg} (h : SigA H s1 s2 s3 g) : SigA H' s1 s2 s3 g :=
  ⟨h.u.ext hf fun _ _ h => h.ext hf, h.d.ext hf fun _ _ h => h.ext hf, h.f.ext hf fun _ _ h => h.ext hf⟩

def dataIx (l : List Dat) (n : ByteArray) : Option Nat := l.findIdx? fun d => decide (d.n = n)

def hasU (us : List ByteArray) (n : ByteArray) : Bool := us.any fun u => decide (u = n)

def bookF (us : List ByteArray) (ds : List Dat) (x : Int × ByteArray) : Option Value :=
  if x.1 = 5 then if hasU us x.2 = true then some (.int .i64 0) else none
  else if x.1 = 6 then (dataIx ds x.2).map fun (i : Nat) => Value.int .i64 (i : Int)
  else none

structure Book (H : AH) (p : Addr) (s1 s2 s3 : Sl3) (g : Sg) : Prop where
  c1 : Cel H (p.add 0) s1.v
  c2 : Cel H (p.add 1) s2.v
  c3 : Cel H (p.add 2) s3.v
  ex : ∃ id, Cel H (p.add 3) (.map (some id)) ∧ id < H.next ∧ MapA keyV H id (bookF g.users g.datas)

theorem Book.ext {H H' : AH} (hf : Ext H H') {p : Addr} {s1 s2 s3 : Sl3} {g : Sg} (h : Book H p s1 s2 s3 g) : Book H' p s1 s2 s3 g :=
  ⟨h.c1.ext hf, h.c2.ext hf, h.c3.ext hf, let ⟨id, a, b, c⟩ := h.ex; ⟨id, a.ext hf, Nat.lt_of_lt_of_le b hf.1, c.fr hf b fun h => h⟩⟩

/-- A loop over sorts that ends at the first that fails. -/
theorem all_loop {H : AH} {body : Int → Option (Lp Int Bool)} (ok : Int → Int → ByteArray → Fo → Bool) (all : Fo → Bool) (h0 : all .nil = true) (h1 : ∀ k w n a r, all (.cons k w n a r) = (ok k w n a && all r)) : ∀ (f : Fo) (s : Sl3) (i : Nat), FoA H s.p i f → s.n = i + f.len → s.n ≤ maxN →
    (∀ (j : Nat), j < s.n → ∀ k w n a r, FoA H s.p j (.cons k w n a r) → a.dep < f.dep → body (j : Int) = some (if ok k w n a = true then .next (IntKind.i64.wrap ((j : Int) + 1)) else .ret false)) →
    (body (s.n : Int) = some (.brk (s.n : Int))) → loopO body (i : Int) = some (if all f = true then .inl (s.n : Int) else .inr false) := by
  intro f
  induction f with
  | nil =>
    intro s i h hn hm hb he
    simp only [Fo.len, Nat.add_zero] at hn
    subst hn
    rw [h0]
    exact loopO_brk he
  | cons k w n a r iha ihr =>
    intro s i h hn hm hb he
    simp only [Fo.len] at hn
    have hbi := hb i (by omega) k w n a r h (by simp only [Fo.dep]; omega)
    rw [h1]
    cases hq : ok k w n a with
    | false => rw [hq] at hbi; exact loopO_ret hbi
    | true =>
      rw [hq] at hbi
      simp only [if_true] at hbi
      rw [loopO_next hbi, wrap_next (n := s.n) (by omega) hm, Bool.true_and]
      exact ihr s (i + 1) h.2 (by omega) hm (fun j hj k w n a r2 g1 g2 => hb j hj k w n a r2 g1 (by simp only [Fo.dep]; omega)) he

end Go.Proofs.YtccbilfbhecdaaaDoor


namespace Go.Proofs.YtccbilfbhecdaaaDoor
open Go Go.Abs
set_option maxRecDepth 100000

/-- A number's digits, up to four. -/
def decD (n : Nat) : List Nat := if n < 10 then [48 + n] else if n < 100 then [48 + n / 10, 48 + n % 10] else if n < 1000 then [48 + n / 100, 48 + n / 10 % 10, 48 + n % 10] else [48 + n / 1000, 48 + n / 100 % 10, 48 + n / 10 % 10, 48 + n % 10]
def eqL : List UInt8 → List Nat → Bool
  | [], [] => true
  | a :: l, b :: m => Nat.beq a.toNat b && eqL l m
  | _, _ => false
def itoaOk (s : ByteArray) (n : Nat) : Bool := eqL s.data.toList (decD n)

/-- Whether so many widths, from one on, have their digits. -/
noncomputable def itoaB (b : Nat) : Bool := (List.range 512).all fun i => match itoaR ((b + i + 1 : Nat) : Int) with | some s => itoaOk s (b + i + 1) | none => false

set_option maxHeartbeats 0 in
theorem itoa_0 : itoaB 0 = true := by kernel_rfl

set_option maxHeartbeats 0 in
theorem itoa_1 : itoaB 512 = true := by kernel_rfl

set_option maxHeartbeats 0 in
theorem itoa_2 : itoaB 1024 = true := by kernel_rfl

set_option maxHeartbeats 0 in
theorem itoa_3 : itoaB 1536 = true := by kernel_rfl

set_option maxHeartbeats 0 in
theorem itoa_4 : itoaB 2048 = true := by kernel_rfl

set_option maxHeartbeats 0 in
theorem itoa_5 : itoaB 2560 = true := by kernel_rfl

set_option maxHeartbeats 0 in
theorem itoa_6 : itoaB 3072 = true := by kernel_rfl

set_option maxHeartbeats 0 in
theorem itoa_7 : itoaB 3584 = true := by kernel_rfl

theorem itoa_all : ((List.range 4096).all fun i => match itoaR ((i + 1 : Nat) : Int) with | some s => itoaOk s (i + 1) | none => false) = true := by
  rw [List.all_eq_true]
  intro i hi
  have hi := List.mem_range.1 hi
  have key : ∀ b, itoaB b = true → b ≤ i → i < b + 512 → (match itoaR ((i + 1 : Nat) : Int) with | some s => itoaOk s (i + 1) | none => false) = true := by
    intro b hb h1 h2
    unfold itoaB at hb
    rw [List.all_eq_true] at hb
    have := hb (i - b) (List.mem_range.2 (by omega))
    rw [show b + (i - b) + 1 = i + 1 by omega] at this
    exact this
  rcases (show i < 512 ∨ (512 ≤ i ∧ i < 1024) ∨ (1024 ≤ i ∧ i < 1536) ∨ (1536 ≤ i ∧ i < 2048) ∨ (2048 ≤ i ∧ i < 2560) ∨ (2560 ≤ i ∧ i < 3072) ∨ (3072 ≤ i ∧ i < 3584) ∨ (3584 ≤ i ∧ i < 4096) by omega) with h | h | h | h | h | h | h | h
  · exact key 0 itoa_0 (by omega) (by omega)
  · exact key 512 itoa_1 (by omega) (by omega)
  · exact key 1024 itoa_2 (by omega) (by omega)
  · exact key 1536 itoa_3 (by omega) (by omega)
  · exact key 2048 itoa_4 (by omega) (by omega)
  · exact key 2560 itoa_5 (by omega) (by omega)
  · exact key 3072 itoa_6 (by omega) (by omega)
  · exact key 3584 itoa_7 (by omega) (by omega)

end Go.Proofs.YtccbilfbhecdaaaDoor


namespace Go.Proofs.YtccbilfbhecdaaaDoor
open Go Go.Abs
set_option maxRecDepth 100000

/-- The number that the digits are. -/
def digV (l : List UInt8) : Nat := (l.map fun c => c.toNat).foldl (fun a c => a * 10 + (c - 48)) 0

theorem eqL_map : ∀ {l : List UInt8} {m : List Nat}, eqL l m = true → (l.map fun c => c.toNat) = m
  | [], [], _ => rfl
  | [], _ :: _, h => by cases h
  | _ :: _, [], h => by cases h
  | a :: l, b :: m, h => by
    simp only [eqL, Bool.and_eq_true] at h
    rw [List.map_cons, eqL_map h.2, Nat.eq_of_beq_eq_true h.1]

theorem decD_ok {n : Nat} (h : n < 10000) : (decD n).length ≤ 4 ∧ (∀ c ∈ decD n, 48 ≤ c ∧ c ≤ 57) ∧ (decD n).foldl (fun a c => a * 10 + (c - 48)) 0 = n := by
  unfold decD
  split
  · refine ⟨by simp, fun c hc => ?_, by simp⟩
    simp at hc; omega
  · split
    · refine ⟨by simp, fun c hc => ?_, by simp only [List.foldl_cons, List.foldl_nil]; omega⟩
      simp at hc; omega
    · split
      · refine ⟨by simp, fun c hc => ?_, by simp only [List.foldl_cons, List.foldl_nil]; omega⟩
        simp at hc; omega
      · refine ⟨by simp, fun c hc => ?_, by simp only [List.foldl_cons, List.foldl_nil]; omega⟩
        simp at hc; omega

/-- What the digits of a width are. -/
theorem itoa_full {w : Int} (h1 : 1 ≤ w) (h2 : w ≤ 4096) : ∃ s, itoaR w = some s ∧ s.size ≤ 4 ∧ ((bs s).all fun c => decide (48 ≤ c.toNat) && decide (c.toNat ≤ 57)) = true ∧ ((digV (bs s) : Nat) : Int) = w := by
  have h := itoa_all
  rw [List.all_eq_true] at h
  have hm := h (w - 1).toNat (List.mem_range.2 (by omega))
  have e : (((w - 1).toNat + 1 : Nat) : Int) = w := by omega
  rw [e] at hm
  cases hq : itoaR w with
  | none => rw [hq] at hm; cases hm
  | some s =>
    rw [hq] at hm
    have hmap : ((bs s).map fun c => c.toNat) = decD ((w - 1).toNat + 1) := eqL_map hm
    obtain ⟨d1, d2, d3⟩ := decD_ok (n := (w - 1).toNat + 1) (by omega)
    rw [← hmap] at d1 d2 d3
    refine ⟨s, rfl, by rw [← bs_len]; simpa using d1, ?_, by show (((((bs s).map fun c => c.toNat).foldl (fun a c => a * 10 + (c - 48)) 0 : Nat)) : Int) = w; rw [d3]; exact e⟩
    rw [List.all_eq_true]
    intro c hc
    have := d2 c.toNat (List.mem_map.2 ⟨c, hc, rfl⟩)
    simp [this.1, this.2]

theorem bs_inj {s t : ByteArray} (h : bs s = bs t) : s = t := by
  obtain ⟨a⟩ := s
  obtain ⟨b⟩ := t
  simp only [bs, ByteArray.mk.injEq] at h ⊢
  exact Array.toList_inj.1 h

theorem bs_app (s t : ByteArray) : bs (s ++ t) = bs s ++ bs t := by
  simp [bs, ByteArray.data_append]

/-- It ends a simple word. -/
def sepR (r : List UInt8) : Prop := r = [] ∨ ∃ c t, r = c :: t ∧ gB c.toNat = false

theorem word_eq : ∀ (t t' r r' : List UInt8), (t.all fun c => gB c.toNat) = true → (t'.all fun c => gB c.toNat) = true → sepR r → sepR r' → t ++ r = t' ++ r' → t = t' ∧ r = r'
  | [], [], r, r', _, _, _, _, h => ⟨rfl, h⟩
  | [], c :: t', r, r', _, h2, h3, _, h => by
    simp only [List.nil_append, List.cons_append] at h
    simp only [List.all_cons, Bool.and_eq_true] at h2
    rcases h3 with rfl | ⟨x, y, rfl, hx⟩
    · cases h
    · simp only [List.cons.injEq] at h
      rw [← h.1, hx] at h2
      cases h2.1
  | c :: t, [], r, r', h1, _, _, h4, h => by
    simp only [List.nil_append, List.cons_append] at h
    simp only [List.all_cons, Bool.and_eq_true] at h1
    rcases h4 with rfl | ⟨x, y, rfl, hx⟩
    · cases h
    · simp only [List.cons.injEq] at h
      rw [h.1, hx] at h1
      cases h1.1
  | c :: t, c' :: t', r, r', h1, h2, h3, h4, h => by
    simp only [List.cons_append, List.cons.injEq] at h
    simp only [List.all_cons, Bool.and_eq_true] at h1 h2
    obtain ⟨e1, e2⟩ := word_eq t t' r r' h1.2 h2.2 h3 h4 h.2
    exact ⟨by rw [h.1, e1], e2⟩

/-- Between bars. -/
theorem bar_eq : ∀ (t t' r r' : List UInt8), (t.all fun c => !decide (c.toNat = 124)) = true → (t'.all fun c => !decide (c.toNat = 124)) = true → t ++ 124 :: r = t' ++ 124 :: r' → t = t' ∧ r = r'
  | [], [], r, r', _, _, h => by simp at h; exact ⟨rfl, h⟩
  | [], c :: t', r, r', _, h2, h => by
    simp only [List.nil_append, List.cons_append, List.cons.injEq] at h
    simp only [List.all_cons, Bool.and_eq_true] at h2
    rw [← h.1] at h2
    exact absurd h2.1 (by decide)
  | c :: t, [], r, r', h1, _, h => by
    simp only [List.nil_append, List.cons_append, List.cons.injEq] at h
    simp only [List.all_cons, Bool.and_eq_true] at h1
    rw [h.1] at h1
    exact absurd h1.1 (by decide)
  | c :: t, c' :: t', r, r', h1, h2, h => by
    simp only [List.cons_append, List.cons.injEq] at h
    simp only [List.all_cons, Bool.and_eq_true] at h1 h2
    obtain ⟨e1, e2⟩ := bar_eq t t' r r' h1.2 h2.2 h.2
    exact ⟨by rw [h.1, e1], e2⟩

/-- Has a sort no datatypes, and no names that stand for other sorts? -/
def plF : Fo → Bool
  | .nil => true
  | .cons k _ n a r => (if k = 6 then false else if k = 5 ∧ (n = ⟨#[66, 111, 111, 108]⟩ ∨ n = ⟨#[73, 110, 116]⟩) then false else plF a) && plF r

def plS (k : Int) (n : ByteArray) (a : Fo) : Bool := if k = 6 then false else if k = 5 ∧ (n = ⟨#[66, 111, 111, 108]⟩ ∨ n = ⟨#[73, 110, 116]⟩) then false else plF a

/-- The forms of a plain sort's text. -/
inductive Form (k w : Int) (n : ByteArray) (a : Fo) : List UInt8 → Prop
  | bool (h : k = 1) (ha : a = .nil) : Form k w n a [66, 111, 111, 108]
  | int (h : k = 2) (ha : a = .nil) : Form k w n a [73, 110, 116]
  | bits (h : k = 3) (ha : a = .nil) (t : List UInt8) (ht : (t.all fun c => gB c.toNat) = true) (hv : (digV t : Int) = w) : Form k w n a ([40, 95, 32, 66, 105, 116, 86, 101, 99, 32] ++ (t ++ [41]))
  | word (h : k = 5) (ha : a = .nil) (ht : ((bs n).all fun c => gB c.toNat) = true) (h0 : bs n ≠ []) (h1 : bs n ≠ [66, 111, 111, 108]) (h2 : bs n ≠ [73, 110, 116]) : Form k w n a (bs n)
  | bars (h : k = 5) (ha : a = .nil) (ht : ((bs n).all fun c => !decide (c.toNat = 124)) = true) : Form k w n a (124 :: (bs n ++ [124]))
  | array (h : k = 4) (k1 w1 : Int) (n1 : ByteArray) (a1 : Fo) (k2 w2 : Int) (n2 : ByteArray) (a2 : Fo) (ha : a = .cons k1 w1 n1 a1 (.cons k2 w2 n2 a2 .nil)) (h1 : shS k1 w1 n1 a1 = true) (h2 : shS k2 w2 n2 a2 = true) (p1 : plS k1 n1 a1 = true) (p2 : plS k2 n2 a2 = true) :
      Form k w n a ([40, 65, 114, 114, 97, 121, 32] ++ (bs (wrS k1 w1 n1 a1) ++ 32 :: (bs (wrS k2 w2 n2 a2) ++ [41])))

theorem all_nobar {n : ByteArray} (h : nameS n = true) : ((bs n).all fun c => !decide (c.toNat = 124)) = true := by
  unfold nameS at h
  simp only [Bool.and_eq_true, Bool.not_eq_true'] at h
  have h2 := h.2
  rw [List.any_eq_false] at h2
  rw [List.all_eq_true]
  intro c hc
  have := h2 c hc
  unfold badB at this
  simp at this ⊢
  omega

theorem digit_gB {c : Nat} (h1 : 48 ≤ c) (h2 : c ≤ 57) : gB c = true := by
  unfold gB
  simp [h1, h2]

theorem wr_form {k w : Int} {n : ByteArray} {a : Fo} (hs : shS k w n a = true) (hp : plS k n a = true) : Form k w n a (bs (wrS k w n a)) := by
  have hs0 := hs
  rcases shS_cases hs with ⟨rfl, hk⟩ | ⟨rfl, k1, w1, n1, a1, k2, w2, n2, a2, rfl, h1, h2⟩
  · rcases hk with rfl | rfl | ⟨rfl, h1, h2⟩ | ⟨h56, hn⟩
    · exact .bool rfl rfl
    · exact .int rfl rfl
    · obtain ⟨s, h5, h6, h7, h8⟩ := itoa_full h1 h2
      have e : bs (wrS 3 w n .nil) = [40, 95, 32, 66, 105, 116, 86, 101, 99, 32] ++ (bs s ++ [41]) := by
        simp only [wrS, if_neg (show ¬ ((3 : Int) = 1) by omega), if_neg (show ¬ ((3 : Int) = 2) by omega), if_true, h5, Option.getD_some, bs_app]
        rw [List.append_assoc]
        rfl
      rw [e]
      refine .bits rfl rfl _ ?_ h8
      rw [List.all_eq_true] at h7 ⊢
      intro c hc
      have := h7 c hc
      simp only [Bool.and_eq_true, decide_eq_true_eq] at this
      exact digit_gB this.1 this.2
    · have h6 : ¬ k = 6 := by
        intro h
        subst h
        simp [plS] at hp
      have h5 : k = 5 := by omega
      subst h5
      have e : wrS 5 w n .nil = quoteS n := by
        simp only [wrS, if_neg (show ¬ ((5 : Int) = 1) by omega), if_neg (show ¬ ((5 : Int) = 2) by omega), if_neg (show ¬ ((5 : Int) = 3) by omega)]
      rw [e]
      unfold quoteS
      cases hq : simpS n with
      | true =>
        simp only [if_true]
        unfold simpS at hq
        simp only [Bool.and_eq_true] at hq
        have hpos := (name_pos hn).1
        have hne : ¬ (n = ⟨#[66, 111, 111, 108]⟩ ∨ n = ⟨#[73, 110, 116]⟩) := by
          intro h
          simp [plS, h] at hp
        refine .word rfl rfl hq.1.2 ?_ ?_ ?_
        · intro h
          have := bs_len n
          rw [h] at this
          simp at this
          omega
        · exact fun h => hne (.inl (bs_inj h))
        · exact fun h => hne (.inr (bs_inj h))
      | false =>
        simp only [Bool.false_eq_true, if_false, bs_app]
        exact .bars rfl rfl (all_nobar hn)
  · have hp' : plS k1 n1 a1 = true ∧ plS k2 n2 a2 = true := by
      simp only [plS, if_neg (show ¬ ((4 : Int) = 6) by omega), if_neg (show ¬ ((4 : Int) = 5 ∧ (n = ⟨#[66, 111, 111, 108]⟩ ∨ n = ⟨#[73, 110, 116]⟩)) by omega), plF, Bool.and_eq_true] at hp
      exact ⟨hp.1, hp.2.1⟩
    have e : bs (wrS 4 w n (.cons k1 w1 n1 a1 (.cons k2 w2 n2 a2 .nil))) = [40, 65, 114, 114, 97, 121, 32] ++ (bs (wrS k1 w1 n1 a1) ++ 32 :: (bs (wrS k2 w2 n2 a2) ++ [41])) := by
      simp only [wrS, bs_app]
      simp only [List.append_assoc]
      rfl
    rw [e]
    exact .array rfl k1 w1 n1 a1 k2 w2 n2 a2 rfl h1 h2 hp'.1 hp'.2

/-- What is fixed of a sort that is shaped. -/
theorem sh_fixed {k w : Int} {n : ByteArray} {a : Fo} (h : shS k w n a = true) : (k ≠ 3 → w = 0) ∧ (k ≠ 5 → k ≠ 6 → n = emptyT) := by
  simp only [shS, Bool.and_eq_true] at h
  have h1 := h.1
  simp only [headS, ba_list] at h1
  split at h1
  · simp only [Bool.and_eq_true, decide_eq_true_eq] at h1
    exact ⟨fun _ => h1.1.1, fun _ _ => h1.1.2⟩
  · split at h1
    · rename_i hk
      simp only [Bool.and_eq_true, decide_eq_true_eq] at h1
      exact ⟨fun h => absurd hk h, fun _ _ => h1.1.2⟩
    · split at h1
      · simp only [Bool.and_eq_true, decide_eq_true_eq] at h1
        exact ⟨fun _ => h1.1.1, fun _ _ => h1.1.2⟩
      · split at h1
        · rename_i hk
          simp only [Bool.and_eq_true, decide_eq_true_eq] at h1
          exact ⟨fun _ => h1.1.1, fun h5 h6 => by omega⟩
        · cases h1

theorem sm_refl_nil {k w : Int} {n : ByteArray} : smS k w n .nil k w n .nil = true := by
  simp [smS, smF]

theorem g40 : gB (40 : UInt8).toNat = false := by decide
theorem g124 : gB (124 : UInt8).toNat = false := by decide
theorem g32 : gB (32 : UInt8).toNat = false := by decide
theorem g41 : gB (41 : UInt8).toNat = false := by decide

theorem wr_inj : ∀ (d : Nat) (k w : Int) (n : ByteArray) (a : Fo) (k' w' : Int) (n' : ByteArray) (a' : Fo) (r r' : List UInt8), a.dep < d → shS k w n a = true → shS k' w' n' a' = true → plS k n a = true → plS k' n' a' = true → sepR r → sepR r' →
    bs (wrS k w n a) ++ r = bs (wrS k' w' n' a') ++ r' → smS k w n a k' w' n' a' = true ∧ r = r' := by
  intro d
  induction d with
  | zero => intro k w n a k' w' n' a' r r' h; omega
  | succ d ih =>
    intro k w n a k' w' n' a' r r' hd hs hs' hp hp' hr hr' he
    have F := wr_form hs hp
    have F' := wr_form hs' hp'
    have X := sh_fixed hs
    have X' := sh_fixed hs'
    generalize bs (wrS k w n a) = t at F he
    generalize bs (wrS k' w' n' a') = t' at F' he
    -- words against words
    have hw : (t.all fun c => gB c.toNat) = true → (t'.all fun c => gB c.toNat) = true → t = t' ∧ r = r' := fun h h' => word_eq t t' r r' h h' hr hr' he
    have headNe : ∀ {c c' : UInt8} {u u' : List UInt8}, t = c :: u → t' = c' :: u' → c = c' := by
      intro c c' u u' h h'
      rw [h, h'] at he
      simp only [List.cons_append, List.cons.injEq] at he
      exact he.1
    cases F with
    | bool h ha =>
      subst h ha
      cases F' with
      | bool h' ha' =>
        subst h' ha'
        obtain ⟨_, e⟩ := hw (by decide) (by decide)
        obtain rfl := X.1 (by omega)
        obtain rfl := X'.1 (by omega)
        obtain rfl := X.2 (by omega) (by omega)
        obtain rfl := X'.2 (by omega) (by omega)
        exact ⟨sm_refl_nil, e⟩
      | int h' ha' => have := (hw (by decide) (by decide)).1; cases this
      | bits => have := headNe rfl rfl; cases this
      | word h' ha' ht' h0' h1' h2' => exact absurd (hw (by decide) ht').1.symm h1'
      | bars => have := headNe rfl rfl; cases this
      | array => have := headNe rfl rfl; cases this
    | int h ha =>
      subst h ha
      cases F' with
      | bool h' ha' => have := (hw (by decide) (by decide)).1; cases this
      | int h' ha' =>
        subst h' ha'
        obtain ⟨_, e⟩ := hw (by decide) (by decide)
        obtain rfl := X.1 (by omega)
        obtain rfl := X'.1 (by omega)
        obtain rfl := X.2 (by omega) (by omega)
        obtain rfl := X'.2 (by omega) (by omega)
        exact ⟨sm_refl_nil, e⟩
      | bits => have := headNe rfl rfl; cases this
      | word h' ha' ht' h0' h1' h2' => exact absurd (hw (by decide) ht').1.symm h2'
      | bars => have := headNe rfl rfl; cases this
      | array => have := headNe rfl rfl; cases this
    | bits h ha t1 ht hv =>
      subst h ha
      cases F' with
      | bool => have := headNe rfl rfl; cases this
      | int => have := headNe rfl rfl; cases this
      | bits h' ha' t1' ht' hv' =>
        subst h' ha'
        simp only [List.cons_append, List.nil_append, List.cons.injEq, true_and, List.append_assoc] at he
        obtain ⟨e1, e2⟩ := word_eq t1 t1' _ _ ht ht' (.inr ⟨41, r, rfl, g41⟩) (.inr ⟨41, r', rfl, g41⟩) he
        subst e1
        rw [hv] at hv'
        subst hv'
        obtain rfl := X.2 (by omega) (by omega)
        obtain rfl := X'.2 (by omega) (by omega)
        simp only [List.cons.injEq, true_and] at e2
        exact ⟨sm_refl_nil, e2⟩
      | word h' ha' ht' h0' =>
        exfalso
        cases hb : bs n' with
        | nil => exact h0' hb
        | cons c u =>
          have := headNe rfl hb
          rw [hb, ← this] at ht'
          simp only [List.all_cons, Bool.and_eq_true, g40] at ht'
          cases ht'.1
      | bars => have := headNe rfl rfl; cases this
      | array =>
        exfalso
        simp only [List.cons_append, List.nil_append, List.cons.injEq] at he
        exact absurd he.2.1 (by decide)
    | word h ha ht h0 h1 h2 =>
      subst h ha
      cases F' with
      | bool => exact absurd (hw ht (by decide)).1 h1
      | int => exact absurd (hw ht (by decide)).1 h2
      | bits =>
        exfalso
        cases hb : bs n with
        | nil => exact h0 hb
        | cons c u =>
          have := headNe hb rfl
          rw [hb, this] at ht
          simp only [List.all_cons, Bool.and_eq_true, g40] at ht
          cases ht.1
      | word h' ha' ht' h0' h1' h2' =>
        subst h' ha'
        obtain ⟨e1, e2⟩ := hw ht ht'
        obtain rfl := bs_inj e1
        obtain rfl := X.1 (by omega)
        obtain rfl := X'.1 (by omega)
        exact ⟨sm_refl_nil, e2⟩
      | bars =>
        exfalso
        cases hb : bs n with
        | nil => exact h0 hb
        | cons c u =>
          have := headNe hb rfl
          rw [hb, this] at ht
          simp only [List.all_cons, Bool.and_eq_true, g124] at ht
          cases ht.1
      | array =>
        exfalso
        cases hb : bs n with
        | nil => exact h0 hb
        | cons c u =>
          have := headNe hb rfl
          rw [hb, this] at ht
          simp only [List.all_cons, Bool.and_eq_true, g40] at ht
          cases ht.1
    | bars h ha ht =>
      subst h ha
      cases F' with
      | bool => have := headNe rfl rfl; cases this
      | int => have := headNe rfl rfl; cases this
      | bits => have := headNe rfl rfl; cases this
      | word h' ha' ht' h0' =>
        exfalso
        cases hb : bs n' with
        | nil => exact h0' hb
        | cons c u =>
          have := headNe rfl hb
          rw [hb, ← this] at ht'
          simp only [List.all_cons, Bool.and_eq_true, g124] at ht'
          cases ht'.1
      | bars h' ha' ht' =>
        subst h' ha'
        simp only [List.cons_append, List.cons.injEq, true_and, List.append_assoc, List.nil_append] at he
        obtain ⟨e1, e2⟩ := bar_eq _ _ r r' ht ht' he
        obtain rfl := bs_inj e1
        obtain rfl := X.1 (by omega)
        obtain rfl := X'.1 (by omega)
        exact ⟨sm_refl_nil, e2⟩
      | array => have := headNe rfl rfl; cases this
    | array h k1 w1 n1 a1 k2 w2 n2 a2 ha g1 g2 p1 p2 =>
      subst h ha
      simp only [Fo.dep] at hd
      cases F' with
      | bool => have := headNe rfl rfl; cases this
      | int => have := headNe rfl rfl; cases this
      | bits =>
        exfalso
        simp only [List.cons_append, List.nil_append, List.cons.injEq] at he
        exact absurd he.2.1 (by decide)
      | word h' ha' ht' h0' =>
        exfalso
        cases hb : bs n' with
        | nil => exact h0' hb
        | cons c u =>
          have := headNe rfl hb
          rw [hb, ← this] at ht'
          simp only [List.all_cons, Bool.and_eq_true, g40] at ht'
          cases ht'.1
      | bars => have := headNe rfl rfl; cases this
      | array h' k1' w1' n1' a1' k2' w2' n2' a2' ha' g1' g2' p1' p2' =>
        subst h' ha'
        simp only [List.cons_append, List.nil_append, List.cons.injEq, true_and, List.append_assoc] at he
        obtain ⟨e1, e2⟩ := ih k1 w1 n1 a1 k1' w1' n1' a1' _ _ (by omega) g1 g1' p1 p1' (.inr ⟨32, _, rfl, g32⟩) (.inr ⟨32, _, rfl, g32⟩) he
        simp only [List.cons.injEq, true_and] at e2
        obtain ⟨e3, e4⟩ := ih k2 w2 n2 a2 k2' w2' n2' a2' _ _ (by omega) g2 g2' p2 p2' (.inr ⟨41, _, rfl, g41⟩) (.inr ⟨41, _, rfl, g41⟩) e2
        simp only [List.cons.injEq, true_and] at e4
        obtain rfl := X.1 (by omega)
        obtain rfl := X'.1 (by omega)
        obtain rfl := X.2 (by omega) (by omega)
        obtain rfl := X'.2 (by omega) (by omega)
        refine ⟨?_, e4⟩
        simp only [smS, smF, decide_true, Bool.true_and, Bool.and_true, beq_self_eq_true] at e1 e3 ⊢
        rw [e1, e3]
        rfl

/-- And the other way: one sort, one text. -/
theorem sm_eq : ∀ (a a' : Fo), smF a a' = true → a = a'
  | .nil, .nil, _ => rfl
  | .nil, .cons .., h => by simp [smF] at h
  | .cons .., .nil, h => by simp [smF] at h
  | .cons k w n a r, .cons k' w' n' a' r', h => by
    simp only [smF, Bool.and_eq_true, decide_eq_true_eq, ba_list] at h
    obtain ⟨⟨rfl, rfl, rfl, h4⟩, h5⟩ := h
    rw [sm_eq a a' h4, sm_eq r r' h5]

theorem smS_eq {k w : Int} {n : ByteArray} {a : Fo} {k' w' : Int} {n' : ByteArray} {a' : Fo} (h : smS k w n a k' w' n' a' = true) : k = k' ∧ w = w' ∧ n = n' ∧ a = a' := by
  simp only [smS, Bool.and_eq_true, decide_eq_true_eq, ba_list] at h
  exact ⟨h.1, h.2.1, h.2.2.1, sm_eq a a' h.2.2.2⟩

theorem wr_iff {k w : Int} {n : ByteArray} {a : Fo} {k' w' : Int} {n' : ByteArray} {a' : Fo} (hs : shS k w n a = true) (hs' : shS k' w' n' a' = true) (hp : plS k n a = true) (hp' : plS k' n' a' = true) :
    ((wrS k w n a).toList == (wrS k' w' n' a').toList) = smS k w n a k' w' n' a' := by
  rw [ba_list]
  cases hq : smS k w n a k' w' n' a' with
  | true =>
    obtain ⟨rfl, rfl, rfl, rfl⟩ := smS_eq hq
    simp
  | false =>
    rw [decide_eq_false]
    intro he
    have := (wr_inj (a.dep + 1) k w n a k' w' n' a' [] [] (by omega) hs hs' hp hp' (.inl rfl) (.inl rfl) (by rw [he])).1
    rw [hq] at this
    cases this

theorem wr_pos {k w : Int} {n : ByteArray} {a : Fo} (hs : shS k w n a = true) : 0 < (wrS k w n a).size := by
  rcases shS_cases hs with ⟨rfl, hk⟩ | ⟨rfl, k1, w1, n1, a1, k2, w2, n2, a2, rfl, h1, h2⟩
  · simp only [wrS]
    split
    · decide
    · split
      · decide
      · split
        · rw [ByteArray.size_append, ByteArray.size_append]
          have e1 : (⟨#[40, 95, 32, 66, 105, 116, 86, 101, 99, 32]⟩ : ByteArray).size = 10 := rfl
          rw [e1]; omega
        · have hn : nameS n = true := by
            rcases hk with h | h | h | h
            · omega
            · omega
            · omega
            · exact h.2
          unfold quoteS
          split
          · exact (name_pos hn).1
          · rw [ByteArray.size_append, ByteArray.size_append]
            have e1 : (⟨#[124]⟩ : ByteArray).size = 1 := rfl
            rw [e1]; omega
  · simp only [wrS, ByteArray.size_append]
    have e1 : (⟨#[40, 65, 114, 114, 97, 121, 32]⟩ : ByteArray).size = 7 := rfl
    rw [e1]; omega

theorem plain_spec (c : Nat) {H : AH} : ∀ (d fuel : Nat) (k w : Int) (n : ByteArray) (s : Sl3) (a : Fo), SlF H s a → a.dep ≤ fuel → a.dep < d → fam_law04_plain (LCo c) (fuel + 1) H k w n s = some (plS k n a) := by
  intro d
  induction d with
  | zero => intro fuel k w n s a _ _ h; omega
  | succ d ih =>
    intro fuel k w n s a h hf hd
    show law04_plain_body (LCo c) (fam_law04_plain (LCo c) fuel) H k w n s = _
    unfold law04_plain_body plS
    have loop : (Option.bind ((LCo c).run (law04_plain_b0 (LCo c) (fam_law04_plain (LCo c) fuel) H k w n s) 0) fun o => match o with | .inl _ => some true | .inr r => some r) = some (plF a) := by
      show Option.bind (loopO (law04_plain_b0 (LCo c) (fam_law04_plain (LCo c) fuel) H k w n s) ((0 : Nat) : Int)) _ = _
      rw [all_loop (fun k w n a => plS k n a) plF rfl (fun _ _ _ _ _ => rfl) a s 0 h.2.2 (by rw [h.1]; omega) h.2.1 ?_ ?_]
      · cases plF a <;> rfl
      · intro j hj k1 w1 n1 a1 r f1 f3
        unfold law04_plain_b0
        obtain ⟨q1, t1, p1, p2, p3, p4, p5, p6, p7, p8⟩ := f1.rd hj
        obtain ⟨g', rfl⟩ : ∃ g', fuel = g' + 1 := ⟨fuel - 1, by omega⟩
        have hr := ih g' k1 w1 n1 t1 a1 p6 (by omega) (by omega)
        simp only [if_pos (show (j : Int) < (s.n : Int) by omega), p1, p2, p3, p4, p5, Option.bind_some, hr]
        cases plS k1 n1 a1 <;> rfl
      · unfold law04_plain_b0
        rw [if_neg (by omega)]
    simp only [ba_list]
    by_cases e6 : k = 6
    · simp [e6]
    · by_cases e5 : k = 5
      · by_cases eB : n = ⟨#[66, 111, 111, 108]⟩
        · simp [e5, eB]
        · by_cases eI : n = ⟨#[73, 110, 116]⟩
          · simp [e5, eI]
          · have hne : ¬ (k = 5 ∧ (n = ⟨#[66, 111, 111, 108]⟩ ∨ n = ⟨#[73, 110, 116]⟩)) := by
              rintro ⟨_, h | h⟩
              · exact eB h
              · exact eI h
            simp only [if_neg e6, if_pos e5, decide_eq_false eB, decide_eq_false eI, Bool.false_eq_true, if_false, Option.bind_some, if_neg hne]
            exact loop
      · have hne : ¬ (k = 5 ∧ (n = ⟨#[66, 111, 111, 108]⟩ ∨ n = ⟨#[73, 110, 116]⟩)) := fun h => e5 h.1
        simp only [if_neg e6, if_neg e5, Option.bind_some, Bool.false_eq_true, if_false, if_neg hne]
        exact loop

theorem Apart_true (L0 fuel : Nat) (hF : L0 = 2 * fuel + 2) (m : Nat) {H : AH} (hT : HasT H) {k w : Int} {n : ByteArray} {s : Sl3} {a : Fo} (h : SlF H s a) (hn : n.size ≤ maxS) (hd : a.dep ≤ fuel)
    {k' w' : Int} {n' : ByteArray} {s' : Sl3} {a' : Fo} (h' : SlF H s' a') (hn' : n'.size ≤ maxS) (hd' : a'.dep ≤ fuel) : ∃ H', law04_SortApart (LCo L0) m H k w n s k' w' n' s' = some (true, H') := by
  unfold law04_SortApart
  obtain ⟨H1, t1, x1⟩ := Text_spec L0 (2 * fuel + 1) hF m hT h hn (by omega) (k := k) (w := w)
  rw [t1]
  simp only [Option.bind_some]
  obtain ⟨H2, t2, x2⟩ := Text_spec L0 (2 * fuel + 1) hF m (hT.ext x1) (h'.ext x1) hn' (by omega) (k := k') (w := w')
  rw [t2]
  simp only [Option.bind_some]
  have hx := x1.trans x2
  rw [awake_run _ (hT.ext hx)]
  simp only [Option.bind_some, if_true]
  have e1 : (LCo L0).fuel = 2 * fuel + 1 + 1 := hF
  by_cases hw : wrongS k w n a = 0
  · have c1 : textS k w n a = (wrS k w n a, 0) := by unfold textS; rw [if_pos hw]
    obtain ⟨z1, _, _⟩ := wrong_zero hw
    rw [c1]
    simp only [if_true, Option.bind_some, Bool.false_eq_true, if_false]
    by_cases hw' : wrongS k' w' n' a' = 0
    · have c2 : textS k' w' n' a' = (wrS k' w' n' a', 0) := by unfold textS; rw [if_pos hw']
      obtain ⟨z2, _, _⟩ := wrong_zero hw'
      rw [c2]
      simp only [decide_true, Bool.not_true, Bool.false_eq_true, if_false]
      have hpos := wr_pos z1
      have hpos' := wr_pos z2
      have d1 : decide (((wrS k w n a).size : Int) > 0) = true := decide_eq_true (by omega)
      have d2 : decide (((wrS k' w' n' a').size : Int) > 0) = true := decide_eq_true (by omega)
      have al : law04_alike (LCo L0) H2 k w n s k' w' n' s' = some (plS k n a && plS k' n' a') := by
        unfold law04_alike law04_plain
        rw [e1, plain_spec L0 (a.dep + 1) (2 * fuel + 1) k w n s a (h.ext hx) (by omega) (by omega), plain_spec L0 (a'.dep + 1) (2 * fuel + 1) k' w' n' s' a' (h'.ext hx) (by omega) (by omega)]
        simp only [Option.bind_some]
        cases plS k n a <;> rfl
      rw [al]
      simp only [Option.bind_some]
      cases q1 : plS k n a with
      | false =>
        simp only [Bool.false_and, Bool.false_eq_true, if_false, if_pos (show ((wrS k w n a).size : Int) > 0 by omega), d2]
        exact ⟨H2, rfl⟩
      | true =>
        cases q2 : plS k' n' a' with
        | false =>
          simp only [Bool.and_false, Bool.false_eq_true, if_false, if_pos (show ((wrS k w n a).size : Int) > 0 by omega), d2]
          exact ⟨H2, rfl⟩
        | true =>
          simp only [Bool.and_self, if_true]
          unfold sort_Same
          rw [e1, Same_spec L0 (a.dep + 1) (2 * fuel + 1) k w n s a k' w' n' s' a' (h.ext hx) (h'.ext hx) (by omega) (by omega)]
          simp only [Option.bind_some, wr_iff z1 z2 q1 q2, beq_self_eq_true, if_true, d1]
          exact ⟨H2, rfl⟩
    · have c2 : textS k' w' n' a' = (emptyT, wrongS k' w' n' a') := by unfold textS; rw [if_neg hw']
      rw [c2]
      simp only [decide_eq_false hw', Bool.not_false, if_true]
      exact ⟨H2, rfl⟩
  · have c1 : textS k w n a = (emptyT, wrongS k w n a) := by unfold textS; rw [if_neg hw]
    rw [c1]
    have : (emptyT.toList == (⟨#[]⟩ : ByteArray).toList) = true := by rw [ba_list]; rfl
    simp only [if_neg hw, this, Bool.not_true, Option.bind_some, Bool.false_eq_true, if_false, if_true]
    exact ⟨H2, rfl⟩

end Go.Proofs.YtccbilfbhecdaaaDoor


namespace Go.Proofs.YtccbilfbhecdaaaDoor
open Go Go.Abs Go.ChangeShapes Go.WideShapes
set_option maxRecDepth 100000

theorem apart_calls {H : Type} {enc : TypeId × Value → H} {W : World} {base : Nat} {args : Array Value} {ds : List (DataW H)} {ps : List MemPlace} (hg : Tryd.prog.globals.size ≤ W.heap.size)
    (hval : ∀ (j : Nat) t v, Tryd.f12.params[j]? = some t → args[j]? = some v → Value.okWide Tryd.prog W .any base t v)
    (hA : DataW.TrodAll enc Tryd.prog W 0 (fun _ => true) true Tryd.f12.params.toList args.toList ds ps) (hk : Rows.uptoSmall H ds = true) (hL : laidMet Tryd.prog Rows.sortApartUptoRow.laid W) (hsh : W.ShapedOpen Tryd.prog)
    (hwt : (DataW.weightsEach Tryd.prog (Tryd.f12.params.toList ++ []) ds).all (· ≤ reachBytes) = true) :
    Calls Tryd.prog 12 args W fun e W' => e = .returned (.bool true) ∧ RowKit.Below W.heap.size W W' := by
  rw [Tryd.params12] at hA hval hwt
  obtain ⟨v0, vs0, d0, ds0, p0, q0, hargs, rfl, rfl, h0, r0⟩ := trodAll_cons hA
  obtain ⟨v1, vs1, d1, ds1, p1, q1, rfl, rfl, rfl, h1, r1⟩ := trodAll_cons r0
  obtain ⟨rfl, rfl, rfl⟩ := trodAll_nil r1
  obtain rfl : args = #[v0, v1] := by cases args; simp_all
  have hb := bulks.bound hk
  simp only [Rows.uptoBulkAll] at hb
  simp only [List.append_nil, DataW.weightsEach, List.all_append, Bool.and_eq_true] at hwt
  obtain ⟨φ0, H0x, k0, w0, n0, s0, a0, i0, le0, e0, vr0, sl0, hn0⟩ := import_sort (start_at hg hL hsh) h0 (hval 0 28 v0 rfl rfl) hwt.1
  obtain ⟨φ1, H1x, k1, w1, n1, s1, a1, i1, le1, e1, vr1, sl1, hn1⟩ := import_sort i0 h1 (hval 1 28 v1 rfl rfl) hwt.2
  obtain ⟨H', hr⟩ := Apart_true (2 * max a0.dep a1.dep + 2) (max a0.dep a1.dep) rfl H1x.next (hasT_start.ext (e0.trans e1)) (sl0.ext e1) hn0 (Nat.le_max_left _ _) sl1 hn1 (Nat.le_max_right _ _) (k := k0) (w := w0) (k' := k1) (w' := w1)
  exact true_of_callI (ne := NE.plain 1000) sane (law04_SortApart_ok hr) i1 (ar2 (vr0.mono le1) vr1)

theorem apart_reads (os : Os) {H : Type} (enc : TypeId × Value → H) : ∃ x, DataW.whole enc Tryd.prog ((laidW2 Tryd.prog Rows.sortApartUptoRow.laid os).forCall (fun _ _ => 0) ⟨#[], #[.agg #[.int .i64 0, .int .i64 0, .string ⟨#[]⟩, .slice none 0 0], .agg #[.int .i64 0, .int .i64 0, .string ⟨#[]⟩, .slice none 0 0]], []⟩).memory Tryd.f12.params.toList Rows.sortApartSpec.vars false (#[.agg #[.int .i64 0, .int .i64 0, .string ⟨#[]⟩, .slice none 0 0], .agg #[.int .i64 0, .int .i64 0, .string ⟨#[]⟩, .slice none 0 0]] : Array Value).toList 8 = some ([.agg [.lit (.int .i64 0), .lit (.int .i64 0), .lit (.string []), .nil], .agg [.lit (.int .i64 0), .lit (.int .i64 0), .lit (.string []), .nil]], [], x) :=
  ⟨[], by kernel_rfl⟩

theorem apart_lifted (os : Os) (started : os.Started) (H : Type) (enc : TypeId × Value → H) (F : Stop.Interp) :
    ReturnsInHanded {} Tryd.checked os 12 .any ((Rows.OpenSpec.upto Rows.sortApartSpec).preRow enc Tryd.prog Tryd.f12 Rows.sortApartUptoRow.domain false Rows.sortApartUptoRow.laid) (((Rows.OpenSpec.upto Rows.sortApartSpec).at F).post enc Tryd.prog Tryd.f12 false true false false) := by
  obtain ⟨x, hx⟩ := apart_reads os enc
  exact lifted_row_tabs (C := Tryd.checked) (s := Rows.OpenSpec.upto Rows.sortApartSpec) (k := Rows.uptoSmall) rfl own started (by kernel_rfl) Tryd.func12 globals_ok laidOut (by kernel_rfl) rfl (by kernel_rfl)
    (fun ds hds => by
      have h1 : ds.length = 2 := hds
      match ds, h1 with
      | [d0, d1], _ => exact ⟨rfl, rfl, rfl⟩)
    rfl (by kernel_rfl)
    (witness_row_atRef (enc := enc) (C := Tryd.checked) false (laidW2 Tryd.prog Rows.sortApartUptoRow.laid os) #[.agg #[.int .i64 0, .int .i64 0, .string ⟨#[]⟩, .slice none 0 0], .agg #[.int .i64 0, .int .i64 0, .string ⟨#[]⟩, .slice none 0 0]] rfl (by kernel_rfl) (by kernel_rfl) (by kernel_rfl)
      (OpenSpec.preRow_of_cond 8 hx (by kernel_rfl) (fun k hk => by cases hk; kernel_rfl) (by kernel_rfl) (laid_met os _)))
    (fun W base args ds ps hg hval hA hk hL hsh hwt => apart_calls hg hval hA hk hL hsh hwt)

theorem apart_said : Rows.SortApartUptoSaid :=
  OpenClaim.holds_of_cond 12 Tryd.f12 rfl rfl rfl rfl rfl rfl rfl ⟨rfl, rfl, rfl, rfl, rfl⟩ rfl rfl rfl rfl rfl (by kernel_rfl) Tryd.func12 (by kernel_rfl)
    (of_decide_eq_true (by kernel_rfl)) (by unfold Func.isWrapper; first | (rw [if_pos (by decide +kernel)]; kernel_rfl) | (rw [if_neg (by decide +kernel)]; exact ⟨rfl, rfl⟩))
    (fun os started H enc _ F => by rw [OpenClaim.pre_eq_preRow]; exact apart_lifted os started H enc F)

theorem apart_plain (f : FuncId) (fn : Func) (hf : Tryd.pinned.checked.prog.funcNamed "tribunal/tribunallaw04.SortApart" = some f) (hfn : Tryd.pinned.checked.prog.funcs[f]? = some fn) :
    false = Tryd.pinned.checked.prog.looks [] ∧ ∀ (j : Nat) t, fn.params[j]? = some t → Tryd.pinned.checked.prog.wantsStandIn t = false := by
  obtain rfl : f = 12 := Option.some.inj ((show Tryd.prog.funcNamed "tribunal/tribunallaw04.SortApart" = some 12 by kernel_rfl).symm.trans hf) |>.symm
  obtain rfl : fn = Tryd.f12 := (Option.some.inj (Tryd.func12.symm.trans hfn)).symm
  exact ⟨by kernel_rfl, fun j t ht => by
    have hall : (Tryd.f12.params.toList.all fun u => !Tryd.prog.wantsStandIn u) = true := by kernel_rfl
    have hm : t ∈ Tryd.f12.params.toList := by simpa using Array.mem_of_getElem? ht
    exact (show Tryd.prog.wantsStandIn t = false by simpa using List.all_eq_true.1 hall t hm)⟩

theorem sortApart_holds : Rows.SortApartUptoCardSaid :=
  Claim7.holds_tied_plain_at .later [] _ _ _ _ apart_said (fun _ h => by cases h) (by kernel_rfl) (fun _ h => by cases h) sortApartUpto_row_tie rfl ⟨rfl, rfl⟩ (by kernel_rfl) rfl apart_plain (by kernel_rfl)

#print axioms sortApart_holds
end Go.Proofs.YtccbilfbhecdaaaDoor

