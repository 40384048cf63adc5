/- Parts of the proof: an abstract interpreter of the loaded program and its soundness, printed functions, the law's own texts; part 5. No condition. -/
import Derived.Test.YtgkhbmoidenjaaaDoorOw4
namespace Go.Proofs.YtgkhbmoidenjaaaDoor
open Go Go.Abs
open Go.Value renaming int → vI, string → vS', pointer → vP, agg → vA, bool → vB
set_option maxRecDepth 100000
def z54:AH→Value
 | _=>(Value.tuple #[])
def z6o (_:AH):AH→AH:=fun r=>r
noncomputable def B29:Code:=(Tryd.f29.body).getD .skip
noncomputable def i6 (_L:LC) (m:Nat) (a0:Sl3) (v6_5 v7_6:Int):(AH×Int)→Option (Lp (AH×Int) AH):=fun (H7,v8_8) =>
 if v8_8<(a0.n:Int) then
  Option.bind (α:=AH) (
   (idxA 1 a0 v8_8).bind fun p10 => (rd (deI .i64) H7 p10).bind fun x11 => if x11=v7_6 then
    (idxA 1 a0 v8_8).bind fun p12 => (H7.setCell m p12 (vI .i64 v6_5)).bind fun H13 => some H13
   else
    some H7) fun H9 =>
  some (.next (H9,(IntKind.i64.wrap (v8_8+1))))
 else
  some (.brk (H7,v8_8))
def z9k (_L:LC) (_m:Nat) (a0:Sl3) (v6_5 v7_6:Int):(AH×Int)→KN×Lcs:=fun (_,v8_8)=>([kI 8 v8_8,kS 0 a0,kI 6 v6_5,kI 7 v7_6],[])
noncomputable def G7 (L:LC) (m:Nat) (H:AH) (a0:Sl3) (a1 a2:Int):Option AH :=
 (idxA 1 a0 a1).bind fun p1 => (rd (deI .i64) H p1).bind fun x2 => (idxA 1 a0 a2).bind fun p3 => (rd (deI .i64) H p3).bind fun x4 => Option.bind (α:=(Int×Int)) (
  if x4<x2 then
   some (x4,x2)
  else
   some (x2,x4)) fun (v6_5,v7_6) =>
 (L.run (i6 L m a0 v6_5 v7_6) (H,0)).bind fun o=>match o with
 | .inl (H14,_) =>
  some H14
 | .inr r=>some r
theorem z2r {E H L m a0 v6_5 v7_6} :LoopF Tryd.prog (NE.plain 1000) m E Tryd.f29 ((cfst (csnd (csnd (csnd B29))))) (z9k L m a0 v6_5 v7_6) (fun s=>s.1) 0 z54 (z6o H) (i6 L m a0 v6_5 v7_6):=by
 rintro ⟨H7,v8_8⟩ o h
 unfold i6 at h;try dsimp only at h
 refine B0 (B0 (WS.rg (u0 4 [kB 25 (decide (v8_8<(a0.n:Int))),kI 24 (a0.n:Int),kS 23 a0,kI 22 v8_8] (RS.dn (A0 ?_)))));rcases Y0 h with ⟨hp,h⟩ | ⟨hp,h⟩
 ·refine D0 25 true (decide_eq_true hp) (I0 (K0 (A0 ?_)));obtain ⟨H9,hx,h⟩:=bind_some h;refine B0 ?_;refine WS.join ([kS 0 a0,kI 6 v6_5,kI 7 v7_6,kI 8 v8_8]) ([]) H9 ?_ (fun a w hs=>A0 ?_ a w hs)
  ·clear h; rename _=>h;refine M0 1 (B0 (WS.rg (u0 2 [kI 29 v8_8,kS 28 a0] ?_)));obtain ⟨p10,hx,h⟩:=bind_some h;refine T0 30 27 3 (.tmp 28) (.tmp 29) hx ?_;obtain ⟨x11,hx,h⟩:=bind_some h;refine P0 31 3 (.tmp 30) (X0 hx Z0) (u0 2 [kB 33 (decide (x11=v7_6)),kI 32 v7_6] (RS.dn (A0 ?_)));rcases Y0 h with ⟨hp,h⟩ | ⟨hp,h⟩
   ·refine D0 33 true (decide_eq_true hp) (I0 (WS.rg (u0 3 [kI 36 v6_5,kI 35 v8_8,kS 34 a0] ?_)));obtain ⟨p12,hx,h⟩:=bind_some h;refine T0 37 27 3 (.tmp 34) (.tmp 35) hx ?_;obtain ⟨H13,hx,h⟩:=bind_some h;refine RS.o (H':=H13) none undef (Abs.run_store1 (t:=3) (x:=.tmp 37) (y:=.tmp 36) (a:=p12) (v:=(vI .i64 v6_5)) (by kernel_rfl) (by kernel_rfl) (by kernel_rfl) (by kernel_rfl) (by kernel_rfl) hx) (RS.dn ?_);cases h;exact fun a w hs=>bkN ((jsN (hs.sb 0)))
   ·refine D0 33 false (decide_eq_false hp) (J0 (K0 ?_));cases h;exact fun a w hs=>bkN ((jsN (hs.sb 0)))
  ·clear hx;refine WS.rg (u0 3 [kI 8 (IntKind.i64.wrap (v8_8+1)),kI 27 (IntKind.i64.wrap (v8_8+1)),kI 26 v8_8] (RS.dn ?_));cases h;exact fun a w hs=>lsN rfl (hs.sb 0)
 ·refine D0 25 false (decide_eq_false hp) (J0 (WS.ex 0 ?_));cases h;exact fun a w hs=>sqE (lsB rfl (hs.sb 0))
theorem z6l {L:LC} {m:Nat} {H:AH} {a0:Sl3} {a1 a2:Int} {r:AH} (h:G7 L m H a0 a1 a2=some r) :
  CallS Tryd.prog (NE.plain 1000) m 29 #[(Sl3.v a0),(vI .i64 a1),(vI .i64 a2)] H (z54 r) (z6o H r):=by
 refine CallS.mk (args:=[(Sl3.v a0),(vI .i64 a1),(vI .i64 a2)]) Tryd.func29 (B:=B29) (by kernel_rfl) (fun E _=>?_);unfold G7 at h;refine B0 ?_;refine Q0 [0,1,2,3,4,5,6,7] [0,0,3,7,0,0,48,112,15,511] 10 (fun hcl=>?_);refine C0 0 (some 9) (Sl3.v a0) (C0 1 (some 10) (vI .i64 a1) ?_);obtain ⟨p1,hx,h⟩:=bind_some h;refine E0 2 (some 11) (vP (some p1)) (Abs.det_idx (s:=a0) (k:=.i64) (t:=27) (e:=3) (x:=.tmp 9) (y:=.tmp 10) (by kernel_rfl) (by kernel_rfl) (by kernel_rfl) (by kernel_rfl) (by kernel_rfl) hx) ?_;obtain ⟨x2,hx,h⟩:=bind_some h;refine E0 3 (some 12) (vI .i64 x2) (Abs.det_load (t:=3) (x:=.tmp 11) (a:=p1) (by kernel_rfl) (by kernel_rfl) (by kernel_rfl) (by kernel_rfl) (X0 hx Z0)) (C0 4 (some 13) (Sl3.v a0) (C0 5 (some 14) (vI .i64 a2) ?_));obtain ⟨p3,hx,h⟩:=bind_some h;refine E0 6 (some 15) (vP (some p3)) (Abs.det_idx (s:=a0) (k:=.i64) (t:=27) (e:=3) (x:=.tmp 13) (y:=.tmp 14) (by kernel_rfl) (by kernel_rfl) (by kernel_rfl) (by kernel_rfl) (by kernel_rfl) hx) ?_;obtain ⟨x4,hx,h⟩:=bind_some h;refine E0 7 (some 16) (vI .i64 x4) (Abs.det_load (t:=3) (x:=.tmp 15) (a:=p3) (by kernel_rfl) (by kernel_rfl) (by kernel_rfl) (by kernel_rfl) (X0 hx Z0)) (DA.tP 8 (some 6) (vI .i64 x2) (DA.tP 9 (some 7) (vI .i64 x4) (DA.dn (A0 ?_))));obtain ⟨⟨v6_5,v7_6⟩,hx,h⟩:=bind_some h;try dsimp only at h
 refine B0 ?_;refine WS.join ([kI 6 v6_5,kI 7 v7_6,kS 0 a0]) ([]) H ?_ (fun a w hs=>A0 ?_ a w hs)
 ·clear h; rename _=>h;refine B0 (WS.rg (u0 3 [kB 19 (decide (x4<x2)),kI 18 x2,kI 17 x4] (RS.dn (A0 ?_))));rcases Y0 h with ⟨hp,h⟩ | ⟨hp,h⟩
  ·refine D0 19 true (decide_eq_true hp) (I0 (WS.rg (u0 4 [kI 7 x2,kI 6 x4,kI 21 x2,kI 20 x4] (RS.dn ?_))));cases h;exact fun a w hs=>(jsN (hs.sb 0))
  ·refine D0 19 false (decide_eq_false hp) (J0 (K0 ?_));cases h;exact fun a w hs=>(jsN (hs.sb 0))
 ·clear hx;refine B0 (WS.rg (u0 1 [kI 8 0] (RS.dn (A0 (M0 0 ?_)))));obtain ⟨o,hl,h⟩:=bind_some h;rcases o with ⟨H14,v8_15⟩ | r
  ·try dsimp only at h
   refine S0 (z2r (L:=L) (E:=E) (m:=m) (H:=H)) (L.ok hl) 0 ?_;clear hl;cases h;exact fun a w hs=>bkE (rtN (rS hs))
  ·try dsimp only at h
   refine R0 (z2r (L:=L) (E:=E) (m:=m) (H:=H)) (L.ok hl) 0 ?_;cases h;exact fun a w hq=>bkR (rtR hq)
def z3k:Bool→Value
 | r0=>(vB r0)
def z58 (H:AH):Bool→AH:=fun _=>H
noncomputable def B30:Code:=(Tryd.f30.body).getD .skip
noncomputable def F5 (_L:LC) (H:AH) (_a0_0:Int) (_a0_1:Bool) (a0_2:Sl3) (_a1_0:Int) (_a1_1:Bool) (a1_2 a2:Sl3):Int→Option (Lp Int Bool):=fun v7_2 =>
 if v7_2<(a0_2.n:Int) then
  (idxA 1 a0_2 v7_2).bind fun p3 => (rd (deI .i64) H p3).bind fun x4 => (idxA 1 a2 x4).bind fun p5 => (rd (deI .i64) H p5).bind fun x6 => (idxA 1 a1_2 v7_2).bind fun p7 => (rd (deI .i64) H p7).bind fun x8 => (idxA 1 a2 x8).bind fun p9 => (rd (deI .i64) H p9).bind fun x10 => if x6=x10 then
   some (.next (IntKind.i64.wrap (v7_2+1)))
  else
   some (.ret false)
 else
  some (.brk v7_2)
def z8i (_L:LC) (_H:AH) (a0_0:Int) (a0_1:Bool) (a0_2:Sl3) (a1_0:Int) (a1_1:Bool) (a1_2 a2:Sl3):Int→KN×Lcs:=fun v7_2=>([kI 7 v7_2,kS 2 a2,kL 3 0 0,kL 4 1 0],[some (42,[(vI .i64 a0_0),(vB a0_1),(Sl3.v a0_2)]),some (42,[(vI .i64 a1_0),(vB a1_1),(Sl3.v a1_2)])])
noncomputable def B9 (L:LC) (H:AH) (a0_0:Int) (a0_1:Bool) (a0_2:Sl3) (a1_0:Int) (a1_1:Bool) (a1_2 a2:Sl3):Option Bool :=
 Option.bind (α:=Bool) (
  if a0_1=true then
   some true
  else
   if a1_1=true then
    some true
   else
    if a0_0=a1_0 then
     some (!decide ((a0_2.n:Int)=(a1_2.n:Int)))
    else
     some true) fun v29_1 =>
 if v29_1=true then
  some false
 else
  (L.run (F5 L H a0_0 a0_1 a0_2 a1_0 a1_1 a1_2 a2) 0).bind fun o=>match o with
  | .inl _ =>
   some true
  | .inr r=>some r
theorem z21 {E m L H a0_0 a0_1 a0_2 a1_0 a1_1 a1_2 a2} :LoopF Tryd.prog (NE.plain 1000) m E Tryd.f30 ((cfst (csnd (cfst (csnd (csnd B30)))))) (z8i L H a0_0 a0_1 a0_2 a1_0 a1_1 a1_2 a2) (fun _=>H) 0 z3k (z58 H) (F5 L H a0_0 a0_1 a0_2 a1_0 a1_1 a1_2 a2):=by
 rintro v7_2 o h
 unfold F5 at h;try dsimp only at h
 refine B0 (B0 (WS.rg (u0 5 [kB 34 (decide (v7_2<(a0_2.n:Int))),kI 33 (a0_2.n:Int),kS 32 a0_2,kL 31 0 2,kI 30 v7_2] (RS.dn (A0 ?_)))));rcases Y0 h with ⟨hp,h⟩ | ⟨hp,h⟩
 ·refine D0 34 true (decide_eq_true hp) (I0 (K0 (A0 (B0 (M0 1 (B0 ?_))))));refine Q0 [0,1,2,3,4,5,6,7,8,9,10,11,12,13,14,15] [0,0,2,0,14,30,63,127,0,0,512,0,3584,7680,16128,32512,65535] 17 (fun hcl=>?_);refine C0 0 (some 37) (Sl3.v a2) (DA.tL 1 (some 38) (.loc 0 2) (DA.tL 2 (some 39) (.val (Sl3.v a0_2)) (C0 3 (some 40) (vI .i64 v7_2) ?_)));obtain ⟨p3,hx,h⟩:=bind_some h;refine E0 4 (some 41) (vP (some p3)) (Abs.det_idx (s:=a0_2) (k:=.i64) (t:=27) (e:=3) (x:=.tmp 39) (y:=.tmp 40) (by kernel_rfl) (by kernel_rfl) (by kernel_rfl) (by kernel_rfl) (by kernel_rfl) hx) ?_;obtain ⟨x4,hx,h⟩:=bind_some h;refine E0 5 (some 42) (vI .i64 x4) (Abs.det_load (t:=3) (x:=.tmp 41) (a:=p3) (by kernel_rfl) (by kernel_rfl) (by kernel_rfl) (by kernel_rfl) (X0 hx Z0)) ?_;obtain ⟨p5,hx,h⟩:=bind_some h;refine E0 6 (some 43) (vP (some p5)) (Abs.det_idx (s:=a2) (k:=.i64) (t:=27) (e:=3) (x:=.tmp 37) (y:=.tmp 42) (by kernel_rfl) (by kernel_rfl) (by kernel_rfl) (by kernel_rfl) (by kernel_rfl) hx) ?_;obtain ⟨x6,hx,h⟩:=bind_some h;refine E0 7 (some 44) (vI .i64 x6) (Abs.det_load (t:=3) (x:=.tmp 43) (a:=p5) (by kernel_rfl) (by kernel_rfl) (by kernel_rfl) (by kernel_rfl) (X0 hx Z0)) (C0 8 (some 45) (Sl3.v a2) (DA.tL 9 (some 46) (.loc 1 2) (DA.tL 10 (some 47) (.val (Sl3.v a1_2)) (C0 11 (some 48) (vI .i64 v7_2) ?_))));obtain ⟨p7,hx,h⟩:=bind_some h;refine E0 12 (some 49) (vP (some p7)) (Abs.det_idx (s:=a1_2) (k:=.i64) (t:=27) (e:=3) (x:=.tmp 47) (y:=.tmp 48) (by kernel_rfl) (by kernel_rfl) (by kernel_rfl) (by kernel_rfl) (by kernel_rfl) hx) ?_;obtain ⟨x8,hx,h⟩:=bind_some h;refine E0 13 (some 50) (vI .i64 x8) (Abs.det_load (t:=3) (x:=.tmp 49) (a:=p7) (by kernel_rfl) (by kernel_rfl) (by kernel_rfl) (by kernel_rfl) (X0 hx Z0)) ?_;obtain ⟨p9,hx,h⟩:=bind_some h;refine E0 14 (some 51) (vP (some p9)) (Abs.det_idx (s:=a2) (k:=.i64) (t:=27) (e:=3) (x:=.tmp 45) (y:=.tmp 50) (by kernel_rfl) (by kernel_rfl) (by kernel_rfl) (by kernel_rfl) (by kernel_rfl) hx) ?_;obtain ⟨x10,hx,h⟩:=bind_some h;refine E0 15 (some 52) (vI .i64 x10) (Abs.det_load (t:=3) (x:=.tmp 51) (a:=p9) (by kernel_rfl) (by kernel_rfl) (by kernel_rfl) (by kernel_rfl) (X0 hx Z0)) (DA.tP 16 (some 53) (vB (!decide (x6=x10))) (DA.dn (A0 ?_)));rcases Y0 h with ⟨hp,h⟩ | ⟨hp,h⟩
  ·refine D0 53 false (U7 hp) (J0 (K0 ?_));refine fun a w hs=>bkN ((A0 ?_ a w hs));refine WS.rg (u0 3 [kI 7 (IntKind.i64.wrap (v7_2+1)),kI 36 (IntKind.i64.wrap (v7_2+1)),kI 35 v7_2] (RS.dn ?_));cases h;exact fun a w hs=>lsN rfl (hs.sb 2)
  ·refine D0 53 true (Z6 hp) (I0 (B0 (WS.rg (u0 1 [kB 6 false] (RS.dn (A0 (G0 ?_)))))));cases h;exact fun a w hs=>bkR (sqR (lsR rfl (rS hs)))
 ·refine D0 34 false (decide_eq_false hp) (J0 (WS.ex 0 ?_));cases h;exact fun a w hs=>sqE (lsB rfl (hs.sb 2))
theorem zau {L:LC} {m:Nat} {H:AH} {a0_0:Int} {a0_1:Bool} {a0_2:Sl3} {a1_0:Int} {a1_1:Bool} {a1_2 a2:Sl3} {r:Bool} (h:B9 L H a0_0 a0_1 a0_2 a1_0 a1_1 a1_2 a2=some r) :
  CallS Tryd.prog (NE.plain 1000) m 30 #[(vA #[(vI .i64 a0_0),(vB a0_1),(Sl3.v a0_2)]),(vA #[(vI .i64 a1_0),(vB a1_1),(Sl3.v a1_2)]),(Sl3.v a2)] H (z3k r) (z58 H r):=by
 refine CallS.mk (args:=[(vA #[(vI .i64 a0_0),(vB a0_1),(Sl3.v a0_2)]),(vA #[(vI .i64 a1_0),(vB a1_1),(Sl3.v a1_2)]),(Sl3.v a2)]) Tryd.func30 (B:=B30) (by kernel_rfl) (fun E _=>?_);unfold B9 at h;refine B0 (WS.rg (V0 3 [kB 6 false,kL 4 1 0,kL 3 0 0] ([some (42,[(vI .i64 a0_0),(vB a0_1),(Sl3.v a0_2)]),some (42,[(vI .i64 a1_0),(vB a1_1),(Sl3.v a1_2)])]) (RS.dn (A0 (B0 ?_)))));obtain ⟨v29_1,hx,h⟩:=bind_some h;refine B0 ?_;refine WS.join ([kB 29 v29_1,kS 2 a2,kL 3 0 0,kL 4 1 0]) ([some (42,[(vI .i64 a0_0),(vB a0_1),(Sl3.v a0_2)]),some (42,[(vI .i64 a1_0),(vB a1_1),(Sl3.v a1_2)])]) H ?_ (fun a w hs=>A0 ?_ a w hs)
 ·clear h; rename _=>h;refine WS.rg (u0 3 [kB 10 a0_1,kB 9 a0_1,kL 8 0 1] ?_);rcases Y0 h with ⟨hp,h⟩ | ⟨hp,h⟩
  ·refine O0 10 true hp (u0 19 [kB 29 true,kU 28,kU 27,kU 26,kU 25,kU 24,kU 23,kU 22,kB 21 true,kB 20 true,kU 19,kU 18,kU 17,kU 16,kU 15,kB 14 true,kB 13 true,kU 12,kU 11] (RS.dn ?_));cases h;exact fun a w hs=>(jsN (hs.sb 2))
  ·refine O0 10 false (b_not hp) (u0 4 [kB 14 a1_1,kB 13 a1_1,kB 12 a1_1,kL 11 1 1] ?_);rcases Y0 h with ⟨hp,h⟩ | ⟨hp,h⟩
   ·refine O0 14 true hp (u0 15 [kB 29 true,kU 28,kU 27,kU 26,kU 25,kU 24,kU 23,kU 22,kB 21 true,kB 20 true,kU 19,kU 18,kU 17,kU 16,kU 15] (RS.dn ?_));cases h;exact fun a w hs=>(jsN (hs.sb 2))
   ·refine O0 14 false (b_not hp) (u0 7 [kB 21 (!decide (a0_0=a1_0)),kB 20 (!decide (a0_0=a1_0)),kB 19 (!decide (a0_0=a1_0)),kI 18 a1_0,kL 17 1 0,kI 16 a0_0,kL 15 0 0] ?_);rcases Y0 h with ⟨hp,h⟩ | ⟨hp,h⟩
    ·refine O0 21 false (U7 hp) (u0 8 [kB 29 (!decide ((a0_2.n:Int)=(a1_2.n:Int))),kB 28 (!decide ((a0_2.n:Int)=(a1_2.n:Int))),kI 27 (a1_2.n:Int),kS 26 a1_2,kL 25 1 2,kI 24 (a0_2.n:Int),kS 23 a0_2,kL 22 0 2] (RS.dn ?_));cases h;exact fun a w hs=>(jsN (hs.sb 2))
    ·refine O0 21 true (Z6 hp) (u0 8 [kB 29 true,kU 28,kU 27,kU 26,kU 25,kU 24,kU 23,kU 22] (RS.dn ?_));cases h;exact fun a w hs=>(jsN (hs.sb 2))
 ·clear hx;rcases Y0 h with ⟨hp,h⟩ | ⟨hp,h⟩
  ·refine D0 29 true hp (I0 (B0 (WS.rg (u0 1 [kB 6 false] (RS.dn (A0 (G0 ?_)))))));cases h;exact fun a w hs=>sqR (rtR (rS hs))
  ·refine D0 29 false (b_not hp) (J0 (K0 (A0 (B0 (B0 (WS.rg (u0 1 [kI 7 0] (RS.dn (A0 ?_)))))))));refine M0 0 ?_;obtain ⟨o,hl,h⟩:=bind_some h;rcases o with v7_11 | r
   ·try dsimp only at h
    refine S0 (z21 (L:=L) (E:=E) (m:=m) (H:=H)) (L.ok hl) 2 ?_;clear hl;refine fun a w hs=>bkE ((A0 ?_ a w hs));refine B0 (WS.rg (u0 1 [kB 6 true] (RS.dn (A0 (G0 ?_)))));cases h;exact fun a w hs=>rtR (rS hs)
   ·try dsimp only at h
    refine R0 (z21 (L:=L) (E:=E) (m:=m) (H:=H)) (L.ok hl) 2 ?_;cases h;exact fun a w hq=>bkR (sqR (rtR hq))
def W5:(Sl3×AH)→Value
 | (r0,_)=>(Sl3.v r0)
def G6 (_:AH):(Sl3×AH)→AH:=fun r=>r.2
noncomputable def B10:Code:=(Tryd.f10.body).getD .skip
noncomputable def F6 (_L:LC) (m:Nat) (_a0 _a1 s1:Sl3):(AH×Int)→Option (Lp (AH×Int) (Sl3×AH)):=fun (H3,v6_4) =>
 if v6_4<(s1.n:Int) then
  (idxA 1 s1 v6_4).bind fun p5 => (H3.setCell m p5 (vI .i64 v6_4)).bind fun H6 => some (.next (H6,(IntKind.i64.wrap (v6_4+1))))
 else
  some (.brk (H3,v6_4))
def z8c (_L:LC) (_m:Nat) (a0 a1 s1:Sl3):(AH×Int)→KN×Lcs:=fun (_,v6_4)=>([kI 6 v6_4,kS 0 a0,kS 1 a1,kS 5 s1],[])
noncomputable def G5 (L:LC) (m:Nat) (_a0 a1 s1:Sl3):(AH×Int)→Option (Lp (AH×Int) (Sl3×AH)):=fun (H9,v7_10) =>
 if v7_10<(a1.n:Int) then
  Option.bind (α:=AH) (
   (idxA 4 a1 v7_10).bind fun p12 => (rd deB H9 (Addr.add p12 3)).bind fun x13 => if x13=true then
    some H9
   else
    (idxA 4 a1 v7_10).bind fun p14 => (rd (deI .i64) H9 (Addr.add p14 0)).bind fun x15 => (idxA 4 a1 v7_10).bind fun p16 => (rd (deI .i64) H9 (Addr.add p16 1)).bind fun x17 => (G7 L m H9 s1 x15 x17).bind fun H18 => some H18) fun H11 =>
  some (.next (H11,(IntKind.i64.wrap (v7_10+1))))
 else
  some (.brk (H9,v7_10))
def z8d (_L:LC) (_m:Nat) (a0 a1 s1:Sl3):(AH×Int)→KN×Lcs:=fun (_,v7_10)=>([kI 7 v7_10,kS 0 a0,kS 1 a1,kS 5 s1],[])
noncomputable def L5 (L:LC) (m:Nat) (a0 s1:Sl3) (v9_25:Int):(AH×Bool×Int)→Option (Lp (AH×Bool×Int) (Sl3×AH)):=fun (H26,v8_27,v10_28) =>
 if v10_28<v9_25 then
  Option.bind (α:=(AH×Bool)) (
   Option.bind (α:=Bool) (
    (idxA 1 s1 v9_25).bind fun p32 => (rd (deI .i64) H26 p32).bind fun x33 => (idxA 1 s1 v10_28).bind fun p34 => (rd (deI .i64) H26 p34).bind fun x35 => if x33=x35 then
     some false
    else
     (idxA 3 a0 v9_25).bind fun p36 => (rd (deI .i64) H26 (Addr.add p36 0)).bind fun x37_0 => (rd deB H26 (Addr.add p36 1)).bind fun x37_1 => (rd deSl H26 (Addr.add p36 2)).bind fun x37_2 => (idxA 3 a0 v10_28).bind fun p38 => (rd (deI .i64) H26 (Addr.add p38 0)).bind fun x39_0 => (rd deB H26 (Addr.add p38 1)).bind fun x39_1 => (rd deSl H26 (Addr.add p38 2)).bind fun x39_2 => (B9 L H26 x37_0 x37_1 x37_2 x39_0 x39_1 x39_2 s1).bind fun x40 => some x40) fun v80_31 =>
   if v80_31=true then
    (G7 L m H26 s1 v9_25 v10_28).bind fun H41 => some (H41,true)
   else
    some (H26,v8_27)) fun (H29,v8_30) =>
  some (.next (H29,v8_30,(IntKind.i64.wrap (v10_28+1))))
 else
  some (.brk (H26,v8_27,v10_28))
def z8j (_L:LC) (_m:Nat) (a0 s1:Sl3) (v9_25:Int):(AH×Bool×Int)→KN×Lcs:=fun (_,v8_27,v10_28)=>([kB 8 v8_27,kI 10 v10_28,kS 0 a0,kS 5 s1,kI 9 v9_25],[])
noncomputable def E6 (L:LC) (m:Nat) (a0 s1:Sl3):(AH×Bool×Int)→Option (Lp (AH×Bool×Int) (Sl3×AH)):=fun (H23,v8_24,v9_25) =>
 if v9_25<(a0.n:Int) then
  (L.run (L5 L m a0 s1 v9_25) (H23,v8_24,0)).bind fun o=>match o with
  | .inl (H42,v8_43,_) =>
   some (.next (H42,v8_43,(IntKind.i64.wrap (v9_25+1))))
  | .inr r=>some (.ret r)
 else
  some (.brk (H23,v8_24,v9_25))
def z8a (_L:LC) (_m:Nat) (a0 s1:Sl3):(AH×Bool×Int)→KN×Lcs:=fun (_,v8_24,v9_25)=>([kB 8 v8_24,kI 9 v9_25,kS 0 a0,kS 5 s1],[])
noncomputable def M5 (L:LC) (m:Nat) (a0 s1:Sl3):(AH×Bool)→Option (Lp (AH×Bool) (Sl3×AH)):=fun (H21,v8_22) =>
 if v8_22=true then
  (L.run (E6 L m a0 s1) (H21,false,0)).bind fun o=>match o with
  | .inl (H45,v8_46,_) =>
   some (.next (H45,v8_46))
  | .inr r=>some (.ret r)
 else
  some (.brk (H21,v8_22))
def z86 (_L:LC) (_m:Nat) (a0 s1:Sl3):(AH×Bool)→KN×Lcs:=fun (_,v8_22)=>([kB 8 v8_22,kS 0 a0,kS 5 s1],[])
noncomputable def T7 (L:LC) (m:Nat) (H:AH) (a0 a1:Sl3):Option (Sl3×AH) :=
 (mkS 3 1 8 #[(vI .i64 0)] H (a0.n:Int) (a0.n:Int)).bind fun (s1,H2) => (L.run (F6 L m a0 a1 s1) (H2,0)).bind fun o=>match o with
 | .inl (H7,_) =>
  (L.run (G5 L m a0 a1 s1) (H7,0)).bind fun o=>match o with
  | .inl (H19,_) =>
   (L.run (M5 L m a0 s1) (H19,true)).bind fun o=>match o with
   | .inl (H48,_) =>
    some (s1,H48)
   | .inr r=>some r
  | .inr r=>some r
 | .inr r=>some r
theorem z27 {E H L m a0 a1 s1} :LoopF Tryd.prog (NE.plain 1000) m E Tryd.f10 ((cfst (csnd (cfst (csnd (csnd B10)))))) (z8c L m a0 a1 s1) (fun s=>s.1) 0 W5 (G6 H) (F6 L m a0 a1 s1):=by
 rintro ⟨H3,v6_4⟩ o h
 unfold F6 at h;try dsimp only at h
 refine B0 (B0 (WS.rg (u0 4 [kB 17 (decide (v6_4<(s1.n:Int))),kI 16 (s1.n:Int),kS 15 s1,kI 14 v6_4] (RS.dn (A0 ?_)))));rcases Y0 h with ⟨hp,h⟩ | ⟨hp,h⟩
 ·refine D0 17 true (decide_eq_true hp) (I0 (K0 (A0 (B0 (M0 1 (WS.rg (u0 3 [kI 22 v6_4,kI 21 v6_4,kS 20 s1] ?_)))))));obtain ⟨p5,hx,h⟩:=bind_some h;refine T0 23 27 3 (.tmp 20) (.tmp 21) hx ?_;obtain ⟨H6,hx,h⟩:=bind_some h;refine RS.o (H':=H6) none undef (Abs.run_store1 (t:=3) (x:=.tmp 23) (y:=.tmp 22) (a:=p5) (v:=(vI .i64 v6_4)) (by kernel_rfl) (by kernel_rfl) (by kernel_rfl) (by kernel_rfl) (by kernel_rfl) hx) (RS.dn ?_);refine fun a w hs=>bkN ((A0 ?_ a w hs));refine WS.rg (u0 3 [kI 6 (IntKind.i64.wrap (v6_4+1)),kI 19 (IntKind.i64.wrap (v6_4+1)),kI 18 v6_4] (RS.dn ?_));cases h;exact fun a w hs=>lsN rfl (hs.sb 0)
 ·refine D0 17 false (decide_eq_false hp) (J0 (WS.ex 0 ?_));cases h;exact fun a w hs=>sqE (lsB rfl (hs.sb 0))
theorem z26 {E H L m a0 a1 s1} :LoopF Tryd.prog (NE.plain 1000) m E Tryd.f10 ((cfst (csnd (cfst (csnd (csnd (csnd B10))))))) (z8d L m a0 a1 s1) (fun s=>s.1) 2 W5 (G6 H) (G5 L m a0 a1 s1):=by
 rintro ⟨H9,v7_10⟩ o h
 unfold G5 at h;try dsimp only at h
 refine B0 (B0 (WS.rg (u0 4 [kB 27 (decide (v7_10<(a1.n:Int))),kI 26 (a1.n:Int),kS 25 a1,kI 24 v7_10] (RS.dn (A0 ?_)))));rcases Y0 h with ⟨hp,h⟩ | ⟨hp,h⟩
 ·refine D0 27 true (decide_eq_true hp) (I0 (K0 (A0 ?_)));obtain ⟨H11,hx,h⟩:=bind_some h;refine B0 ?_;refine WS.join ([kS 0 a0,kS 1 a1,kS 5 s1,kI 7 v7_10]) ([]) H11 ?_ (fun a w hs=>A0 ?_ a w hs)
  ·clear h; rename _=>h;refine M0 3 (B0 (WS.rg (u0 2 [kI 31 v7_10,kS 30 a1] ?_)));obtain ⟨p12,hx,h⟩:=bind_some h;refine T0 32 30 49 (.tmp 30) (.tmp 31) hx (u0 1 [(33,.val (vP (some (Addr.add p12 3))))] ?_);obtain ⟨x13,hx,h⟩:=bind_some h;refine P0 34 4 (.tmp 33) (X0 hx o5) (u0 1 [kB 35 (!x13)] (RS.dn (A0 ?_)));rcases Y0 h with ⟨hp,h⟩ | ⟨hp,h⟩
   ·refine D0 35 false (nb_not hp) (J0 (K0 ?_));cases h;exact fun a w hs=>bkN ((jsN (hs.sb 0)))
   ·refine D0 35 true (D3 hp) (I0 ?_);refine Q0 [1,2,3,4,5,6,7,8,9,10] [0,0,0,6,14,30,0,0,192,448,960,2047] 12 (fun hcl=>?_);refine C0 1 (some 37) (Sl3.v a1) (C0 2 (some 38) (vI .i64 v7_10) ?_);obtain ⟨p14,hx,h⟩:=bind_some h;refine E0 3 (some 39) (vP (some p14)) (Abs.det_idx (s:=a1) (k:=.i64) (t:=30) (e:=49) (x:=.tmp 37) (y:=.tmp 38) (by kernel_rfl) (by kernel_rfl) (by kernel_rfl) (by kernel_rfl) (by kernel_rfl) hx) (C0 4 (some 40) (vP (some (Addr.add p14 0))) ?_);obtain ⟨x15,hx,h⟩:=bind_some h;refine E0 5 (some 41) (vI .i64 x15) (Abs.det_load (t:=3) (x:=.tmp 40) (a:=(Addr.add p14 0)) (by kernel_rfl) (by kernel_rfl) (by kernel_rfl) (by kernel_rfl) (X0 hx Z0)) (C0 6 (some 42) (Sl3.v a1) (C0 7 (some 43) (vI .i64 v7_10) ?_));obtain ⟨p16,hx,h⟩:=bind_some h;refine E0 8 (some 44) (vP (some p16)) (Abs.det_idx (s:=a1) (k:=.i64) (t:=30) (e:=49) (x:=.tmp 42) (y:=.tmp 43) (by kernel_rfl) (by kernel_rfl) (by kernel_rfl) (by kernel_rfl) (by kernel_rfl) hx) (C0 9 (some 45) (vP (some (Addr.add p16 1))) ?_);obtain ⟨x17,hx,h⟩:=bind_some h;refine E0 10 (some 46) (vI .i64 x17) (Abs.det_load (t:=3) (x:=.tmp 45) (a:=(Addr.add p16 1)) (by kernel_rfl) (by kernel_rfl) (by kernel_rfl) (by kernel_rfl) (X0 hx Z0)) (DA.tP 0 (some 36) (Sl3.v s1) ?_);obtain ⟨H18,hx,h⟩:=bind_some h;refine DA.on 11 (DA.aC 11 (some 47) (v:=(Value.tuple #[])) 29 #[(Sl3.v s1),(vI .i64 x15),(vI .i64 x17)] (z6l hx) (DA.dn ?_));cases h;exact fun a w hs=>bkN ((jsN (hs.sb 0)))
  ·clear hx;refine WS.rg (u0 3 [kI 7 (IntKind.i64.wrap (v7_10+1)),kI 29 (IntKind.i64.wrap (v7_10+1)),kI 28 v7_10] (RS.dn ?_));cases h;exact fun a w hs=>lsN rfl (hs.sb 0)
 ·refine D0 27 false (decide_eq_false hp) (J0 (WS.ex 2 ?_));cases h;exact fun a w hs=>sqE (lsB rfl (hs.sb 0))
theorem z29 {E H L m a0 s1 v9_25} :LoopF Tryd.prog (NE.plain 1000) m E Tryd.f10 ((cfst (csnd (cfst (cfst (csnd (cfst (cfst (csnd (csnd (cfst (csnd (cfst (cfst (cfst (csnd (csnd (csnd (csnd (csnd B10)))))))))))))))))))) (z8j L m a0 s1 v9_25) (fun s=>s.1) 8 W5 (G6 H) (L5 L m a0 s1 v9_25):=by
 rintro ⟨H26,v8_27,v10_28⟩ o h
 unfold L5 at h;try dsimp only at h
 refine B0 (B0 (WS.rg (u0 3 [kB 57 (decide (v10_28<v9_25)),kI 56 v9_25,kI 55 v10_28] (RS.dn (A0 ?_)))));rcases Y0 h with ⟨hp,h⟩ | ⟨hp,h⟩
 ·refine D0 57 true (decide_eq_true hp) (I0 (K0 (A0 ?_)));obtain ⟨⟨H29,v8_30⟩,hx,h⟩:=bind_some h;try dsimp only at h
  refine B0 ?_;refine WS.join ([kB 8 v8_30,kS 0 a0,kS 5 s1,kI 9 v9_25,kI 10 v10_28]) ([]) H29 ?_ (fun a w hs=>A0 ?_ a w hs)
  ·clear h; rename _=>h;refine M0 9 ?_;obtain ⟨v80_31,hx,h⟩:=bind_some h;refine B0 ?_;refine WS.join ([kB 80 v80_31,kS 0 a0,kS 5 s1,kB 8 v8_27,kI 9 v9_25,kI 10 v10_28]) ([]) H26 ?_ (fun a w hs=>A0 ?_ a w hs)
   ·clear h; rename _=>h;refine Q0 [0,1,2,3,4,5,6,7,8,9,10,11,12,13,14,15,16,17] [0,0,3,7,0,0,48,112,255,511,1023,1023,4095,8191,1023,1023,50175,115711,1023,524287,1048575] 21 (fun hcl=>?_);refine C0 0 (some 60) (Sl3.v s1) (C0 1 (some 61) (vI .i64 v9_25) ?_);obtain ⟨p32,hx,h⟩:=bind_some h;refine E0 2 (some 62) (vP (some p32)) (Abs.det_idx (s:=s1) (k:=.i64) (t:=27) (e:=3) (x:=.tmp 60) (y:=.tmp 61) (by kernel_rfl) (by kernel_rfl) (by kernel_rfl) (by kernel_rfl) (by kernel_rfl) hx) ?_;obtain ⟨x33,hx,h⟩:=bind_some h;refine E0 3 (some 63) (vI .i64 x33) (Abs.det_load (t:=3) (x:=.tmp 62) (a:=p32) (by kernel_rfl) (by kernel_rfl) (by kernel_rfl) (by kernel_rfl) (X0 hx Z0)) (C0 4 (some 64) (Sl3.v s1) (C0 5 (some 65) (vI .i64 v10_28) ?_));obtain ⟨p34,hx,h⟩:=bind_some h;refine E0 6 (some 66) (vP (some p34)) (Abs.det_idx (s:=s1) (k:=.i64) (t:=27) (e:=3) (x:=.tmp 64) (y:=.tmp 65) (by kernel_rfl) (by kernel_rfl) (by kernel_rfl) (by kernel_rfl) (by kernel_rfl) hx) ?_;obtain ⟨x35,hx,h⟩:=bind_some h;refine E0 7 (some 67) (vI .i64 x35) (Abs.det_load (t:=3) (x:=.tmp 66) (a:=p34) (by kernel_rfl) (by kernel_rfl) (by kernel_rfl) (by kernel_rfl) (X0 hx Z0)) (C0 8 (some 68) (vB (!decide (x33=x35))) (C0 9 (some 69) (vB (!decide (x33=x35))) ?_));rcases Y0 h with ⟨hp,h⟩ | ⟨hp,h⟩
    ·refine U0 69 false (U7 hp) ?_;refine F0 10 (some 70) (by kernel_rfl) (by kernel_rfl) (by kernel_rfl) hcl (fun _ _ _ h=>h) (by kernel_rfl) ?_;refine F0 11 (some 71) (by kernel_rfl) (by kernel_rfl) (by kernel_rfl) hcl (fun _ _ _ h=>h) (by kernel_rfl) ?_;refine F0 12 (some 72) (by kernel_rfl) (by kernel_rfl) (by kernel_rfl) hcl (fun _ _ _ h=>h) (by kernel_rfl) ?_;refine F0 13 (some 73) (by kernel_rfl) (by kernel_rfl) (by kernel_rfl) hcl (fun _ _ _ h=>h) (by kernel_rfl) ?_;refine F0 14 (some 74) (by kernel_rfl) (by kernel_rfl) (by kernel_rfl) hcl (fun _ _ _ h=>h) (by kernel_rfl) ?_;refine F0 15 (some 75) (by kernel_rfl) (by kernel_rfl) (by kernel_rfl) hcl (fun _ _ _ h=>h) (by kernel_rfl) ?_;refine F0 16 (some 76) (by kernel_rfl) (by kernel_rfl) (by kernel_rfl) hcl (fun _ _ _ h=>h) (by kernel_rfl) ?_;refine F0 17 (some 77) (by kernel_rfl) (by kernel_rfl) (by kernel_rfl) hcl (fun _ _ _ h=>h) (by kernel_rfl) ?_;refine N0 18 (some 78) (by kernel_rfl) (by kernel_rfl) (by kernel_rfl) hcl (fun _ _ _ h=>h) (by kernel_rfl) ?_;refine N0 19 (some 79) (by kernel_rfl) (by kernel_rfl) (by kernel_rfl) hcl (fun _ _ _ h=>h) (by kernel_rfl) ?_;refine DA.tP 20 (some 80) (vB false) (DA.dn ?_);cases h;exact fun a w hs=>(jsN (hs.sb 0))
    ·refine U0 69 true (Z6 hp) (C0 10 (some 70) (Sl3.v a0) (C0 11 (some 71) (vI .i64 v9_25) ?_));obtain ⟨p36,hx,h⟩:=bind_some h;refine E0 12 (some 72) (vP (some p36)) (Abs.det_idx (s:=a0) (k:=.i64) (t:=29) (e:=42) (x:=.tmp 70) (y:=.tmp 71) (by kernel_rfl) (by kernel_rfl) (by kernel_rfl) (by kernel_rfl) (by kernel_rfl) hx) ?_;obtain ⟨x37_0,hx0,h⟩:=bind_some h;obtain ⟨x37_1,hx1,h⟩:=bind_some h;obtain ⟨x37_2,hx2,h⟩:=bind_some h;refine E0 13 (some 73) (vA #[(vI .i64 x37_0),(vB x37_1),(Sl3.v x37_2)]) (Abs.det_loadA (t:=42) (x:=.tmp 72) (a:=p36) (k:=3) (by kernel_rfl) (by kernel_rfl) (by kernel_rfl) (by kernel_rfl) (J1 (X0 hx0 Z0) (J1 (X0 hx1 o5) (J1 (X0 hx2 A1) U6)))) (C0 14 (some 74) (Sl3.v a0) (C0 15 (some 75) (vI .i64 v10_28) ?_));obtain ⟨p38,hx,h⟩:=bind_some h;refine E0 16 (some 76) (vP (some p38)) (Abs.det_idx (s:=a0) (k:=.i64) (t:=29) (e:=42) (x:=.tmp 74) (y:=.tmp 75) (by kernel_rfl) (by kernel_rfl) (by kernel_rfl) (by kernel_rfl) (by kernel_rfl) hx) ?_;obtain ⟨x39_0,hx0,h⟩:=bind_some h;obtain ⟨x39_1,hx1,h⟩:=bind_some h;obtain ⟨x39_2,hx2,h⟩:=bind_some h;refine E0 17 (some 77) (vA #[(vI .i64 x39_0),(vB x39_1),(Sl3.v x39_2)]) (Abs.det_loadA (t:=42) (x:=.tmp 76) (a:=p38) (k:=3) (by kernel_rfl) (by kernel_rfl) (by kernel_rfl) (by kernel_rfl) (J1 (X0 hx0 Z0) (J1 (X0 hx1 o5) (J1 (X0 hx2 A1) U6)))) (DA.tP 18 (some 78) (Sl3.v s1) ?_);obtain ⟨x40,hx,h⟩:=bind_some h;refine DA.on 19 (DA.aC 19 (some 79) (v:=(vB x40)) 30 #[(vA #[(vI .i64 x37_0),(vB x37_1),(Sl3.v x37_2)]),(vA #[(vI .i64 x39_0),(vB x39_1),(Sl3.v x39_2)]),(Sl3.v s1)] (zau hx) (DA.tP 20 (some 80) (vB x40) (DA.dn ?_)));cases h;exact fun a w hs=>(jsN (hs.sb 0))
   ·clear hx;rcases Y0 h with ⟨hp,h⟩ | ⟨hp,h⟩
    ·refine D0 80 true hp (I0 (B0 (WS.rg (u0 3 [kI 83 v10_28,kI 82 v9_25,kS 81 s1] ?_))));obtain ⟨H41,hx,h⟩:=bind_some h;refine RS.cl (some 84) (v:=(Value.tuple #[])) 29 _ (z6l hx) (RS.dn (A0 (WS.rg (u0 1 [kB 8 true] (RS.dn ?_)))));cases h;exact fun a w hs=>bkN ((jsN (hs.sb 0)))
    ·refine D0 80 false (b_not hp) (J0 (K0 ?_));cases h;exact fun a w hs=>bkN ((jsN (hs.sb 0)))
  ·clear hx;refine WS.rg (u0 3 [kI 10 (IntKind.i64.wrap (v10_28+1)),kI 59 (IntKind.i64.wrap (v10_28+1)),kI 58 v10_28] (RS.dn ?_));cases h;exact fun a w hs=>lsN rfl (hs.sb 0)
 ·refine D0 57 false (decide_eq_false hp) (J0 (WS.ex 8 ?_));cases h;exact fun a w hs=>sqE (lsB rfl (hs.sb 0))
theorem z2a {E H L m a0 s1} :LoopF Tryd.prog (NE.plain 1000) m E Tryd.f10 ((cfst (csnd (csnd (cfst (csnd (cfst (cfst (cfst (csnd (csnd (csnd (csnd (csnd B10)))))))))))))) (z8a L m a0 s1) (fun s=>s.1) 6 W5 (G6 H) (E6 L m a0 s1):=by
 rintro ⟨H23,v8_24,v9_25⟩ o h
 unfold E6 at h;try dsimp only at h
 refine B0 (B0 (WS.rg (u0 4 [kB 52 (decide (v9_25<(a0.n:Int))),kI 51 (a0.n:Int),kS 50 a0,kI 49 v9_25] (RS.dn (A0 ?_)))));rcases Y0 h with ⟨hp,h⟩ | ⟨hp,h⟩
 ·refine D0 52 true (decide_eq_true hp) (I0 (K0 (A0 (B0 (M0 7 (B0 (WS.rg (u0 1 [kI 10 0] (RS.dn ?_)))))))));refine A0 (M0 8 ?_);obtain ⟨o,hl,h⟩:=bind_some h;rcases o with ⟨H42,v8_43,v10_44⟩ | r
  ·try dsimp only at h
   refine S0 (z29 (L:=L) (E:=E) (m:=m) (H:=H)) (L.ok hl) 0 ?_;clear hl;refine fun a w hs=>bkE (bkN ((A0 ?_ a w hs)));refine WS.rg (u0 3 [kI 9 (IntKind.i64.wrap (v9_25+1)),kI 54 (IntKind.i64.wrap (v9_25+1)),kI 53 v9_25] (RS.dn ?_));cases h;exact fun a w hs=>lsN rfl (hs.sb 0)
  ·try dsimp only at h
   refine R0 (z29 (L:=L) (E:=E) (m:=m) (H:=H)) (L.ok hl) 0 ?_;cases h;exact fun a w hq=>bkR (bkR (sqR (lsR rfl hq)))
 ·refine D0 52 false (decide_eq_false hp) (J0 (WS.ex 6 ?_));cases h;exact fun a w hs=>sqE (lsB rfl (hs.sb 0))
theorem z24 {E H L m a0 s1} :LoopF Tryd.prog (NE.plain 1000) m E Tryd.f10 ((cfst (cfst (csnd (csnd (csnd (csnd (csnd B10)))))))) (z86 L m a0 s1) (fun s=>s.1) 4 W5 (G6 H) (M5 L m a0 s1):=by
 rintro ⟨H21,v8_22⟩ o h
 unfold M5 at h;try dsimp only at h
 refine B0 (B0 (WS.rg (u0 1 [kB 48 v8_22] (RS.dn (A0 ?_)))));rcases Y0 h with ⟨hp,h⟩ | ⟨hp,h⟩
 ·refine D0 48 true hp (I0 (K0 (A0 (M0 5 (B0 (WS.rg (u0 1 [kB 8 false] (RS.dn (A0 ?_)))))))));refine B0 (WS.rg (u0 1 [kI 9 0] (RS.dn (A0 (M0 6 ?_)))));obtain ⟨o,hl,h⟩:=bind_some h;rcases o with ⟨H45,v8_46,v9_47⟩ | r
  ·try dsimp only at h
   refine S0 (z2a (L:=L) (E:=E) (m:=m) (H:=H)) (L.ok hl) 0 ?_;clear hl;cases h;exact fun a w hs=>bkE (bkN (lsN rfl (hs.sb 0)))
  ·try dsimp only at h
   refine R0 (z2a (L:=L) (E:=E) (m:=m) (H:=H)) (L.ok hl) 0 ?_;cases h;exact fun a w hq=>bkR (bkR (lsR rfl hq))
 ·refine D0 48 false (b_not hp) (J0 (WS.ex 4 ?_));cases h;exact fun a w hs=>sqE (lsB rfl (hs.sb 0))
theorem z4o {L:LC} {m:Nat} {H:AH} {a0 a1:Sl3} {r:(Sl3×AH)} (h:T7 L m H a0 a1=some r) :
  CallS Tryd.prog (NE.plain 1000) m 10 #[(Sl3.v a0),(Sl3.v a1)] H (W5 r) (G6 H r):=by
 refine CallS.mk (args:=[(Sl3.v a0),(Sl3.v a1)]) Tryd.func10 (B:=B10) (by kernel_rfl) (fun E _=>?_);unfold T7 at h;refine B0 (WS.rg (u0 1 [kS 4 Sl3.nil] (RS.dn (A0 (B0 (WS.rg (u0 2 [kI 12 (a0.n:Int),kS 11 a0] ?_)))))));obtain ⟨⟨s1,H2⟩,hx,h⟩:=bind_some h;try dsimp only at h
 refine RS.o (H':=H2) (some 13) (Sl3.v s1) (Abs.run_mk (t:=27) (x:=.tmp 12) (y:=.tmp 12) (k1:=.i64) (k2:=.i64) (by kernel_rfl) (by kernel_rfl) (by kernel_rfl) (by kernel_rfl) hx) (u0 1 [kS 5 s1] (RS.dn (A0 (B0 (B0 (WS.rg (u0 1 [kI 6 0] (RS.dn (A0 ?_)))))))));refine M0 0 ?_;obtain ⟨o,hl,h⟩:=bind_some h;rcases o with ⟨H7,v6_8⟩ | r
 ·try dsimp only at h
  refine S0 (z27 (L:=L) (E:=E) (m:=m) (H:=H)) (L.ok hl) 0 ?_;clear hl;refine fun a w hs=>bkE ((A0 ?_ a w hs));refine B0 (B0 (WS.rg (u0 1 [kI 7 0] (RS.dn (A0 (M0 2 ?_))))));obtain ⟨o,hl,h⟩:=bind_some h;rcases o with ⟨H19,v7_20⟩ | r
  ·try dsimp only at h
   refine S0 (z26 (L:=L) (E:=E) (m:=m) (H:=H)) (L.ok hl) 0 ?_;clear hl;refine fun a w hs=>bkE ((A0 ?_ a w hs));refine B0 (WS.rg (u0 1 [kB 8 true] (RS.dn (A0 (B0 (M0 4 ?_))))));obtain ⟨o,hl,h⟩:=bind_some h;rcases o with ⟨H48,v8_49⟩ | r
   ·try dsimp only at h
    refine S0 (z24 (L:=L) (E:=E) (m:=m) (H:=H)) (L.ok hl) 0 ?_;clear hl;refine fun a w hs=>bkE ((A0 ?_ a w hs));refine B0 (WS.rg (u0 2 [kS 4 s1,kS 85 s1] (RS.dn (A0 (G0 ?_)))));cases h;exact fun a w hs=>rtR (rS hs)
   ·try dsimp only at h
    refine R0 (z24 (L:=L) (E:=E) (m:=m) (H:=H)) (L.ok hl) 0 ?_;cases h;exact fun a w hq=>bkR (sqR (rtR hq))
  ·try dsimp only at h
   refine R0 (z26 (L:=L) (E:=E) (m:=m) (H:=H)) (L.ok hl) 0 ?_;cases h;exact fun a w hq=>bkR (sqR (rtR hq))
 ·try dsimp only at h
  refine R0 (z27 (L:=L) (E:=E) (m:=m) (H:=H)) (L.ok hl) 0 ?_;cases h;exact fun a w hq=>bkR (sqR (rtR hq))
def E7:Bool→Value
 | r0=>(vB r0)
def W7 (H:AH):Bool→AH:=fun _=>H
noncomputable def B33:Code:=(Tryd.f33.body).getD .skip
noncomputable def N3 (_L:LC) (H:AH) (a0:Option Addr) (a1:Sl3) (a2:Bool) (v7_1:Int):(Bool×Int)→Option (Lp (Bool×Int) Bool):=fun (v8_7,v9_8) =>
 a0.bind fun q9 => (rd deSl H (Addr.add q9 1)).bind fun x10 => if v9_8<(x10.n:Int) then
  Option.bind (α:=Bool) (
   if v8_7=true then
    some true
   else
    (idxA 1 a1 v7_1).bind fun p12 => (rd deSl H (Addr.add q9 1)).bind fun x13 => (idxA 4 x13 v9_8).bind fun p14 => (rd (deI .i64) H (Addr.add p14 2)).bind fun x15 => (rd (deI .i64) H p12).bind fun x16 => if x15=x16 then
     if a2=true then
      (rd deSl H (Addr.add q9 1)).bind fun x17 => (idxA 4 x17 v9_8).bind fun p18 => (rd deB H (Addr.add p18 3)).bind fun x19 => some (!x19)
     else
      some true
    else
     some false) fun v8_11 =>
  some (.next (v8_11,(IntKind.i64.wrap (v9_8+1))))
 else
  some (.brk (v8_7,v9_8))
def z40 (_L:LC) (_H:AH) (a0:Option Addr) (a1:Sl3) (a2:Bool) (v7_1:Int):(Bool×Int)→KN×Lcs:=fun (v8_7,v9_8)=>([kB 8 v8_7,kI 9 v9_8,(0,.val (vP a0)),kS 1 a1,kB 2 a2,kI 7 v7_1],[])
noncomputable def E4 (L:LC) (H:AH) (a0:Option Addr) (a1:Sl3) (a2:Bool):Int→Option (Lp Int Bool):=fun v7_1 =>
 if v7_1<(a1.n:Int) then
  Option.bind (α:=Bool) (
   if v7_1 > 0 then
    (idxA 1 a1 v7_1).bind fun p3 => (rd (deI .i64) H p3).bind fun x4 => (idxA 1 a1 (IntKind.i64.wrap (v7_1 - 1))).bind fun p5 => (rd (deI .i64) H p5).bind fun x6 => some (decide (x4≤x6))
   else
    some false) fun v29_2 =>
  if v29_2=true then
   some (.ret false)
  else
   (L.run (N3 L H a0 a1 a2 v7_1) (false,0)).bind fun o=>match o with
   | .inl (v8_20,_) =>
    if v8_20=true then
     some (.next (IntKind.i64.wrap (v7_1+1)))
    else
     some (.ret false)
   | .inr r=>some (.ret r)
 else
  some (.brk v7_1)
def z48 (_L:LC) (_H:AH) (a0:Option Addr) (a1:Sl3) (a2:Bool):Int→KN×Lcs:=fun v7_1=>([kI 7 v7_1,(0,.val (vP a0)),kS 1 a1,kB 2 a2],[])
noncomputable def N6 (L:LC) (H:AH) (a0:Option Addr) (a1:Sl3) (a2:Bool):Option Bool :=
 (L.run (E4 L H a0 a1 a2) 0).bind fun o=>match o with
 | .inl _ =>
  some true
 | .inr r=>some r
theorem l9 {E m L H a0 a1 a2 v7_1} :LoopF Tryd.prog (NE.plain 1000) m E Tryd.f33 ((cfst (csnd (cfst (csnd (csnd (cfst (cfst (csnd (cfst (cfst (csnd (cfst (csnd B33)))))))))))))) (z40 L H a0 a1 a2 v7_1) (fun _=>H) 2 E7 (W7 H) (N3 L H a0 a1 a2 v7_1):=by
 rintro ⟨v8_7,v9_8⟩ o h
 unfold N3 at h;try dsimp only at h
 refine B0 (B0 (WS.rg (u0 2 [(31,.val (vP a0)),kI 30 v9_8] ?_)));obtain ⟨q9,hx,hq9⟩:=bind_some h;subst hx;have h:=hq9;refine u0 2 [(33,.val (vP (some (Addr.add q9 1)))),kP 32 q9] ?_;obtain ⟨x10,hx,h⟩:=bind_some h;refine P0 34 30 (.tmp 33) (X0 hx A1) (u0 2 [kB 36 (decide (v9_8<(x10.n:Int))),kI 35 (x10.n:Int)] (RS.dn (A0 ?_)));rcases Y0 h with ⟨hp,h⟩ | ⟨hp,h⟩
 ·refine D0 36 true (decide_eq_true hp) (I0 (K0 (A0 ?_)));obtain ⟨v8_11,hx,h⟩:=bind_some h;refine B0 ?_;refine WS.join ([kB 8 v8_11,kP 0 q9,kS 1 a1,kB 2 a2,kI 7 v7_1,kI 9 v9_8]) ([]) H ?_ (fun a w hs=>A0 ?_ a w hs)
  ·clear h; rename _=>h;refine M0 3 ?_;refine Q0 [] [0,1,3,7,15,31,3,127,255,511,3,3,3075,7171,16383,32767,65535,131071,262143,524287,1048575,2097151,262143,8388607,16777215,33554431,67108863,134217727,268435455,536870911,1073741823] 31 (fun hcl=>?_);refine DA.tP 0 (some 39) (vB v8_7) (DA.tP 1 (some 40) (vB v8_7) ?_);rcases Y0 h with ⟨hp,h⟩ | ⟨hp,h⟩
   ·refine U0 40 true hp ?_;refine N0 2 (some 41) (by kernel_rfl) (by kernel_rfl) (by kernel_rfl) hcl (fun _ _ _ h=>h) (by kernel_rfl) ?_;refine N0 3 (some 42) (by kernel_rfl) (by kernel_rfl) (by kernel_rfl) hcl (fun _ _ _ h=>h) (by kernel_rfl) ?_;refine N0 4 (some 43) (by kernel_rfl) (by kernel_rfl) (by kernel_rfl) hcl (fun _ _ _ h=>h) (by kernel_rfl) ?_;refine N0 5 (some 44) (by kernel_rfl) (by kernel_rfl) (by kernel_rfl) hcl (fun _ _ _ h=>h) (by kernel_rfl) ?_;refine N0 6 (some 45) (by kernel_rfl) (by kernel_rfl) (by kernel_rfl) hcl (fun _ _ _ h=>h) (by kernel_rfl) ?_;refine N0 7 (some 46) (by kernel_rfl) (by kernel_rfl) (by kernel_rfl) hcl (fun _ _ _ h=>h) (by kernel_rfl) ?_;refine N0 8 (some 47) (by kernel_rfl) (by kernel_rfl) (by kernel_rfl) hcl (fun _ _ _ h=>h) (by kernel_rfl) ?_;refine N0 9 (some 48) (by kernel_rfl) (by kernel_rfl) (by kernel_rfl) hcl (fun _ _ _ h=>h) (by kernel_rfl) ?_;refine N0 10 (some 49) (by kernel_rfl) (by kernel_rfl) (by kernel_rfl) hcl (fun _ _ _ h=>h) (by kernel_rfl) ?_;refine N0 11 (some 50) (by kernel_rfl) (by kernel_rfl) (by kernel_rfl) hcl (fun _ _ _ h=>h) (by kernel_rfl) ?_;refine N0 12 (some 51) (by kernel_rfl) (by kernel_rfl) (by kernel_rfl) hcl (fun _ _ _ h=>h) (by kernel_rfl) ?_;refine N0 13 (some 52) (by kernel_rfl) (by kernel_rfl) (by kernel_rfl) hcl (fun _ _ _ h=>h) (by kernel_rfl) ?_;refine N0 14 (some 53) (by kernel_rfl) (by kernel_rfl) (by kernel_rfl) hcl (fun _ _ _ h=>h) (by kernel_rfl) ?_;refine N0 15 (some 54) (by kernel_rfl) (by kernel_rfl) (by kernel_rfl) hcl (fun _ _ _ h=>h) (by kernel_rfl) ?_;refine N0 16 (some 55) (by kernel_rfl) (by kernel_rfl) (by kernel_rfl) hcl (fun _ _ _ h=>h) (by kernel_rfl) ?_;refine N0 17 (some 56) (by kernel_rfl) (by kernel_rfl) (by kernel_rfl) hcl (fun _ _ _ h=>h) (by kernel_rfl) ?_;refine N0 18 (some 57) (by kernel_rfl) (by kernel_rfl) (by kernel_rfl) hcl (fun _ _ _ h=>h) (by kernel_rfl) ?_;refine N0 19 (some 58) (by kernel_rfl) (by kernel_rfl) (by kernel_rfl) hcl (fun _ _ _ h=>h) (by kernel_rfl) ?_;refine N0 20 (some 59) (by kernel_rfl) (by kernel_rfl) (by kernel_rfl) hcl (fun _ _ _ h=>h) (by kernel_rfl) ?_;refine N0 21 (some 60) (by kernel_rfl) (by kernel_rfl) (by kernel_rfl) hcl (fun _ _ _ h=>h) (by kernel_rfl) ?_;refine N0 22 (some 61) (by kernel_rfl) (by kernel_rfl) (by kernel_rfl) hcl (fun _ _ _ h=>h) (by kernel_rfl) ?_;refine N0 23 (some 62) (by kernel_rfl) (by kernel_rfl) (by kernel_rfl) hcl (fun _ _ _ h=>h) (by kernel_rfl) ?_;refine N0 24 (some 63) (by kernel_rfl) (by kernel_rfl) (by kernel_rfl) hcl (fun _ _ _ h=>h) (by kernel_rfl) ?_;refine N0 25 (some 64) (by kernel_rfl) (by kernel_rfl) (by kernel_rfl) hcl (fun _ _ _ h=>h) (by kernel_rfl) ?_;refine N0 26 (some 65) (by kernel_rfl) (by kernel_rfl) (by kernel_rfl) hcl (fun _ _ _ h=>h) (by kernel_rfl) ?_;refine N0 27 (some 66) (by kernel_rfl) (by kernel_rfl) (by kernel_rfl) hcl (fun _ _ _ h=>h) (by kernel_rfl) ?_;refine N0 28 (some 67) (by kernel_rfl) (by kernel_rfl) (by kernel_rfl) hcl (fun _ _ _ h=>h) (by kernel_rfl) ?_;refine DA.tP 29 (some 68) (vB true) (DA.tP 30 (some 8) (vB true) (DA.dn ?_));cases h;exact fun a w hs=>bkN ((jsN (hs.sb 0)))
   ·refine U0 40 false (b_not hp) (DA.tP 2 (some 41) (vP (some q9)) (DA.tP 3 (some 42) (vP (some q9)) (DA.tP 4 (some 43) (vP (some (Addr.add q9 1))) (DA.tP 6 (some 45) (vI .i64 v9_8) (DA.tP 10 (some 49) (Sl3.v a1) (DA.tP 11 (some 50) (vI .i64 v7_1) ?_))))));obtain ⟨p12,hx,h⟩:=bind_some h;refine DA.tPx 12 (some 51) (vP (some p12)) (Abs.det_idx (s:=a1) (k:=.i64) (t:=27) (e:=3) (x:=.tmp 49) (y:=.tmp 50) (by kernel_rfl) (by kernel_rfl) (by kernel_rfl) (by kernel_rfl) (by kernel_rfl) hx) (DA.restart [5,7,8,9,13,14,15,16,17,18,19,20,21,22,23,24,25] (by kernel_rfl) ?_);obtain ⟨x13,hx,h⟩:=bind_some h;refine E0 5 (some 44) (Sl3.v x13) (Abs.det_load (t:=30) (x:=.tmp 43) (a:=(Addr.add q9 1)) (by kernel_rfl) (by kernel_rfl) (by kernel_rfl) (by kernel_rfl) (X0 hx A1)) ?_;obtain ⟨p14,hx,h⟩:=bind_some h;refine E0 7 (some 46) (vP (some p14)) (Abs.det_idx (s:=x13) (k:=.i64) (t:=30) (e:=49) (x:=.tmp 44) (y:=.tmp 45) (by kernel_rfl) (by kernel_rfl) (by kernel_rfl) (by kernel_rfl) (by kernel_rfl) hx) (C0 8 (some 47) (vP (some (Addr.add p14 2))) ?_);obtain ⟨x15,hx,h⟩:=bind_some h;refine E0 9 (some 48) (vI .i64 x15) (Abs.det_load (t:=3) (x:=.tmp 47) (a:=(Addr.add p14 2)) (by kernel_rfl) (by kernel_rfl) (by kernel_rfl) (by kernel_rfl) (X0 hx Z0)) ?_;obtain ⟨x16,hx,h⟩:=bind_some h;refine E0 13 (some 52) (vI .i64 x16) (Abs.det_load (t:=3) (x:=.tmp 51) (a:=p12) (by kernel_rfl) (by kernel_rfl) (by kernel_rfl) (by kernel_rfl) (X0 hx Z0)) (C0 14 (some 53) (vB (decide (x15=x16))) (C0 15 (some 54) (vB (decide (x15=x16))) ?_));rcases Y0 h with ⟨hp,h⟩ | ⟨hp,h⟩
    ·refine U0 54 true (decide_eq_true hp) (C0 16 (some 55) (vB a2) (C0 17 (some 56) (vB a2) ?_));rcases Y0 h with ⟨hp,h⟩ | ⟨hp,h⟩
     ·refine U0 56 true hp (C0 18 (some 57) (vP (some q9)) (C0 19 (some 58) (vP (some q9)) (C0 20 (some 59) (vP (some (Addr.add q9 1))) ?_)));obtain ⟨x17,hx,h⟩:=bind_some h;refine E0 21 (some 60) (Sl3.v x17) (Abs.det_load (t:=30) (x:=.tmp 59) (a:=(Addr.add q9 1)) (by kernel_rfl) (by kernel_rfl) (by kernel_rfl) (by kernel_rfl) (X0 hx A1)) (C0 22 (some 61) (vI .i64 v9_8) ?_);obtain ⟨p18,hx,h⟩:=bind_some h;refine E0 23 (some 62) (vP (some p18)) (Abs.det_idx (s:=x17) (k:=.i64) (t:=30) (e:=49) (x:=.tmp 60) (y:=.tmp 61) (by kernel_rfl) (by kernel_rfl) (by kernel_rfl) (by kernel_rfl) (by kernel_rfl) hx) (C0 24 (some 63) (vP (some (Addr.add p18 3))) ?_);obtain ⟨x19,hx,h⟩:=bind_some h;refine E0 25 (some 64) (vB x19) (Abs.det_load (t:=4) (x:=.tmp 63) (a:=(Addr.add p18 3)) (by kernel_rfl) (by kernel_rfl) (by kernel_rfl) (by kernel_rfl) (X0 hx o5)) (DA.tP 26 (some 65) (vB x19) (DA.tP 27 (some 66) (vB (!x19)) (DA.tP 28 (some 67) (vB (!x19)) (DA.tP 29 (some 68) (vB (!x19)) (DA.tP 30 (some 8) (vB (!x19)) (DA.dn ?_))))));cases h;exact fun a w hs=>bkN ((jsN (hs.sb 0)))
     ·refine U0 56 false (b_not hp) ?_;refine F0 18 (some 57) (by kernel_rfl) (by kernel_rfl) (by kernel_rfl) hcl (fun _ _ _ h=>h) (by kernel_rfl) ?_;refine F0 19 (some 58) (by kernel_rfl) (by kernel_rfl) (by kernel_rfl) hcl (fun _ _ _ h=>h) (by kernel_rfl) ?_;refine F0 20 (some 59) (by kernel_rfl) (by kernel_rfl) (by kernel_rfl) hcl (fun _ _ _ h=>h) (by kernel_rfl) ?_;refine F0 21 (some 60) (by kernel_rfl) (by kernel_rfl) (by kernel_rfl) hcl (fun _ _ _ h=>h) (by kernel_rfl) ?_;refine F0 22 (some 61) (by kernel_rfl) (by kernel_rfl) (by kernel_rfl) hcl (fun _ _ _ h=>h) (by kernel_rfl) ?_;refine F0 23 (some 62) (by kernel_rfl) (by kernel_rfl) (by kernel_rfl) hcl (fun _ _ _ h=>h) (by kernel_rfl) ?_;refine F0 24 (some 63) (by kernel_rfl) (by kernel_rfl) (by kernel_rfl) hcl (fun _ _ _ h=>h) (by kernel_rfl) ?_;refine F0 25 (some 64) (by kernel_rfl) (by kernel_rfl) (by kernel_rfl) hcl (fun _ _ _ h=>h) (by kernel_rfl) ?_;refine DA.tP 26 (some 65) (vB false) (DA.tP 27 (some 66) (vB true) (DA.tP 28 (some 67) (vB true) (DA.tP 29 (some 68) (vB true) (DA.tP 30 (some 8) (vB true) (DA.dn ?_)))));cases h;exact fun a w hs=>bkN ((jsN (hs.sb 0)))
    ·refine U0 54 false (decide_eq_false hp) ?_;refine F0 16 (some 55) (by kernel_rfl) (by kernel_rfl) (by kernel_rfl) hcl (fun _ _ _ h=>h) (by kernel_rfl) ?_;refine F0 17 (some 56) (by kernel_rfl) (by kernel_rfl) (by kernel_rfl) hcl (fun _ _ _ h=>h) (by kernel_rfl) ?_;refine F0 18 (some 57) (by kernel_rfl) (by kernel_rfl) (by kernel_rfl) hcl (fun _ _ _ h=>h) (by kernel_rfl) ?_;refine F0 19 (some 58) (by kernel_rfl) (by kernel_rfl) (by kernel_rfl) hcl (fun _ _ _ h=>h) (by kernel_rfl) ?_;refine F0 20 (some 59) (by kernel_rfl) (by kernel_rfl) (by kernel_rfl) hcl (fun _ _ _ h=>h) (by kernel_rfl) ?_;refine F0 21 (some 60) (by kernel_rfl) (by kernel_rfl) (by kernel_rfl) hcl (fun _ _ _ h=>h) (by kernel_rfl) ?_;refine F0 22 (some 61) (by kernel_rfl) (by kernel_rfl) (by kernel_rfl) hcl (fun _ _ _ h=>h) (by kernel_rfl) ?_;refine F0 23 (some 62) (by kernel_rfl) (by kernel_rfl) (by kernel_rfl) hcl (fun _ _ _ h=>h) (by kernel_rfl) ?_;refine F0 24 (some 63) (by kernel_rfl) (by kernel_rfl) (by kernel_rfl) hcl (fun _ _ _ h=>h) (by kernel_rfl) ?_;refine F0 25 (some 64) (by kernel_rfl) (by kernel_rfl) (by kernel_rfl) hcl (fun _ _ _ h=>h) (by kernel_rfl) ?_;refine N0 26 (some 65) (by kernel_rfl) (by kernel_rfl) (by kernel_rfl) hcl (fun _ _ _ h=>h) (by kernel_rfl) ?_;refine N0 27 (some 66) (by kernel_rfl) (by kernel_rfl) (by kernel_rfl) hcl (fun _ _ _ h=>h) (by kernel_rfl) ?_;refine DA.tP 28 (some 67) (vB false) (DA.tP 29 (some 68) (vB false) (DA.tP 30 (some 8) (vB false) (DA.dn ?_)));cases h;exact fun a w hs=>bkN ((jsN (hs.sb 0)))
  ·clear hx;refine WS.rg (u0 3 [kI 9 (IntKind.i64.wrap (v9_8+1)),kI 38 (IntKind.i64.wrap (v9_8+1)),kI 37 v9_8] (RS.dn ?_));cases h;exact fun a w hs=>lsN rfl (hs.sb 0)
 ·refine D0 36 false (decide_eq_false hp) (J0 (WS.ex 2 ?_));cases h;exact fun a w hs=>sqE (lsB rfl (hs.sb 0))
theorem m9 {E m L H a0 a1 a2} :LoopF Tryd.prog (NE.plain 1000) m E Tryd.f33 ((cfst (csnd (cfst (csnd B33))))) (z48 L H a0 a1 a2) (fun _=>H) 0 E7 (W7 H) (E4 L H a0 a1 a2):=by
 rintro v7_1 o h
 unfold E4 at h;try dsimp only at h
 refine B0 (B0 (WS.rg (u0 4 [kB 13 (decide (v7_1<(a1.n:Int))),kI 12 (a1.n:Int),kS 11 a1,kI 10 v7_1] (RS.dn (A0 ?_)))));rcases Y0 h with ⟨hp,h⟩ | ⟨hp,h⟩
 ·refine D0 13 true (decide_eq_true hp) (I0 (K0 (A0 (B0 (M0 1 (B0 ?_))))));obtain ⟨v29_2,hx,h⟩:=bind_some h;refine B0 ?_;refine WS.join ([kB 29 v29_2,(0,.val (vP a0)),kS 1 a1,kB 2 a2,kI 7 v7_1]) ([]) H ?_ (fun a w hs=>A0 ?_ a w hs)
  ·clear h; rename _=>h;refine Q0 [0,1,2,3,4,5,6,7,8,9,10,11] [0,1,3,7,7,31,63,7,7,263,903,1927,4095,8191] 14 (fun hcl=>?_);refine C0 0 (some 16) (vI .i64 v7_1) (C0 1 (some 17) (vB (decide (v7_1 > 0))) (C0 2 (some 18) (vB (decide (v7_1 > 0))) ?_));rcases Y0 h with ⟨hp,h⟩ | ⟨hp,h⟩
   ·refine U0 18 true (decide_eq_true hp) (C0 3 (some 19) (Sl3.v a1) (C0 4 (some 20) (vI .i64 v7_1) ?_));obtain ⟨p3,hx,h⟩:=bind_some h;refine E0 5 (some 21) (vP (some p3)) (Abs.det_idx (s:=a1) (k:=.i64) (t:=27) (e:=3) (x:=.tmp 19) (y:=.tmp 20) (by kernel_rfl) (by kernel_rfl) (by kernel_rfl) (by kernel_rfl) (by kernel_rfl) hx) ?_;obtain ⟨x4,hx,h⟩:=bind_some h;refine E0 6 (some 22) (vI .i64 x4) (Abs.det_load (t:=3) (x:=.tmp 21) (a:=p3) (by kernel_rfl) (by kernel_rfl) (by kernel_rfl) (by kernel_rfl) (X0 hx Z0)) (C0 7 (some 23) (Sl3.v a1) (C0 8 (some 24) (vI .i64 v7_1) (C0 9 (some 25) (vI .i64 (IntKind.i64.wrap (v7_1 - 1))) ?_)));obtain ⟨p5,hx,h⟩:=bind_some h;refine E0 10 (some 26) (vP (some p5)) (Abs.det_idx (s:=a1) (k:=.i64) (t:=27) (e:=3) (x:=.tmp 23) (y:=.tmp 25) (by kernel_rfl) (by kernel_rfl) (by kernel_rfl) (by kernel_rfl) (by kernel_rfl) hx) ?_;obtain ⟨x6,hx,h⟩:=bind_some h;refine E0 11 (some 27) (vI .i64 x6) (Abs.det_load (t:=3) (x:=.tmp 26) (a:=p5) (by kernel_rfl) (by kernel_rfl) (by kernel_rfl) (by kernel_rfl) (X0 hx Z0)) (DA.tP 12 (some 28) (vB (decide (x4≤x6))) (DA.tP 13 (some 29) (vB (decide (x4≤x6))) (DA.dn ?_)));cases h;exact fun a w hs=>(jsN (hs.sb 0))
   ·refine U0 18 false (decide_eq_false hp) ?_;refine F0 3 (some 19) (by kernel_rfl) (by kernel_rfl) (by kernel_rfl) hcl (fun _ _ _ h=>h) (by kernel_rfl) ?_;refine F0 4 (some 20) (by kernel_rfl) (by kernel_rfl) (by kernel_rfl) hcl (fun _ _ _ h=>h) (by kernel_rfl) ?_;refine F0 5 (some 21) (by kernel_rfl) (by kernel_rfl) (by kernel_rfl) hcl (fun _ _ _ h=>h) (by kernel_rfl) ?_;refine F0 6 (some 22) (by kernel_rfl) (by kernel_rfl) (by kernel_rfl) hcl (fun _ _ _ h=>h) (by kernel_rfl) ?_;refine F0 7 (some 23) (by kernel_rfl) (by kernel_rfl) (by kernel_rfl) hcl (fun _ _ _ h=>h) (by kernel_rfl) ?_;refine F0 8 (some 24) (by kernel_rfl) (by kernel_rfl) (by kernel_rfl) hcl (fun _ _ _ h=>h) (by kernel_rfl) ?_;refine F0 9 (some 25) (by kernel_rfl) (by kernel_rfl) (by kernel_rfl) hcl (fun _ _ _ h=>h) (by kernel_rfl) ?_;refine F0 10 (some 26) (by kernel_rfl) (by kernel_rfl) (by kernel_rfl) hcl (fun _ _ _ h=>h) (by kernel_rfl) ?_;refine F0 11 (some 27) (by kernel_rfl) (by kernel_rfl) (by kernel_rfl) hcl (fun _ _ _ h=>h) (by kernel_rfl) ?_;refine N0 12 (some 28) (by kernel_rfl) (by kernel_rfl) (by kernel_rfl) hcl (fun _ _ _ h=>h) (by kernel_rfl) ?_;refine DA.tP 13 (some 29) (vB false) (DA.dn ?_);cases h;exact fun a w hs=>(jsN (hs.sb 0))
  ·clear hx;rcases Y0 h with ⟨hp,h⟩ | ⟨hp,h⟩
   ·refine D0 29 true hp (I0 (B0 (WS.rg (u0 1 [kB 6 false] (RS.dn (A0 (G0 ?_)))))));cases h;exact fun a w hs=>sqR (bkR (sqR (lsR rfl (rS hs))))
   ·refine D0 29 false (b_not hp) (J0 (K0 (A0 (B0 (WS.rg (u0 1 [kB 8 false] (RS.dn (A0 (B0 ?_)))))))));refine B0 (WS.rg (u0 1 [kI 9 0] (RS.dn (A0 (M0 2 ?_)))));obtain ⟨o,hl,h⟩:=bind_some h;rcases o with ⟨v8_20,v9_21⟩ | r
    ·try dsimp only at h
     refine S0 (l9 (L:=L) (E:=E) (m:=m) (H:=H)) (L.ok hl) 0 ?_;clear hl;refine fun a w hs=>bkE ((A0 ?_ a w hs));refine B0 (WS.rg (u0 2 [kB 70 (!v8_20),kB 69 v8_20] (RS.dn (A0 ?_))));rcases Y0 h with ⟨hp,h⟩ | ⟨hp,h⟩
     ·refine D0 70 false (nb_not hp) (J0 (K0 ?_));refine fun a w hs=>bkN ((A0 ?_ a w hs));refine WS.rg (u0 3 [kI 7 (IntKind.i64.wrap (v7_1+1)),kI 15 (IntKind.i64.wrap (v7_1+1)),kI 14 v7_1] (RS.dn ?_));cases h;exact fun a w hs=>lsN rfl (hs.sb 0)
     ·refine D0 70 true (D3 hp) (I0 (B0 (WS.rg (u0 1 [kB 6 false] (RS.dn (A0 (G0 ?_)))))));cases h;exact fun a w hs=>bkR (sqR (lsR rfl (rS hs)))
    ·try dsimp only at h
     refine R0 (l9 (L:=L) (E:=E) (m:=m) (H:=H)) (L.ok hl) 0 ?_;cases h;exact fun a w hq=>bkR (sqR (bkR (sqR (lsR rfl hq))))
 ·refine D0 13 false (decide_eq_false hp) (J0 (WS.ex 0 ?_));cases h;exact fun a w hs=>sqE (lsB rfl (hs.sb 0))
theorem z74 {L:LC} {m:Nat} {H:AH} {a0:Option Addr} {a1:Sl3} {a2 r:Bool} (h:N6 L H a0 a1 a2=some r) :
  CallS Tryd.prog (NE.plain 1000) m 33 #[(vP a0),(Sl3.v a1),(vB a2)] H (E7 r) (W7 H r):=by
 refine CallS.mk (args:=[(vP a0),(Sl3.v a1),(vB a2)]) Tryd.func33 (B:=B33) (by kernel_rfl) (fun E _=>?_);unfold N6 at h;refine B0 (WS.rg (u0 1 [kB 6 false] (RS.dn (A0 (B0 (B0 (WS.rg (u0 1 [kI 7 0] (RS.dn ?_)))))))));refine A0 (M0 0 ?_);obtain ⟨o,hl,h⟩:=bind_some h;rcases o with v7_22 | r
 ·try dsimp only at h
  refine S0 (m9 (L:=L) (E:=E) (m:=m) (H:=H)) (L.ok hl) 0 ?_;clear hl;refine fun a w hs=>bkE ((A0 ?_ a w hs));refine B0 (WS.rg (u0 1 [kB 6 true] (RS.dn (A0 (G0 ?_)))));cases h;exact fun a w hs=>rtR (rS hs)
 ·try dsimp only at h
  refine R0 (m9 (L:=L) (E:=E) (m:=m) (H:=H)) (L.ok hl) 0 ?_;cases h;exact fun a w hq=>bkR (sqR (rtR hq))
def v8:(Sl3×AH)→Value
 | (r0,_)=>(Sl3.v r0)
def X8 (_:AH):(Sl3×AH)→AH:=fun r=>r.2
noncomputable def B34:Code:=(Tryd.f34.body).getD .skip
noncomputable def A4 (_L:LC) (m:Nat) (a1:Sl3) (v6_3:Int) (q4:Addr):(AH×Sl3×Int)→Option (Lp (AH×Sl3×Int) (Sl3×AH)):=fun (H6,v5_7,v7_8) =>
 if v7_8<(a1.n:Int) then
  (idxA 1 a1 v7_8).bind fun p9 => (rd (deI .i64) H6 p9).bind fun x10 => (rd deSl H6 (Addr.add q4 1)).bind fun x11 => (idxA 4 x11 v6_3).bind fun p12 => (rd (deI .i64) H6 (Addr.add p12 2)).bind fun x13 => if x10=x13 then
   (rd deSl H6 (Addr.add q4 1)).bind fun x14 => (idxA 4 x14 v6_3).bind fun p15 => (rd (deI .i64) H6 (Addr.add p15 0)).bind fun x16_0 => (rd (deI .i64) H6 (Addr.add p15 1)).bind fun x16_1 => (rd (deI .i64) H6 (Addr.add p15 2)).bind fun x16_2 => (rd deB H6 (Addr.add p15 3)).bind fun x16_3 => (newR 49 1 #[(vI .i64 x16_0),(vI .i64 x16_1),(vI .i64 x16_2),(vB x16_3)] H6).bind fun (s17,H18) => (appS m 49 4 32 H18 v5_7 s17).bind fun (s19,H20) => some (.brk (H20,s19,v7_8))
  else
   some (.next (H6,v5_7,(IntKind.i64.wrap (v7_8+1))))
 else
  some (.brk (H6,v5_7,v7_8))
def z5x (_L:LC) (_m:Nat) (a1:Sl3) (v6_3:Int) (q4:Addr):(AH×Sl3×Int)→KN×Lcs:=fun (_,v5_7,v7_8)=>([kS 5 v5_7,kI 7 v7_8,kP 0 q4,kS 1 a1,kI 6 v6_3],[])
noncomputable def Z4 (L:LC) (m:Nat) (a0:Option Addr) (a1:Sl3):(AH×Sl3×Int)→Option (Lp (AH×Sl3×Int) (Sl3×AH)):=fun (H1,v5_2,v6_3) =>
 a0.bind fun q4 => (rd deSl H1 (Addr.add q4 1)).bind fun x5 => if v6_3<(x5.n:Int) then
  (L.run (A4 L m a1 v6_3 q4) (H1,v5_2,0)).bind fun o=>match o with
  | .inl (H21,v5_22,_) =>
   some (.next (H21,v5_22,(IntKind.i64.wrap (v6_3+1))))
  | .inr r=>some (.ret r)
 else
  some (.brk (H1,v5_2,v6_3))
def z5n (_L:LC) (_m:Nat) (a0:Option Addr) (a1:Sl3):(AH×Sl3×Int)→KN×Lcs:=fun (_,v5_2,v6_3)=>([kS 5 v5_2,kI 6 v6_3,(0,.val (vP a0)),kS 1 a1],[])
noncomputable def v7 (L:LC) (m:Nat) (H:AH) (a0:Option Addr) (a1:Sl3):Option (Sl3×AH) :=
 (L.run (Z4 L m a0 a1) (H,Sl3.nil,0)).bind fun o=>match o with
 | .inl (H24,v5_25,_) =>
  some (v5_25,H24)
 | .inr r=>some r
theorem zu {E H L m a1 v6_3 q4} :LoopF Tryd.prog (NE.plain 1000) m E Tryd.f34 ((cfst (csnd (cfst (cfst (csnd (cfst (cfst (csnd (cfst (csnd (csnd B34)))))))))))) (z5x L m a1 v6_3 q4) (fun s=>s.1) 2 v8 (X8 H) (A4 L m a1 v6_3 q4):=by
 rintro ⟨H6,v5_7,v7_8⟩ o h
 unfold A4 at h;try dsimp only at h
 refine B0 (B0 (WS.rg (u0 4 [kB 20 (decide (v7_8<(a1.n:Int))),kI 19 (a1.n:Int),kS 18 a1,kI 17 v7_8] (RS.dn (A0 ?_)))));rcases Y0 h with ⟨hp,h⟩ | ⟨hp,h⟩
 ·refine D0 20 true (decide_eq_true hp) (I0 (K0 (A0 (B0 (M0 3 (B0 ?_))))));refine Q0 [0,1,2,3,4,5,6,7,8,9,10,11] [0,0,3,7,0,16,48,112,0,496,1008,2032,4095] 13 (fun hcl=>?_);refine C0 0 (some 23) (Sl3.v a1) (C0 1 (some 24) (vI .i64 v7_8) ?_);obtain ⟨p9,hx,h⟩:=bind_some h;refine E0 2 (some 25) (vP (some p9)) (Abs.det_idx (s:=a1) (k:=.i64) (t:=27) (e:=3) (x:=.tmp 23) (y:=.tmp 24) (by kernel_rfl) (by kernel_rfl) (by kernel_rfl) (by kernel_rfl) (by kernel_rfl) hx) ?_;obtain ⟨x10,hx,h⟩:=bind_some h;refine E0 3 (some 26) (vI .i64 x10) (Abs.det_load (t:=3) (x:=.tmp 25) (a:=p9) (by kernel_rfl) (by kernel_rfl) (by kernel_rfl) (by kernel_rfl) (X0 hx Z0)) (C0 4 (some 27) (vP (some q4)) (C0 5 (some 28) (vP (some q4)) (C0 6 (some 29) (vP (some (Addr.add q4 1))) ?_)));obtain ⟨x11,hx,h⟩:=bind_some h;refine E0 7 (some 30) (Sl3.v x11) (Abs.det_load (t:=30) (x:=.tmp 29) (a:=(Addr.add q4 1)) (by kernel_rfl) (by kernel_rfl) (by kernel_rfl) (by kernel_rfl) (X0 hx A1)) (C0 8 (some 31) (vI .i64 v6_3) ?_);obtain ⟨p12,hx,h⟩:=bind_some h;refine E0 9 (some 32) (vP (some p12)) (Abs.det_idx (s:=x11) (k:=.i64) (t:=30) (e:=49) (x:=.tmp 30) (y:=.tmp 31) (by kernel_rfl) (by kernel_rfl) (by kernel_rfl) (by kernel_rfl) (by kernel_rfl) hx) (C0 10 (some 33) (vP (some (Addr.add p12 2))) ?_);obtain ⟨x13,hx,h⟩:=bind_some h;refine E0 11 (some 34) (vI .i64 x13) (Abs.det_load (t:=3) (x:=.tmp 33) (a:=(Addr.add p12 2)) (by kernel_rfl) (by kernel_rfl) (by kernel_rfl) (by kernel_rfl) (X0 hx Z0)) (DA.tP 12 (some 35) (vB (decide (x10=x13))) (DA.dn (A0 ?_)));rcases Y0 h with ⟨hp,h⟩ | ⟨hp,h⟩
  ·refine D0 35 true (decide_eq_true hp) (I0 (B0 (WS.rg (u0 4 [(39,.val (vP (some (Addr.add q4 1)))),kP 38 q4,kP 37 q4,kS 36 v5_7] ?_))));obtain ⟨x14,hx,h⟩:=bind_some h;refine P0 40 30 (.tmp 39) (X0 hx A1) (u0 1 [kI 41 v6_3] ?_);obtain ⟨p15,hx,h⟩:=bind_some h;refine T0 42 30 49 (.tmp 40) (.tmp 41) hx ?_;obtain ⟨x16_0,hx0,h⟩:=bind_some h;obtain ⟨x16_1,hx1,h⟩:=bind_some h;obtain ⟨x16_2,hx2,h⟩:=bind_some h;obtain ⟨x16_3,hx3,h⟩:=bind_some h;refine RS.la 43 49 (.tmp 42) 4 (J1 (X0 hx0 Z0) (J1 (X0 hx1 Z0) (J1 (X0 hx2 Z0) (J1 (X0 hx3 o5) U6)))) ?_;obtain ⟨⟨s17,H18⟩,hx,h⟩:=bind_some h;try dsimp only at h
   refine RS.o (H':=H18) (some 44) (Sl3.v s17) (Abs.run_newR (by kernel_rfl) (by kernel_rfl) hx) ?_;obtain ⟨⟨s19,H20⟩,hx,h⟩:=bind_some h;try dsimp only at h
   refine RS.o (H':=H20) (some 45) (Sl3.v s19) (Abs.run_app (x:=.tmp 36) (y:=.tmp 44) (ts:=#[30,30]) (s:=v5_7) (z:=s17) (by kernel_rfl) (by kernel_rfl) (by kernel_rfl) (by kernel_rfl) hx) (u0 1 [kS 5 s19] (RS.dn (A0 (WS.ex 2 ?_))));cases h;exact fun a w hs=>bkX (by kernel_rfl) (sqE (lsB rfl (hs.sb 0)))
  ·refine D0 35 false (decide_eq_false hp) (J0 (K0 ?_));refine fun a w hs=>bkN ((A0 ?_ a w hs));refine WS.rg (u0 3 [kI 7 (IntKind.i64.wrap (v7_8+1)),kI 22 (IntKind.i64.wrap (v7_8+1)),kI 21 v7_8] (RS.dn ?_));cases h;exact fun a w hs=>lsN rfl (hs.sb 0)
 ·refine D0 20 false (decide_eq_false hp) (J0 (WS.ex 2 ?_));cases h;exact fun a w hs=>sqE (lsB rfl (hs.sb 0))
theorem zl {E H L m a0 a1} :LoopF Tryd.prog (NE.plain 1000) m E Tryd.f34 ((cfst (csnd (cfst (csnd (csnd B34)))))) (z5n L m a0 a1) (fun s=>s.1) 0 v8 (X8 H) (Z4 L m a0 a1):=by
 rintro ⟨H1,v5_2,v6_3⟩ o h
 unfold Z4 at h;try dsimp only at h
 refine B0 (B0 (WS.rg (u0 2 [(9,.val (vP a0)),kI 8 v6_3] ?_)));obtain ⟨q4,hx,hq4⟩:=bind_some h;subst hx;have h:=hq4;refine u0 2 [(11,.val (vP (some (Addr.add q4 1)))),kP 10 q4] ?_;obtain ⟨x5,hx,h⟩:=bind_some h;refine P0 12 30 (.tmp 11) (X0 hx A1) (u0 2 [kB 14 (decide (v6_3<(x5.n:Int))),kI 13 (x5.n:Int)] (RS.dn (A0 ?_)));rcases Y0 h with ⟨hp,h⟩ | ⟨hp,h⟩
 ·refine D0 14 true (decide_eq_true hp) (I0 (K0 (A0 (B0 (M0 1 (B0 (WS.rg (u0 1 [kI 7 0] (RS.dn ?_)))))))));refine A0 (M0 2 ?_);obtain ⟨o,hl,h⟩:=bind_some h;rcases o with ⟨H21,v5_22,v7_23⟩ | r
  ·try dsimp only at h
   refine S0 (zu (L:=L) (E:=E) (m:=m) (H:=H)) (L.ok hl) 0 ?_;clear hl;refine fun a w hs=>bkE (bkN ((A0 ?_ a w hs)));refine WS.rg (u0 3 [kI 6 (IntKind.i64.wrap (v6_3+1)),kI 16 (IntKind.i64.wrap (v6_3+1)),kI 15 v6_3] (RS.dn ?_));cases h;exact fun a w hs=>lsN rfl (hs.sb 0)
  ·try dsimp only at h
   refine R0 (zu (L:=L) (E:=E) (m:=m) (H:=H)) (L.ok hl) 0 ?_;cases h;exact fun a w hq=>bkR (bkR (sqR (lsR rfl hq)))
 ·refine D0 14 false (decide_eq_false hp) (J0 (WS.ex 0 ?_));cases h;exact fun a w hs=>sqE (lsB rfl (hs.sb 0))
theorem z8b {L:LC} {m:Nat} {H:AH} {a0:Option Addr} {a1:Sl3} {r:(Sl3×AH)} (h:v7 L m H a0 a1=some r) :
  CallS Tryd.prog (NE.plain 1000) m 34 #[(vP a0),(Sl3.v a1)] H (v8 r) (X8 H r):=by
 refine CallS.mk (args:=[(vP a0),(Sl3.v a1)]) Tryd.func34 (B:=B34) (by kernel_rfl) (fun E _=>?_);unfold v7 at h;refine B0 (WS.rg (u0 1 [kS 4 Sl3.nil] (RS.dn (A0 (B0 (WS.rg (u0 1 [kS 5 Sl3.nil] (RS.dn (A0 ?_)))))))));refine B0 (B0 (WS.rg (u0 1 [kI 6 0] (RS.dn (A0 (M0 0 ?_))))));obtain ⟨o,hl,h⟩:=bind_some h;rcases o with ⟨H24,v5_25,v6_26⟩ | r
 ·try dsimp only at h
  refine S0 (zl (L:=L) (E:=E) (m:=m) (H:=H)) (L.ok hl) 0 ?_;clear hl;refine fun a w hs=>bkE ((A0 ?_ a w hs));refine B0 (WS.rg (u0 2 [kS 4 v5_25,kS 46 v5_25] (RS.dn (A0 (G0 ?_)))));cases h;exact fun a w hs=>rtR (rS hs)
 ·try dsimp only at h
  refine R0 (zl (L:=L) (E:=E) (m:=m) (H:=H)) (L.ok hl) 0 ?_;cases h;exact fun a w hq=>bkR (sqR (rtR hq))
def z7d:(Sl3×AH)→Value
 | (r0,_)=>(Sl3.v r0)
def z8l (_:AH):(Sl3×AH)→AH:=fun r=>r.2
noncomputable def B61:Code:=(Tryd.f61.body).getD .skip
noncomputable def O8 (L:LC) (m:Nat) (H:AH) (a0:Value):Option (Sl3×AH) :=
 (P6 L m H Sl3.nil a0).bind fun (x1,H2) => some (x1,H2)
theorem z8g {L:LC} {m:Nat} {H:AH} {a0:Value} {r:(Sl3×AH)} (h:O8 L m H a0=some r) :
  CallS Tryd.prog (NE.plain 1000) m 61 #[a0] H (z7d r) (z8l H r):=by
 refine CallS.mk (args:=[a0]) Tryd.func61 (B:=B61) (by kernel_rfl) (fun E _=>?_);unfold O8 at h;refine B0 (WS.rg (u0 1 [kS 2 Sl3.nil] (RS.dn (A0 (B0 (WS.rg (u0 1 [(3,.val a0)] ?_)))))));obtain ⟨⟨x1,H2⟩,hx,h⟩:=bind_some h;try dsimp only at h
 refine RS.cl (some 4) (v:=(Sl3.v x1)) 75 _ (z73 hx) (u0 1 [kS 2 x1] (RS.dn (A0 (G0 ?_))));cases h;exact fun a w hs=>rtR (rS hs)
def z8m:(Sl3×AH)→Value
 | (r0,_)=>(Sl3.v r0)
def z9e (_:AH):(Sl3×AH)→AH:=fun r=>r.2
noncomputable def B36:Code:=(Tryd.f36.body).getD .skip
noncomputable def O7 (L:LC) (m:Nat) (H:AH) (a0:Value):Option (Sl3×AH) :=
 (O8 L m H a0).bind fun (x1,H2) => (O5 L m H2 x1).bind fun H3 => some (x1,H3)
theorem z9m {L:LC} {m:Nat} {H:AH} {a0:Value} {r:(Sl3×AH)} (h:O7 L m H a0=some r) :
  CallS Tryd.prog (NE.plain 1000) m 36 #[a0] H (z8m r) (z9e H r):=by
 refine CallS.mk (args:=[a0]) Tryd.func36 (B:=B36) (by kernel_rfl) (fun E _=>?_);unfold O7 at h;refine B0 (WS.rg (u0 1 [kS 2 Sl3.nil] (RS.dn (A0 (B0 (WS.rg (u0 1 [(4,.val a0)] ?_)))))));obtain ⟨⟨x1,H2⟩,hx,h⟩:=bind_some h;try dsimp only at h
 refine RS.cl (some 5) (v:=(Sl3.v x1)) 61 _ (z8g hx) (u0 1 [kS 3 x1] (RS.dn (A0 (B0 (WS.rg (u0 1 [kS 6 x1] ?_))))));obtain ⟨H3,hx,h⟩:=bind_some h;refine RS.cl (some 7) (v:=(Value.tuple #[])) 55 _ (z4n hx) (RS.dn (A0 (B0 (WS.rg (u0 2 [kS 2 x1,kS 8 x1] (RS.dn (A0 (G0 ?_))))))));cases h;exact fun a w hs=>rtR (rS hs)
def z88:(Value×AH)→Value
 | (r0,_)=>r0
def z9q (_:AH):(Value×AH)→AH:=fun r=>r.2
noncomputable def B37:Code:=(Tryd.f37.body).getD .skip
noncomputable def E9 (_L:LC) (_m:Nat) (H:AH) (a0:Sl3):Option (Value×AH) :=
 (newB 27 [(Sl3.v a0)] H).bind fun (p1,H2) => some ((Value.func (.func 62) #[] #[(vP (some p1))]),H2)
theorem z98 {L:LC} {m:Nat} {H:AH} {a0:Sl3} {r:(Value×AH)} (h:E9 L m H a0=some r) :
  CallS Tryd.prog (NE.plain 1000) m 37 #[(Sl3.v a0)] H (z88 r) (z9q H r):=by
 refine CallS.mk (args:=[(Sl3.v a0)]) Tryd.func37 (B:=B37) (by kernel_rfl) (fun E _=>?_);unfold E9 at h;refine B0 (WS.rg ?_);obtain ⟨⟨p1,H2⟩,hx,h⟩:=bind_some h;try dsimp only at h
 refine RS.o (H':=H2) (some 1) (vP (some p1)) (Abs.run_newB (by kernel_rfl) hx) (u0 1 [(2,.val Value.nilFunc)] (RS.dn (A0 (B0 (WS.rg (u0 2 [(2,.val (Value.func (.func 62) #[] #[(vP (some p1))])),(3,.val (Value.func (.func 62) #[] #[(vP (some p1))]))] (RS.dn (A0 (G0 ?_)))))))));cases h;exact fun a w hs=>rtR (rS hs)
def z3y:(Sl3×AH)→Value
 | (r0,_)=>(Sl3.v r0)
def z5h (_:AH):(Sl3×AH)→AH:=fun r=>r.2
noncomputable def B15:Code:=(Tryd.f15.body).getD .skip
noncomputable def S5 (L:LC) (m:Nat) (H:AH) (a0:Option Addr) (a1:Int):Option (Sl3×AH) :=
 (Q2 L H a0 a1).bind fun x1 => if x1=true then
  a0.bind fun q2 => (rd deSl H (Addr.add q2 5)).bind fun x3 => (rd deSl H (Addr.add q2 4)).bind fun x4 => (idxA 1 x4 a1).bind fun p5 => (rd (deI .i64) H p5).bind fun x6 => (idxA 1 x3 x6).bind fun p7 => (rd deP H p7).bind fun x8 => x8.bind fun q9 => (rd deSl H (Addr.add q9 1)).bind fun x10 => (E9 L m H x10).bind fun (x11,H12) => (O7 L m H12 x11).bind fun (x13,H14) => some (x13,H14)
 else
  some (Sl3.nil,H)
theorem z4q {L:LC} {m:Nat} {H:AH} {a0:Option Addr} {a1:Int} {r:(Sl3×AH)} (h:S5 L m H a0 a1=some r) :
  CallS Tryd.prog (NE.plain 1000) m 15 #[(vP a0),(vI .i64 a1)] H (z3y r) (z5h H r):=by
 refine CallS.mk (args:=[(vP a0),(vI .i64 a1)]) Tryd.func15 (B:=B15) (by kernel_rfl) (fun E _=>?_);unfold S5 at h;refine B0 (WS.rg (u0 1 [kS 4 Sl3.nil] (RS.dn (A0 (B0 (B0 (WS.rg (u0 2 [kI 6 a1,(5,.val (vP a0))] ?_))))))));obtain ⟨x1,hx,h⟩:=bind_some h;refine RS.cl (some 7) (v:=(vB x1)) 31 _ (M3 hx) (u0 1 [kB 8 (!x1)] (RS.dn (A0 ?_)));rcases Y0 h with ⟨hp,h⟩ | ⟨hp,h⟩
 ·refine D0 8 false (nb_not hp) (J0 (K0 (A0 (B0 ?_))));refine Q0 [0,1,2,3,4,5,6,7,8,9,10,11,12,13,14,15] [0,1,3,7,0,16,48,112,0,496,1008,2047,4095,8191,16383,32767,65535,131071,262143] 19 (fun hcl=>?_);refine C0 0 (some 9) (vP a0) ?_;obtain ⟨q2,hx,hq2⟩:=bind_some h;subst hx;have h:=hq2;refine C0 1 (some 10) (vP (some q2)) (C0 2 (some 11) (vP (some (Addr.add q2 5))) ?_);obtain ⟨x3,hx,h⟩:=bind_some h;refine E0 3 (some 12) (Sl3.v x3) (Abs.det_load (t:=60) (x:=.tmp 11) (a:=(Addr.add q2 5)) (by kernel_rfl) (by kernel_rfl) (by kernel_rfl) (by kernel_rfl) (X0 hx A1)) (C0 4 (some 13) (vP (some q2)) (C0 5 (some 14) (vP (some q2)) (C0 6 (some 15) (vP (some (Addr.add q2 4))) ?_)));obtain ⟨x4,hx,h⟩:=bind_some h;refine E0 7 (some 16) (Sl3.v x4) (Abs.det_load (t:=27) (x:=.tmp 15) (a:=(Addr.add q2 4)) (by kernel_rfl) (by kernel_rfl) (by kernel_rfl) (by kernel_rfl) (X0 hx A1)) (C0 8 (some 17) (vI .i64 a1) ?_);obtain ⟨p5,hx,h⟩:=bind_some h;refine E0 9 (some 18) (vP (some p5)) (Abs.det_idx (s:=x4) (k:=.i64) (t:=27) (e:=3) (x:=.tmp 16) (y:=.tmp 17) (by kernel_rfl) (by kernel_rfl) (by kernel_rfl) (by kernel_rfl) (by kernel_rfl) hx) ?_;obtain ⟨x6,hx,h⟩:=bind_some h;refine E0 10 (some 19) (vI .i64 x6) (Abs.det_load (t:=3) (x:=.tmp 18) (a:=p5) (by kernel_rfl) (by kernel_rfl) (by kernel_rfl) (by kernel_rfl) (X0 hx Z0)) ?_;obtain ⟨p7,hx,h⟩:=bind_some h;refine E0 11 (some 20) (vP (some p7)) (Abs.det_idx (s:=x3) (k:=.i64) (t:=60) (e:=79) (x:=.tmp 12) (y:=.tmp 19) (by kernel_rfl) (by kernel_rfl) (by kernel_rfl) (by kernel_rfl) (by kernel_rfl) hx) ?_;obtain ⟨x8,hx,h⟩:=bind_some h;refine E0 12 (some 21) (vP x8) (Abs.det_load (t:=79) (x:=.tmp 20) (a:=p7) (by kernel_rfl) (by kernel_rfl) (by kernel_rfl) (by kernel_rfl) (X0 hx A7)) ?_;obtain ⟨q9,hx,hq9⟩:=bind_some h;subst hx;have h:=hq9;refine C0 13 (some 22) (vP (some q9)) (C0 14 (some 23) (vP (some (Addr.add q9 1))) ?_);obtain ⟨x10,hx,h⟩:=bind_some h;refine E0 15 (some 24) (Sl3.v x10) (Abs.det_load (t:=27) (x:=.tmp 23) (a:=(Addr.add q9 1)) (by kernel_rfl) (by kernel_rfl) (by kernel_rfl) (by kernel_rfl) (X0 hx A1)) ?_;obtain ⟨⟨x11,H12⟩,hx,h⟩:=bind_some h;try dsimp only at h
  refine DA.on 16 (DA.aC 16 (some 25) (v:=x11) 37 #[(Sl3.v x10)] (z98 hx) ?_);obtain ⟨⟨x13,H14⟩,hx,h⟩:=bind_some h;try dsimp only at h
  refine DA.on 17 (DA.aC 17 (some 26) (v:=(Sl3.v x13)) 36 #[x11] (z9m hx) (DA.tP 18 (some 4) (Sl3.v x13) (DA.dn (A0 (G0 ?_)))));cases h;exact fun a w hs=>rtR (rS hs)
 ·refine D0 8 true (D3 hp) (I0 (B0 (WS.rg (u0 1 [kS 4 Sl3.nil] (RS.dn (A0 (G0 ?_)))))));cases h;exact fun a w hs=>sqR (rtR (rS hs))
def z2w:Int→Value
 | r0=>(vI .i64 r0)
def z3e (H:AH):Int→AH:=fun _=>H
noncomputable def B67:Code:=(Tryd.f67.body).getD .skip
noncomputable def Y4 (_L:LC) (H:AH) (a0:Sl3) (a1:Int):Int→Option (Lp Int Int):=fun v8_1 =>
 if v8_1<(a0.n:Int) then
  (idxA 1 a0 v8_1).bind fun p2 => (rd (deI .i64) H p2).bind fun x3 => if a1=x3 then
   some (.ret v8_1)
  else
   some (.next (IntKind.i64.wrap (v8_1+1)))
 else
  some (.brk v8_1)
def z7z (_L:LC) (_H:AH) (a0:Sl3) (a1:Int):Int→KN×Lcs:=fun v8_1=>([kI 8 v8_1,kS 0 a0,kI 1 a1,kI 7 (a0.n:Int)],[])
noncomputable def zq (L:LC) (H:AH) (a0:Sl3) (a1:Int):Option Int :=
 (L.run (Y4 L H a0 a1) 0).bind fun o=>match o with
 | .inl _ =>
  some (-1)
 | .inr r=>some r
theorem z1l {E m L H a0 a1} :LoopF Tryd.prog (NE.plain 1000) m E Tryd.f67 ((cfst (csnd (cfst (csnd B67))))) (z7z L H a0 a1) (fun _=>H) 0 z2w (z3e H) (Y4 L H a0 a1):=by
 rintro v8_1 o h
 unfold Y4 at h;try dsimp only at h
 refine B0 (WS.rg (u0 1 [kB 9 (decide (v8_1<(a0.n:Int)))] (RS.dn (A0 (B0 ?_)))));rcases Y0 h with ⟨hp,h⟩ | ⟨hp,h⟩
 ·refine D0 9 true (decide_eq_true hp) (I0 (K0 (A0 (B0 (M0 1 (B0 (WS.rg (u0 2 [kI 5 v8_1,kI 10 v8_1] (RS.dn ?_)))))))));refine A0 (B0 (WS.rg (u0 3 [kI 13 v8_1,kS 12 a0,kI 11 a1] ?_)));obtain ⟨p2,hx,h⟩:=bind_some h;refine T0 14 27 3 (.tmp 12) (.tmp 13) hx ?_;obtain ⟨x3,hx,h⟩:=bind_some h;refine P0 15 3 (.tmp 14) (X0 hx Z0) (u0 1 [kB 16 (decide (a1=x3))] (RS.dn (A0 ?_)));rcases Y0 h with ⟨hp,h⟩ | ⟨hp,h⟩
  ·refine D0 16 true (decide_eq_true hp) (I0 (B0 (WS.rg (u0 2 [kI 4 v8_1,kI 17 v8_1] (RS.dn (A0 (G0 ?_)))))));cases h;exact fun a w hs=>bkR (sqR (lsR rfl (rS hs)))
  ·refine D0 16 false (decide_eq_false hp) (J0 (K0 ?_));refine fun a w hs=>bkN ((A0 ?_ a w hs));refine WS.rg (u0 2 [kI 8 (IntKind.i64.wrap (v8_1+1)),kI 18 (IntKind.i64.wrap (v8_1+1))] (RS.dn ?_));cases h;exact fun a w hs=>lsN rfl (hs.sb 0)
 ·refine D0 9 false (decide_eq_false hp) (J0 (WS.ex 0 ?_));cases h;exact fun a w hs=>sqE (lsB rfl (hs.sb 0))
theorem z9z {L:LC} {m:Nat} {H:AH} {a0:Sl3} {a1 r:Int} (h:zq L H a0 a1=some r) :
  CallS Tryd.prog (NE.plain 1000) m 67 #[(Sl3.v a0),(vI .i64 a1)] H (z2w r) (z3e H r):=by
 refine CallS.mk (args:=[(Sl3.v a0),(vI .i64 a1)]) Tryd.func67 (B:=B67) (by kernel_rfl) (fun E _=>?_);unfold zq at h;refine B0 (WS.rg (u0 1 [kI 4 0] (RS.dn (A0 (B0 (B0 (WS.rg (u0 3 [kI 8 0,kI 7 (a0.n:Int),kS 6 a0] (RS.dn ?_)))))))));refine A0 (M0 0 ?_);obtain ⟨o,hl,h⟩:=bind_some h;rcases o with v8_4 | r
 ·try dsimp only at h
  refine S0 (z1l (L:=L) (E:=E) (m:=m) (H:=H)) (L.ok hl) 0 ?_;clear hl;refine fun a w hs=>bkE ((A0 ?_ a w hs));refine B0 (WS.rg (u0 1 [kI 4 (-1)] (RS.dn (A0 (G0 ?_)))));cases h;exact fun a w hs=>rtR (rS hs)
 ·try dsimp only at h
  refine R0 (z1l (L:=L) (E:=E) (m:=m) (H:=H)) (L.ok hl) 0 ?_;cases h;exact fun a w hq=>bkR (sqR (rtR hq))
def z77:Bool→Value
 | r0=>(vB r0)
def z7h (H:AH):Bool→AH:=fun _=>H
noncomputable def B54:Code:=(Tryd.f54.body).getD .skip
noncomputable def U5 (L:LC) (H:AH) (a0:Sl3) (a1:Int):Option Bool :=
 (zq L H a0 a1).bind fun x1 => some (decide (x1≥0))
theorem z7w {L:LC} {m:Nat} {H:AH} {a0:Sl3} {a1:Int} {r:Bool} (h:U5 L H a0 a1=some r) :
  CallS Tryd.prog (NE.plain 1000) m 54 #[(Sl3.v a0),(vI .i64 a1)] H (z77 r) (z7h H r):=by
 refine CallS.mk (args:=[(Sl3.v a0),(vI .i64 a1)]) Tryd.func54 (B:=B54) (by kernel_rfl) (fun E _=>?_);unfold U5 at h;refine B0 (WS.rg (u0 1 [kB 4 false] (RS.dn (A0 (B0 (WS.rg (u0 2 [kI 6 a1,kS 5 a0] ?_)))))));obtain ⟨x1,hx,h⟩:=bind_some h;refine RS.cl (some 7) (v:=(vI .i64 x1)) 67 _ (z9z hx) (u0 2 [kB 4 (decide (x1≥0)),kB 8 (decide (x1≥0))] (RS.dn (A0 (G0 ?_))));cases h;exact fun a w hs=>rtR (rS hs)
def z3x:(Sl3×Bool×AH)→Value
 | (r0,r1,_)=>(Value.tuple #[(Sl3.v r0),(vB r1)])
def z4l (_:AH):(Sl3×Bool×AH)→AH:=fun r=>r.2.2
noncomputable def B26:Code:=(Tryd.f26.body).getD .skip
noncomputable def Q3 (L:LC) (m:Nat) (H:AH) (a0:Option Addr):Option (Sl3×Bool×AH) :=
 (K2 L H a0).bind fun x1 => if x1=true then
  (X1 L H a0).bind fun (x2_0,x2_1,x2_2,x2_3,x3) => if x3=true then
   (V3 L m H a0 x2_0 x2_1).bind fun (x4,H5) => Option.bind (α:=(AH×Sl3)) (
    Option.bind (α:=Bool) (
     if x2_3=true then
      (U5 L H5 x4 x2_2).bind fun x9 => some (!x9)
     else
      some false) fun v31_8 =>
    if v31_8=true then
     (newR 3 1 #[(vI .i64 x2_2)] H5).bind fun (s10,H11) => (appS m 3 1 8 H11 x4 s10).bind fun (s12,H13) => (O5 L m H13 s12).bind fun H14 => some (H14,s12)
    else
     some (H5,x4)) fun (H6,v6_7) =>
   some (v6_7,true,H6)
  else
   some (Sl3.nil,false,H)
 else
  some (Sl3.nil,false,H)
theorem z4y {L:LC} {m:Nat} {H:AH} {a0:Option Addr} {r:(Sl3×Bool×AH)} (h:Q3 L m H a0=some r) :
  CallS Tryd.prog (NE.plain 1000) m 26 #[(vP a0)] H (z3x r) (z4l H r):=by
 refine CallS.mk (args:=[(vP a0)]) Tryd.func26 (B:=B26) (by kernel_rfl) (fun E _=>?_);unfold Q3 at h;refine B0 (WS.rg (u0 2 [kB 3 false,kS 2 Sl3.nil] (RS.dn (A0 (B0 (B0 (WS.rg (u0 1 [(7,.val (vP a0))] ?_))))))));obtain ⟨x1,hx,h⟩:=bind_some h;refine RS.cl (some 8) (v:=(vB x1)) 38 _ (G3 hx) (u0 1 [kB 9 (!x1)] (RS.dn (A0 ?_)));rcases Y0 h with ⟨hp,h⟩ | ⟨hp,h⟩
 ·refine D0 9 false (nb_not hp) (J0 (K0 (A0 (B0 (WS.rg (u0 1 [(11,.val (vP a0))] ?_))))));obtain ⟨⟨x2_0,x2_1,x2_2,x2_3,x3⟩,hx,h⟩:=bind_some h;try dsimp only at h
  refine RS.cl (some 12) (v:=(Value.tuple #[(vA #[(vI .i64 x2_0),(vI .i64 x2_1),(vI .i64 x2_2),(vB x2_3)]),(vB x3)])) 44 _ (o7 hx) (V0 6 [kB 5 x3,kL 4 0 0,kB 14 x3,kA 13 #[(vI .i64 x2_0),(vI .i64 x2_1),(vI .i64 x2_2),(vB x2_3)],(10,.val (Value.tuple #[(vA #[(vI .i64 x2_0),(vI .i64 x2_1),(vI .i64 x2_2),(vB x2_3)]),(vB x3)]))] ([some (91,[(vI .i64 x2_0),(vI .i64 x2_1),(vI .i64 x2_2),(vB x2_3)])]) (RS.dn (A0 (B0 (B0 (WS.rg (u0 2 [kB 16 (!x3),kB 15 x3] (RS.dn (A0 ?_)))))))));rcases Y0 h with ⟨hp,h⟩ | ⟨hp,h⟩
  ·refine D0 16 false (nb_not hp) (J0 (K0 (A0 (B0 (WS.rg (u0 5 [kI 21 x2_1,kL 20 0 1,kI 19 x2_0,kL 18 0 0,(17,.val (vP a0))] ?_))))));obtain ⟨⟨x4,H5⟩,hx,h⟩:=bind_some h;try dsimp only at h
   refine RS.cl (some 22) (v:=(Sl3.v x4)) 32 _ (U8 hx) (u0 1 [kS 6 x4] (RS.dn (A0 ?_)));obtain ⟨⟨H6,v6_7⟩,hx,h⟩:=bind_some h;try dsimp only at h
   refine B0 ?_;refine WS.join ([kS 6 v6_7]) ([some (91,[(vI .i64 x2_0),(vI .i64 x2_1),(vI .i64 x2_2),(vB x2_3)])]) H6 ?_ (fun a w hs=>A0 ?_ a w hs)
   ·clear h; rename _=>h;obtain ⟨v31_8,hx,h⟩:=bind_some h;refine B0 ?_;refine WS.join ([kB 31 v31_8,kL 4 0 0,kS 6 x4]) ([some (91,[(vI .i64 x2_0),(vI .i64 x2_1),(vI .i64 x2_2),(vB x2_3)])]) H5 ?_ (fun a w hs=>A0 ?_ a w hs)
    ·clear h; rename _=>h;refine WS.rg (u0 3 [kB 25 x2_3,kB 24 x2_3,kL 23 0 3] ?_);rcases Y0 h with ⟨hp,h⟩ | ⟨hp,h⟩
     ·refine O0 25 true hp (u0 3 [kI 28 x2_2,kL 27 0 2,kS 26 x4] ?_);obtain ⟨x9,hx,h⟩:=bind_some h;refine RS.cl (some 29) (v:=(vB x9)) 54 _ (z7w hx) (u0 2 [kB 31 (!x9),kB 30 (!x9)] (RS.dn ?_));cases h;exact fun a w hs=>(jsN (hs.sb 1))
     ·refine O0 25 false (b_not hp) (u0 6 [kB 31 false,kU 30,kU 29,kU 28,kU 27,kU 26] (RS.dn ?_));cases h;exact fun a w hs=>(jsN (hs.sb 1))
    ·clear hx;rcases Y0 h with ⟨hp,h⟩ | ⟨hp,h⟩
     ·refine D0 31 true hp (I0 (B0 (WS.rg (u0 3 [kI 34 x2_2,kL 33 0 2,kS 32 x4] ?_))));obtain ⟨⟨s10,H11⟩,hx,h⟩:=bind_some h;try dsimp only at h
      refine RS.o (H':=H11) (some 35) (Sl3.v s10) (Abs.run_newR (by kernel_rfl) (by kernel_rfl) hx) ?_;obtain ⟨⟨s12,H13⟩,hx,h⟩:=bind_some h;try dsimp only at h
      refine RS.o (H':=H13) (some 36) (Sl3.v s12) (Abs.run_app (x:=.tmp 32) (y:=.tmp 35) (ts:=#[27,27]) (s:=x4) (z:=s10) (by kernel_rfl) (by kernel_rfl) (by kernel_rfl) (by kernel_rfl) hx) (u0 1 [kS 6 s12] (RS.dn (A0 (WS.rg (u0 1 [kS 37 s12] ?_)))));obtain ⟨H14,hx,h⟩:=bind_some h;refine RS.cl (some 38) (v:=(Value.tuple #[])) 55 _ (z4n hx) (RS.dn ?_);cases h;exact fun a w hs=>(jsN (hs.sb 1))
     ·refine D0 31 false (b_not hp) (J0 (K0 ?_));cases h;exact fun a w hs=>(jsN (hs.sb 1))
   ·clear hx;refine B0 (WS.rg (u0 3 [kB 3 true,kS 2 v6_7,kS 39 v6_7] (RS.dn (A0 (G0 ?_)))));cases h;exact fun a w hs=>rtR (rS hs)
  ·refine D0 16 true (D3 hp) (I0 (B0 (WS.rg (u0 2 [kB 3 false,kS 2 Sl3.nil] (RS.dn (A0 (G0 ?_)))))));cases h;exact fun a w hs=>sqR (rtR (rS hs))
 ·refine D0 9 true (D3 hp) (I0 (B0 (WS.rg (u0 2 [kB 3 false,kS 2 Sl3.nil] (RS.dn (A0 (G0 ?_)))))));cases h;exact fun a w hs=>sqR (rtR (rS hs))
def Y7:Bool→Value
 | r0=>(vB r0)
def D8 (H:AH):Bool→AH:=fun _=>H
noncomputable def B52:Code:=(Tryd.f52.body).getD .skip
noncomputable def K5 (_L:LC) (H:AH) (_a0 a1 a2:Sl3):Int→Option (Lp Int Bool):=fun v7_1 =>
 if v7_1<(a1.n:Int) then
  Option.bind (α:=Bool) (
   (idxA 4 a1 v7_1).bind fun p3 => (rd deB H (Addr.add p3 3)).bind fun x4 => if x4=true then
    (idxA 4 a1 v7_1).bind fun p5 => (rd (deI .i64) H (Addr.add p5 0)).bind fun x6 => (idxA 1 a2 x6).bind fun p7 => (rd (deI .i64) H p7).bind fun x8 => (idxA 4 a1 v7_1).bind fun p9 => (rd (deI .i64) H (Addr.add p9 1)).bind fun x10 => (idxA 1 a2 x10).bind fun p11 => (rd (deI .i64) H p11).bind fun x12 => some (decide (x8=x12))
   else
    some false) fun v39_2 =>
  if v39_2=true then
   some (.ret false)
  else
   some (.next (IntKind.i64.wrap (v7_1+1)))
 else
  some (.brk v7_1)
def z8f (_L:LC) (_H:AH) (a0 a1 a2:Sl3):Int→KN×Lcs:=fun v7_1=>([kI 7 v7_1,kS 0 a0,kS 1 a1,kS 2 a2],[])
noncomputable def U3 (_L:LC) (H:AH) (a0 a2:Sl3) (v8_14:Int):Int→Option (Lp Int Bool):=fun v9_15 =>
 if v9_15<v8_14 then
  Option.bind (α:=Bool) (
   (idxA 3 a0 v8_14).bind fun p17 => (rd deB H (Addr.add p17 1)).bind fun x18 => if x18=true then
    (idxA 3 a0 v9_15).bind fun p19 => (rd deB H (Addr.add p19 1)).bind fun x20 => if x20=true then
     (idxA 1 a2 v8_14).bind fun p21 => (rd (deI .i64) H p21).bind fun x22 => (idxA 1 a2 v9_15).bind fun p23 => (rd (deI .i64) H p23).bind fun x24 => some (decide (x22=x24))
    else
     some false
   else
    some false) fun v73_16 =>
  if v73_16=true then
   some (.ret false)
  else
   some (.next (IntKind.i64.wrap (v9_15+1)))
 else
  some (.brk v9_15)
def z89 (_L:LC) (_H:AH) (a0 a2:Sl3) (v8_14:Int):Int→KN×Lcs:=fun v9_15=>([kI 9 v9_15,kS 0 a0,kS 2 a2,kI 8 v8_14],[])
noncomputable def N5 (L:LC) (H:AH) (a0 a2:Sl3):Int→Option (Lp Int Bool):=fun v8_14 =>
 if v8_14<(a0.n:Int) then
  (L.run (U3 L H a0 a2 v8_14) 0).bind fun o=>match o with
  | .inl _ =>
   some (.next (IntKind.i64.wrap (v8_14+1)))
  | .inr r=>some (.ret r)
 else
  some (.brk v8_14)
def z8e (_L:LC) (_H:AH) (a0 a2:Sl3):Int→KN×Lcs:=fun v8_14=>([kI 8 v8_14,kS 0 a0,kS 2 a2],[])
noncomputable def R7 (L:LC) (H:AH) (a0 a1 a2:Sl3):Option Bool :=
 (L.run (K5 L H a0 a1 a2) 0).bind fun o=>match o with
 | .inl _ =>
  (L.run (N5 L H a0 a2) 0).bind fun o=>match o with
  | .inl _ =>
   some true
  | .inr r=>some r
 | .inr r=>some r
theorem z28 {E m L H a0 a1 a2} :LoopF Tryd.prog (NE.plain 1000) m E Tryd.f52 ((cfst (csnd (cfst (csnd B52))))) (z8f L H a0 a1 a2) (fun _=>H) 0 Y7 (D8 H) (K5 L H a0 a1 a2):=by
 rintro v7_1 o h
 unfold K5 at h;try dsimp only at h
 refine B0 (B0 (WS.rg (u0 4 [kB 13 (decide (v7_1<(a1.n:Int))),kI 12 (a1.n:Int),kS 11 a1,kI 10 v7_1] (RS.dn (A0 ?_)))));rcases Y0 h with ⟨hp,h⟩ | ⟨hp,h⟩
 ·refine D0 13 true (decide_eq_true hp) (I0 (K0 (A0 (B0 (M0 1 ?_)))));obtain ⟨v39_2,hx,h⟩:=bind_some h;refine B0 ?_;refine WS.join ([kB 39 v39_2,kS 0 a0,kS 1 a1,kS 2 a2,kI 7 v7_1]) ([]) H ?_ (fun a w hs=>A0 ?_ a w hs)
  ·clear h; rename _=>h;refine Q0 [0,1,2,3,4,5,6,7,8,9,10,11,12,13,14,15,16,17,18,19,20,21] [0,0,3,7,15,31,63,63,63,447,959,1983,4095,8191,63,63,63,98367,229439,491583,1032255,2080831,4194303,8388607] 24 (fun hcl=>?_);refine C0 0 (some 16) (Sl3.v a1) (C0 1 (some 17) (vI .i64 v7_1) ?_);obtain ⟨p3,hx,h⟩:=bind_some h;refine E0 2 (some 18) (vP (some p3)) (Abs.det_idx (s:=a1) (k:=.i64) (t:=30) (e:=49) (x:=.tmp 16) (y:=.tmp 17) (by kernel_rfl) (by kernel_rfl) (by kernel_rfl) (by kernel_rfl) (by kernel_rfl) hx) (C0 3 (some 19) (vP (some (Addr.add p3 3))) ?_);obtain ⟨x4,hx,h⟩:=bind_some h;refine E0 4 (some 20) (vB x4) (Abs.det_load (t:=4) (x:=.tmp 19) (a:=(Addr.add p3 3)) (by kernel_rfl) (by kernel_rfl) (by kernel_rfl) (by kernel_rfl) (X0 hx o5)) (C0 5 (some 21) (vB x4) ?_);rcases Y0 h with ⟨hp,h⟩ | ⟨hp,h⟩
   ·refine U0 21 true hp (C0 6 (some 22) (Sl3.v a2) (C0 7 (some 23) (Sl3.v a1) (C0 8 (some 24) (vI .i64 v7_1) ?_)));obtain ⟨p5,hx,h⟩:=bind_some h;refine E0 9 (some 25) (vP (some p5)) (Abs.det_idx (s:=a1) (k:=.i64) (t:=30) (e:=49) (x:=.tmp 23) (y:=.tmp 24) (by kernel_rfl) (by kernel_rfl) (by kernel_rfl) (by kernel_rfl) (by kernel_rfl) hx) (C0 10 (some 26) (vP (some (Addr.add p5 0))) ?_);obtain ⟨x6,hx,h⟩:=bind_some h;refine E0 11 (some 27) (vI .i64 x6) (Abs.det_load (t:=3) (x:=.tmp 26) (a:=(Addr.add p5 0)) (by kernel_rfl) (by kernel_rfl) (by kernel_rfl) (by kernel_rfl) (X0 hx Z0)) ?_;obtain ⟨p7,hx,h⟩:=bind_some h;refine E0 12 (some 28) (vP (some p7)) (Abs.det_idx (s:=a2) (k:=.i64) (t:=27) (e:=3) (x:=.tmp 22) (y:=.tmp 27) (by kernel_rfl) (by kernel_rfl) (by kernel_rfl) (by kernel_rfl) (by kernel_rfl) hx) ?_;obtain ⟨x8,hx,h⟩:=bind_some h;refine E0 13 (some 29) (vI .i64 x8) (Abs.det_load (t:=3) (x:=.tmp 28) (a:=p7) (by kernel_rfl) (by kernel_rfl) (by kernel_rfl) (by kernel_rfl) (X0 hx Z0)) (C0 14 (some 30) (Sl3.v a2) (C0 15 (some 31) (Sl3.v a1) (C0 16 (some 32) (vI .i64 v7_1) ?_)));obtain ⟨p9,hx,h⟩:=bind_some h;refine E0 17 (some 33) (vP (some p9)) (Abs.det_idx (s:=a1) (k:=.i64) (t:=30) (e:=49) (x:=.tmp 31) (y:=.tmp 32) (by kernel_rfl) (by kernel_rfl) (by kernel_rfl) (by kernel_rfl) (by kernel_rfl) hx) (C0 18 (some 34) (vP (some (Addr.add p9 1))) ?_);obtain ⟨x10,hx,h⟩:=bind_some h;refine E0 19 (some 35) (vI .i64 x10) (Abs.det_load (t:=3) (x:=.tmp 34) (a:=(Addr.add p9 1)) (by kernel_rfl) (by kernel_rfl) (by kernel_rfl) (by kernel_rfl) (X0 hx Z0)) ?_;obtain ⟨p11,hx,h⟩:=bind_some h;refine E0 20 (some 36) (vP (some p11)) (Abs.det_idx (s:=a2) (k:=.i64) (t:=27) (e:=3) (x:=.tmp 30) (y:=.tmp 35) (by kernel_rfl) (by kernel_rfl) (by kernel_rfl) (by kernel_rfl) (by kernel_rfl) hx) ?_;obtain ⟨x12,hx,h⟩:=bind_some h;refine E0 21 (some 37) (vI .i64 x12) (Abs.det_load (t:=3) (x:=.tmp 36) (a:=p11) (by kernel_rfl) (by kernel_rfl) (by kernel_rfl) (by kernel_rfl) (X0 hx Z0)) (DA.tP 22 (some 38) (vB (decide (x8=x12))) (DA.tP 23 (some 39) (vB (decide (x8=x12))) (DA.dn ?_)));cases h;exact fun a w hs=>(jsN (hs.sb 0))
   ·refine U0 21 false (b_not hp) ?_;refine F0 6 (some 22) (by kernel_rfl) (by kernel_rfl) (by kernel_rfl) hcl (fun _ _ _ h=>h) (by kernel_rfl) ?_;refine F0 7 (some 23) (by kernel_rfl) (by kernel_rfl) (by kernel_rfl) hcl (fun _ _ _ h=>h) (by kernel_rfl) ?_;refine F0 8 (some 24) (by kernel_rfl) (by kernel_rfl) (by kernel_rfl) hcl (fun _ _ _ h=>h) (by kernel_rfl) ?_;refine F0 9 (some 25) (by kernel_rfl) (by kernel_rfl) (by kernel_rfl) hcl (fun _ _ _ h=>h) (by kernel_rfl) ?_;refine F0 10 (some 26) (by kernel_rfl) (by kernel_rfl) (by kernel_rfl) hcl (fun _ _ _ h=>h) (by kernel_rfl) ?_;refine F0 11 (some 27) (by kernel_rfl) (by kernel_rfl) (by kernel_rfl) hcl (fun _ _ _ h=>h) (by kernel_rfl) ?_;refine F0 12 (some 28) (by kernel_rfl) (by kernel_rfl) (by kernel_rfl) hcl (fun _ _ _ h=>h) (by kernel_rfl) ?_;refine F0 13 (some 29) (by kernel_rfl) (by kernel_rfl) (by kernel_rfl) hcl (fun _ _ _ h=>h) (by kernel_rfl) ?_;refine F0 14 (some 30) (by kernel_rfl) (by kernel_rfl) (by kernel_rfl) hcl (fun _ _ _ h=>h) (by kernel_rfl) ?_;refine F0 15 (some 31) (by kernel_rfl) (by kernel_rfl) (by kernel_rfl) hcl (fun _ _ _ h=>h) (by kernel_rfl) ?_;refine F0 16 (some 32) (by kernel_rfl) (by kernel_rfl) (by kernel_rfl) hcl (fun _ _ _ h=>h) (by kernel_rfl) ?_;refine F0 17 (some 33) (by kernel_rfl) (by kernel_rfl) (by kernel_rfl) hcl (fun _ _ _ h=>h) (by kernel_rfl) ?_;refine F0 18 (some 34) (by kernel_rfl) (by kernel_rfl) (by kernel_rfl) hcl (fun _ _ _ h=>h) (by kernel_rfl) ?_;refine F0 19 (some 35) (by kernel_rfl) (by kernel_rfl) (by kernel_rfl) hcl (fun _ _ _ h=>h) (by kernel_rfl) ?_;refine F0 20 (some 36) (by kernel_rfl) (by kernel_rfl) (by kernel_rfl) hcl (fun _ _ _ h=>h) (by kernel_rfl) ?_;refine F0 21 (some 37) (by kernel_rfl) (by kernel_rfl) (by kernel_rfl) hcl (fun _ _ _ h=>h) (by kernel_rfl) ?_;refine N0 22 (some 38) (by kernel_rfl) (by kernel_rfl) (by kernel_rfl) hcl (fun _ _ _ h=>h) (by kernel_rfl) ?_;refine DA.tP 23 (some 39) (vB false) (DA.dn ?_);cases h;exact fun a w hs=>(jsN (hs.sb 0))
  ·clear hx;rcases Y0 h with ⟨hp,h⟩ | ⟨hp,h⟩
   ·refine D0 39 true hp (I0 (B0 (WS.rg (u0 1 [kB 6 false] (RS.dn (A0 (G0 ?_)))))));cases h;exact fun a w hs=>bkR (sqR (lsR rfl (rS hs)))
   ·refine D0 39 false (b_not hp) (J0 (K0 ?_));refine fun a w hs=>bkN ((A0 ?_ a w hs));refine WS.rg (u0 3 [kI 7 (IntKind.i64.wrap (v7_1+1)),kI 15 (IntKind.i64.wrap (v7_1+1)),kI 14 v7_1] (RS.dn ?_));cases h;exact fun a w hs=>lsN rfl (hs.sb 0)
 ·refine D0 13 false (decide_eq_false hp) (J0 (WS.ex 0 ?_));cases h;exact fun a w hs=>sqE (lsB rfl (hs.sb 0))
theorem z2d {E m L H a0 a2 v8_14} :LoopF Tryd.prog (NE.plain 1000) m E Tryd.f52 ((cfst (csnd (cfst (cfst (csnd (cfst (cfst (csnd (cfst (csnd (csnd B52)))))))))))) (z89 L H a0 a2 v8_14) (fun _=>H) 4 Y7 (D8 H) (U3 L H a0 a2 v8_14):=by
 rintro v9_15 o h
 unfold U3 at h;try dsimp only at h
 refine B0 (B0 (WS.rg (u0 3 [kB 48 (decide (v9_15<v8_14)),kI 47 v8_14,kI 46 v9_15] (RS.dn (A0 ?_)))));rcases Y0 h with ⟨hp,h⟩ | ⟨hp,h⟩
 ·refine D0 48 true (decide_eq_true hp) (I0 (K0 (A0 (B0 (M0 5 ?_)))));obtain ⟨v73_16,hx,h⟩:=bind_some h;refine B0 ?_;refine WS.join ([kB 73 v73_16,kS 0 a0,kS 2 a2,kI 8 v8_14,kI 9 v9_15]) ([]) H ?_ (fun a w hs=>A0 ?_ a w hs)
  ·clear h; rename _=>h;refine Q0 [0,1,2,3,4,5,6,7,8,9,10,11,12,13,14,15,16,17,18,19,20] [0,0,3,7,15,31,63,63,255,511,1023,2047,4095,8191,8191,32767,65535,8191,8191,401407,925695,2097151,4194303] 23 (fun hcl=>?_);refine C0 0 (some 51) (Sl3.v a0) (C0 1 (some 52) (vI .i64 v8_14) ?_);obtain ⟨p17,hx,h⟩:=bind_some h;refine E0 2 (some 53) (vP (some p17)) (Abs.det_idx (s:=a0) (k:=.i64) (t:=29) (e:=42) (x:=.tmp 51) (y:=.tmp 52) (by kernel_rfl) (by kernel_rfl) (by kernel_rfl) (by kernel_rfl) (by kernel_rfl) hx) (C0 3 (some 54) (vP (some (Addr.add p17 1))) ?_);obtain ⟨x18,hx,h⟩:=bind_some h;refine E0 4 (some 55) (vB x18) (Abs.det_load (t:=4) (x:=.tmp 54) (a:=(Addr.add p17 1)) (by kernel_rfl) (by kernel_rfl) (by kernel_rfl) (by kernel_rfl) (X0 hx o5)) (C0 5 (some 56) (vB x18) ?_);rcases Y0 h with ⟨hp,h⟩ | ⟨hp,h⟩
   ·refine U0 56 true hp (C0 6 (some 57) (Sl3.v a0) (C0 7 (some 58) (vI .i64 v9_15) ?_));obtain ⟨p19,hx,h⟩:=bind_some h;refine E0 8 (some 59) (vP (some p19)) (Abs.det_idx (s:=a0) (k:=.i64) (t:=29) (e:=42) (x:=.tmp 57) (y:=.tmp 58) (by kernel_rfl) (by kernel_rfl) (by kernel_rfl) (by kernel_rfl) (by kernel_rfl) hx) (C0 9 (some 60) (vP (some (Addr.add p19 1))) ?_);obtain ⟨x20,hx,h⟩:=bind_some h;refine E0 10 (some 61) (vB x20) (Abs.det_load (t:=4) (x:=.tmp 60) (a:=(Addr.add p19 1)) (by kernel_rfl) (by kernel_rfl) (by kernel_rfl) (by kernel_rfl) (X0 hx o5)) (C0 11 (some 62) (vB x20) (C0 12 (some 63) (vB x20) ?_));rcases Y0 h with ⟨hp,h⟩ | ⟨hp,h⟩
    ·refine U0 63 true hp (C0 13 (some 64) (Sl3.v a2) (C0 14 (some 65) (vI .i64 v8_14) ?_));obtain ⟨p21,hx,h⟩:=bind_some h;refine E0 15 (some 66) (vP (some p21)) (Abs.det_idx (s:=a2) (k:=.i64) (t:=27) (e:=3) (x:=.tmp 64) (y:=.tmp 65) (by kernel_rfl) (by kernel_rfl) (by kernel_rfl) (by kernel_rfl) (by kernel_rfl) hx) ?_;obtain ⟨x22,hx,h⟩:=bind_some h;refine E0 16 (some 67) (vI .i64 x22) (Abs.det_load (t:=3) (x:=.tmp 66) (a:=p21) (by kernel_rfl) (by kernel_rfl) (by kernel_rfl) (by kernel_rfl) (X0 hx Z0)) (C0 17 (some 68) (Sl3.v a2) (C0 18 (some 69) (vI .i64 v9_15) ?_));obtain ⟨p23,hx,h⟩:=bind_some h;refine E0 19 (some 70) (vP (some p23)) (Abs.det_idx (s:=a2) (k:=.i64) (t:=27) (e:=3) (x:=.tmp 68) (y:=.tmp 69) (by kernel_rfl) (by kernel_rfl) (by kernel_rfl) (by kernel_rfl) (by kernel_rfl) hx) ?_;obtain ⟨x24,hx,h⟩:=bind_some h;refine E0 20 (some 71) (vI .i64 x24) (Abs.det_load (t:=3) (x:=.tmp 70) (a:=p23) (by kernel_rfl) (by kernel_rfl) (by kernel_rfl) (by kernel_rfl) (X0 hx Z0)) (DA.tP 21 (some 72) (vB (decide (x22=x24))) (DA.tP 22 (some 73) (vB (decide (x22=x24))) (DA.dn ?_)));cases h;exact fun a w hs=>(jsN (hs.sb 0))
    ·refine U0 63 false (b_not hp) ?_;refine F0 13 (some 64) (by kernel_rfl) (by kernel_rfl) (by kernel_rfl) hcl (fun _ _ _ h=>h) (by kernel_rfl) ?_;refine F0 14 (some 65) (by kernel_rfl) (by kernel_rfl) (by kernel_rfl) hcl (fun _ _ _ h=>h) (by kernel_rfl) ?_;refine F0 15 (some 66) (by kernel_rfl) (by kernel_rfl) (by kernel_rfl) hcl (fun _ _ _ h=>h) (by kernel_rfl) ?_;refine F0 16 (some 67) (by kernel_rfl) (by kernel_rfl) (by kernel_rfl) hcl (fun _ _ _ h=>h) (by kernel_rfl) ?_;refine F0 17 (some 68) (by kernel_rfl) (by kernel_rfl) (by kernel_rfl) hcl (fun _ _ _ h=>h) (by kernel_rfl) ?_;refine F0 18 (some 69) (by kernel_rfl) (by kernel_rfl) (by kernel_rfl) hcl (fun _ _ _ h=>h) (by kernel_rfl) ?_;refine F0 19 (some 70) (by kernel_rfl) (by kernel_rfl) (by kernel_rfl) hcl (fun _ _ _ h=>h) (by kernel_rfl) ?_;refine F0 20 (some 71) (by kernel_rfl) (by kernel_rfl) (by kernel_rfl) hcl (fun _ _ _ h=>h) (by kernel_rfl) ?_;refine N0 21 (some 72) (by kernel_rfl) (by kernel_rfl) (by kernel_rfl) hcl (fun _ _ _ h=>h) (by kernel_rfl) ?_;refine DA.tP 22 (some 73) (vB false) (DA.dn ?_);cases h;exact fun a w hs=>(jsN (hs.sb 0))
   ·refine U0 56 false (b_not hp) ?_;refine F0 6 (some 57) (by kernel_rfl) (by kernel_rfl) (by kernel_rfl) hcl (fun _ _ _ h=>h) (by kernel_rfl) ?_;refine F0 7 (some 58) (by kernel_rfl) (by kernel_rfl) (by kernel_rfl) hcl (fun _ _ _ h=>h) (by kernel_rfl) ?_;refine F0 8 (some 59) (by kernel_rfl) (by kernel_rfl) (by kernel_rfl) hcl (fun _ _ _ h=>h) (by kernel_rfl) ?_;refine F0 9 (some 60) (by kernel_rfl) (by kernel_rfl) (by kernel_rfl) hcl (fun _ _ _ h=>h) (by kernel_rfl) ?_;refine F0 10 (some 61) (by kernel_rfl) (by kernel_rfl) (by kernel_rfl) hcl (fun _ _ _ h=>h) (by kernel_rfl) ?_;refine C0 11 (some 62) (vB false) (C0 12 (some 63) (vB false) ?_);refine F0 13 (some 64) (by kernel_rfl) (by kernel_rfl) (by kernel_rfl) hcl (fun _ _ _ h=>h) (by kernel_rfl) ?_;refine F0 14 (some 65) (by kernel_rfl) (by kernel_rfl) (by kernel_rfl) hcl (fun _ _ _ h=>h) (by kernel_rfl) ?_;refine F0 15 (some 66) (by kernel_rfl) (by kernel_rfl) (by kernel_rfl) hcl (fun _ _ _ h=>h) (by kernel_rfl) ?_;refine F0 16 (some 67) (by kernel_rfl) (by kernel_rfl) (by kernel_rfl) hcl (fun _ _ _ h=>h) (by kernel_rfl) ?_;refine F0 17 (some 68) (by kernel_rfl) (by kernel_rfl) (by kernel_rfl) hcl (fun _ _ _ h=>h) (by kernel_rfl) ?_;refine F0 18 (some 69) (by kernel_rfl) (by kernel_rfl) (by kernel_rfl) hcl (fun _ _ _ h=>h) (by kernel_rfl) ?_;refine F0 19 (some 70) (by kernel_rfl) (by kernel_rfl) (by kernel_rfl) hcl (fun _ _ _ h=>h) (by kernel_rfl) ?_;refine F0 20 (some 71) (by kernel_rfl) (by kernel_rfl) (by kernel_rfl) hcl (fun _ _ _ h=>h) (by kernel_rfl) ?_;refine N0 21 (some 72) (by kernel_rfl) (by kernel_rfl) (by kernel_rfl) hcl (fun _ _ _ h=>h) (by kernel_rfl) ?_;refine DA.tP 22 (some 73) (vB false) (DA.dn ?_);cases h;exact fun a w hs=>(jsN (hs.sb 0))
  ·clear hx;rcases Y0 h with ⟨hp,h⟩ | ⟨hp,h⟩
   ·refine D0 73 true hp (I0 (B0 (WS.rg (u0 1 [kB 6 false] (RS.dn (A0 (G0 ?_)))))));cases h;exact fun a w hs=>bkR (sqR (lsR rfl (rS hs)))
   ·refine D0 73 false (b_not hp) (J0 (K0 ?_));refine fun a w hs=>bkN ((A0 ?_ a w hs));refine WS.rg (u0 3 [kI 9 (IntKind.i64.wrap (v9_15+1)),kI 50 (IntKind.i64.wrap (v9_15+1)),kI 49 v9_15] (RS.dn ?_));cases h;exact fun a w hs=>lsN rfl (hs.sb 0)
 ·refine D0 48 false (decide_eq_false hp) (J0 (WS.ex 4 ?_));cases h;exact fun a w hs=>sqE (lsB rfl (hs.sb 0))
theorem z1z {E m L H a0 a2} :LoopF Tryd.prog (NE.plain 1000) m E Tryd.f52 ((cfst (csnd (cfst (csnd (csnd B52)))))) (z8e L H a0 a2) (fun _=>H) 2 Y7 (D8 H) (N5 L H a0 a2):=by
 rintro v8_14 o h
 unfold N5 at h;try dsimp only at h
 refine B0 (B0 (WS.rg (u0 4 [kB 43 (decide (v8_14<(a0.n:Int))),kI 42 (a0.n:Int),kS 41 a0,kI 40 v8_14] (RS.dn (A0 ?_)))));rcases Y0 h with ⟨hp,h⟩ | ⟨hp,h⟩
 ·refine D0 43 true (decide_eq_true hp) (I0 (K0 (A0 (B0 (M0 3 (B0 (WS.rg (u0 1 [kI 9 0] (RS.dn ?_)))))))));refine A0 (M0 4 ?_);obtain ⟨o,hl,h⟩:=bind_some h;rcases o with v9_25 | r
  ·try dsimp only at h
   refine S0 (z2d (L:=L) (E:=E) (m:=m) (H:=H)) (L.ok hl) 0 ?_;clear hl;refine fun a w hs=>bkE (bkN ((A0 ?_ a w hs)));refine WS.rg (u0 3 [kI 8 (IntKind.i64.wrap (v8_14+1)),kI 45 (IntKind.i64.wrap (v8_14+1)),kI 44 v8_14] (RS.dn ?_));cases h;exact fun a w hs=>lsN rfl (hs.sb 0)
  ·try dsimp only at h
   refine R0 (z2d (L:=L) (E:=E) (m:=m) (H:=H)) (L.ok hl) 0 ?_;cases h;exact fun a w hq=>bkR (bkR (sqR (lsR rfl hq)))
 ·refine D0 43 false (decide_eq_false hp) (J0 (WS.ex 2 ?_));cases h;exact fun a w hs=>sqE (lsB rfl (hs.sb 0))
theorem z4m {L:LC} {m:Nat} {H:AH} {a0 a1 a2:Sl3} {r:Bool} (h:R7 L H a0 a1 a2=some r) :
  CallS Tryd.prog (NE.plain 1000) m 52 #[(Sl3.v a0),(Sl3.v a1),(Sl3.v a2)] H (Y7 r) (D8 H r):=by
 refine CallS.mk (args:=[(Sl3.v a0),(Sl3.v a1),(Sl3.v a2)]) Tryd.func52 (B:=B52) (by kernel_rfl) (fun E _=>?_);unfold R7 at h;refine B0 (WS.rg (u0 1 [kB 6 false] (RS.dn (A0 (B0 (B0 (WS.rg (u0 1 [kI 7 0] (RS.dn ?_)))))))));refine A0 (M0 0 ?_);obtain ⟨o,hl,h⟩:=bind_some h;rcases o with v7_13 | r
 ·try dsimp only at h
  refine S0 (z28 (L:=L) (E:=E) (m:=m) (H:=H)) (L.ok hl) 0 ?_;clear hl;refine fun a w hs=>bkE ((A0 ?_ a w hs));refine B0 (B0 (WS.rg (u0 1 [kI 8 0] (RS.dn (A0 (M0 2 ?_))))));obtain ⟨o,hl,h⟩:=bind_some h;rcases o with v8_26 | r
  ·try dsimp only at h
   refine S0 (z1z (L:=L) (E:=E) (m:=m) (H:=H)) (L.ok hl) 0 ?_;clear hl;refine fun a w hs=>bkE ((A0 ?_ a w hs));refine B0 (WS.rg (u0 1 [kB 6 true] (RS.dn (A0 (G0 ?_)))));cases h;exact fun a w hs=>rtR (rS hs)
  ·try dsimp only at h
   refine R0 (z1z (L:=L) (E:=E) (m:=m) (H:=H)) (L.ok hl) 0 ?_;cases h;exact fun a w hq=>bkR (sqR (rtR hq))
 ·try dsimp only at h
  refine R0 (z28 (L:=L) (E:=E) (m:=m) (H:=H)) (L.ok hl) 0 ?_;cases h;exact fun a w hq=>bkR (sqR (rtR hq))
def zag:(Bool×AH)→Value
 | (r0,_)=>(vB r0)
def zb7 (_:AH):(Bool×AH)→AH:=fun r=>r.2
noncomputable def B53:Code:=(Tryd.f53.body).getD .skip
noncomputable def D6 (L:LC) (m:Nat) (H:AH) (a0:Option Addr) (a1:Sl3):Option (Bool×AH) :=
 (v7 L m H a0 a1).bind fun (x1,H2) => (N6 L H2 a0 a1 false).bind fun x3 => if x3=true then
  a0.bind fun q4 => (rd deSl H2 (Addr.add q4 0)).bind fun x5 => (rd deSl H2 (Addr.add q4 0)).bind fun x6 => (T7 L (Nat.max m H2.next) H2 x6 x1).bind fun (x7,H8) => (R7 L H8 x5 x1 x7).bind fun x9 => some ((!x9),H8)
 else
  some (false,H2)
theorem z4i {L:LC} {m:Nat} {H:AH} {a0:Option Addr} {a1:Sl3} {r:(Bool×AH)} (h:D6 L m H a0 a1=some r) :
  CallS Tryd.prog (NE.plain 1000) m 53 #[(vP a0),(Sl3.v a1)] H (zag r) (zb7 H r):=by
 refine CallS.mk (args:=[(vP a0),(Sl3.v a1)]) Tryd.func53 (B:=B53) (by kernel_rfl) (fun E _=>?_);unfold D6 at h;refine B0 (WS.rg (u0 1 [kB 4 false] (RS.dn (A0 (B0 (WS.rg (u0 2 [kS 7 a1,(6,.val (vP a0))] ?_)))))));obtain ⟨⟨x1,H2⟩,hx,h⟩:=bind_some h;try dsimp only at h
 refine RS.cl (some 8) (v:=(Sl3.v x1)) 34 _ (z8b hx) (u0 1 [kS 5 x1] (RS.dn (A0 (B0 ?_))));refine Q0 [] [0,0,3,7,15,31,63,127,15,15,527,1551,3599,15,15887,32767,65535,131071,262143] 19 (fun hcl=>?_);refine DA.tP 0 (some 9) (vP a0) (DA.tP 1 (some 10) (Sl3.v a1) ?_);obtain ⟨x3,hx,h⟩:=bind_some h;refine DA.on 2 (DA.aC 2 (some 11) (v:=(vB x3)) 33 #[(vP a0),(Sl3.v a1),(vB false)] (z74 hx) (DA.tP 3 (some 12) (vB x3) ?_));rcases Y0 h with ⟨hp,h⟩ | ⟨hp,h⟩
 ·refine U0 12 true hp (DA.tP 4 (some 13) (vP a0) ?_);obtain ⟨q4,hx,hq4⟩:=bind_some h;subst hx;have h:=hq4;refine DA.tP 5 (some 14) (vP (some q4)) (DA.tP 6 (some 15) (vP (some (Addr.add q4 0))) (DA.tP 8 (some 17) (Sl3.v x1) (DA.tP 9 (some 18) (vP (some q4)) (DA.tP 10 (some 19) (vP (some q4)) (DA.tP 11 (some 20) (vP (some (Addr.add q4 0))) (DA.tP 13 (some 22) (Sl3.v x1) (DA.restart [7,12] (by kernel_rfl) ?_)))))));obtain ⟨x5,hx,h⟩:=bind_some h;refine E0 7 (some 16) (Sl3.v x5) (Abs.det_load (t:=29) (x:=.tmp 15) (a:=(Addr.add q4 0)) (by kernel_rfl) (by kernel_rfl) (by kernel_rfl) (by kernel_rfl) (X0 hx A1)) ?_;obtain ⟨x6,hx,h⟩:=bind_some h;refine E0 12 (some 21) (Sl3.v x6) (Abs.det_load (t:=29) (x:=.tmp 20) (a:=(Addr.add q4 0)) (by kernel_rfl) (by kernel_rfl) (by kernel_rfl) (by kernel_rfl) (X0 hx A1)) ?_;obtain ⟨⟨x7,H8⟩,hx,h⟩:=bind_some h;try dsimp only at h
  refine DA.on 14 (DA.aCj 14 (some 23) false (v:=(Sl3.v x7)) 10 #[(Sl3.v x6),(Sl3.v x1)] (z4o hx) ?_);obtain ⟨x9,hx,h⟩:=bind_some h;refine DA.on 15 (DA.aC 15 (some 24) (v:=(vB x9)) 52 #[(Sl3.v x5),(Sl3.v x1),(Sl3.v x7)] (z4m hx) (DA.tP 16 (some 25) (vB (!x9)) (DA.tP 17 (some 26) (vB (!x9)) (DA.tP 18 (some 4) (vB (!x9)) (DA.dn (A0 (G0 ?_)))))));cases h;exact fun a w hs=>rtR (rS hs)
 ·refine U0 12 false (b_not hp) ?_;refine N0 4 (some 13) (by kernel_rfl) (by kernel_rfl) (by kernel_rfl) hcl (fun _ _ _ h=>h) (by kernel_rfl) ?_;refine N0 5 (some 14) (by kernel_rfl) (by kernel_rfl) (by kernel_rfl) hcl (fun _ _ _ h=>h) (by kernel_rfl) ?_;refine N0 6 (some 15) (by kernel_rfl) (by kernel_rfl) (by kernel_rfl) hcl (fun _ _ _ h=>h) (by kernel_rfl) ?_;refine N0 7 (some 16) (by kernel_rfl) (by kernel_rfl) (by kernel_rfl) hcl (fun _ _ _ h=>h) (by kernel_rfl) ?_;refine N0 8 (some 17) (by kernel_rfl) (by kernel_rfl) (by kernel_rfl) hcl (fun _ _ _ h=>h) (by kernel_rfl) ?_;refine N0 9 (some 18) (by kernel_rfl) (by kernel_rfl) (by kernel_rfl) hcl (fun _ _ _ h=>h) (by kernel_rfl) ?_;refine N0 10 (some 19) (by kernel_rfl) (by kernel_rfl) (by kernel_rfl) hcl (fun _ _ _ h=>h) (by kernel_rfl) ?_;refine N0 11 (some 20) (by kernel_rfl) (by kernel_rfl) (by kernel_rfl) hcl (fun _ _ _ h=>h) (by kernel_rfl) ?_;refine N0 12 (some 21) (by kernel_rfl) (by kernel_rfl) (by kernel_rfl) hcl (fun _ _ _ h=>h) (by kernel_rfl) ?_;refine N0 13 (some 22) (by kernel_rfl) (by kernel_rfl) (by kernel_rfl) hcl (fun _ _ _ h=>h) (by kernel_rfl) ?_;refine N0 14 (some 23) (by kernel_rfl) (by kernel_rfl) (by kernel_rfl) hcl (fun _ _ _ h=>h) (by kernel_rfl) ?_;refine N0 15 (some 24) (by kernel_rfl) (by kernel_rfl) (by kernel_rfl) hcl (fun _ _ _ h=>h) (by kernel_rfl) ?_;refine N0 16 (some 25) (by kernel_rfl) (by kernel_rfl) (by kernel_rfl) hcl (fun _ _ _ h=>h) (by kernel_rfl) ?_;refine DA.tP 17 (some 26) (vB false) (DA.tP 18 (some 4) (vB false) (DA.dn (A0 (G0 ?_))));cases h;exact fun a w hs=>rtR (rS hs)
def z3q:(Bool×AH)→Value
 | (r0,_)=>(vB r0)
def z4z (_:AH):(Bool×AH)→AH:=fun r=>r.2
noncomputable def B25:Code:=(Tryd.f25.body).getD .skip
noncomputable def K6 (L:LC) (a0:Option Addr) (_q1:Addr) (x4:Sl3) (H5:AH):Int→Option (Lp Int (Bool×AH)):=fun v6_8 =>
 if v6_8<(x4.n:Int) then
  (K3 L H5 a0 v6_8).bind fun (x9,x10) => Option.bind (α:=Bool) (
   if x10=true then
    (idxA 1 x4 v6_8).bind fun p12 => (rd (deI .i64) H5 p12).bind fun x13 => some (!decide (x9=x13))
   else
    some true) fun v50_11 =>
  if v50_11=true then
   some (.ret (false,H5))
  else
   some (.next (IntKind.i64.wrap (v6_8+1)))
 else
  some (.brk v6_8)
def z85 (_L:LC) (a0:Option Addr) (q1:Addr) (x4:Sl3) (_H5:AH):Int→KN×Lcs:=fun v6_8=>([kI 6 v6_8,(0,.val (vP a0)),kP 1 q1,kS 5 x4],[])
noncomputable def l7 (L:LC) (m:Nat) (H:AH) (a0 a1:Option Addr):Option (Bool×AH) :=
 a1.bind fun q1 => (rd deSl H (Addr.add q1 0)).bind fun x2 => (rd deSl H (Addr.add q1 1)).bind fun x3 => (T7 L m H x2 x3).bind fun (x4,H5) => (rd deSl H5 (Addr.add q1 0)).bind fun x6 => (J5 L H5 a0).bind fun x7 => if x7=(x6.n:Int) then
  (L.run (K6 L a0 q1 x4 H5) 0).bind fun o=>match o with
  | .inl _ =>
   (rd deSl H5 (Addr.add q1 0)).bind fun x15 => (rd deSl H5 (Addr.add q1 1)).bind fun x16 => (R7 L H5 x15 x16 x4).bind fun x17 => (Q3 L m H5 a0).bind fun (x18,x19,H20) => (O3 L H20 a0).bind fun x21 => if (x21 == x17)=true then
    if (x19 == (!x17))=true then
     if x17=true then
      if (x18.n:Int)=0 then
       some (true,H20)
      else
       if x17=true then
        some (false,H20)
       else
        (D6 L m H20 (some q1) x18).bind fun (x22,H23) => some (x22,H23)
     else
      if x17=true then
       some (false,H20)
      else
       (D6 L m H20 (some q1) x18).bind fun (x24,H25) => some (x24,H25)
    else
     some (false,H20)
   else
    some (false,H20)
  | .inr r=>some r
 else
  some (false,H5)
theorem z2c {E m H L a0 q1 x4 H5} :LoopF Tryd.prog (NE.plain 1000) m E Tryd.f25 ((cfst (csnd (cfst (csnd (csnd (csnd B25))))))) (z85 L a0 q1 x4 H5) (fun _=>H5) 0 z3q (z4z H) (K6 L a0 q1 x4 H5):=by
 rintro v6_8 o h
 unfold K6 at h;try dsimp only at h
 refine B0 (B0 (WS.rg (u0 4 [kB 32 (decide (v6_8<(x4.n:Int))),kI 31 (x4.n:Int),kS 30 x4,kI 29 v6_8] (RS.dn (A0 ?_)))));rcases Y0 h with ⟨hp,h⟩ | ⟨hp,h⟩
 ·refine D0 32 true (decide_eq_true hp) (I0 (K0 (A0 (B0 (M0 1 (B0 (WS.rg (u0 2 [kI 37 v6_8,(36,.val (vP a0))] ?_))))))));obtain ⟨⟨x9,x10⟩,hx,h⟩:=bind_some h;try dsimp only at h
  refine RS.cl (some 38) (v:=(Value.tuple #[(vI .i64 x9),(vB x10)])) 14 _ (zx hx) (u0 5 [kB 8 x10,kI 7 x9,kB 40 x10,kI 39 x9,(35,.val (Value.tuple #[(vI .i64 x9),(vB x10)]))] (RS.dn (A0 ?_)));obtain ⟨v50_11,hx,h⟩:=bind_some h;refine B0 ?_;refine WS.join ([kB 50 v50_11,(0,.val (vP a0)),kP 1 q1,kS 5 x4,kI 6 v6_8]) ([]) H5 ?_ (fun a w hs=>A0 ?_ a w hs)
  ·clear h; rename _=>h;refine WS.rg (u0 3 [kB 43 (!x10),kB 42 (!x10),kB 41 x10] ?_);rcases Y0 h with ⟨hp,h⟩ | ⟨hp,h⟩
   ·refine O0 43 false (nb_not hp) (u0 3 [kI 46 v6_8,kS 45 x4,kI 44 x9] ?_);obtain ⟨p12,hx,h⟩:=bind_some h;refine T0 47 27 3 (.tmp 45) (.tmp 46) hx ?_;obtain ⟨x13,hx,h⟩:=bind_some h;refine P0 48 3 (.tmp 47) (X0 hx Z0) (u0 2 [kB 50 (!decide (x9=x13)),kB 49 (!decide (x9=x13))] (RS.dn ?_));cases h;exact fun a w hs=>(jsN (hs.sb 0))
   ·refine O0 43 true (D3 hp) (u0 7 [kB 50 true,kU 49,kU 48,kU 47,kU 46,kU 45,kU 44] (RS.dn ?_));cases h;exact fun a w hs=>(jsN (hs.sb 0))
  ·clear hx;rcases Y0 h with ⟨hp,h⟩ | ⟨hp,h⟩
   ·refine D0 50 true hp (I0 (B0 (WS.rg (u0 1 [kB 4 false] (RS.dn (A0 (G0 ?_)))))));cases h;exact fun a w hs=>bkR (sqR (lsR rfl (rS hs)))
   ·refine D0 50 false (b_not hp) (J0 (K0 ?_));refine fun a w hs=>bkN ((A0 ?_ a w hs));refine WS.rg (u0 3 [kI 6 (IntKind.i64.wrap (v6_8+1)),kI 34 (IntKind.i64.wrap (v6_8+1)),kI 33 v6_8] (RS.dn ?_));cases h;exact fun a w hs=>lsN rfl (hs.sb 0)
 ·refine D0 32 false (decide_eq_false hp) (J0 (WS.ex 0 ?_));cases h;exact fun a w hs=>sqE (lsB rfl (hs.sb 0))
theorem zba {L:LC} {m:Nat} {H:AH} {a0 a1:Option Addr} {r:(Bool×AH)} (h:l7 L m H a0 a1=some r) :
  CallS Tryd.prog (NE.plain 1000) m 25 #[(vP a0),(vP a1)] H (z3q r) (z4z H r):=by
 refine CallS.mk (args:=[(vP a0),(vP a1)]) Tryd.func25 (B:=B25) (by kernel_rfl) (fun E _=>?_);unfold l7 at h;refine B0 (WS.rg (u0 1 [kB 4 false] (RS.dn (A0 (B0 ?_)))));refine Q0 [0,1,2,3,4,5,6,7] [0,1,3,7,0,16,48,112,255,511] 10 (fun hcl=>?_);refine C0 0 (some 12) (vP a1) ?_;obtain ⟨q1,hx,hq1⟩:=bind_some h;subst hx;have h:=hq1;refine C0 1 (some 13) (vP (some q1)) (C0 2 (some 14) (vP (some (Addr.add q1 0))) ?_);obtain ⟨x2,hx,h⟩:=bind_some h;refine E0 3 (some 15) (Sl3.v x2) (Abs.det_load (t:=29) (x:=.tmp 14) (a:=(Addr.add q1 0)) (by kernel_rfl) (by kernel_rfl) (by kernel_rfl) (by kernel_rfl) (X0 hx A1)) (C0 4 (some 16) (vP (some q1)) (C0 5 (some 17) (vP (some q1)) (C0 6 (some 18) (vP (some (Addr.add q1 1))) ?_)));obtain ⟨x3,hx,h⟩:=bind_some h;refine E0 7 (some 19) (Sl3.v x3) (Abs.det_load (t:=30) (x:=.tmp 18) (a:=(Addr.add q1 1)) (by kernel_rfl) (by kernel_rfl) (by kernel_rfl) (by kernel_rfl) (X0 hx A1)) ?_;obtain ⟨⟨x4,H5⟩,hx,h⟩:=bind_some h;try dsimp only at h
 refine DA.on 8 (DA.aC 8 (some 20) (v:=(Sl3.v x4)) 10 #[(Sl3.v x2),(Sl3.v x3)] (z4o hx) (DA.tP 9 (some 5) (Sl3.v x4) (DA.dn (A0 (B0 (B0 ?_))))));refine Q0 [2,3,4,5] [0,1,0,4,12,28,60,127] 8 (fun hcl=>?_);refine C0 2 (some 23) (vP (some q1)) (C0 3 (some 24) (vP (some q1)) (C0 4 (some 25) (vP (some (Addr.add q1 0))) ?_));obtain ⟨x6,hx,h⟩:=bind_some h;refine E0 5 (some 26) (Sl3.v x6) (Abs.det_load (t:=29) (x:=.tmp 25) (a:=(Addr.add q1 0)) (by kernel_rfl) (by kernel_rfl) (by kernel_rfl) (by kernel_rfl) (X0 hx A1)) (DA.tP 0 (some 21) (vP a0) (DA.tP 6 (some 27) (vI .i64 (x6.n:Int)) ?_));obtain ⟨x7,hx,h⟩:=bind_some h;refine DA.on 1 (DA.aCj 1 (some 22) false (v:=(vI .i64 x7)) 21 #[(vP a0)] (zz hx) (DA.tP 7 (some 28) (vB (!decide (x7=(x6.n:Int)))) (DA.dn (A0 ?_))));rcases Y0 h with ⟨hp,h⟩ | ⟨hp,h⟩
 ·refine D0 28 false (U7 hp) (J0 (K0 (A0 (B0 (B0 (WS.rg (u0 1 [kI 6 0] (RS.dn (A0 ?_)))))))));refine M0 0 ?_;obtain ⟨o,hl,h⟩:=bind_some h;rcases o with v6_14 | r
  ·try dsimp only at h
   refine S0 (z2c (L:=L) (E:=E) (m:=m) (H:=H)) (L.ok hl) 0 ?_;clear hl;refine fun a w hs=>bkE ((A0 ?_ a w hs));refine B0 ?_;refine Q0 [0,1,2,3,4,5,6,7] [0,1,3,7,0,16,48,112,0,511,1023] 11 (fun hcl=>?_);refine C0 0 (some 51) (vP (some q1)) (C0 1 (some 52) (vP (some q1)) (C0 2 (some 53) (vP (some (Addr.add q1 0))) ?_));obtain ⟨x15,hx,h⟩:=bind_some h;refine E0 3 (some 54) (Sl3.v x15) (Abs.det_load (t:=29) (x:=.tmp 53) (a:=(Addr.add q1 0)) (by kernel_rfl) (by kernel_rfl) (by kernel_rfl) (by kernel_rfl) (X0 hx A1)) (C0 4 (some 55) (vP (some q1)) (C0 5 (some 56) (vP (some q1)) (C0 6 (some 57) (vP (some (Addr.add q1 1))) ?_)));obtain ⟨x16,hx,h⟩:=bind_some h;refine E0 7 (some 58) (Sl3.v x16) (Abs.det_load (t:=30) (x:=.tmp 57) (a:=(Addr.add q1 1)) (by kernel_rfl) (by kernel_rfl) (by kernel_rfl) (by kernel_rfl) (X0 hx A1)) (DA.tP 8 (some 59) (Sl3.v x4) ?_);obtain ⟨x17,hx,h⟩:=bind_some h;refine DA.on 9 (DA.aC 9 (some 60) (v:=(vB x17)) 52 #[(Sl3.v x15),(Sl3.v x16),(Sl3.v x4)] (z4m hx) (DA.tP 10 (some 9) (vB x17) (DA.dn (A0 (B0 (WS.rg (u0 1 [(62,.val (vP a0))] ?_)))))));obtain ⟨⟨x18,x19,H20⟩,hx,h⟩:=bind_some h;try dsimp only at h
   refine RS.cl (some 63) (v:=(Value.tuple #[(Sl3.v x18),(vB x19)])) 26 _ (z4y hx) (u0 5 [kB 11 x19,kS 10 x18,kB 65 x19,kS 64 x18,(61,.val (Value.tuple #[(Sl3.v x18),(vB x19)]))] (RS.dn (A0 (B0 (WS.rg (u0 1 [(66,.val (vP a0))] ?_))))));obtain ⟨x21,hx,h⟩:=bind_some h;refine RS.cl (some 67) (v:=(vB x21)) 22 _ (R9 hx) (u0 3 [kB 70 (x21 == x17),kB 69 (x21 == x17),kB 68 x17] ?_);rcases Y0 h with ⟨hp,h⟩ | ⟨hp,h⟩
   ·refine O0 70 true hp (u0 6 [kB 76 (x19 == (!x17)),kB 75 (x19 == (!x17)),kB 74 (x19 == (!x17)),kB 73 (!x17),kB 72 x17,kB 71 x19] ?_);rcases Y0 h with ⟨hp,h⟩ | ⟨hp,h⟩
    ·refine O0 76 true hp (u0 2 [kB 78 x17,kB 77 x17] ?_);rcases Y0 h with ⟨hp,h⟩ | ⟨hp,h⟩
     ·refine O0 78 true hp (u0 5 [kB 83 (decide ((x18.n:Int)=0)),kB 82 (decide ((x18.n:Int)=0)),kB 81 (decide ((x18.n:Int)=0)),kI 80 (x18.n:Int),kS 79 x18] ?_);rcases Y0 h with ⟨hp,h⟩ | ⟨hp,h⟩
      ·refine O0 83 true (decide_eq_true hp) (u0 10 [kB 4 true,kB 92 true,kB 91 true,kU 90,kU 89,kU 88,kU 87,kU 86,kU 85,kU 84] (RS.dn (A0 (G0 ?_))));cases h;exact fun a w hs=>rtR (rS hs)
      ·refine O0 83 false (decide_eq_false hp) (u0 3 [kB 86 (!x17),kB 85 (!x17),kB 84 x17] ?_);rcases Y0 h with ⟨hp,h⟩ | ⟨hp,h⟩
       ·refine O0 86 false (nb_not hp) (u0 7 [kB 4 false,kB 92 false,kB 91 false,kB 90 false,kU 89,kU 88,kU 87] (RS.dn (A0 (G0 ?_))));cases h;exact fun a w hs=>rtR (rS hs)
       ·refine O0 86 true (D3 hp) (u0 2 [kS 88 x18,kP 87 q1] ?_);obtain ⟨⟨x22,H23⟩,hx,h⟩:=bind_some h;try dsimp only at h
        refine RS.cl (some 89) (v:=(vB x22)) 53 _ (z4i hx) (u0 4 [kB 4 x22,kB 92 x22,kB 91 x22,kB 90 x22] (RS.dn (A0 (G0 ?_))));cases h;exact fun a w hs=>rtR (rS hs)
     ·refine O0 78 false (b_not hp) (u0 8 [kB 86 (!x17),kB 85 (!x17),kB 84 x17,kB 83 false,kB 82 false,kU 81,kU 80,kU 79] ?_);rcases Y0 h with ⟨hp,h⟩ | ⟨hp,h⟩
      ·refine O0 86 false (nb_not hp) (u0 7 [kB 4 false,kB 92 false,kB 91 false,kB 90 false,kU 89,kU 88,kU 87] (RS.dn (A0 (G0 ?_))));cases h;exact fun a w hs=>rtR (rS hs)
      ·refine O0 86 true (D3 hp) (u0 2 [kS 88 x18,kP 87 q1] ?_);obtain ⟨⟨x24,H25⟩,hx,h⟩:=bind_some h;try dsimp only at h
       refine RS.cl (some 89) (v:=(vB x24)) 53 _ (z4i hx) (u0 4 [kB 4 x24,kB 92 x24,kB 91 x24,kB 90 x24] (RS.dn (A0 (G0 ?_))));cases h;exact fun a w hs=>rtR (rS hs)
    ·refine O0 76 false (b_not hp) (u0 17 [kB 4 false,kB 92 false,kU 91,kU 90,kU 89,kU 88,kU 87,kU 86,kU 85,kU 84,kU 83,kU 82,kU 81,kU 80,kU 79,kU 78,kU 77] (RS.dn (A0 (G0 ?_))));cases h;exact fun a w hs=>rtR (rS hs)
   ·refine O0 70 false (b_not hp) (u0 23 [kB 4 false,kB 92 false,kU 91,kU 90,kU 89,kU 88,kU 87,kU 86,kU 85,kU 84,kU 83,kU 82,kU 81,kU 80,kU 79,kU 78,kU 77,kB 76 false,kB 75 false,kU 74,kU 73,kU 72,kU 71] (RS.dn (A0 (G0 ?_))));cases h;exact fun a w hs=>rtR (rS hs)
  ·try dsimp only at h
   refine R0 (z2c (L:=L) (E:=E) (m:=m) (H:=H)) (L.ok hl) 0 ?_;cases h;exact fun a w hq=>bkR (sqR (rtR hq))
 ·refine D0 28 true (Z6 hp) (I0 (B0 (WS.rg (u0 1 [kB 4 false] (RS.dn (A0 (G0 ?_)))))));cases h;exact fun a w hs=>sqR (rtR (rS hs))
def F4:(Bool×AH)→Value
 | (r0,_)=>(vB r0)
def S4 (_:AH):(Bool×AH)→AH:=fun r=>r.2
noncomputable def B7:Code:=(Tryd.f7.body).getD .skip
noncomputable def O4 (_L:LC) (m:Nat) (_a0:Sl3) (_p3 _q5:Addr) (_v5_7 _x10_0 _x10_1:Int) (x10_2:Sl3) (_x10_3 _x10_4 _x10_5:Int) (s12:Sl3):(AH×Int)→Option (Lp (AH×Int) (Bool×AH)):=fun (H16,v9_17) =>
 if v9_17<(s12.n:Int) then
  (idxA 1 s12 v9_17).bind fun p18 => (rd (deI .i64) H16 p18).bind fun x19 => (idxA 1 x10_2 v9_17).bind fun p20 => (rd (deI .i64) H16 p20).bind fun x21 => if x19=x21 then
   (idxA 1 s12 v9_17).bind fun p22 => (H16.setCell m p22 (vI .i64 (-5))).bind fun H23 => some (.next (H23,(IntKind.i64.wrap (v9_17+1))))
  else
   some (.ret (false,H16))
 else
  some (.brk (H16,v9_17))
def z4x (_L:LC) (_m:Nat) (a0:Sl3) (p3 q5:Addr) (v5_7 x10_0 x10_1:Int) (x10_2:Sl3) (x10_3 x10_4 x10_5:Int) (s12:Sl3):(AH×Int)→KN×Lcs:=fun (_,v9_17)=>([kI 9 v9_17,kS 0 a0,kP 3 q5,kP 4 p3,kI 5 v5_7,kL 6 0 0,kS 7 s12],[some (55,[(vI .i64 x10_0),(vI .i64 x10_1),(Sl3.v x10_2),(vI .i64 x10_3),(vI .i64 x10_4),(vI .i64 x10_5)]),some (55,[(vI .i64 x10_0),(vI .i64 x10_1),(Sl3.v s12),(vI .i64 x10_3),(vI .i64 x10_4),(vI .i64 x10_5)])])
noncomputable def R3 (L:LC) (m:Nat) (a0:Sl3) (p3 q5:Addr):(AH×Int)→Option (Lp (AH×Int) (Bool×AH)):=fun (H6,v5_7) =>
 if v5_7<(a0.n:Int) then
  Option.bind (α:=AH⊕(Lp (AH×Int) (Bool×AH))) (
   (idxA 6 a0 v5_7).bind fun p9 => (rd (deI .i64) H6 (Addr.add p9 0)).bind fun x10_0 => (rd (deI .i64) H6 (Addr.add p9 1)).bind fun x10_1 => (rd deSl H6 (Addr.add p9 2)).bind fun x10_2 => (rd (deI .i64) H6 (Addr.add p9 3)).bind fun x10_3 => (rd (deI .i64) H6 (Addr.add p9 4)).bind fun x10_4 => (rd (deI .i64) H6 (Addr.add p9 5)).bind fun x10_5 => Option.bind (α:=Bool) (
    if x10_0<1 then
     some true
    else
     some (decide (x10_0 > 4))) fun v38_11 =>
   if v38_11=true then
    some (.inl H6)
   else
    (appS m 3 1 8 H6 Sl3.nil x10_2).bind fun (s12,H13) => (G8 L m H13 (some q5) (some p3) x10_0 x10_1 s12 x10_3 x10_4 x10_5).bind fun (x14,H15) => if x14=true then
     (L.run (O4 L m a0 p3 q5 v5_7 x10_0 x10_1 x10_2 x10_3 x10_4 x10_5 s12) (H15,0)).bind fun o=>match o with
     | .inl (H24,_) =>
      some (.inl H24)
     | .inr r=>((some (.ret r)).map .inr)
    else
     ((some (.ret (false,H15))).map .inr)) fun o=>match o with
  | .inl H8 =>
   some (.next (H8,(IntKind.i64.wrap (v5_7+1))))
  | .inr r=>some r
 else
  some (.brk (H6,v5_7))
def z4b (_L:LC) (_m:Nat) (a0:Sl3) (p3 q5:Addr):(AH×Int)→KN×Lcs:=fun (_,v5_7)=>([kI 5 v5_7,kS 0 a0,kP 3 q5,kP 4 p3],[])
noncomputable def W6 (_L:LC) (m:Nat) (_p3 _q5:Addr) (_v10_29:Int) (x31:Sl3):(AH×Int)→Option (Lp (AH×Int) (Bool×AH)):=fun (H33,v12_34) =>
 if v12_34<(x31.n:Int) then
  (idxA 1 x31 v12_34).bind fun p35 => (H33.setCell m p35 (vI .i64 (-1))).bind fun H36 => some (.next (H36,(IntKind.i64.wrap (v12_34+1))))
 else
  some (.brk (H33,v12_34))
def z4k (_L:LC) (_m:Nat) (p3 q5:Addr) (v10_29:Int) (x31:Sl3):(AH×Int)→KN×Lcs:=fun (_,v12_34)=>([kI 12 v12_34,kP 3 q5,kP 4 p3,kI 10 v10_29,kS 11 x31],[])
noncomputable def N4 (_L:LC) (m:Nat) (_p3 _q5:Addr) (_v10_29:Int) (x39:Sl3):(AH×Int)→Option (Lp (AH×Int) (Bool×AH)):=fun (H42,v15_43) =>
 if v15_43<(x39.n:Int) then
  (idxA 1 x39 v15_43).bind fun p44 => (H42.setCell m p44 (vI .i64 (-1))).bind fun H45 => some (.next (H45,(IntKind.i64.wrap (v15_43+1))))
 else
  some (.brk (H42,v15_43))
def z4s (_L:LC) (_m:Nat) (p3 q5:Addr) (v10_29:Int) (x39:Sl3):(AH×Int)→KN×Lcs:=fun (_,v15_43)=>([kI 15 v15_43,kP 3 q5,kP 4 p3,kI 10 v10_29,kS 13 x39],[])
noncomputable def Q4 (L:LC) (m:Nat) (p3 q5:Addr):(AH×Int)→Option (Lp (AH×Int) (Bool×AH)):=fun (H28,v10_29) =>
 (J5 L H28 (some q5)).bind fun x30 => if v10_29<x30 then
  (S5 L m H28 (some q5) v10_29).bind fun (x31,H32) => (L.run (W6 L m p3 q5 v10_29 x31) (H32,0)).bind fun o=>match o with
  | .inl (H37,_) =>
   (F3 L m H37 (some q5) v10_29 0).bind fun (x39,_,H41) => (L.run (N4 L m p3 q5 v10_29 x39) (H41,0)).bind fun o=>match o with
   | .inl (H46,_) =>
    some (.next (H46,(IntKind.i64.wrap (v10_29+1))))
   | .inr r=>some (.ret r)
  | .inr r=>some (.ret r)
 else
  some (.brk (H28,v10_29))
def z56 (_L:LC) (_m:Nat) (p3 q5:Addr):(AH×Int)→KN×Lcs:=fun (_,v10_29)=>([kI 10 v10_29,kP 3 q5,kP 4 p3],[])
noncomputable def Z7 (L:LC) (m:Nat) (H:AH) (a0:Sl3):Option (Bool×AH) :=
 (zo L m H).bind fun (x1,H2) => (newB 32 [(Sl3.v Sl3.nil),(Sl3.v Sl3.nil),(Sl3.v Sl3.nil)] H2).bind fun (p3,H4) => match x1 with
 | none =>
  some (false,H4)
 | some q5 =>
  (L.run (R3 L m a0 p3 q5) (H4,0)).bind fun o=>match o with
  | .inl (H26,_) =>
   (L.run (Q4 L m p3 q5) (H26,0)).bind fun o=>match o with
   | .inl (H48,_) =>
    (l7 L m H48 (some q5) (some p3)).bind fun (x50,H51) => if x50=true then
     (C9 L m H51).bind fun (x52,H53) => some (x52,H53)
    else
     some (false,H51)
   | .inr r=>some r
  | .inr r=>some r
theorem V5 {E H L m a0 p3 q5 v5_7 x10_0 x10_1 x10_2 x10_3 x10_4 x10_5 s12} :LoopF Tryd.prog (NE.plain 1000) m E Tryd.f7 ((cfst (csnd (csnd (csnd (csnd (csnd (csnd (csnd (csnd (cfst (cfst (csnd (cfst (cfst (csnd (cfst (csnd (csnd (csnd (csnd B7))))))))))))))))))))) (z4x L m a0 p3 q5 v5_7 x10_0 x10_1 x10_2 x10_3 x10_4 x10_5 s12) (fun s=>s.1) 2 F4 (S4 H) (O4 L m a0 p3 q5 v5_7 x10_0 x10_1 x10_2 x10_3 x10_4 x10_5 s12):=by
 rintro ⟨H16,v9_17⟩ o h
 unfold O4 at h;try dsimp only at h
 refine B0 (B0 (WS.rg (u0 4 [kB 54 (decide (v9_17<(s12.n:Int))),kI 53 (s12.n:Int),kS 52 s12,kI 51 v9_17] (RS.dn (A0 ?_)))));rcases Y0 h with ⟨hp,h⟩ | ⟨hp,h⟩
 ·refine D0 54 true (decide_eq_true hp) (I0 (K0 (A0 (B0 (M0 3 (B0 (B0 ?_)))))));refine Q0 [0,1,2,3,4,5,6,7,8] [0,0,3,7,0,16,0,112,240,511] 10 (fun hcl=>?_);refine C0 0 (some 57) (Sl3.v s12) (C0 1 (some 58) (vI .i64 v9_17) ?_);obtain ⟨p18,hx,h⟩:=bind_some h;refine E0 2 (some 59) (vP (some p18)) (Abs.det_idx (s:=s12) (k:=.i64) (t:=27) (e:=3) (x:=.tmp 57) (y:=.tmp 58) (by kernel_rfl) (by kernel_rfl) (by kernel_rfl) (by kernel_rfl) (by kernel_rfl) hx) ?_;obtain ⟨x19,hx,h⟩:=bind_some h;refine E0 3 (some 60) (vI .i64 x19) (Abs.det_load (t:=3) (x:=.tmp 59) (a:=p18) (by kernel_rfl) (by kernel_rfl) (by kernel_rfl) (by kernel_rfl) (X0 hx Z0)) (DA.tL 4 (some 61) (.loc 0 2) (DA.tL 5 (some 62) (.val (Sl3.v x10_2)) (C0 6 (some 63) (vI .i64 v9_17) ?_)));obtain ⟨p20,hx,h⟩:=bind_some h;refine E0 7 (some 64) (vP (some p20)) (Abs.det_idx (s:=x10_2) (k:=.i64) (t:=27) (e:=3) (x:=.tmp 62) (y:=.tmp 63) (by kernel_rfl) (by kernel_rfl) (by kernel_rfl) (by kernel_rfl) (by kernel_rfl) hx) ?_;obtain ⟨x21,hx,h⟩:=bind_some h;refine E0 8 (some 65) (vI .i64 x21) (Abs.det_load (t:=3) (x:=.tmp 64) (a:=p20) (by kernel_rfl) (by kernel_rfl) (by kernel_rfl) (by kernel_rfl) (X0 hx Z0)) (DA.tP 9 (some 66) (vB (!decide (x19=x21))) (DA.dn (A0 ?_)));rcases Y0 h with ⟨hp,h⟩ | ⟨hp,h⟩
  ·refine D0 66 false (U7 hp) (J0 (K0 (A0 (WS.rg (u0 2 [kI 68 v9_17,kS 67 s12] ?_)))));obtain ⟨p22,hx,h⟩:=bind_some h;refine T0 69 27 3 (.tmp 67) (.tmp 68) hx ?_;obtain ⟨H23,hx,h⟩:=bind_some h;refine RS.o (H':=H23) none undef (Abs.run_store1 (t:=3) (x:=.tmp 69) (y:=.const (vI .i64 (-5))) (a:=p22) (v:=(vI .i64 (-5))) (by kernel_rfl) (by kernel_rfl) (by kernel_rfl) (by kernel_rfl) (by kernel_rfl) hx) (RS.dn ?_);refine fun a w hs=>bkN ((A0 ?_ a w hs));refine WS.rg (u0 3 [kI 9 (IntKind.i64.wrap (v9_17+1)),kI 56 (IntKind.i64.wrap (v9_17+1)),kI 55 v9_17] (RS.dn ?_));cases h;exact fun a w hs=>lsN rfl (hs.sb 2)
  ·refine D0 66 true (Z6 hp) (I0 (B0 (WS.rg (u0 1 [kB 2 false] (RS.dn (A0 (G0 ?_)))))));cases h;exact fun a w hs=>sqR (bkR (sqR (lsR rfl (rS hs))))
 ·refine D0 54 false (decide_eq_false hp) (J0 (WS.ex 2 ?_));cases h;exact fun a w hs=>sqE (lsB rfl (hs.sb 2))
theorem zb {E H L m a0 p3 q5} :LoopF Tryd.prog (NE.plain 1000) m E Tryd.f7 ((cfst (csnd (cfst (csnd (csnd (csnd (csnd B7)))))))) (z4b L m a0 p3 q5) (fun s=>s.1) 0 F4 (S4 H) (R3 L m a0 p3 q5):=by
 rintro ⟨H6,v5_7⟩ o h
 unfold R3 at h;try dsimp only at h
 refine B0 (B0 (WS.rg (u0 4 [kB 24 (decide (v5_7<(a0.n:Int))),kI 23 (a0.n:Int),kS 22 a0,kI 21 v5_7] (RS.dn (A0 ?_)))));rcases Y0 h with ⟨hp,h⟩ | ⟨hp,h⟩
 ·refine D0 24 true (decide_eq_true hp) (I0 (K0 (A0 ?_)));obtain ⟨o,hx,h⟩:=bind_some h;rcases o with H8 | ro
  ·try dsimp only at h
   refine B0 ?_;refine WS.join ([kS 0 a0,kP 3 q5,kP 4 p3,kI 5 v5_7]) ([]) H8 ?_ (fun a w hs=>A0 ?_ a w hs)
   ·clear h; rename _=>h;refine M0 1 (B0 (WS.rg (u0 2 [kI 28 v5_7,kS 27 a0] ?_)));obtain ⟨p9,hx,h⟩:=bind_some h;refine T0 29 22 55 (.tmp 27) (.tmp 28) hx ?_;obtain ⟨x10_0,hx0,h⟩:=bind_some h;obtain ⟨x10_1,hx1,h⟩:=bind_some h;obtain ⟨x10_2,hx2,h⟩:=bind_some h;obtain ⟨x10_3,hx3,h⟩:=bind_some h;obtain ⟨x10_4,hx4,h⟩:=bind_some h;obtain ⟨x10_5,hx5,h⟩:=bind_some h;refine RS.la 30 55 (.tmp 29) 6 (J1 (X0 hx0 Z0) (J1 (X0 hx1 Z0) (J1 (X0 hx2 A1) (J1 (X0 hx3 Z0) (J1 (X0 hx4 Z0) (J1 (X0 hx5 Z0) U6)))))) (V0 2 [kL 6 0 0] ([some (55,[(vI .i64 x10_0),(vI .i64 x10_1),(Sl3.v x10_2),(vI .i64 x10_3),(vI .i64 x10_4),(vI .i64 x10_5)])]) (RS.dn (A0 (B0 ?_))));obtain ⟨v38_11,hx,h⟩:=bind_some h;refine B0 ?_;refine WS.join ([kB 38 v38_11,kS 0 a0,kP 3 q5,kP 4 p3,kI 5 v5_7,kL 6 0 0]) ([some (55,[(vI .i64 x10_0),(vI .i64 x10_1),(Sl3.v x10_2),(vI .i64 x10_3),(vI .i64 x10_4),(vI .i64 x10_5)])]) H6 ?_ (fun a w hs=>A0 ?_ a w hs)
    ·clear h; rename _=>h;refine WS.rg (u0 4 [kB 34 (decide (x10_0<1)),kB 33 (decide (x10_0<1)),kI 32 x10_0,kL 31 0 0] ?_);rcases Y0 h with ⟨hp,h⟩ | ⟨hp,h⟩
     ·refine O0 34 true (decide_eq_true hp) (u0 4 [kB 38 true,kU 37,kU 36,kU 35] (RS.dn ?_));cases h;exact fun a w hs=>(jsN (hs.sb 1))
     ·refine O0 34 false (decide_eq_false hp) (u0 4 [kB 38 (decide (x10_0 > 4)),kB 37 (decide (x10_0 > 4)),kI 36 x10_0,kL 35 0 0] (RS.dn ?_));cases h;exact fun a w hs=>(jsN (hs.sb 1))
    ·clear hx;rcases Y0 h with ⟨hp,h⟩ | ⟨hp,h⟩
     ·refine D0 38 true hp (I0 (WS.ex 1 ?_));cases h;exact fun a w hs=>sqE (bkE ((jsN (hs.sb 0))))
     ·refine D0 38 false (b_not hp) (J0 (K0 (A0 (B0 (WS.rg (u0 1 [kS 7 Sl3.nil] (RS.dn (A0 (B0 ?_)))))))));refine WS.rg (u0 3 [kS 41 x10_2,kL 40 0 2,kS 39 Sl3.nil] ?_);obtain ⟨⟨s12,H13⟩,hx,h⟩:=bind_some h;try dsimp only at h
      refine RS.o (H':=H13) (some 42) (Sl3.v s12) (Abs.run_app (x:=.tmp 39) (y:=.tmp 41) (ts:=#[27,27]) (s:=Sl3.nil) (z:=x10_2) (by kernel_rfl) (by kernel_rfl) (by kernel_rfl) (by kernel_rfl) hx) (u0 1 [kS 7 s12] (RS.dn (A0 (B0 (WS.rg (V0 3 [kL 8 1 0,kA 43 #[(vI .i64 x10_0),(vI .i64 x10_1),(Sl3.v x10_2),(vI .i64 x10_3),(vI .i64 x10_4),(vI .i64 x10_5)]] ([some (55,[(vI .i64 x10_0),(vI .i64 x10_1),(Sl3.v x10_2),(vI .i64 x10_3),(vI .i64 x10_4),(vI .i64 x10_5)]),some (55,[(vI .i64 x10_0),(vI .i64 x10_1),(Sl3.v x10_2),(vI .i64 x10_3),(vI .i64 x10_4),(vI .i64 x10_5)])]) (RS.dn (A0 (B0 ?_)))))))));refine WS.rg (V0 3 [kL 45 1 2,kS 44 s12] ([some (55,[(vI .i64 x10_0),(vI .i64 x10_1),(Sl3.v x10_2),(vI .i64 x10_3),(vI .i64 x10_4),(vI .i64 x10_5)]),some (55,[(vI .i64 x10_0),(vI .i64 x10_1),(Sl3.v s12),(vI .i64 x10_3),(vI .i64 x10_4),(vI .i64 x10_5)])]) (RS.dn (A0 (B0 (B0 (WS.rg (u0 3 [kA 48 #[(vI .i64 x10_0),(vI .i64 x10_1),(Sl3.v s12),(vI .i64 x10_3),(vI .i64 x10_4),(vI .i64 x10_5)],kP 47 p3,kP 46 q5] ?_)))))));obtain ⟨⟨x14,H15⟩,hx,h⟩:=bind_some h;try dsimp only at h
      refine RS.cl (some 49) (v:=(vB x14)) 24 _ (z6i hx) (u0 1 [kB 50 (!x14)] (RS.dn (A0 ?_)));rcases Y0 h with ⟨hp,h⟩ | ⟨hp,h⟩
      ·refine D0 50 false (nb_not hp) (J0 (K0 (A0 (B0 (WS.rg (u0 1 [kI 9 0] (RS.dn (A0 (M0 2 ?_)))))))));obtain ⟨o,hl,h⟩:=bind_some h;rcases o with ⟨H24,v9_25⟩ | r
       ·try dsimp only at h
        refine S0 (V5 (L:=L) (E:=E) (m:=m) (H:=H)) (L.ok hl) 2 ?_;clear hl;cases h;exact fun a w hs=>bkE (bkN ((jsN (hs.sb 0))))
       ·try dsimp only at h
        refine R0 (V5 (L:=L) (E:=E) (m:=m) (H:=H)) (L.ok hl) 2 ?_;exact (zfc h).elim
      ·refine D0 50 true (D3 hp) (I0 (B0 (WS.rg (u0 1 [kB 2 false] (RS.dn (A0 (G0 ?_)))))));exact (zfc h).elim
   ·clear hx;refine WS.rg (u0 3 [kI 5 (IntKind.i64.wrap (v5_7+1)),kI 26 (IntKind.i64.wrap (v5_7+1)),kI 25 v5_7] (RS.dn ?_));cases h;exact fun a w hs=>lsN rfl (hs.sb 0)
  ·cases h; rename _=>h;refine B0 (M0 1 (B0 (WS.rg (u0 2 [kI 28 v5_7,kS 27 a0] ?_))));obtain ⟨p9,hx,h⟩:=bind_some h;refine T0 29 22 55 (.tmp 27) (.tmp 28) hx ?_;obtain ⟨x10_0,hx0,h⟩:=bind_some h;obtain ⟨x10_1,hx1,h⟩:=bind_some h;obtain ⟨x10_2,hx2,h⟩:=bind_some h;obtain ⟨x10_3,hx3,h⟩:=bind_some h;obtain ⟨x10_4,hx4,h⟩:=bind_some h;obtain ⟨x10_5,hx5,h⟩:=bind_some h;refine RS.la 30 55 (.tmp 29) 6 (J1 (X0 hx0 Z0) (J1 (X0 hx1 Z0) (J1 (X0 hx2 A1) (J1 (X0 hx3 Z0) (J1 (X0 hx4 Z0) (J1 (X0 hx5 Z0) U6)))))) (V0 2 [kL 6 0 0] ([some (55,[(vI .i64 x10_0),(vI .i64 x10_1),(Sl3.v x10_2),(vI .i64 x10_3),(vI .i64 x10_4),(vI .i64 x10_5)])]) (RS.dn (A0 (B0 ?_))));obtain ⟨v38_11,hx,h⟩:=bind_some h;refine B0 ?_;refine WS.join ([kB 38 v38_11,kS 0 a0,kP 3 q5,kP 4 p3,kI 5 v5_7,kL 6 0 0]) ([some (55,[(vI .i64 x10_0),(vI .i64 x10_1),(Sl3.v x10_2),(vI .i64 x10_3),(vI .i64 x10_4),(vI .i64 x10_5)])]) H6 ?_ (fun a w hs=>A0 ?_ a w hs)
   ·clear h; rename _=>h;refine WS.rg (u0 4 [kB 34 (decide (x10_0<1)),kB 33 (decide (x10_0<1)),kI 32 x10_0,kL 31 0 0] ?_);rcases Y0 h with ⟨hp,h⟩ | ⟨hp,h⟩
    ·refine O0 34 true (decide_eq_true hp) (u0 4 [kB 38 true,kU 37,kU 36,kU 35] (RS.dn ?_));cases h;exact fun a w hs=>(jsN (hs.sb 1))
    ·refine O0 34 false (decide_eq_false hp) (u0 4 [kB 38 (decide (x10_0 > 4)),kB 37 (decide (x10_0 > 4)),kI 36 x10_0,kL 35 0 0] (RS.dn ?_));cases h;exact fun a w hs=>(jsN (hs.sb 1))
   ·clear hx;rcases Y0 h with ⟨hp,h⟩ | ⟨hp,h⟩
    ·refine D0 38 true hp (I0 (WS.ex 1 ?_));cases h
    ·refine D0 38 false (b_not hp) (J0 (K0 (A0 (B0 (WS.rg (u0 1 [kS 7 Sl3.nil] (RS.dn (A0 (B0 ?_)))))))));refine WS.rg (u0 3 [kS 41 x10_2,kL 40 0 2,kS 39 Sl3.nil] ?_);obtain ⟨⟨s12,H13⟩,hx,h⟩:=bind_some h;try dsimp only at h
     refine RS.o (H':=H13) (some 42) (Sl3.v s12) (Abs.run_app (x:=.tmp 39) (y:=.tmp 41) (ts:=#[27,27]) (s:=Sl3.nil) (z:=x10_2) (by kernel_rfl) (by kernel_rfl) (by kernel_rfl) (by kernel_rfl) hx) (u0 1 [kS 7 s12] (RS.dn (A0 (B0 (WS.rg (V0 3 [kL 8 1 0,kA 43 #[(vI .i64 x10_0),(vI .i64 x10_1),(Sl3.v x10_2),(vI .i64 x10_3),(vI .i64 x10_4),(vI .i64 x10_5)]] ([some (55,[(vI .i64 x10_0),(vI .i64 x10_1),(Sl3.v x10_2),(vI .i64 x10_3),(vI .i64 x10_4),(vI .i64 x10_5)]),some (55,[(vI .i64 x10_0),(vI .i64 x10_1),(Sl3.v x10_2),(vI .i64 x10_3),(vI .i64 x10_4),(vI .i64 x10_5)])]) (RS.dn (A0 (B0 ?_)))))))));refine WS.rg (V0 3 [kL 45 1 2,kS 44 s12] ([some (55,[(vI .i64 x10_0),(vI .i64 x10_1),(Sl3.v x10_2),(vI .i64 x10_3),(vI .i64 x10_4),(vI .i64 x10_5)]),some (55,[(vI .i64 x10_0),(vI .i64 x10_1),(Sl3.v s12),(vI .i64 x10_3),(vI .i64 x10_4),(vI .i64 x10_5)])]) (RS.dn (A0 (B0 (B0 (WS.rg (u0 3 [kA 48 #[(vI .i64 x10_0),(vI .i64 x10_1),(Sl3.v s12),(vI .i64 x10_3),(vI .i64 x10_4),(vI .i64 x10_5)],kP 47 p3,kP 46 q5] ?_)))))));obtain ⟨⟨x14,H15⟩,hx,h⟩:=bind_some h;try dsimp only at h
     refine RS.cl (some 49) (v:=(vB x14)) 24 _ (z6i hx) (u0 1 [kB 50 (!x14)] (RS.dn (A0 ?_)));rcases Y0 h with ⟨hp,h⟩ | ⟨hp,h⟩
     ·refine D0 50 false (nb_not hp) (J0 (K0 (A0 (B0 (WS.rg (u0 1 [kI 9 0] (RS.dn (A0 (M0 2 ?_)))))))));obtain ⟨o,hl,h⟩:=bind_some h;rcases o with ⟨H24,v9_25⟩ | r
      ·try dsimp only at h
       refine S0 (V5 (L:=L) (E:=E) (m:=m) (H:=H)) (L.ok hl) 2 ?_;clear hl;cases h
      ·try dsimp only at h
       refine R0 (V5 (L:=L) (E:=E) (m:=m) (H:=H)) (L.ok hl) 2 ?_
       replace h:=zfh h
       cases h;exact fun a w hq=>bkR (bkR (sqR (lsR rfl hq)))
     ·refine D0 50 true (D3 hp) (I0 (B0 (WS.rg (u0 1 [kB 2 false] (RS.dn (A0 (G0 ?_)))))))
      replace h:=zfh h
      cases h;exact fun a w hs=>sqR (bkR (sqR (lsR rfl (rS hs))))
 ·refine D0 24 false (decide_eq_false hp) (J0 (WS.ex 0 ?_));cases h;exact fun a w hs=>sqE (lsB rfl (hs.sb 0))
theorem V9 {E H L m p3 q5 v10_29 x31} :LoopF Tryd.prog (NE.plain 1000) m E Tryd.f7 ((cfst (csnd (cfst (csnd (cfst (cfst (csnd (cfst (cfst (csnd (cfst (csnd (csnd (csnd (csnd (csnd B7))))))))))))))))) (z4k L m p3 q5 v10_29 x31) (fun s=>s.1) 6 F4 (S4 H) (W6 L m p3 q5 v10_29 x31):=by
 rintro ⟨H33,v12_34⟩ o h
 unfold W6 at h;try dsimp only at h
 refine B0 (B0 (WS.rg (u0 4 [kB 82 (decide (v12_34<(x31.n:Int))),kI 81 (x31.n:Int),kS 80 x31,kI 79 v12_34] (RS.dn (A0 ?_)))));rcases Y0 h with ⟨hp,h⟩ | ⟨hp,h⟩
 ·refine D0 82 true (decide_eq_true hp) (I0 (K0 (A0 (B0 (M0 7 (WS.rg (u0 2 [kI 86 v12_34,kS 85 x31] ?_)))))));obtain ⟨p35,hx,h⟩:=bind_some h;refine T0 87 27 3 (.tmp 85) (.tmp 86) hx ?_;obtain ⟨H36,hx,h⟩:=bind_some h;refine RS.o (H':=H36) none undef (Abs.run_store1 (t:=3) (x:=.tmp 87) (y:=.const (vI .i64 (-1))) (a:=p35) (v:=(vI .i64 (-1))) (by kernel_rfl) (by kernel_rfl) (by kernel_rfl) (by kernel_rfl) (by kernel_rfl) hx) (RS.dn ?_);refine fun a w hs=>bkN ((A0 ?_ a w hs));refine WS.rg (u0 3 [kI 12 (IntKind.i64.wrap (v12_34+1)),kI 84 (IntKind.i64.wrap (v12_34+1)),kI 83 v12_34] (RS.dn ?_));cases h;exact fun a w hs=>lsN rfl (hs.sb 0)
 ·refine D0 82 false (decide_eq_false hp) (J0 (WS.ex 6 ?_));cases h;exact fun a w hs=>sqE (lsB rfl (hs.sb 0))
theorem Z9 {E H L m p3 q5 v10_29 x39} :LoopF Tryd.prog (NE.plain 1000) m E Tryd.f7 ((cfst (csnd (csnd (csnd (csnd (cfst (cfst (csnd (cfst (cfst (csnd (cfst (csnd (csnd (csnd (csnd (csnd B7)))))))))))))))))) (z4s L m p3 q5 v10_29 x39) (fun s=>s.1) 8 F4 (S4 H) (N4 L m p3 q5 v10_29 x39):=by
 rintro ⟨H42,v15_43⟩ o h
 unfold N4 at h;try dsimp only at h
 refine B0 (B0 (WS.rg (u0 4 [kB 97 (decide (v15_43<(x39.n:Int))),kI 96 (x39.n:Int),kS 95 x39,kI 94 v15_43] (RS.dn (A0 ?_)))));rcases Y0 h with ⟨hp,h⟩ | ⟨hp,h⟩
 ·refine D0 97 true (decide_eq_true hp) (I0 (K0 (A0 (B0 (M0 9 (WS.rg (u0 2 [kI 101 v15_43,kS 100 x39] ?_)))))));obtain ⟨p44,hx,h⟩:=bind_some h;refine T0 102 27 3 (.tmp 100) (.tmp 101) hx ?_;obtain ⟨H45,hx,h⟩:=bind_some h;refine RS.o (H':=H45) none undef (Abs.run_store1 (t:=3) (x:=.tmp 102) (y:=.const (vI .i64 (-1))) (a:=p44) (v:=(vI .i64 (-1))) (by kernel_rfl) (by kernel_rfl) (by kernel_rfl) (by kernel_rfl) (by kernel_rfl) hx) (RS.dn ?_);refine fun a w hs=>bkN ((A0 ?_ a w hs));refine WS.rg (u0 3 [kI 15 (IntKind.i64.wrap (v15_43+1)),kI 99 (IntKind.i64.wrap (v15_43+1)),kI 98 v15_43] (RS.dn ?_));cases h;exact fun a w hs=>lsN rfl (hs.sb 0)
 ·refine D0 97 false (decide_eq_false hp) (J0 (WS.ex 8 ?_));cases h;exact fun a w hs=>sqE (lsB rfl (hs.sb 0))
theorem M9 {E H L m p3 q5} :LoopF Tryd.prog (NE.plain 1000) m E Tryd.f7 ((cfst (csnd (cfst (csnd (csnd (csnd (csnd (csnd B7))))))))) (z56 L m p3 q5) (fun s=>s.1) 4 F4 (S4 H) (Q4 L m p3 q5):=by
 rintro ⟨H28,v10_29⟩ o h
 unfold Q4 at h;try dsimp only at h
 refine B0 (B0 (WS.rg (u0 2 [kP 71 q5,kI 70 v10_29] ?_)));obtain ⟨x30,hx,h⟩:=bind_some h;refine RS.cl (some 72) (v:=(vI .i64 x30)) 21 _ (zz hx) (u0 1 [kB 73 (decide (v10_29<x30))] (RS.dn (A0 ?_)));rcases Y0 h with ⟨hp,h⟩ | ⟨hp,h⟩
 ·refine D0 73 true (decide_eq_true hp) (I0 (K0 (A0 (B0 (M0 5 (B0 (WS.rg (u0 2 [kI 77 v10_29,kP 76 q5] ?_))))))));obtain ⟨⟨x31,H32⟩,hx,h⟩:=bind_some h;try dsimp only at h
  refine RS.cl (some 78) (v:=(Sl3.v x31)) 15 _ (z4q hx) (u0 1 [kS 11 x31] (RS.dn (A0 (B0 (B0 (WS.rg (u0 1 [kI 12 0] (RS.dn (A0 ?_)))))))));refine M0 6 ?_;obtain ⟨o,hl,h⟩:=bind_some h;rcases o with ⟨H37,v12_38⟩ | r
  ·try dsimp only at h
   refine S0 (V9 (L:=L) (E:=E) (m:=m) (H:=H)) (L.ok hl) 0 ?_;clear hl;refine fun a w hs=>bkE ((A0 ?_ a w hs));refine B0 (WS.rg (u0 2 [kI 90 v10_29,kP 89 q5] ?_));obtain ⟨⟨x39,x40,H41⟩,hx,h⟩:=bind_some h;try dsimp only at h
   refine RS.cl (some 91) (v:=(Value.tuple #[(Sl3.v x39),(vB x40)])) 11 _ (z16 hx) (u0 5 [kB 14 x40,kS 13 x39,kB 93 x40,kS 92 x39,(88,.val (Value.tuple #[(Sl3.v x39),(vB x40)]))] (RS.dn (A0 (B0 (WS.rg (u0 1 [kI 15 0] (RS.dn (A0 (M0 8 ?_)))))))));obtain ⟨o,hl,h⟩:=bind_some h;rcases o with ⟨H46,v15_47⟩ | r
   ·try dsimp only at h
    refine S0 (Z9 (L:=L) (E:=E) (m:=m) (H:=H)) (L.ok hl) 0 ?_;clear hl;refine fun a w hs=>bkE (bkN ((A0 ?_ a w hs)));refine WS.rg (u0 3 [kI 10 (IntKind.i64.wrap (v10_29+1)),kI 75 (IntKind.i64.wrap (v10_29+1)),kI 74 v10_29] (RS.dn ?_));cases h;exact fun a w hs=>lsN rfl (hs.sb 0)
   ·try dsimp only at h
    refine R0 (Z9 (L:=L) (E:=E) (m:=m) (H:=H)) (L.ok hl) 0 ?_;cases h;exact fun a w hq=>bkR (bkR (sqR (lsR rfl hq)))
  ·try dsimp only at h
   refine R0 (V9 (L:=L) (E:=E) (m:=m) (H:=H)) (L.ok hl) 0 ?_;cases h;exact fun a w hq=>bkR (sqR (bkR (sqR (lsR rfl hq))))
 ·refine D0 73 false (decide_eq_false hp) (J0 (WS.ex 4 ?_));cases h;exact fun a w hs=>sqE (lsB rfl (hs.sb 0))
theorem z7k {L:LC} {m:Nat} {H:AH} {a0:Sl3} {r:(Bool×AH)} (h:Z7 L m H a0=some r) :
  CallS Tryd.prog (NE.plain 1000) m 7 #[(Sl3.v a0)] H (F4 r) (S4 H r):=by
 refine CallS.mk (args:=[(Sl3.v a0)]) Tryd.func7 (B:=B7) (by kernel_rfl) (fun E _=>?_);unfold Z7 at h;refine B0 (WS.rg (u0 1 [kB 2 false] (RS.dn (A0 (B0 (WS.rg ?_))))));obtain ⟨⟨x1,H2⟩,hx,h⟩:=bind_some h;try dsimp only at h
 refine RS.cl (some 16) (v:=(vP x1)) 16 _ (z6k hx) (u0 1 [(3,.val (vP x1))] (RS.dn (A0 (B0 (WS.rg (u0 1 [kA 17 #[(Sl3.v Sl3.nil),(Sl3.v Sl3.nil),(Sl3.v Sl3.nil)]] ?_))))));obtain ⟨⟨p3,H4⟩,hx,h⟩:=bind_some h;try dsimp only at h
 refine RS.o (H':=H4) (some 18) (vP (some p3)) (Abs.run_newB (by kernel_rfl) hx) (u0 1 [kP 4 p3] (RS.dn (A0 (B0 (B0 (WS.rg (u0 1 [(19,.val (vP x1))] ?_)))))));rcases x1 with _ | q5
 ·try dsimp only at h
  refine u0 1 [kB 20 true] (RS.dn (A0 (I0 (B0 (WS.rg (u0 1 [kB 2 false] (RS.dn (A0 (G0 ?_)))))))));cases h;exact fun a w hs=>sqR (rtR (rS hs))
 ·try dsimp only at h
  refine u0 1 [kB 20 false] (RS.dn (A0 (J0 (K0 (A0 (B0 (B0 (WS.rg (u0 1 [kI 5 0] ?_)))))))));refine RS.dn (A0 (M0 0 ?_));obtain ⟨o,hl,h⟩:=bind_some h;rcases o with ⟨H26,v5_27⟩ | r
  ·try dsimp only at h
   refine S0 (zb (L:=L) (E:=E) (m:=m) (H:=H)) (L.ok hl) 0 ?_;clear hl;refine fun a w hs=>bkE ((A0 ?_ a w hs));refine B0 (B0 (WS.rg (u0 1 [kI 10 0] (RS.dn (A0 (M0 4 ?_))))));obtain ⟨o,hl,h⟩:=bind_some h;rcases o with ⟨H48,v10_49⟩ | r
   ·try dsimp only at h
    refine S0 (M9 (L:=L) (E:=E) (m:=m) (H:=H)) (L.ok hl) 0 ?_;clear hl;refine fun a w hs=>bkE ((A0 ?_ a w hs));refine B0 (WS.rg (u0 2 [kP 104 p3,kP 103 q5] ?_));obtain ⟨⟨x50,H51⟩,hx,h⟩:=bind_some h;try dsimp only at h
    refine RS.cl (some 105) (v:=(vB x50)) 25 _ (zba hx) (u0 1 [kB 106 x50] ?_);rcases Y0 h with ⟨hp,h⟩ | ⟨hp,h⟩
    ·refine O0 106 true hp ?_;obtain ⟨⟨x52,H53⟩,hx,h⟩:=bind_some h;try dsimp only at h
     refine RS.cl (some 107) (v:=(vB x52)) 13 _ (zbb hx) (u0 2 [kB 2 x52,kB 108 x52] (RS.dn (A0 (G0 ?_))));cases h;exact fun a w hs=>rtR (rS hs)
    ·refine O0 106 false (b_not hp) (u0 3 [kB 2 false,kB 108 false,kU 107] (RS.dn (A0 (G0 ?_))));cases h;exact fun a w hs=>rtR (rS hs)
   ·try dsimp only at h
    refine R0 (M9 (L:=L) (E:=E) (m:=m) (H:=H)) (L.ok hl) 0 ?_;cases h;exact fun a w hq=>bkR (sqR (rtR hq))
  ·try dsimp only at h
   refine R0 (zb (L:=L) (E:=E) (m:=m) (H:=H)) (L.ok hl) 0 ?_;cases h;exact fun a w hq=>bkR (sqR (rtR hq))
end Go.Proofs.YtgkhbmoidenjaaaDoor
namespace Go.Proofs.YtgkhbmoidenjaaaDoor
open Go Go.Abs Go.Abs.Eg
set_option maxRecDepth 100000
theorem Q1:maxN=9223372036854775807:=rfl
structure Env (T:Tys) (tx:Key→ByteArray) (m:Nat) (Tb:AH→Prop):Prop where
 inj:∀k k',tx k=tx k'→k=k'
 tb:∀{H H':AH} {W:Nat→Prop},Tb H→Fm W H H'→(∀id,W id→m≤id)→Tb H'
 text:∀(k m1 m2:Nat) (H:AH) (v:Bool) (s:Int) (sl:Sl3) (l:List Nat),Tb H→m1≤H.next→SlA EI T.I m2 H l sl→(∀a∈l,a≤1048576)→l.length≤64→-9223372036854775808≤s→s<9223372036854775808 →
  ∃H',S7 (LCo k) m1 H v s sl=some (tx (v,s,l),H')∧Ext H H'
theorem Env.tbx {T:Tys} {tx:Key→ByteArray} {m:Nat} {Tb:AH→Prop} (h:Env T tx m Tb) {H H':AH} (hb:Tb H) (hf:Ext H H'):Tb H':=h.tb hb hf fun _ h=>h.elim
structure Small (g:St):Prop where
 n:g.n≤1048576
 tot:tot g≤1048576
 args:∀(i:Nat) y,g.N[i]? = some y→y.args.length≤64
 sym:∀(i:Nat) y,g.N[i]? = some y→-9223372036854775808≤y.sym∧y.sym<9223372036854775808
 cls:g.cls.length≤1048576
def Wc (L:GL) (n0:Nat) (id:Nat):Prop:=id<n0→∃c,L.fp c id
theorem fmE {L:GL} {n0:Nat} {H H':AH} (h:Ext H H'):Fm (Wc L n0) H H':=h.weak fun _ _ h=>h.elim
theorem fmC {L:GL} {n0:Nat} {H H':AH} {W:Nat→Prop} (c:Comp) (h:Fm W H H') (hw:∀id,W id→L.fp c id):Fm (Wc L n0) H H':=h.weak fun id _ hid _=>⟨c,hw id hid⟩
theorem fmN {L:GL} {n0:Nat} {H H':AH} {W:Nat→Prop} (h:Fm W H H') (hw:∀id,W id→n0≤id):Fm (Wc L n0) H H':=h.weak fun id _ hid hlt=>by have:=hw id hid; omega
theorem fmT {L:GL} {n0:Nat} {H H1 H2:AH} (h1:Fm (Wc L n0) H H1) (h2:Fm (Wc L n0) H1 H2):Fm (Wc L n0) H H2:=h1.comp h2 fun _ _ h=>h
section
variable {T:Tys} {tx:Key→ByteArray} {m:Nat} {H:AH} {L:GL} {x:Gh}
abbrev GL.p (L:GL):Option Addr:=some ⟨L.q,0,none⟩
theorem X6 (k:Nat) (h:Rep T tx m H L x):K2 (LCo k) H (GL.p L)=some true:=by
 unfold K2;simp only [GL.p];rw [h.q (j:=1) (v:=.map (some L.mi)) rfl];rfl
theorem z82 (h:Rep T tx m H L x):L.sN.n=x.g.n:=by
 have:=SlA.cnt (show SlA EN T.N m H (nodeL x.g.N L.na) L.sN from h.hold .N);rw [this];unfold nodeL;rw [List.length_zipWith,h.nal];exact Nat.min_self _
theorem Q6 (k:Nat) (h:Rep T tx m H L x) (a:Int):Q2 (LCo k) H (GL.p L) a=some (decide (0≤a∧a<x.g.n)):=by
 unfold Q2;rw [X6 k h];simp only [Option.bind_some,if_true,GL.p];by_cases h0:a≥0
 ·rw [if_pos h0,h.q (j:=0) (v:=L.sN.v) rfl];show some (decide (a<(L.sN.n:Int)))=_;rw [z82 h]
  congr 1
  exact decide_eq_decide.2 ⟨fun h1=>⟨h0,h1⟩,fun h1=>h1.2⟩
 ·rw [if_neg h0]
  congr 1
  exact (decide_eq_false fun h1=>h0 h1.1).symm
theorem zjf (k m1:Nat) (h:Rep T tx m H L x) (hl:x.g.of.length=x.g.n) {args:List Nat} {sl:Sl3} (ha:SlA EI T.I m H args sl) (hlt:∀a∈args,a<x.g.n) (hn:args.length≤64) (hm:m1≤H.next) (hI:T.I=3) (y0:Int) (y2:Bool) :
  ∀(d i:Nat) (H1:AH) (s:Sl3),i+d=args.length→Ext H H1→SlA EI 3 m1 H1 ((args.take i).map x.g.o) s→(∀id,fpt s id→H.next≤id) →
   ∃H2 s2,loopO (B2 (LCo k) m1 ⟨L.q,0,none⟩ y0 sl y2) (H1,s,(i:Int))=some (.inl (H2,s2,(args.length:Int)))∧Ext H H2∧SlA EI 3 m1 H2 (args.map x.g.o) s2∧∀id,fpt s2 id→H.next≤id:=by
 have hcn:=ha.cnt;intro d;induction d with
 | zero =>
  intro i H1 s hi hx hs hf;have:i=args.length:=by omega
  subst this;rw [List.take_length] at hs;refine ⟨H1,s,O1 ?_,hx,hs,hf⟩;unfold B2;simp only [hcn,if_neg (show ¬((args.length:Int)<(args.length:Int)) by omega)]
 | succ d ih =>
  intro i H1 s hi hx hs hf;have hil:i<args.length:=by omega
  have h1:=h.ext hx;obtain ⟨q,r1,r2⟩:=rd_EI (ha.ext hx) hil (v:=(i:Int)) rfl;obtain ⟨q',r3,r4⟩:=h1.of_ (i:=args[i]) (by rw [hl]; exact hlt _ (List.getElem_mem _)) (v:=(args[i]:Int)) rfl;obtain ⟨z,H0,s',H',p1,p2,p3,p4,p5,p6⟩:=hs.push (bytes:=8) (x.g.o args[i]) (by rw [List.length_map,List.length_take]; omega) (by rw [List.length_map,List.length_take]; omega) (by have:=hx.1; omega);have hb:B2 (LCo k) m1 ⟨L.q,0,none⟩ y0 sl y2 (H1,s,(i:Int))=some (.next (H',s',((i+1:Nat):Int))):=by
   unfold B2;simp only [hcn,if_pos (show (i:Int)<(args.length:Int) by omega),r1,r2,Option.bind_some];rw [h1.q (j:=4) (v:=L.sO.v) rfl];simp only [show deSl (Sl3.v L.sO)=some L.sO from rfl,Option.bind_some,r3,r4];have p1':newR 3 1 #[Value.int .i64 ((x.g.o args[i]:Nat):Int)] H1=some (z,H0):=p1;have p3':appS m1 3 1 8 H0 s z=some (s',H'):=p3;rw [p1'];simp only [Option.bind_some];rw [p3'];simp only [Option.bind_some];rw [N1 (n:=args.length) hil (by rw [Q1]; omega)]
  obtain ⟨H2,s2,a1,a2,a3,a4⟩:=ih (i+1) H' s' (by omega) (hx.comp p5 fun id hlt' _ hw=>by have:=hf id hw; omega) (by
   rw [List.take_succ_eq_append_getElem hil,List.map_append];exact p4) (fun id hid=>by
    rcases p6 id hid with h | h
    ·exact hf id h
    ·exact Nat.le_trans hx.1 h)
  exact ⟨H2,s2,by rw [K1 hb]; exact a1,a2,a3,a4⟩
theorem z5k {Tb:AH→Prop} (hE:Env T tx m Tb) (k m1:Nat) (h:Rep T tx m H L x) (hb:Tb H) (hl:x.g.of.length=x.g.n) (hS:Small x.g) (hcl:∀i,i<x.g.n→x.g.o i<x.g.cls.length) (hargs:∀(i:Nat) y,x.g.N[i]? = some y→∀a∈y.args,a<i) (hm:m1≤H.next) (hI:T.I=3) {i:Nat} (hi:i<x.g.n) {v:Int} (hv:v=i) :
  ∃H',P1 (LCo k) m1 H (GL.p L) v=some (tx (x.g.sig i),H')∧Ext H H':=by
 obtain ⟨y,hy⟩:=J6 hi;obtain ⟨q,s,r1,r2,r3,r4,ha,_⟩:=h.node hy hv;have hlt:∀a∈y.args,a<x.g.n:=fun a haa=>by have:=hargs i y hy a haa; omega
 obtain ⟨H2,s2,a1,a2,a3,a4⟩:=zjf k m1 h hl ha hlt (hS.args i y hy) hm hI y.sym y.value y.args.length 0 H Sl3.nil (by omega) (Fm.refl _ _) SlA.nil (fun id hid=>absurd hid U1);obtain ⟨H3,b1,b2⟩:=hE.text k m1 m1 H2 y.value y.sym s2 (y.args.map x.g.o) (hE.tbx hb a2) (by have:=a2.1; omega) (by rw [hI]; exact a3) (fun a haa=>by
   obtain ⟨b,hb',rfl⟩:=List.mem_map.1 haa;have:=hcl b (hlt b hb');have:=hS.cls;omega) (by rw [List.length_map]; exact hS.args i y hy) (hS.sym i y hy).1 (hS.sym i y hy).2
 refine ⟨H3,?_,a2.trans b2⟩;unfold P1;simp only [GL.p,Option.bind_some];rw [h.q (j:=0) (v:=L.sN.v) rfl];simp only [show deSl (Sl3.v L.sN)=some L.sN from rfl,Option.bind_some,r1,r2,r3,r4];show Option.bind (loopO (B2 (LCo k) m1 ⟨L.q,0,none⟩ y.sym s y.value) (H,Sl3.nil,((0:Nat):Int))) _=_;rw [a1];simp only [Option.bind_some,b1];rw [sig_of hy];rfl
end
end Go.Proofs.YtgkhbmoidenjaaaDoor
namespace Go.Proofs.YtgkhbmoidenjaaaDoor
open Go Go.Abs Go.Abs.Eg
set_option maxRecDepth 100000
section
variable {T:Tys} {tx:Key→ByteArray} {m:Nat} {H:AH} {L:GL} {x:Gh} {Tb:AH→Prop}
def withF (x:Gh) (fe:List Ed):Gh:=⟨{ x.g with fo:=fe.map (·.1) },x.ids,x.sd,fe⟩
theorem setF (hE:Env T tx m Tb) (h:Rep T tx m H L x) (hb:Tb H) {i:Nat} (hi:i<x.fe.length) (e:Ed) {v:Int} (hv:v=i) :
  ∃p H',idxA 5 L.sF v=some p∧wrCells m p 0 [.int .i64 e.1,.int .i64 e.2.1,.int .i64 e.2.2.1,.int .i64 e.2.2.2.1,.bool e.2.2.2.2] H=some H'∧Rep T tx m H' L (withF x (x.fe.set i e))∧Tb H'∧H'.next=H.next∧Fm (fpt L.sF) H H':=by
 have hF:SlA EE T.E m H x.fe L.sF:=h.hold .F;obtain ⟨q,r1,⟨a,r2,r3,rfl⟩,_⟩:=rd_EE hF hi hv;obtain ⟨H',a1,a2,a3,a4⟩:=hF.put hi e r2 r3;refine ⟨_,H',r1,a1,?_,hE.tb hb a3 fun id hid=>(h.low (c:=.F) hid).1,a4,a3⟩;refine h.step (fun c=>c=.F) (W:=fpt L.sF) a3 (fun id hid=>⟨.F,rfl,hid⟩) (fun c hc=>⟨fun hh=>?_,fun id hid=>hid⟩) (fun c hc=>?_) (fun c hc id hid=>.inl hid) (fun c c' hc hc' _ _ _=>hc.trans hc'.symm) h.nal h.cll rfl
 ·cases c <;> first | exact hh | exact absurd rfl hc
 ·subst hc; exact a2
theorem readF (h:Rep T tx m H L x) {i:Nat} (hi:i<x.fe.length) {v:Int} (hv:v=i):∃p,idxA 5 L.sF v=some p∧rd (deI .i64) H (p.add 0)=some x.fe[i].1∧rd (deI .i64) H (p.add 1)=some x.fe[i].2.1∧rd (deI .i64) H (p.add 2)=some x.fe[i].2.2.1∧rd (deI .i64) H (p.add 3)=some x.fe[i].2.2.2.1∧rd deB H (p.add 4)=some x.fe[i].2.2.2.2:=by
 obtain ⟨q,r1,_,r2⟩:=rd_EE (show SlA EE T.E m H x.fe L.sF from h.hold .F) hi hv;exact ⟨q,r1,r2⟩
theorem zf1 (hE:Env T tx m Tb) (k:Nat) {fo:List Int} {o:Nat→Nat} {n:Nat} (hn:n≤1048576):∀(kk:Nat) (H:AH) (x:Gh) (prev:Int) (c:Nat) (e:Ed),Rep T tx m H L x→Tb H→x.g.fo.length=n→RI fo o n x.g.fo prev c kk→(prev<0→prev=-1) →
  ∃H' st fe',loopO (R1 (LCo k) m (GL.p L)) (H,(c:Int),prev,e.1,e.2.1,e.2.2.1,e.2.2.2.1,e.2.2.2.2)=some (.inl (H',st))∧Rep T tx m H' L (withF x fe')∧RD o n (fe'.map (·.1))∧Tb H'∧H'.next=H.next∧fe'.length=x.fe.length∧Fm (fpt L.sF) H H'∧(∀i j l,US fe' i j l↔US x.fe i j l∨Fl prev c e.2 i j l)∧(∀z kz,WayN fo kz z→kk<kz→fe'[z]? = x.fe[z]?)∧(prev<0→∃l0,fe'[c]? = some (-1,l0)):=by
 intro kk;induction kk with
 | zero =>
  intro H x prev c e h hb hl hr hp;have hfl:x.fe.length=n:=by rw [← hl,← h.fel,List.length_map]
  have hc:=hr.cn;obtain ⟨v,hv,hcase⟩:=hr.next;obtain ⟨p,q1,q2,q3,q4,q5,q6⟩:=readF h (i:=c) (by omega) (v:=(c:Int)) rfl;have hv0:x.fe[c].1=v:=by
   have:x.g.fo[c]? = some (x.fe[c]'(by omega)).1:=by rw [← h.fel,List.getElem?_map,List.getElem?_eq_getElem (by omega)]; rfl
   rw [hv] at this;exact (Option.some.inj this).symm
  rcases hcase with ⟨rfl,hd⟩ | ⟨j,k',_,hk,_⟩
  ·obtain ⟨p',H',w1,w2,w3,w4,w5,w6⟩:=setF hE h hb (i:=c) (by omega) (if prev<0 then (-1,0,0,0,false) else (prev,e.2.1,e.2.2.1,e.2.2.2.1,e.2.2.2.2)) (v:=(c:Int)) rfl;rw [q1] at w1;cases w1;have hb0:∃st:Int×Int×Int×Int×Int×Int×Bool,R1 (LCo k) m (GL.p L) (H,(c:Int),prev,e.1,e.2.1,e.2.2.1,e.2.2.2.1,e.2.2.2.2)=some (.next (H',-1,st.2)):=by
    unfold R1;simp only [if_pos (show (c:Int)≥0 by omega),GL.p,Option.bind_some];rw [h.q (j:=6) (v:=L.sF.v) rfl];simp only [show deSl (Sl3.v L.sF)=some L.sF from rfl,Option.bind_some,q1,q2,q3,q4,q5,q6,hv0];by_cases hp0:prev<0
    ·simp only [if_pos hp0] at w2 ⊢;simp only [w2,Option.bind_some];exact ⟨(0,_),rfl⟩
    ·simp only [if_neg hp0] at w2 ⊢;simp only [w2,Option.bind_some];exact ⟨(0,_),rfl⟩
   obtain ⟨st,hb0⟩:=hb0;have hb1:R1 (LCo k) m (GL.p L) (H',-1,st.2)=some (.brk (H',-1,st.2)):=by
    unfold R1;obtain ⟨s0,s1,s2,s3,s4,s5,s6⟩:=st;simp only [if_neg (show ¬((-1:Int)≥0) by omega)]
   refine ⟨H',(-1,st.2),_,by rw [K1 hb0]; exact O1 hb1,w3,?_,w4,w5,List.length_set,w6,fun i j l=>?_,fun z kz hz hlt=>?_,fun hp0=>?_⟩;rotate_left
   ·have hc':c<x.fe.length:=by omega
    have h1:=us_set hc' (if prev<0 then (-1,0,0,0,false) else (prev,e.2)) i j l;have h2:=us_at hc' i j l;have h3:¬Ed1 c x.fe[c] i j l:=by
     have:x.fe[c]=(-1,x.fe[c].2):=by rw [← hv0]
     rw [this]; exact zjd c _ i j l
    rw [ed1_fl] at h1;refine h1.trans (or_congr ?_ Iff.rfl);rw [h2];exact ⟨fun h=>.inl h,fun h=>h.resolve_right h3⟩
   ·have hne:c≠z:=fun e=>by rw [← e] at hz; have:=hz.uniq hr.wn; omega
    rw [List.getElem?_set_ne hne]
   ·rw [List.getElem?_set_self (by omega),if_pos hp0]; exact ⟨_,rfl⟩
   have:(x.fe.set c (if prev<0 then (-1,0,0,0,false) else (prev,e.2.1,e.2.2.1,e.2.2.2.1,e.2.2.2.2))).map (·.1)=x.g.fo.set c prev:=by
    rw [List.map_set,h.fel]
    congr 1
    split
    ·rename_i hp0; exact (hp hp0).symm
    ·rfl
   rw [this];exact hd
  ·omega
 | succ kk ih =>
  intro H x prev c e h hb hl hr hp;have hfl:x.fe.length=n:=by rw [← hl,← h.fel,List.length_map]
  have hc:=hr.cn;obtain ⟨v,hv,hcase⟩:=hr.next;obtain ⟨p,q1,q2,q3,q4,q5,q6⟩:=readF h (i:=c) (by omega) (v:=(c:Int)) rfl;have hv0:x.fe[c].1=v:=by
   have:x.g.fo[c]? = some (x.fe[c]'(by omega)).1:=by rw [← h.fel,List.getElem?_map,List.getElem?_eq_getElem (by omega)]; rfl
   rw [hv] at this;exact (Option.some.inj this).symm
  rcases hcase with ⟨rfl,_⟩ | ⟨j,k',rfl,hk,hri⟩
  ·have hw:=hr.wn;cases hw with
   | step hst _ =>
    have hs:=hr.same c _ hr.wn (Nat.le_refl _);rw [hv,hst] at hs;simp only [Option.some.injEq] at hs;omega
  ·obtain rfl:kk=k':=by omega
   obtain ⟨p',H',w1,w2,w3,w4,w5,w6⟩:=setF hE h hb (i:=c) (by omega) (if prev<0 then (-1,0,0,0,false) else (prev,e.2.1,e.2.2.1,e.2.2.2.1,e.2.2.2.2)) (v:=(c:Int)) rfl;rw [q1] at w1;cases w1;have hb0:R1 (LCo k) m (GL.p L) (H,(c:Int),prev,e.1,e.2.1,e.2.2.1,e.2.2.2.1,e.2.2.2.2)=some (.next (H',(j:Int),(c:Int),x.fe[c].1,x.fe[c].2.1,x.fe[c].2.2.1,x.fe[c].2.2.2.1,x.fe[c].2.2.2.2)):=by
    unfold R1;simp only [if_pos (show (c:Int)≥0 by omega),GL.p,Option.bind_some];rw [h.q (j:=6) (v:=L.sF.v) rfl];simp only [show deSl (Sl3.v L.sF)=some L.sF from rfl,Option.bind_some,q1,q2,q3,q4,q5,q6,hv0];by_cases hp0:prev<0
    ·simp only [if_pos hp0] at w2 ⊢;simp only [w2,Option.bind_some]
    ·simp only [if_neg hp0] at w2 ⊢;simp only [w2,Option.bind_some]
   have hfo:(withF x (x.fe.set c (if prev<0 then (-1,0,0,0,false) else (prev,e.2.1,e.2.2.1,e.2.2.2.1,e.2.2.2.2)))).g.fo=x.g.fo.set c prev:=by
    show (x.fe.set c _).map (·.1)=_;rw [List.map_set,h.fel]
    congr 1
    split
    ·rename_i hp0; exact (hp hp0).symm
    ·rfl
   obtain ⟨H2,st,fe',z1,z2,z3,z4,z5,z6,z7,z8,z9,z10⟩:=ih H' _ (c:Int) j x.fe[c] w3 w4 (by rw [hfo,List.length_set]; exact hl) (by rw [hfo]; exact hri) (fun hh=>by omega);refine ⟨H2,st,fe',by rw [K1 hb0]; exact z1,z2,z3,z4,z5.trans w5,by rw [z6]; exact List.length_set,w6.comp z7 fun _ _ h=>h,fun i j' l=>?_,fun z kz hz hlt=>?_,fun hp0=>?_⟩
   ·have hc':c<x.fe.length:=by omega
    have h1:=us_set hc' (if prev<0 then (-1,0,0,0,false) else (prev,e.2)) i j' l;have h2:=us_at hc' i j' l;have h3:=zjb c x.fe[c] i j' l ⟨j,hv0⟩;rw [ed1_fl] at h1;have h4:x.fe[c].1.toNat=j:=by rw [hv0]; rfl
    rw [h4] at h3;have h5:=z8 i j' l;refine h5.trans ((or_congr h1 h3.symm).trans ?_);rw [h2];exact ⟨fun h=>h.elim (fun h=>h.elim (fun h=>.inl (.inl h)) .inr) fun h=>.inl (.inr h),fun h=>h.elim (fun h=>h.elim (fun h=>.inl (.inl h)) .inr) fun h=>.inl (.inr h)⟩
   ·have hne:c≠z:=fun e=>by rw [← e] at hz; have:=hz.uniq hr.wn; omega
    rw [z9 z kz hz (by omega)];show (x.fe.set c _)[z]? = _;rw [List.getElem?_set_ne hne]
   ·refine ⟨(0,0,0,false),?_⟩;rw [z9 c _ hr.wn (by omega)];show (x.fe.set c _)[c]? = _;rw [List.getElem?_set_self (by omega),if_pos hp0]
theorem zel (hE:Env T tx m Tb) (k:Nat) (h:Rep T tx m H L x) (hb:Tb H) {M q:List (Nat×Nat)} (hI:MI x.g M q) (hS:Small x.g) {c:Nat} (hc:c<x.g.n) {v:Int} (hv:v=c) :
  ∃H' fe',G4 (LCo k) m H (GL.p L) v=some H'∧Rep T tx m H' L (withF x fe')∧RD x.g.o x.g.n (fe'.map (·.1))∧Tb H'∧H'.next=H.next∧fe'.length=x.fe.length∧Fm (fpt L.sF) H H'∧(∀i j l,US fe' i j l↔US x.fe i j l)∧∃l0,fe'[c]? = some (-1,l0):=by
 obtain ⟨kk,hr⟩:=RI.start hI.flen hc hI.way hI.edge;obtain ⟨H',st,fe',a1,b1,b2,b3,b4,b5,b6,b7,_,b8⟩:=zf1 hE k hS.n kk H x (-1) c (0,0,0,0,false) h hb hI.flen hr (fun _=>rfl);refine ⟨H',fe',?_,b1,b2,b3,b4,b5,b6,fun i j l=>(b7 i j l).trans ⟨fun h=>h.resolve_right fun ⟨p,hp,_⟩=>(by omega),.inl⟩,b8 (by omega)⟩;subst hv;unfold G4;show Option.bind (loopO (R1 (LCo k) m (GL.p L)) (H,(c:Int),(-1),0,0,0,0,false)) _=_;rw [a1];rfl
end
end Go.Proofs.YtgkhbmoidenjaaaDoor
namespace Go.Proofs.YtgkhbmoidenjaaaDoor
open Go Go.Abs Go.Abs.Eg
set_option maxRecDepth 100000
structure PE (T:Tys) (mt kt e:TypeId):Prop where
 mp:MP Tryd.prog mt kt e
 del:∀(m:Nat) (H H':AH) (r:Option Nat) (s:ByteArray),aDelete Tryd.prog m #[mt] [.map r,.string s] H=some (.tuple #[],H')→gOp Tryd.prog m (opsOf (cfst (csnd (csnd (csnd (cfst (cfst (csnd (csnd (cfst (cfst (csnd (cfst (csnd (csnd B73))))))))))))))) 7 [(65,.val (Value.map r)),(68,.val (Value.string s))] deV H=some (.tuple #[],H')
 min:∀(a b:Int) (H:AH),gOp1 Tryd.prog (opsOf (cfst (csnd (csnd (csnd (csnd (csnd (csnd (csnd (csnd (csnd B73))))))))))) 9 [(166,.val (Value.int .i64 a)),(170,.val (Value.int .i64 b))] (deI .i64) H=some (min a b)
structure GI (g:St):Prop where
 ofl:g.of.length=g.n
 sm:Small g
 cl:∀i,i<g.n→g.o i<g.cls.length
 args:∀(i:Nat) y,g.N[i]? = some y→∀a∈y.args,a<i
 s1:∀s k,g.sigs s=some k→k<g.n∧g.sig k=s
section
variable {T:Tys} {tx:Key→ByteArray} {m:Nat} {H:AH} {L:GL} {x:Gh} {Tb:AH→Prop} {kt e:TypeId}
theorem Small.s {g:St} (h:Small g) (f:Key→Option Nat):Small { g with sigs:=f }:=⟨h.n,h.tot,h.args,h.sym,h.cls⟩
theorem zgm (hE:Env T tx m Tb) (hP:PE T 58 kt e) (hTI:T.I=3) (k:Nat) {x0:Gh} (hg:GI x0.g) {us:List Nat} {s9:Sl3} (hul:us.length≤1048576) (hus:∀u∈us,u<x0.g.n) (a2:Int) (x7:Option Addr) (q8:Addr) (n0:Nat) :
  ∀(d i:Nat) (H:AH),i+d=us.length→Rep T tx m H L (withS x0 (delS x0.g (us.take i)))→SlA EI 3 m H us s9→(∀id,fpt s9 id→id≠L.ms)→Tb H→m≤H.next →
   ∃H',loopO (E2 (LCo k) m a2 ⟨L.q,0,none⟩ x7 q8 s9) (H,(i:Int))=some (.inl (H',(us.length:Int)))∧Rep T tx m H' L (withS x0 (delS x0.g us))∧Tb H'∧m≤H'.next∧Fm (Wc L n0) H H':=by
 intro d;induction d with
 | zero =>
  intro i H hi h hs hd hb hm;have:i=us.length:=by omega
  subst this;rw [List.take_length] at h;refine ⟨H,O1 ?_,h,hb,hm,Fm.refl _ _⟩;unfold E2;simp only [hs.cnt,if_neg (show ¬((us.length:Int)<(us.length:Int)) by omega)]
 | succ d ih =>
  intro i H hi h hs hd hb hm;have hil:i<us.length:=by omega
  obtain ⟨q,r1,r2⟩:=rd_EI hs hil (v:=(i:Int)) rfl;have hun:=hus us[i] (List.getElem_mem _);obtain ⟨H1,s1,s2⟩:=z5k hE k (Nat.max m H.next) h hb hg.ofl (hg.sm.s _) hg.cl hg.args (Nat.max_le.2 ⟨hm,Nat.le_refl _⟩) hTI (i:=us[i]) hun (v:=(us[i]:Int)) rfl;have h1:=h.ext s2;have hb1:=hE.tbx hb s2;have hs1:=hs.ext s2;have hm1:m≤H1.next:=Nat.le_trans hm s2.1;have hsig:(withS x0 (delS x0.g (us.take i))).g.sig us[i]=x0.g.sig us[i]:=rfl;rw [hsig] at s1;have hlk:=h1.lkS hP.mp (x0.g.sig us[i]);have hsg:(withS x0 (delS x0.g (us.take i))).g.sigs=delS x0.g (us.take i):=rfl;rw [hsg] at hlk;have hnext:=zhd hg.s1 hil;by_cases hc:delS x0.g (us.take i) (x0.g.sig us[i])=some us[i]
  ·rw [if_pos hc] at hnext;obtain ⟨H2,t1,t2⟩:=z5k hE k (Nat.max m H1.next) h1 hb1 hg.ofl (hg.sm.s _) hg.cl hg.args (Nat.max_le.2 ⟨hm1,Nat.le_refl _⟩) hTI (i:=us[i]) hun (v:=(us[i]:Int)) rfl;rw [hsig] at t1;have h2:=h1.ext t2;obtain ⟨H3,d1,d2,d3,d4⟩:=h2.delS_ hE.inj hP.mp (x0.g.sig us[i]) (ts:=#[58]) rfl;have hd1:=hP.del m H2 H3 (some L.ms) _ d1;have hb0:E2 (LCo k) m a2 ⟨L.q,0,none⟩ x7 q8 s9 (H,(i:Int))=some (.next (H3,((i+1:Nat):Int))):=by
    unfold E2;simp only [hs.cnt,if_pos (show (i:Int)<(us.length:Int) by omega),r1,r2,Option.bind_some];rw [h.q (j:=7) (v:=.map (some L.ms)) rfl];simp only [show deM (Value.map (some L.ms))=some (some L.ms) from rfl,Option.bind_some];have s1':P1 (LCo k) (m.max H.next) H (some ⟨L.q,0,none⟩) (us[i]:Int)=some (tx (x0.g.sig us[i]),H1):=s1;rw [s1'];simp only [Option.bind_some,hlk,hc,Option.isSome_some,Option.getD_some,if_true,decide_true];rw [h1.q (j:=7) (v:=.map (some L.ms)) rfl];simp only [show deM (Value.map (some L.ms))=some (some L.ms) from rfl,Option.bind_some];have t1':P1 (LCo k) (m.max H1.next) H1 (some ⟨L.q,0,none⟩) (us[i]:Int)=some (tx (x0.g.sig us[i]),H2):=t1;rw [t1'];simp only [Option.bind_some,hd1];rw [N1 (n:=us.length) hil (by rw [Q1]; omega)]
   have h3:Rep T tx m H3 L (withS x0 (delS x0.g (us.take (i+1)))):=by
    rw [hnext];exact d2
   obtain ⟨H',z1,z2,z3,z4,z5⟩:=ih (i+1) H3 (by omega) h3 ((hs1.ext t2).fr d3 hd) hd (hE.tb (hE.tbx hb1 t2) d3 fun id hid=>by rw [hid]; exact (h2.low (c:=.ms) rfl).1) (by rw [d4]; exact Nat.le_trans hm1 t2.1);exact ⟨H',by rw [K1 hb0]; exact z1,z2,z3,z4,fmT (fmE s2) (fmT (fmE t2) (fmT (fmC .ms d3 fun id hid=>hid) z5))⟩
  ·rw [if_neg hc] at hnext;have hcond:∀o:Option Nat,o=delS x0.g (us.take i) (x0.g.sig us[i])→(if o.isSome=true then some (decide (((o.getD 0:Nat):Int)=(us[i]:Int))) else some false:Option Bool)=some false:=by
    intro o ho;cases o with
    | none=>rfl
    | some w =>
     have:¬((w:Int)=(us[i]:Int)):=fun hw=>hc (by rw [← ho]; have:=Int.ofNat.inj hw; rw [this]);simp only [Option.isSome_some,if_true,Option.getD_some,decide_eq_false this]
   have hb0:E2 (LCo k) m a2 ⟨L.q,0,none⟩ x7 q8 s9 (H,(i:Int))=some (.next (H1,((i+1:Nat):Int))):=by
    unfold E2;simp only [hs.cnt,if_pos (show (i:Int)<(us.length:Int) by omega),r1,r2,Option.bind_some];rw [h.q (j:=7) (v:=.map (some L.ms)) rfl];simp only [show deM (Value.map (some L.ms))=some (some L.ms) from rfl,Option.bind_some];have s1':P1 (LCo k) (m.max H.next) H (some ⟨L.q,0,none⟩) (us[i]:Int)=some (tx (x0.g.sig us[i]),H1):=s1;rw [s1'];simp only [Option.bind_some,hlk];rw [hcond _ rfl];simp only [Option.bind_some,Bool.false_eq_true,if_false];rw [N1 (n:=us.length) hil (by rw [Q1]; omega)]
   have h3:Rep T tx m H1 L (withS x0 (delS x0.g (us.take (i+1)))):=by
    rw [hnext];exact h1
   obtain ⟨H',z1,z2,z3,z4,z5⟩:=ih (i+1) H1 (by omega) h3 hs1 hd hb1 hm1;exact ⟨H',by rw [K1 hb0]; exact z1,z2,z3,z4,fmT (fmE s2) z5⟩
def setAll (of:List Nat) (ms:List Nat) (b:Nat):List Nat:=ms.foldl (fun of j=>of.set j b) of
theorem zge (b:Nat):∀(ms of:List Nat) (i:Nat),i<of.length→(setAll of ms b).getD i 0=if i∈ms then b else of.getD i 0:=by
 intro ms;induction ms with
 | nil=>intro of i _; simp [setAll]
 | cons j ms ih =>
  intro of i hi;show (setAll (of.set j b) ms b).getD i 0=_;rw [ih (of.set j b) i (by rw [List.length_set]; exact hi)];by_cases hm:i∈ms
  ·simp [hm]
  ·by_cases hj:i=j
   ·subst hj;simp [hm,List.getD,hi]
   ·simp only [hm,if_false,List.mem_cons,hj,or_self];rw [List.getD_eq_getElem?_getD,List.getD_eq_getElem?_getD,List.getElem?_set_ne (fun e=>hj e.symm)]
theorem z2g (b:Nat):∀(ms of:List Nat),(setAll of ms b).length=of.length:=by
 intro ms;induction ms with
 | nil=>intro of; rfl
 | cons j ms ih=>intro of; show (setAll (of.set j b) ms b).length=_; rw [ih,List.length_set]
theorem zhi {g:St} (hl:g.of.length=g.n) {ms:List Nat} {s t:Nat} (hm:∀j,j∈ms↔j<g.n∧g.o j=s):setAll g.of ms t=g.of.map (re s t):=by
 refine List.ext_getElem? fun i=>?_;by_cases hi:i<g.of.length
 ·have h1:=zge t ms g.of i hi;rw [List.getD_eq_getElem?_getD,List.getElem?_eq_getElem (by rw [z2g]; exact hi)] at h1;rw [List.getElem?_eq_getElem (by rw [z2g]; exact hi),List.getElem?_map,List.getElem?_eq_getElem hi];simp only [Option.getD_some] at h1;rw [h1];have ho:g.of.getD i 0=g.of[i]:=by rw [List.getD_eq_getElem?_getD,List.getElem?_eq_getElem hi]; rfl
  have ho':g.o i=g.of[i]:=ho;simp only [Option.map_some,Option.some.injEq];unfold re;by_cases hmi:i∈ms
  ·rw [if_pos hmi,if_pos (by rw [← ho']; exact ((hm i).1 hmi).2)]
  ·rw [if_neg hmi,if_neg (fun e=>hmi ((hm i).2 ⟨by omega,by rw [ho',e]⟩)),ho]
 ·rw [List.getElem?_eq_none (by rw [z2g]; omega),List.getElem?_eq_none (by rw [List.length_map]; omega)]
def withO (x:Gh) (of:List Nat):Gh:=⟨{ x.g with of:=of },x.ids,x.sd,x.fe⟩
theorem setO (hE:Env T tx m Tb) (h:Rep T tx m H L x) (hb:Tb H) {j:Nat} (hj:j<x.g.of.length) (b:Nat) {v w:Int} (hv:v=j) (hw:w=b) :
  ∃p H',idxA 1 L.sO v=some p∧H.setCell m p (.int .i64 w)=some H'∧Rep T tx m H' L (withO x (x.g.of.set j b))∧Tb H'∧H'.next=H.next∧Fm (fpt L.sO) H H':=by
 have hO:SlA EI T.I m H x.g.of L.sO:=h.hold .O;obtain ⟨a,r1,r2,r3,_⟩:=hO.at_ (by show 0<1; omega) hj hv;obtain ⟨H',a1,a2,a3,a4⟩:=hO.put1 (fun y=>⟨_,rfl⟩) hj b (v:=.int .i64 w) (by rw [hw]; rfl) r1 r3;refine ⟨_,H',r2,a1,?_,hE.tb hb a3 fun id hid=>(h.low (c:=.O) hid).1,a4,a3⟩;refine h.step (fun c=>c=.O) (W:=fpt L.sO) a3 (fun id hid=>⟨.O,rfl,hid⟩) (fun c hc=>⟨fun hh=>?_,fun id hid=>hid⟩) (fun c hc=>?_) (fun c hc id hid=>.inl hid) (fun c c' hc hc' _ _ _=>hc.trans hc'.symm) h.nal h.cll h.fel
 ·cases c <;> first | exact hh | exact absurd rfl hc
 ·subst hc; exact a2
theorem zg4 (hE:Env T tx m Tb) (k:Nat) {x0:Gh} {ms:List Nat} {s9:Sl3} (hml:ms.length≤1048576) (hms:∀u∈ms,u<x0.g.of.length) (b:Nat) (x7:Option Addr) (q8:Addr) :
  ∀(d i:Nat) (H:AH),i+d=ms.length→Rep T tx m H L (withO x0 (setAll x0.g.of (ms.take i) b))→SlA EI 3 m H ms s9→(∀id,fpt s9 id→¬fpt L.sO id)→Tb H →
   ∃H',loopO (A3 (LCo k) m (b:Int) ⟨L.q,0,none⟩ x7 q8 s9) (H,(i:Int))=some (.inl (H',(ms.length:Int)))∧Rep T tx m H' L (withO x0 (setAll x0.g.of ms b))∧Tb H'∧H'.next=H.next∧Fm (fpt L.sO) H H':=by
 intro d;induction d with
 | zero =>
  intro i H hi h hs hd hb;have:i=ms.length:=by omega
  subst this;rw [List.take_length] at h;refine ⟨H,O1 ?_,h,hb,rfl,Fm.refl _ _⟩;unfold A3;simp only [hs.cnt,if_neg (show ¬((ms.length:Int)<(ms.length:Int)) by omega)]
 | succ d ih =>
  intro i H hi h hs hd hb;have hil:i<ms.length:=by omega
  obtain ⟨q,r1,r2⟩:=rd_EI hs hil (v:=(i:Int)) rfl;have hlen:(withO x0 (setAll x0.g.of (ms.take i) b)).g.of.length=x0.g.of.length:=z2g _ _ _;obtain ⟨p,H1,s1,s2,s3,s4,s5,s6⟩:=setO hE h hb (j:=ms[i]) (by rw [hlen]; exact hms _ (List.getElem_mem _)) b (v:=(ms[i]:Int)) (w:=(b:Int)) rfl rfl;have hb0:A3 (LCo k) m (b:Int) ⟨L.q,0,none⟩ x7 q8 s9 (H,(i:Int))=some (.next (H1,((i+1:Nat):Int))):=by
   unfold A3;simp only [hs.cnt,if_pos (show (i:Int)<(ms.length:Int) by omega),r1,r2,Option.bind_some];rw [h.q (j:=4) (v:=L.sO.v) rfl];simp only [show deSl (Sl3.v L.sO)=some L.sO from rfl,Option.bind_some,s1,s2];rw [N1 (n:=ms.length) hil (by rw [Q1]; omega)]
  have h3:Rep T tx m H1 L (withO x0 (setAll x0.g.of (ms.take (i+1)) b)):=by
   have:setAll x0.g.of (ms.take (i+1)) b=(setAll x0.g.of (ms.take i) b).set ms[i] b:=by
    unfold setAll;rw [List.take_succ_eq_append_getElem hil,List.foldl_append];rfl
   rw [this];exact s3
  obtain ⟨H',z1,z2,z3,z4,z5⟩:=ih (i+1) H1 (by omega) h3 (hs.fr s6 hd) hd s4;exact ⟨H',by rw [K1 hb0]; exact z1,z2,z3,z4.trans s5,s6.comp z5 fun _ _ h=>h⟩
end
end Go.Proofs.YtgkhbmoidenjaaaDoor
namespace Go.Proofs.YtgkhbmoidenjaaaDoor
open Go Go.Abs Go.Abs.Eg
set_option maxRecDepth 100000
abbrev Q7:=Int×Int×Int×Int×Int×Int×Bool
def qe (p:Nat×Nat):Q7:=((p.1:Int),(p.2:Int),0,0,(p.1:Int),(p.2:Int),true)
def stepS (sg:Nat→Key) (u:Nat) (r:(Key→Option Nat)×List (Nat×Nat)):(Key→Option Nat)×List (Nat×Nat):=match r.1 (sg u) with
 | some k=>(r.1,if k=u then r.2 else r.2++[(u,k)])
 | none=>(fun s=>if s=sg u then some u else r.1 s,r.2)
theorem z8x (sg:Nat→Key):∀(l:List Nat) (u:Nat) (r:(Key→Option Nat)×List (Nat×Nat)),insS sg (l++[u]) r=stepS sg u (insS sg l r)
 | [],u,r=>rfl
 | x :: l,u,r=>z8x sg l u _
theorem z9p (sg:Nat→Key):∀(l:List Nat) (r:(Key→Option Nat)×List (Nat×Nat)),(insS sg l r).2.length≤r.2.length+l.length
 | [],r=>Nat.le_refl _
 | u :: l,r=>by
  have h:=z9p sg l (stepS sg u r);have:(stepS sg u r).2.length≤r.2.length+1:=by
   unfold stepS;split
   ·simp only;split
    ·omega
    ·simp
   ·simp
  show (insS sg l (stepS sg u r)).2.length≤_;simp only [List.length_cons];omega
section
variable {T:Tys} {tx:Key→ByteArray} {m:Nat} {H:AH} {L:GL} {x:Gh} {Tb:AH→Prop} {kt e:TypeId}
theorem zg8 (hE:Env T tx m Tb) (hP:PE T 58 kt e) (hTI:T.I=3) (k:Nat) {x0:Gh} {H0:AH} (hl:x0.g.of.length=x0.g.n) (hS:Small x0.g) (hcl:∀i,i<x0.g.n→x0.g.o i<x0.g.cls.length) (hargs:∀(i:Nat) y,x0.g.N[i]? = some y→∀a∈y.args,a<i)
  {us:List Nat} {s9:Sl3} (hul:us.length≤1048576) (hus:∀u∈us,u<x0.g.n) (x7:Option Addr) (q8:Addr) (f0:Key→Option Nat) (hlow:∀c id,L.fp c id→id<H0.next) (h9:∀id,fpt s9 id→id<H0.next) (h9m:∀id,fpt s9 id→id≠L.ms) :
  ∀(d i:Nat) (H:AH) (z:Sl3),i+d=us.length→Rep T tx m H L (withS x0 (insS x0.g.sig (us.take i) (f0,[])).1)→SlA EI 3 m H us s9→SlA EQ 122 m H ((insS x0.g.sig (us.take i) (f0,[])).2.map qe) z→(∀id,fpt z id→H0.next≤id)→Tb H→m≤H.next→H0.next≤H.next →
   ∃H' z',loopO (C2 (LCo k) m ⟨L.q,0,none⟩ x7 q8 s9) (H,z,(i:Int))=some (.inl (H',z',(us.length:Int)))∧Rep T tx m H' L (withS x0 (insS x0.g.sig us (f0,[])).1)∧SlA EQ 122 m H' ((insS x0.g.sig us (f0,[])).2.map qe) z'∧(∀id,fpt z' id→H0.next≤id)∧Tb H'∧m≤H'.next∧H0.next≤H'.next∧SlA EI 3 m H' us s9∧Fm (Wc L H0.next) H H':=by
 intro d;induction d with
 | zero =>
  intro i H z hi h hs hz hzf hb hm hn;have:i=us.length:=by omega
  subst this;rw [List.take_length] at h hz;refine ⟨H,z,O1 ?_,h,hz,hzf,hb,hm,hn,hs,Fm.refl _ _⟩;unfold C2;simp only [hs.cnt,if_neg (show ¬((us.length:Int)<(us.length:Int)) by omega)]
 | succ d ih =>
  intro i H z hi h hs hz hzf hb hm hn;have hil:i<us.length:=by omega
  obtain ⟨q,r1,r2⟩:=rd_EI hs hil (v:=(i:Int)) rfl;have hun:=hus us[i] (List.getElem_mem _);obtain ⟨H1,s1,s2⟩:=z5k hE k m h hb hl (hS.s _) hcl hargs hm hTI (i:=us[i]) hun (v:=(us[i]:Int)) rfl;have h1:=h.ext s2;have hb1:=hE.tbx hb s2;have hs1:=hs.ext s2;have hz1:=hz.ext s2;have hm1:m≤H1.next:=Nat.le_trans hm s2.1;have hn1:H0.next≤H1.next:=Nat.le_trans hn s2.1;have hsig:(withS x0 (insS x0.g.sig (us.take i) (f0,[])).1).g.sig us[i]=x0.g.sig us[i]:=rfl;rw [hsig] at s1;have hlk:=h1.lkS hP.mp (x0.g.sig us[i]);have hsg:(withS x0 (insS x0.g.sig (us.take i) (f0,[])).1).g.sigs=(insS x0.g.sig (us.take i) (f0,[])).1:=rfl;rw [hsg] at hlk;have hstep:insS x0.g.sig (us.take (i+1)) (f0,[])=stepS x0.g.sig us[i] (insS x0.g.sig (us.take i) (f0,[])):=by
   rw [List.take_succ_eq_append_getElem hil,z8x]
  have hlen:=z9p x0.g.sig (us.take i) (f0,[]);simp only [List.length_nil,List.length_take] at hlen;generalize hr:insS x0.g.sig (us.take i) (f0,[])=r at h h1 hz hz1 hlk hstep hlen;have pre:∀R,Option.bind (α:=(AH×Sl3)) (
    (lkM Tryd.prog 58 (deI .i64) H1 (some L.ms) (Value.string (tx (x0.g.sig us[i])))).bind fun (x49,b50) => if b50=true then
     if x49=(us[i]:Int) then
      some (H1,z)
     else
      (newR 122 1 #[(Value.int .i64 (us[i]:Int)),(Value.int .i64 x49),(Value.int .i64 0),(Value.int .i64 0),(Value.int .i64 (us[i]:Int)),(Value.int .i64 x49),(Value.bool true)] H1).bind fun (s51,H52) => (appS m 122 7 56 H52 z s51).bind fun (s53,H54) => some (H54,s53)
    else
     (rd deM H1 (Addr.add ⟨L.q,0,none⟩ 7)).bind fun x55 => (upM Tryd.prog m 58 H1 x55 (Value.string (tx (x0.g.sig us[i]))) (Value.int .i64 (us[i]:Int))).bind fun H56 => some (H56,z)) (fun (H42,v15_43)=>some (Lp.next (H42,v15_43,((i+1:Nat):Int)):Lp (AH×Sl3×Int) (Sl3×AH)))=R→C2 (LCo k) m ⟨L.q,0,none⟩ x7 q8 s9 (H,z,(i:Int))=R:=by
   intro R hR;rw [← hR];unfold C2;simp only [hs.cnt,if_pos (show (i:Int)<(us.length:Int) by omega),r1,r2,Option.bind_some];have s1':P1 (LCo k) m H (some ⟨L.q,0,none⟩) (us[i]:Int)=some (tx (x0.g.sig us[i]),H1):=s1;rw [s1'];simp only [Option.bind_some];rw [h1.q (j:=7) (v:=.map (some L.ms)) rfl];simp only [show deM (Value.map (some L.ms))=some (some L.ms) from rfl,Option.bind_some];rw [N1 (n:=us.length) hil (by rw [Q1]; omega)]
  rw [hlk] at pre;simp only [Option.bind_some] at pre;have go:∀(H3:AH) (z3:Sl3),C2 (LCo k) m ⟨L.q,0,none⟩ x7 q8 s9 (H,z,(i:Int))=some (.next (H3,z3,((i+1:Nat):Int)))→Rep T tx m H3 L (withS x0 (stepS x0.g.sig us[i] r).1)→SlA EI 3 m H3 us s9→SlA EQ 122 m H3 ((stepS x0.g.sig us[i] r).2.map qe) z3→(∀id,fpt z3 id→H0.next≤id)→Tb H3→m≤H3.next→H0.next≤H3.next→Fm (Wc L H0.next) H1 H3 →
    ∃H' z',loopO (C2 (LCo k) m ⟨L.q,0,none⟩ x7 q8 s9) (H,z,(i:Int))=some (.inl (H',z',(us.length:Int)))∧Rep T tx m H' L (withS x0 (insS x0.g.sig us (f0,[])).1)∧SlA EQ 122 m H' ((insS x0.g.sig us (f0,[])).2.map qe) z'∧(∀id,fpt z' id→H0.next≤id)∧Tb H'∧m≤H'.next∧H0.next≤H'.next∧SlA EI 3 m H' us s9∧Fm (Wc L H0.next) H H':=by
   intro H3 z3 hb0 g1 g2 g3 g4 g5 g6 g7 g8;obtain ⟨H',z',y1,y2,y3,y4,y5,y6,y7,y8,y9⟩:=ih (i+1) H3 z3 (by omega) (by rw [hstep]; exact g1) g2 (by rw [hstep]; exact g3) g4 g5 g6 g7;exact ⟨H',z',by rw [K1 hb0]; exact y1,y2,y3,y4,y5,y6,y7,y8,fmT (fmE s2) (fmT g8 y9)⟩
  have frL:∀c id,L.fp c id→¬fpt z id:=fun c id hid hz=>by have:=hlow c id hid; have:=hzf id hz; omega
  cases hc:r.1 (x0.g.sig us[i]) with
  | some w =>
   rw [hc] at pre;simp only [Option.isSome_some,Option.getD_some,if_true] at pre;have hst:stepS x0.g.sig us[i] r=(r.1,if w=us[i] then r.2 else r.2++[(us[i],w)]):=by unfold stepS; rw [hc]
   by_cases hw:w=us[i]
   ·refine go H1 z (pre _ ?_) (by rw [hst]; exact h1) hs1 (by rw [hst,if_pos hw]; exact hz1) hzf hb1 hm1 hn1 (Fm.refl _ _);rw [if_pos (by rw [hw])];rfl
   ·have hw':¬((w:Int)=(us[i]:Int)):=fun e=>hw (Int.ofNat.inj e);obtain ⟨z1,Ha,s',Hb,p1,p2,p3,p4,p5,p6⟩:=hz1.push (bytes:=56) (qe (us[i],w)) (by rw [List.length_map]; omega) (by rw [List.length_map]; omega) hm1;refine go Hb s' (pre _ ?_) (by rw [hst]; exact h1.other p5 fun c id hid hw=>frL c id hid hw) (hs1.fr p5 fun id hid hw=>by have:=h9 id hid; have:=hzf id hw; omega) (by
     rw [hst,if_neg hw,List.map_append];exact p4) (fun id hid=>?_) (hE.tb hb1 p5 fun id hid=>by
      have h1':=hzf id hid;have:=SlG.fp hz1 hid;exact this.1) (Nat.le_trans hm1 p5.1) (Nat.le_trans hn1 p5.1) (fmN p5 hzf)
    ·rw [if_neg hw'];have p1':newR 122 1 #[Value.int .i64 (us[i]:Int),Value.int .i64 (w:Int),Value.int .i64 0,Value.int .i64 0,Value.int .i64 (us[i]:Int),Value.int .i64 (w:Int),Value.bool true] H1=some (z1,Ha):=p1;have p3':appS m 122 7 56 Ha z z1=some (s',Hb):=p3;rw [p1'];simp only [Option.bind_some];rw [p3'];rfl
    ·rcases p6 id hid with h | h
     ·exact hzf id h
     ·omega
  | none =>
   rw [hc] at pre;simp only [Option.isSome_none,Bool.false_eq_true,if_false] at pre;have hst:stepS x0.g.sig us[i] r=(fun s=>if s=x0.g.sig us[i] then some us[i] else r.1 s,r.2):=by unfold stepS; rw [hc]
   obtain ⟨H2,u1,u2,u3,u4⟩:=h1.upS hE.inj hP.mp (x0.g.sig us[i]) us[i];have hmlow:L.ms<H0.next:=hlow .ms L.ms rfl;refine go H2 z (pre _ ?_) (by rw [hst]; exact u2) (hs1.fr u3 fun id hid hw=>h9m id hid hw) (by
     rw [hst];exact hz1.fr u3 fun id hid hw=>by have:=hzf id hid; omega) hzf (hE.tb hb1 u3 fun id hid=>by rw [hid]; exact (h1.low (c:=.ms) rfl).1) (by rw [u4]; exact hm1) (by rw [u4]; exact hn1) (fmC .ms u3 fun id hid=>hid)
   rw [h1.q (j:=7) (v:=.map (some L.ms)) rfl];simp only [show deM (Value.map (some L.ms))=some (some L.ms) from rfl,Option.bind_some,u1]
end
end Go.Proofs.YtgkhbmoidenjaaaDoor
namespace Go.Proofs.YtgkhbmoidenjaaaDoor
open Go Go.Abs Go.Abs.Eg
set_option maxRecDepth 100000
section
variable {T:Tys} {tx:Key→ByteArray} {m:Nat} {H:AH} {L:GL} {x:Gh} {Tb:AH→Prop} {kt e:TypeId}
theorem GI.of {g:St} (h:MJ g) (hS:Small g):GI g:=⟨h.len,hS,h.cl,h.args,h.s1⟩
theorem Small.o {g:St} (h:Small g) (of:List Nat):Small { g with of:=of }:=⟨h.n,h.tot,h.args,h.sym,h.cls⟩
theorem readC (h:Rep T tx m H L x) {t:Nat} {p:Nat×Sl3×Sl3×Sl3} (hp:L.cl[t]? = some p) {j:Nat} {v:Value} (hv:(cCells p (x.g.c t).low)[j]? = some v) {β:Type} (de:Value→Option β):rd de H ((⟨p.1,0,none⟩:Addr).add j)=de v :=
 (h.cla hp).blk.rd hv de
theorem z6t (k:Nat) (h:Rep T tx m H L x) (hTI:T.I=3) {t:Nat} {p:Nat×Sl3×Sl3×Sl3} (hp:L.cl[t]? = some p) {l':List Nat} {z:Sl3} (hz:RdV 1 H z l'.length (l'.flatMap EI.enc))
  (h2:(x.g.c t).uses.length+l'.length≤1099511627776) (hm:m≤H.next) :
  ∃s' H',X4 (LCo k) m H (some (Addr.add ⟨p.1,0,none⟩ 0)) z=some H'∧Rep T tx m H' (L.setcl t (p.1,s',p.2.2.1,p.2.2.2)) (withC x t { x.g.c t with uses:=(x.g.c t).uses++l' })∧Fm (fun i=>i=p.1∨fpt p.2.1 i) H H'∧∀i,fpt s' i→fpt p.2.1 i∨H.next≤i:=by
 obtain ⟨s',H1,H',a1,a2,a3,a4,a5⟩:=h.appU hp hz h2 hm;refine ⟨s',H',?_,a3,a4,a5⟩;unfold X4;simp only [Option.bind_some,add_zero];have hr:rd deSl H (⟨p.1,0,none⟩:Addr)=some p.2.1:=by
  have:=readC h hp (j:=0) (v:=p.2.1.v) rfl deSl;rw [add_zero] at this;exact this
 rw [hr];rw [hTI] at a1;have a2':H1.setCell m (⟨p.1,0,none⟩:Addr) (Sl3.v s')=some H':=by rw [add_zero] at a2; exact a2
 simp only [Option.bind_some,a1,a2']
theorem z3u (x:Gh) (t:Nat) (c c':Cl):withC (withC x t c) t c'=withC x t c':=by
 unfold withC;simp [List.set_set]
theorem z3z (L:GL) (t:Nat) (p p':Nat×Sl3×Sl3×Sl3):(L.setcl t p).setcl t p'=L.setcl t p':=by
 unfold GL.setcl;simp [List.set_set]
theorem zif (hE:Env T tx m Tb) (hP:PE T 58 kt e) (hTI:T.I=3) (k:Nat) (h:Rep T tx m H L x) (hb:Tb H) (hm:m≤H.next) (hI:MJ x.g) (hX:MX x.g) (hS:Small x.g) {a b:Nat} (ha:a<x.g.n) (hbn:b<x.g.n) (hne:x.g.o a≠x.g.o b) :
  ∃H' L' z,A5 (LCo k) m H (GL.p L) ((x.g.o a:Nat):Int) ((x.g.o b:Nat):Int)=some (z,H')∧Rep T tx m H' L' ⟨(joinSt x.g (x.g.o a) (x.g.o b) x.g.fo).1,x.ids,x.sd,x.fe⟩∧SlA EQ 122 m H' ((joinSt x.g (x.g.o a) (x.g.o b) x.g.fo).2.map qe) z ∧
   (∀id,fpt z id→H.next≤id)∧(∀c id,L'.fp c id→¬fpt z id)∧Tb H'∧m≤H'.next∧Fm (Wc L H.next) H H'∧L'.q=L.q∧(∀c id,L'.fp c id→L.fp c id∨H.next≤id):=by
 have hg:=GI.of hI hS;generalize hs:x.g.o a=s at hne;generalize ht:x.g.o b=t at hne;have hsl:s<x.g.cls.length:=by rw [← hs]; exact hI.cl a ha
 have htl:t<x.g.cls.length:=by rw [← ht]; exact hI.cl b hbn
 obtain ⟨p3,ps,hps,c1,c2⟩:=h.cls_ hsl (v:=(s:Int)) rfl;obtain ⟨p6,pt,hpt,c3,c4⟩:=h.cls_ htl (v:=(t:Int)) rfl;have uS:=hI.uses a ha; rw [hs] at uS;have mS:=hI.mem a ha; rw [hs] at mS;have vS:=hI.vals a ha; rw [hs] at vS;have mT:=hI.mem b hbn; rw [ht] at mT;have vT:=hI.vals b hbn; rw [ht] at vT;have ulS:=hX.ulen a ha; rw [hs] at ulS;have ulT:=hX.ulen b hbn; rw [ht] at ulT;have ndS:=hX.mnd a ha; rw [hs] at ndS;have ndT:=hX.mnd b hbn; rw [ht] at ndT;have vnS:=hI.vnd a ha; rw [hs] at vnS;have vnT:=hI.vnd b hbn; rw [ht] at vnT;have hn:=hS.n;have htot:=hS.tot;have hcnt:=zkv (g:=x.g) hne;have hmS:(x.g.c s).mem.length≤1048576:=Nat.le_trans (B8 x.g.n _ ndS fun y hy=>((mS y).1 hy).1) hn;have hmT:(x.g.c t).mem.length≤1048576:=Nat.le_trans (B8 x.g.n _ ndT fun y hy=>((mT y).1 hy).1) hn;have hvS:(x.g.c s).vals.length≤1048576:=Nat.le_trans (B8 x.g.n _ vnS fun y hy=>((vS y).1 hy).1) hn;have hvT:(x.g.c t).vals.length≤1048576:=Nat.le_trans (B8 x.g.n _ vnT fun y hy=>((vT y).1 hy).1) hn;have hus:∀u∈(x.g.c s).uses,u<x.g.n:=fun u hu=>let ⟨y,hy,_⟩:=(uS u).1 hu; (List.getElem?_eq_some_iff.1 hy).1
 have hlowL:∀c id,L.fp c id→id<H.next:=fun c id hid=>(h.low hid).2;have h0:Rep T tx m H L (withS x (delS x.g ((x.g.c s).uses.take 0))):=by rw [ziv]; exact h
 have hu0:SlA EI 3 m H (x.g.c s).uses ps.2.1:=by rw [← hTI]; exact h.hold (.us s) ps hps
 have dUm:∀id,fpt ps.2.1 id→id≠L.ms:=fun id hid e=>by have:=h.disj (.us s) .ms id ⟨ps,hps,hid⟩ e; cases this
 obtain ⟨H1,l1,l2,l3,l4,l5⟩:=zgm hE hP hTI k hg (s9:=ps.2.1) (by omega) hus (t:Int) (some ⟨pt.1,0,none⟩) ⟨ps.1,0,none⟩ H.next (x.g.c s).uses.length 0 H (by omega) h0 hu0 dUm hb hm;have hm1:SlA EI 3 m H1 (x.g.c s).mem ps.2.2.1:=by rw [← hTI]; exact l2.hold (.me s) ps hps
 have dMo:∀id,fpt ps.2.2.1 id→¬fpt L.sO id:=fun id hid e=>by have:=h.disj (.me s) .O id ⟨ps,hps,hid⟩ e; cases this
 have h1':Rep T tx m H1 L (withO (withS x (delS x.g (x.g.c s).uses)) (setAll (withS x (delS x.g (x.g.c s).uses)).g.of ((x.g.c s).mem.take 0) t)):=l2;obtain ⟨H2,k1,k2,k3,k4,k5⟩:=zg4 hE k (x0:=withS x (delS x.g (x.g.c s).uses)) (s9:=ps.2.2.1) hmS (fun u hu=>by show u<x.g.of.length; rw [hI.len]; exact ((mS u).1 hu).1) t (some ⟨pt.1,0,none⟩) ⟨ps.1,0,none⟩ (x.g.c s).mem.length 0 H1 (by omega) h1' hm1 dMo l3;have hof:setAll (withS x (delS x.g (x.g.c s).uses)).g.of (x.g.c s).mem t=x.g.of.map (re s t):=zhi (g:=x.g) hI.len mS;rw [hof] at k2
 let x2:Gh:=withO (withS x (delS x.g (x.g.c s).uses)) (x.g.of.map (re s t))
 have hu2:SlA EI 3 m H2 (x.g.c s).uses ps.2.1:=by rw [← hTI]; exact k2.hold (.us s) ps hps
 have hn12:H.next≤H1.next:=l5.1;have hn22:H.next≤H2.next:=by rw [k4]; exact hn12
 have ho2:∀i,i<x.g.n→x2.g.o i=re s t (x.g.o i):=fun i hi=>join_o (g:=x.g) (s:=s) (t:=t) (fo:=x.g.fo) hI.len hi;obtain ⟨H3,z,j1,j2,j3,j4,j5,j6,j7,j8,j9⟩:=zg8 hE hP hTI k (x0:=x2) (H0:=H) (by show (x.g.of.map _).length=x.g.n; rw [List.length_map]; exact hI.len) ((hS.s _).o _) (fun i hi=>by
   show x2.g.o i<x.g.cls.length;rw [ho2 i hi];unfold re;split
   ·exact htl
   ·exact hI.cl i hi) hI.args (s9:=ps.2.1) (us:=(x.g.c s).uses) (by omega) hus (some ⟨pt.1,0,none⟩) ⟨ps.1,0,none⟩ (delS x.g (x.g.c s).uses) hlowL (fun id hid=>hlowL (.us s) id ⟨ps,hps,hid⟩) dUm
   (x.g.c s).uses.length 0 H2 Sl3.nil (by omega) k2 hu2 SlA.nil (fun id hid=>absurd hid U1) k3 (by rw [k4]; exact l4) hn22
 have hz3:RdV 1 H3 ps.2.1 (x.g.c s).uses.length ((x.g.c s).uses.flatMap EI.enc):=SlA.rdv j8;have c0:∀(f:Key→Option Nat) (y:Nat),(withS x2 f).g.c y=x.g.c y:=fun _ _=>rfl;obtain ⟨su,H4,q1,q2,q3,q4⟩:=z6t k j2 hTI hpt hz3 (by rw [c0]; omega) j6;have htL:t<L.cl.length:=(List.getElem?_eq_some_iff.1 hpt).1;have hself:∀p,(L.setcl t p).cl[t]? = some p:=fun p=>List.getElem?_set_self htL;have hoth:∀p,(L.setcl t p).cl[s]? = some ps:=fun p=>(List.getElem?_set_ne (fun e=>hne e.symm)).trans hps
 let x3:=withS x2 (insS x2.g.sig (x.g.c s).uses (delS x.g (x.g.c s).uses,[])).1
 have htc:t<x3.g.cls.length:=htl
 let cu:Cl:={ x.g.c t with uses:=(x.g.c t).uses++(x.g.c s).uses }
 have ct4:(withC x3 t cu).g.c t=cu:=by rw [N9 htc,if_pos rfl]
 have cs4:(withC x3 t cu).g.c s=x.g.c s:=by rw [N9 htc,if_neg hne]; rfl
 have hm4:RdV 1 H4 ps.2.2.1 (x.g.c s).mem.length ((x.g.c s).mem.flatMap EI.enc):=by
  have:=(show SlA EI T.I m H4 ((withC x3 t cu).g.c s).mem ps.2.2.1 from q2.hold (.me s) ps (hoth _)).rdv;rw [cs4] at this;exact this
 have hn34:m≤H4.next:=Nat.le_trans j6 q3.1;obtain ⟨sm,H5a,H5,r1,r2,r3,r4,r5⟩:=q2.appM (hself _) hm4 (by show ((withC x3 t cu).g.c t).mem.length+_≤_; rw [ct4]; show (x.g.c t).mem.length+_≤_; omega) hn34;have e5:withC (withC x3 t cu) t { (withC x3 t cu).g.c t with mem:=((withC x3 t cu).g.c t).mem++(x.g.c s).mem }=withC x3 t { cu with mem:=cu.mem++(x.g.c s).mem }:=by rw [z3u,ct4]
 have r3:Rep T tx m H5 (L.setcl t (pt.1,su,sm,pt.2.2.2)) (withC x3 t { cu with mem:=cu.mem++(x.g.c s).mem }):=by rw [← e5,← z3z]; exact r3
 let cm:Cl:={ cu with mem:=cu.mem++(x.g.c s).mem }
 have ct5:(withC x3 t cm).g.c t=cm:=by rw [N9 htc,if_pos rfl]
 have cs5:(withC x3 t cm).g.c s=x.g.c s:=by rw [N9 htc,if_neg hne]; rfl
 have hv5:RdV 1 H5 ps.2.2.2 (x.g.c s).vals.length ((x.g.c s).vals.flatMap EI.enc):=by
  have:=(show SlA EI T.I m H5 ((withC x3 t cm).g.c s).vals ps.2.2.2 from r3.hold (.va s) ps (hoth _)).rdv;rw [cs5] at this;exact this
 have hn45:m≤H5.next:=Nat.le_trans hn34 r4.1;obtain ⟨sv,H6a,H6,t1,t2,t3,t4,t5⟩:=r3.appV (hself _) hv5 (by show ((withC x3 t cm).g.c t).vals.length+_≤_; rw [ct5]; show (x.g.c t).vals.length+_≤_; omega) hn45;have e6:withC (withC x3 t cm) t { (withC x3 t cm).g.c t with vals:=((withC x3 t cm).g.c t).vals++(x.g.c s).vals }=withC x3 t { cm with vals:=cm.vals++(x.g.c s).vals }:=by rw [z3u,ct5]
 have t3:Rep T tx m H6 (L.setcl t (pt.1,su,sm,sv)) (withC x3 t { cm with vals:=cm.vals++(x.g.c s).vals }):=by rw [← e6,← z3z]; exact t3
 let cv:Cl:={ cm with vals:=cm.vals++(x.g.c s).vals }
 have ct6:(withC x3 t cv).g.c t=cv:=by rw [N9 htc,if_pos rfl]
 have cs6:(withC x3 t cv).g.c s=x.g.c s:=by rw [N9 htc,if_neg hne]; rfl
 obtain ⟨H7,w1,w2,w3,w4⟩:=t3.putL (hself _) (min (x.g.c t).low (x.g.c s).low);have e7:withC (withC x3 t cv) t { (withC x3 t cv).g.c t with low:=min (x.g.c t).low (x.g.c s).low }=withC x3 t { cv with low:=min (x.g.c t).low (x.g.c s).low }:=by rw [z3u,ct6]
 have w2:Rep T tx m H7 (L.setcl t (pt.1,su,sm,sv)) (withC x3 t { cv with low:=min (x.g.c t).low (x.g.c s).low }):=by rw [← e7,← z3z]; exact w2
 have zlow:∀id,fpt z id→H.next≤id∧id<H3.next:=fun id hid=>⟨j4 id hid,(SlG.fp j3 hid).2⟩;have oldP:∀id,(id=pt.1∨fpt pt.2.1 id∨fpt pt.2.2.1 id∨fpt pt.2.2.2 id)→id<H.next:=by
  rintro id (e | e | e | e)
  ·exact hlowL (.blk t) id ⟨pt,hpt,e⟩
  ·exact hlowL (.us t) id ⟨pt,hpt,e⟩
  ·exact hlowL (.me t) id ⟨pt,hpt,e⟩
  ·exact hlowL (.va t) id ⟨pt,hpt,e⟩
 have hz7:SlA EQ 122 m H7 ((joinSt x.g s t x.g.fo).2.map qe) z:=by
  have z3:SlA EQ 122 m H3 ((joinSt x.g s t x.g.fo).2.map qe) z:=j3;have z4:=z3.fr q3 fun id hid hw=>by
   have:=zlow id hid;have:=oldP id (hw.elim .inl fun h=>.inr (.inl h));omega
  have z5:=z4.fr r4 fun id hid hw=>by
   have:=zlow id hid;have:=oldP id (hw.elim .inl fun h=>.inr (.inr (.inl h)));omega
  have z6:=z5.fr t4 fun id hid hw=>by
   have:=zlow id hid;have:=oldP id (hw.elim .inl fun h=>.inr (.inr (.inr h)));omega
  exact z6.fr w3 fun id hid hw=>by
   have:=zlow id hid;have:=oldP id (.inl hw);omega
 have hfin:withC x3 t { cv with low:=min (x.g.c t).low (x.g.c s).low }=⟨(joinSt x.g s t x.g.fo).1,x.ids,x.sd,x.fe⟩:=rfl;rw [hfin] at w2;have fresh:∀c id,(L.setcl t (pt.1,su,sm,sv)).fp c id→L.fp c id∨H3.next≤id:=by
  intro c id hid;have h34:=q3.1;have h45:=r4.1;cases c with
  | blk k0 =>
   obtain ⟨p0,hp0,e0⟩:=hid;by_cases hk:k0=t
   ·subst hk; rw [hself] at hp0; cases hp0; exact .inl ⟨pt,hpt,e0⟩
   ·exact .inl ⟨p0,(List.getElem?_set_ne (fun e=>hk e.symm)).symm.trans hp0,e0⟩
  | us k0 =>
   obtain ⟨p0,hp0,e0⟩:=hid;by_cases hk:k0=t
   ·subst hk; rw [hself] at hp0; cases hp0;exact (q4 id e0).imp (fun e=>⟨pt,hpt,e⟩) fun e=>e
   ·exact .inl ⟨p0,(List.getElem?_set_ne (fun e=>hk e.symm)).symm.trans hp0,e0⟩
  | me k0 =>
   obtain ⟨p0,hp0,e0⟩:=hid;by_cases hk:k0=t
   ·subst hk; rw [hself] at hp0; cases hp0;exact (r5 id e0).imp (fun e=>⟨pt,hpt,e⟩) fun e=>by omega
   ·exact .inl ⟨p0,(List.getElem?_set_ne (fun e=>hk e.symm)).symm.trans hp0,e0⟩
  | va k0 =>
   obtain ⟨p0,hp0,e0⟩:=hid;by_cases hk:k0=t
   ·subst hk; rw [hself] at hp0; cases hp0;exact (t5 id e0).imp (fun e=>⟨pt,hpt,e⟩) fun e=>by omega
   ·exact .inl ⟨p0,(List.getElem?_set_ne (fun e=>hk e.symm)).symm.trans hp0,e0⟩
  | _=>exact .inl hid
 have lowm:∀id,(id=pt.1∨fpt pt.2.1 id∨fpt pt.2.2.1 id∨fpt pt.2.2.2 id)→m≤id∧∃c,L.fp c id:=by
  rintro id (e | e | e | e)
  ·exact ⟨(h.low (c:=.blk t) ⟨pt,hpt,e⟩).1,.blk t,pt,hpt,e⟩
  ·exact ⟨(h.low (c:=.us t) ⟨pt,hpt,e⟩).1,.us t,pt,hpt,e⟩
  ·exact ⟨(h.low (c:=.me t) ⟨pt,hpt,e⟩).1,.me t,pt,hpt,e⟩
  ·exact ⟨(h.low (c:=.va t) ⟨pt,hpt,e⟩).1,.va t,pt,hpt,e⟩
 have f34:Fm (Wc L H.next) H3 H4:=q3.weak fun id _ hid _=>(lowm id (hid.elim .inl fun h=>.inr (.inl h))).2;have f45:Fm (Wc L H.next) H4 H5:=r4.weak fun id _ hid _=>(lowm id (hid.elim .inl fun h=>.inr (.inr (.inl h)))).2;have f56:Fm (Wc L H.next) H5 H6:=t4.weak fun id _ hid _=>(lowm id (hid.elim .inl fun h=>.inr (.inr (.inr h)))).2;have f67:Fm (Wc L H.next) H6 H7:=w3.weak fun id _ hid _=>(lowm id (.inl hid)).2;have b4:=hE.tb j5 q3 fun id hid=>(lowm id (hid.elim .inl fun h=>.inr (.inl h))).1;have b5:=hE.tb b4 r4 fun id hid=>(lowm id (hid.elim .inl fun h=>.inr (.inr (.inl h)))).1;have b6:=hE.tb b5 t4 fun id hid=>(lowm id (hid.elim .inl fun h=>.inr (.inr (.inr h)))).1;have b7:=hE.tb b6 w3 fun id hid=>(lowm id (.inl hid)).1;refine ⟨H7,L.setcl t (pt.1,su,sm,sv),z,?_,w2,hz7,j4,fun c id hid hz=>?_,?_,?_,?_,rfl,fun c id hid=>?_⟩
 ·unfold A5;simp only [GL.p,Option.bind_some];rw [h.q (j:=5) (v:=L.sC.v) rfl];simp only [show deSl (Sl3.v L.sC)=some L.sC from rfl,Option.bind_some,c1,c2,c3,c4,add_zero];have ru:rd deSl H (⟨ps.1,0,none⟩:Addr)=some ps.2.1:=by
   have:=readC h hps (j:=0) (v:=ps.2.1.v) rfl deSl;rw [add_zero] at this;exact this
  rw [ru];simp only [Option.bind_some];show Option.bind (loopO (E2 (LCo k) m (t:Int) ⟨L.q,0,none⟩ (some ⟨pt.1,0,none⟩) ⟨ps.1,0,none⟩ ps.2.1) (H,((0:Nat):Int))) _=_;rw [l1];simp only [Option.bind_some];rw [readC l2 hps (j:=1) (v:=ps.2.2.1.v) rfl deSl];simp only [show deSl (Sl3.v ps.2.2.1)=some ps.2.2.1 from rfl,Option.bind_some];show Option.bind (loopO (A3 (LCo k) m (t:Int) ⟨L.q,0,none⟩ (some ⟨pt.1,0,none⟩) ⟨ps.1,0,none⟩ ps.2.2.1) (H1,((0:Nat):Int))) _=_;rw [k1];simp only [Option.bind_some];have ru2:rd deSl H2 (⟨ps.1,0,none⟩:Addr)=some ps.2.1:=by
   have:=readC k2 hps (j:=0) (v:=ps.2.1.v) rfl deSl;rw [add_zero] at this;exact this
  rw [ru2];simp only [Option.bind_some];show Option.bind (loopO (C2 (LCo k) m ⟨L.q,0,none⟩ (some ⟨pt.1,0,none⟩) ⟨ps.1,0,none⟩ ps.2.1) (H2,Sl3.nil,((0:Nat):Int))) _=_;rw [j1];simp only [Option.bind_some];have ru3:rd deSl H3 (⟨ps.1,0,none⟩:Addr)=some ps.2.1:=by
   have:=readC j2 hps (j:=0) (v:=ps.2.1.v) rfl deSl;rw [add_zero] at this;exact this
  rw [ru3];simp only [Option.bind_some];have q1':X4 (LCo k) m H3 (some ⟨pt.1,0,none⟩) ps.2.1=some H4:=by rw [add_zero] at q1; exact q1
  rw [q1'];simp only [Option.bind_some];rw [readC q2 (hself _) (j:=1) (v:=pt.2.2.1.v) rfl deSl,readC q2 (hoth _) (j:=1) (v:=ps.2.2.1.v) rfl deSl];simp only [show deSl (Sl3.v pt.2.2.1)=some pt.2.2.1 from rfl,show deSl (Sl3.v ps.2.2.1)=some ps.2.2.1 from rfl,Option.bind_some];rw [hTI] at r1 t1;rw [show appS m 3 1 8 H4 pt.2.2.1 ps.2.2.1=some (sm,H5a) from r1];simp only [Option.bind_some];rw [show H5a.setCell m ((⟨pt.1,0,none⟩:Addr).add 1) (Sl3.v sm)=some H5 from r2];simp only [Option.bind_some];rw [readC r3 (hself _) (j:=2) (v:=pt.2.2.2.v) rfl deSl,readC r3 (hoth _) (j:=2) (v:=ps.2.2.2.v) rfl deSl];simp only [show deSl (Sl3.v pt.2.2.2)=some pt.2.2.2 from rfl,show deSl (Sl3.v ps.2.2.2)=some ps.2.2.2 from rfl,Option.bind_some];rw [show appS m 3 1 8 H5 pt.2.2.2 ps.2.2.2=some (sv,H6a) from t1];simp only [Option.bind_some];rw [show H6a.setCell m ((⟨pt.1,0,none⟩:Addr).add 2) (Sl3.v sv)=some H6 from t2];simp only [Option.bind_some];have lt6:rd (deI .i64) H6 ((⟨pt.1,0,none⟩:Addr).add 3)=some ((x.g.c t).low:Int):=by
   rw [readC t3 (hself _) (j:=3) rfl (deI .i64),ct6]; rfl
  have ls6:rd (deI .i64) H6 ((⟨ps.1,0,none⟩:Addr).add 3)=some ((x.g.c s).low:Int):=by
   rw [readC t3 (hoth _) (j:=3) rfl (deI .i64),cs6]; rfl
  rw [lt6,ls6];simp only [Option.bind_some];rw [hP.min];simp only [Option.bind_some];have hmin:min ((x.g.c t).low:Int) ((x.g.c s).low:Int)=((min (x.g.c t).low (x.g.c s).low:Nat):Int):=by omega
  rw [hmin,show H6.setCell m ((⟨pt.1,0,none⟩:Addr).add 3) (.int .i64 ((min (x.g.c t).low (x.g.c s).low:Nat):Int))=some H7 from w1];rfl
 ·have h1:=zlow id hz;rcases fresh c id hid with h2 | h2
  ·have:=hlowL c id h2; omega
  ·omega
 ·exact b7
 ·rw [w4]; exact Nat.le_trans hn45 t4.1
 ·exact fmT l5 (fmT (fmC .O k5 fun id hid=>hid) (fmT j9 (fmT f34 (fmT f45 (fmT f56 f67)))))
 ·rcases fresh c id hid with h2 | h2
  ·exact .inl h2
  ·have:=j7; exact .inr (by omega)
end
end Go.Proofs.YtgkhbmoidenjaaaDoor
namespace Go.Proofs.YtgkhbmoidenjaaaDoor
open Go Go.Abs Go.Abs.Eg
set_option maxRecDepth 100000
abbrev W3:=Nat×Nat×Ed
def qw (w:W3):Q7:=((w.1:Int),(w.2.1:Int),w.2.2.1,w.2.2.2.1,w.2.2.2.2.1,w.2.2.2.2.2.1,w.2.2.2.2.2.2)
def prs (ql:List W3):List (Nat×Nat):=ql.map fun w=>(w.1,w.2.1)
def cw (p:Nat×Nat):W3:=(p.1,p.2,0,0,(p.1:Int),(p.2:Int),true)
theorem qe_cw (l:List (Nat×Nat)):l.map qe=(l.map cw).map qw:=by
 rw [List.map_map];rfl
theorem prs_cw (l:List (Nat×Nat)):prs (l.map cw)=l:=by
 unfold prs;rw [List.map_map];exact List.map_id' l
section
variable {T:Tys} {tx:Key→ByteArray} {m:Nat} {H:AH} {L:GL} {x:Gh} {Tb:AH→Prop} {kt e:TypeId}
theorem Small.join {g:St} (h:Small g) (s t:Nat) (fo:List Int):Small (joinSt g s t fo).1 :=
 ⟨h.n,h.tot,h.args,h.sym,by show (g.cls.set t _).length≤_; rw [List.length_set]; exact h.cls⟩
theorem zkf (g:St) (s t:Nat) (fo:List Int):(joinSt g s t fo).2.length≤(g.c s).uses.length:=by
 have:=z9p (⟨g.N,g.of.map (re s t),g.cls,g.sigs,fo⟩:St).sig (g.c s).uses (delS g (g.c s).uses,[]);simp only [List.length_nil,Nat.zero_add] at this;exact this
structure MS (T:Tys) (tx:Key→ByteArray) (m:Nat) (Tb:AH→Prop) (M:List (Nat×Nat)) (n0:Nat) (H:AH) (L:GL) (x:Gh) (ql:List W3) (v:Sl3):Prop where
 rep:Rep T tx m H L x
 tb:Tb H
 mi:MI x.g M (prs ql)
 mx:MX x.g
 sm:Small x.g
 sl:VecA EQ 122 m H (ql.map qw) v∨∃w,ql=[w]∧SlA EQ 122 m H [qw w] v
 dj:∀c id,L.fp c id→¬fpt v id
 fr:∀id,fpt v id→n0≤id
 nm:m≤H.next
 nn:n0≤H.next
 bd:ql.length+live x.g*1048576≤1099512676353
 li:LI x.g.N x.sd x.fe x.g.n x.g.o
 lq:∀w∈ql,LOK x.g.N x.sd (US x.fe) w.1 w.2.1 w.2.2.2
structure MR (T:Tys) (tx:Key→ByteArray) (m:Nat) (Tb:AH→Prop) (M:List (Nat×Nat)) (n0:Nat) (H:AH) (L:GL) (x:Gh) (H':AH) (L':GL) (x':Gh):Prop where
 rep:Rep T tx m H' L' x'
 tb:Tb H'
 mi:MI x'.g M []
 mx:MX x'.g
 sm:Small x'.g
 nm:m≤H'.next
 N:x'.g.N=x.g.N
 ids:x'.ids=x.ids
 sd:x'.sd=x.sd
 q:L'.q=L.q
 cll:x'.g.cls.length=x.g.cls.length
 fm:Fm (Wc L n0) H H'
 fp:∀c id,L'.fp c id→L.fp c id∨n0≤id
 li:LI x'.g.N x'.sd x'.fe x'.g.n x'.g.o
theorem zl8 {L L':GL} {n0:Nat} (h:∀c id,L'.fp c id→L.fp c id∨n0≤id) {id:Nat} (hw:Wc L' n0 id):Wc L n0 id:=by
 intro hlt;obtain ⟨c,hc⟩:=hw hlt;rcases h c id hc with h | h
 ·exact ⟨c,h⟩
 ·omega
theorem zgc (hE:Env T tx m Tb) (hP:PE T 58 kt e) (hTI:T.I=3) (k:Nat) {M:List (Nat×Nat)} {n0:Nat} (y0 y1:Int) (y2 y3:Int) (y4:Bool):∀(lv:Nat) (ql:List W3) (H:AH) (L:GL) (x:Gh) (v:Sl3),live x.g≤lv→MS T tx m Tb M n0 H L x ql v →
  ∃H' L' x' z,loopO (V1 (LCo k) m (GL.p L) y0 y1 y2 y3 y4) (H,v)=some (.inl (H',z))∧MR T tx m Tb M n0 H L x H' L' x':=by
 intro lv;induction lv using Nat.strongRecOn with
 | ind lv ihl =>
 intro ql;induction ql with
 | nil =>
  intro H L x v hlv h;have hv:v.n=0:=by
   rcases h.sl with h | ⟨w,h,_⟩
   ·exact h.n
   ·cases h
  refine ⟨H,L,x,v,O1 ?_,h.rep,h.tb,h.mi,h.mx,h.sm,h.nm,rfl,rfl,rfl,rfl,rfl,Fm.refl _ _,fun c id h=>.inl h,h.li⟩;unfold V1;simp only [hv,if_neg (show ¬(((0:Nat):Int) > 0) by omega)]
 | cons w ql ihq =>
  intro H L x v hlv h;have hql:(w :: ql).length<OPEN:=by have:=h.bd; unfold OPEN; omega
  have hsl:SlA EQ 122 m H ((w :: ql).map qw) v:=by
   rcases h.sl with h | ⟨w',h,h'⟩
   ·exact h.toS
   ·cases h; exact h'
  have hcnt:v.n=ql.length+1:=by rw [hsl.cnt,List.length_map]; rfl
  obtain ⟨p5,r0,r1,r2,r3,r4,r5,r6,r7⟩:=rd_EQ hsl (i:=0) (by simp) (v:=0) rfl;have hw0:((w :: ql).map qw)[0]'(by simp)=qw w:=rfl;rw [hw0] at r1 r2 r3 r4 r5 r6 r7;obtain ⟨s7,t1,t2,t3⟩:=zds (x:=qw w) (l:=ql.map qw) (s:=v) (by
   rcases h.sl with h | ⟨w',h,h'⟩
   ·exact .inl h
   ·cases h; exact .inr ⟨rfl,h'⟩) (by rw [List.length_map]; simp only [List.length_cons] at hql; omega)
  obtain ⟨wan,wbn,wc⟩:=h.mi.qd w.1 w.2.1 (by simp [prs]);obtain ⟨q1,a1,a2⟩:=h.rep.of_ (i:=w.1) (by rw [h.mi.len]; exact wan) (v:=(w.1:Int)) rfl;obtain ⟨q2,a3,a4⟩:=h.rep.of_ (i:=w.2.1) (by rw [h.mi.len]; exact wbn) (v:=(w.2.1:Int)) rfl;have hd7:∀c id,L.fp c id→¬fpt s7 id:=fun c id hc hf=>h.dj c id hc (t3 id hf);by_cases heq:x.g.o w.1=x.g.o w.2.1
  ·
   have hb0:V1 (LCo k) m (GL.p L) y0 y1 y2 y3 y4 (H,v)=some (.next (H,s7)):=by
    unfold V1;simp only [hcnt,if_pos (show ((ql.length+1:Nat):Int) > 0 by omega),r0,r1,r2,r3,r4,r5,r6,r7,Option.bind_some,GL.p];rw [show slc 7 H v (some 1) none none=some s7 from t1];simp only [Option.bind_some];rw [h.rep.q (j:=4) (v:=L.sO.v) rfl];simp only [show deSl (Sl3.v L.sO)=some L.sO from rfl,Option.bind_some];have a1':idxA 1 L.sO (qw w).1=some q1:=a1;have a3':idxA 1 L.sO (qw w).2.1=some q2:=a3;rw [a1',a3'];simp only [Option.bind_some,a2,a4];rw [if_pos (by rw [heq])]
   obtain ⟨H',L',x',z,z1,z2⟩:=ihq H L x s7 hlv ⟨h.rep,h.tb,h.mi.drop heq,h.mx,h.sm,.inl t2,hd7,fun id hid=>h.fr id (t3 id hid),h.nm,h.nn,by have:=h.bd; simp only [List.length_cons] at this; omega,h.li,fun w' hw'=>h.lq w' (List.mem_cons_of_mem _ hw')⟩;exact ⟨H',L',x',z,by rw [K1 hb0]; exact z1,z2⟩
  ·
   have hol:=h.mi.cl;obtain ⟨c1,pa,hpa,b1,b2⟩:=h.rep.cls_ (hol w.1 wan) (v:=((x.g.o w.1:Nat):Int)) rfl;obtain ⟨c2,pb,hpb,b3,b4⟩:=h.rep.cls_ (hol w.2.1 wbn) (v:=((x.g.o w.2.1:Nat):Int)) rfl;have key:∀(a b:Nat),((a=w.1∧b=w.2.1)∨(a=w.2.1∧b=w.1)) →
     (∀(F:Int×Int×Int×Int×Int×Int×Int×Int×Bool→Option (Lp (AH×Sl3) AH)),Option.bind (α:=(Int×Int×Int×Int×Int×Int×Int×Int×Bool)) (if (pa.2.2.1.n:Int) > (pb.2.2.1.n:Int) then some (((x.g.o w.2.1:Nat):Int),((x.g.o w.1:Nat):Int),(qw w).2.1,(qw w).1,(qw w).2.2.1,(qw w).2.2.2.1,(qw w).2.2.2.2.1,(qw w).2.2.2.2.2.1,(qw w).2.2.2.2.2.2)
      else some (((x.g.o w.1:Nat):Int),((x.g.o w.2.1:Nat):Int),(qw w).1,(qw w).2.1,(qw w).2.2.1,(qw w).2.2.2.1,(qw w).2.2.2.2.1,(qw w).2.2.2.2.2.1,(qw w).2.2.2.2.2.2)) F=F (((x.g.o a:Nat):Int),((x.g.o b:Nat):Int),(a:Int),(b:Int),(qw w).2.2.1,(qw w).2.2.2.1,(qw w).2.2.2.2.1,(qw w).2.2.2.2.2.1,(qw w).2.2.2.2.2.2)) →
     ∃H' L' x' z,loopO (V1 (LCo k) m (GL.p L) y0 y1 y2 y3 y4) (H,v)=some (.inl (H',z))∧MR T tx m Tb M n0 H L x H' L' x':=by
    intro a b hab hsel;have han:a<x.g.n:=by rcases hab with ⟨e1,e2⟩ | ⟨e1,e2⟩ <;> rw [e1] <;> assumption
    have hbn:b<x.g.n:=by rcases hab with ⟨e1,e2⟩ | ⟨e1,e2⟩ <;> rw [e2] <;> assumption
    have hne:x.g.o a≠x.g.o b:=by
     rcases hab with ⟨e1,e2⟩ | ⟨e1,e2⟩
     ·rw [e1,e2]; exact heq
     ·rw [e1,e2]; exact fun e=>heq e.symm
    have hpp:((w.1,w.2.1):Nat×Nat)=(a,b)∨((w.1,w.2.1):Nat×Nat)=(b,a):=by
     rcases hab with ⟨e1,e2⟩ | ⟨e1,e2⟩
     ·exact .inl (by rw [e1,e2])
     ·exact .inr (by rw [e1,e2])
    obtain ⟨H1,fe1,d1,d2,d3,d4,d5,d6,d7,d8,l0,d9⟩:=zel hE k h.rep h.tb h.mi h.sm han (v:=(a:Int)) rfl;have hfel:x.fe.length=x.g.n:=by rw [← h.mi.flen,← h.rep.fel,List.length_map]
    obtain ⟨p36,H2,f1,f2,f3,f4,f5,f6⟩:=setF hE d2 d4 (i:=a) (by show a<fe1.length; omega) ((b:Int),(qw w).2.2.2.1,(qw w).2.2.2.2.1,(qw w).2.2.2.2.2.1,(qw w).2.2.2.2.2.2) (v:=(a:Int)) rfl
    let fe2:List Ed:=fe1.set a ((b:Int),(qw w).2.2.2.1,(qw w).2.2.2.2.1,(qw w).2.2.2.2.2.1,(qw w).2.2.2.2.2.2)
    have hfo2:fe2.map (·.1)=(fe1.map (·.1)).set a (b:Int):=by show (fe1.set a _).map (·.1)=_; rw [List.map_set]
    have f3:Rep T tx m H2 L (withF x fe2):=f3;obtain ⟨g1,g2,g3⟩:=d3.link han hbn hne;rw [← hfo2] at g1 g2 g3;have hm2:m≤H2.next:=by rw [f5,d5]; exact h.nm
    obtain ⟨H3,L3,z3,j1,j2,j3,j4,j5,j6,j7,j8,j9,j10⟩:=zif hE hP hTI k f3 f4 hm2 (h.mi.toJ.f _) (h.mx.f _) (show Small (withF x fe2).g from ⟨h.sm.n,h.sm.tot,h.sm.args,h.sm.sym,h.sm.cls⟩) (a:=a) (b:=b) han hbn hne;have hn2:H2.next=H.next:=by rw [f5,d5]
    rw [hn2] at j4 j8 j10
    let x3:Gh:=⟨(joinSt x.g (x.g.o a) (x.g.o b) (fe2.map (·.1))).1,x.ids,x.sd,fe2⟩
    have j2:Rep T tx m H3 L3 x3:=j2;have j3:SlA EQ 122 m H3 ((joinSt x.g (x.g.o a) (x.g.o b) (fe2.map (·.1))).2.map qe) z3:=j3;have mi3:MI x3.g M (prs ql++(joinSt x.g (x.g.o a) (x.g.o b) (fe2.map (·.1))).2):=h.mi.join (p:=(w.1,w.2.1)) hpp rfl rfl hne g1 g2 g3;have hlab:LOK x.g.N x.sd (US x.fe) a b w.2.2.2:=by
     have h0:=h.lq w List.mem_cons_self;rcases hab with ⟨e1,e2⟩ | ⟨e1,e2⟩
     ·rw [e1,e2]; exact h0
     ·rw [e1,e2]; exact h0.symm
    have up1:∀i j l,US x.fe i j l→US fe1 i j l:=fun i j l hu=>(d8 i j l).2 hu;have hafe:a<fe1.length:=by omega
    have li3:LI x3.g.N x3.sd x3.fe x3.g.n x3.g.o:=(h.li.us up1).join han hbn d9 hafe (hlab.mono (fun _ _ h=>h) (fun _ h=>h) up1) fun i hi=>join_o h.mi.len hi;have up2:∀i j l,US x.fe i j l→US x3.fe i j l:=fun i j l hu=>US.set d9 hafe (up1 i j l hu);have lout:∀p∈(joinSt x.g (x.g.o a) (x.g.o b) (fe2.map (·.1))).2,LOK x3.g.N x3.sd (US x3.fe) (cw p).1 (cw p).2.1 (cw p).2.2.2:=fun p hp=>by
     obtain ⟨o1,o2,o3⟩:=zjr h.mi han rfl p.1 p.2 hp;exact zf8 (g:=x3.g) h.mi.args li3 o1 o2 o3 0
    have mx3:MX x3.g:=MX.join (p:=(w.1,w.2.1)) h.mi h.mx ⟨han,hbn⟩ rfl rfl hne;have sm3:Small x3.g:=h.sm.join _ _ _;have ofm:∀i,i<x.g.n→x.g.o i∈x.g.of:=fun i hi=>by
     have hl:i<x.g.of.length:=by rw [h.mi.len]; exact hi
     have:x.g.o i=x.g.of[i]:=by
      unfold St.o;rw [List.getD_eq_getElem?_getD,List.getElem?_eq_getElem hl]; rfl
     rw [this]; exact List.getElem_mem _
    have lv3:live x3.g+1≤live x.g:=zhv hne (ofm a han) (ofm b hbn) (hol a han);have out3:(joinSt x.g (x.g.o a) (x.g.o b) (fe2.map (·.1))).2.length≤1048576:=by
     have h1:=zkf x.g (x.g.o a) (x.g.o b) (fe2.map (·.1));have h2:=h.mx.ulen a han;have h3:=cnt_le (g:=x.g) (x.g.o a);have h4:=h.sm.tot;omega
    generalize hout:(joinSt x.g (x.g.o a) (x.g.o b) (fe2.map (·.1))).2=out at j3 mi3 out3 lout;have fmA:Fm (Wc L H.next) H H3:=fmT (fmC .F d7 fun id hid=>hid) (fmT (fmC .F f6 fun id hid=>hid) j8);have t2':VecA EQ 122 m H3 (ql.map qw) s7:=VecV.fr t2 fmA fun id hid hw=>by
     have hid':=F7 hid;have hlt:id<H.next:=(SlG.fp (VecA.toS t2) hid').2;obtain ⟨c,hc⟩:=hw hlt;exact hd7 c id hc hid'
    have hbd:=h.bd;simp only [List.length_cons] at hbd;have hl3:ql.length+out.length+live x3.g*1048576≤1099512676353:=by
     have:(live x3.g+1)*1048576≤live x.g*1048576:=Nat.mul_le_mul_right _ lv3;rw [Nat.add_mul] at this;omega
    obtain ⟨s40,H4,k1,k2,k3⟩:=VecA.app (bytes:=56) (l':=(out.map cw).map qw) t2' (by
     have:=j3.rdv;rw [qe_cw] at this;exact this) (by simp only [List.length_map]; omega) (by simp only [List.length_map]; omega) j7
    have own7:∀id,owns s7 id→n0≤id∧id<H.next∧m≤id:=fun id hid=>by
     have hid':=F7 hid;have:=SlG.fp (VecA.toS t2) hid';exact ⟨h.fr id (t3 id hid'),this.2,this.1⟩
    have hHn:H.next≤H3.next:=fmA.1;have rep4:Rep T tx m H4 L3 x3:=j2.other k3.fm fun c id hc ho=>by
     have h1:=own7 id ho;rcases j10 c id hc with h2 | h2
     ·exact hd7 c id h2 (F7 ho)
     ·omega
    have sl4:VecA EQ 122 m H4 ((ql++out.map cw).map qw) s40:=by rw [List.map_append]; exact k2
    have f40:∀id,fpt s40 id→(owns s7 id)∨H3.next≤id:=fun id hid=>by
     have hv:=sl4;unfold VecA at hv;generalize (ql++out.map cw).map qw=ll at hv;cases hv with
     | nil hn hv=>exact absurd hid U1
     | zero a ha hn hv=>exact absurd rfl hid.1
     | opn id' off cs hm hid' hg hl ho hx=>exact k3.ow id ⟨rfl,hid.2⟩
    have ms4:MS T tx m Tb M n0 H4 L3 x3 (ql++out.map cw) s40:=by
     refine ⟨rep4,hE.tb j6 k3.fm fun id hid=>(own7 id hid).2.2,?_,mx3,sm3,.inl sl4,fun c id hc hf=>?_,fun id hid=>?_,Nat.le_trans j7 k3.fm.1,Nat.le_trans h.nn (Nat.le_trans hHn k3.fm.1),?_,li3,fun w' hw'=>?_⟩
     ·have:prs (ql++out.map cw)=prs ql++out:=by
       unfold prs;rw [List.map_append]
       congr 1
       exact prs_cw out
      rw [this];exact mi3
     ·rcases f40 id hf with h1 | h1
      ·have h2:=own7 id h1;rcases j10 c id hc with h3 | h3
       ·exact hd7 c id h3 (F7 h1)
       ·omega
      ·have:=(j2.low hc).2; omega
     ·rcases f40 id hid with h1 | h1
      ·exact (own7 id h1).1
      ·have:=h.nn; omega
     ·simp only [List.length_append,List.length_map]; omega
     ·rcases List.mem_append.1 hw' with hw' | hw'
      ·exact (h.lq w' (List.mem_cons_of_mem _ hw')).mono (fun _ _ h=>h) (fun _ h=>h) up2
      ·obtain ⟨p,hp,rfl⟩:=List.mem_map.1 hw';exact lout p hp
    obtain ⟨H',L',x',z,y1',y2'⟩:=ihl (live x3.g) (by omega) (ql++out.map cw) H4 L3 x3 s40 (Nat.le_refl _) ms4;have hfp:∀c id,L3.fp c id→L.fp c id∨n0≤id:=fun c id hc=>(j10 c id hc).imp (fun h=>h) fun h1=>Nat.le_trans h.nn h1;have wcn:∀id,Wc L H.next id→Wc L n0 id:=fun id hw hlt=>hw (by have:=h.nn; omega);have hb0:V1 (LCo k) m (GL.p L) y0 y1 y2 y3 y4 (H,v)=some (.next (H4,s40)):=by
     unfold V1;simp only [hcnt,if_pos (show ((ql.length+1:Nat):Int) > 0 by omega),r0,r1,r2,r3,r4,r5,r6,r7,Option.bind_some,GL.p];rw [show slc 7 H v (some 1) none none=some s7 from t1];simp only [Option.bind_some];rw [h.rep.q (j:=4) (v:=L.sO.v) rfl];simp only [show deSl (Sl3.v L.sO)=some L.sO from rfl,Option.bind_some];have a1':idxA 1 L.sO (qw w).1=some q1:=a1;have a3':idxA 1 L.sO (qw w).2.1=some q2:=a3;rw [a1',a3'];simp only [Option.bind_some,a2,a4];rw [if_neg (show ¬(((x.g.o w.1:Nat):Int)=((x.g.o w.2.1:Nat):Int)) by omega)];rw [h.rep.q (j:=5) (v:=L.sC.v) rfl];simp only [show deSl (Sl3.v L.sC)=some L.sC from rfl,Option.bind_some,b1,b2,b3,b4];rw [readC h.rep hpa (j:=1) (v:=pa.2.2.1.v) rfl deSl,readC h.rep hpb (j:=1) (v:=pb.2.2.1.v) rfl deSl];simp only [show deSl (Sl3.v pa.2.2.1)=some pa.2.2.1 from rfl,show deSl (Sl3.v pb.2.2.1)=some pb.2.2.1 from rfl,Option.bind_some];refine (hsel _).trans ?_;have d1':G4 (LCo k) m H (some ⟨L.q,0,none⟩) (a:Int)=some H1:=d1;simp only [d1',Option.bind_some];rw [d2.q (j:=6) (v:=L.sF.v) rfl];simp only [show deSl (Sl3.v L.sF)=some L.sF from rfl,Option.bind_some,f1,f2];have j1':A5 (LCo k) m H2 (some ⟨L.q,0,none⟩) ((x.g.o a:Nat):Int) ((x.g.o b:Nat):Int)=some (z3,H3):=j1;rw [j1'];simp only [Option.bind_some];have k1':appS m 122 7 56 H3 s7 z3=some (s40,H4):=k1;rw [k1'];rfl
    have hp3:GL.p L3=GL.p L:=by unfold GL.p; rw [j9]
    rw [hp3] at y1';refine ⟨H',L',x',z,by rw [K1 hb0]; exact y1',y2'.rep,y2'.tb,y2'.mi,y2'.mx,y2'.sm,y2'.nm,y2'.N,y2'.ids,y2'.sd,y2'.q.trans j9,y2'.cll.trans (by show (x.g.cls.set _ _).length=_; rw [List.length_set]),?_,fun c id hc=>?_,y2'.li⟩
    ·refine (fmA.weak fun id _ hw=>wcn id hw).comp ((fmN (L:=L) (n0:=n0) k3.fm fun id hid=>(own7 id hid).1).comp (y2'.fm.weak fun id _ hw=>zl8 hfp hw) fun _ _ h=>h) fun _ _ h=>h
    ·rcases y2'.fp c id hc with h1 | h1
     ·exact hfp c id h1
     ·exact .inr h1
   by_cases hgt:(pa.2.2.1.n:Int) > (pb.2.2.1.n:Int)
   ·exact key w.2.1 w.1 (.inr ⟨rfl,rfl⟩) fun F=>by rw [if_pos hgt]; rfl
   ·exact key w.1 w.2.1 (.inl ⟨rfl,rfl⟩) fun F=>by rw [if_neg hgt]; rfl
end
end Go.Proofs.YtgkhbmoidenjaaaDoor
namespace Go.Proofs.YtgkhbmoidenjaaaDoor
open Go Go.Abs Go.Abs.Eg
set_option maxRecDepth 100000
section
variable {T:Tys} {tx:Key→ByteArray} {m:Nat} {H:AH} {L:GL} {x:Gh} {Tb:AH→Prop} {kt e:TypeId}
theorem za3 (hE:Env T tx m Tb) (hP:PE T 58 kt e) (hTI:T.I=3) (k:Nat) (h:Rep T tx m H L x) (hb:Tb H) {M:List (Nat×Nat)} {a b:Nat} (hI:MI x.g M [(a,b)]) (hX:MX x.g) (hS:Small x.g) (hm:m≤H.next)
  (e1 e2 e3 e4:Int) (e5:Bool) {v w:Int} (hv:v=a) (hw:w=b) (hli:LI x.g.N x.sd x.fe x.g.n x.g.o) (hlk:LOK x.g.N x.sd (US x.fe) a b (e2,e3,e4,e5)) :
  ∃H' L' x',G2 (LCo k) m H (GL.p L) v w e1 e2 e3 e4 e5=some H'∧MR T tx m Tb M H.next H L x H' L' x':=by
 subst hv hw;have w0:∃w:W3,w=(a,b,(e1,e2,e3,e4,e5)):=⟨_,rfl⟩;obtain ⟨w0,hw0⟩:=w0;have hx:Ext H (H.push { obj:=.cells (EQ.enc (qw w0)).toArray 122 (0,0),opn:=false,esz:=0,ro:=false }):=Fm.push _ _ _;have hfn:∀id,fpt (⟨some ⟨H.next,0,none⟩,1,1⟩:Sl3) id→id=H.next:=by
  rintro id ⟨_,a,ha,rfl⟩
  cases ha;rfl
 have hlv:=zl2 x.g;have hcl:=hS.cls;obtain ⟨H',L',x',z,a1,a2⟩:=zgc hE hP hTI k (M:=M) (n0:=H.next) e1 e2 e3 e4 e5 (live x.g) [w0] _ L x ⟨some ⟨H.next,0,none⟩,1,1⟩ (Nat.le_refl _)
  ⟨h.ext hx,hE.tbx hb hx,by rw [hw0]; exact hI,hX,hS,.inr ⟨w0,rfl,SlA.row (E:=EQ) (qw w0) hm⟩,fun c id hc hf=>by have:=(h.low hc).2; have:=hfn id hf; omega,fun id hf=>by have:=hfn id hf; omega,Nat.le_trans hm hx.1,hx.1,by simp only [List.length_singleton]; omega,hli,fun w' hw'=>by rw [List.mem_singleton] at hw'; rw [hw',hw0]; exact hlk⟩
 refine ⟨H',L',x',?_,a2.rep,a2.tb,a2.mi,a2.mx,a2.sm,a2.nm,a2.N,a2.ids,a2.sd,a2.q,a2.cll,(fmE hx).comp a2.fm fun _ _ h=>h,a2.fp,a2.li⟩;unfold G2;have hr:newR 122 1 #[(Value.int .i64 (a:Int)),(Value.int .i64 (b:Int)),(Value.int .i64 e1),(Value.int .i64 e2),(Value.int .i64 e3),(Value.int .i64 e4),(Value.bool e5)] H=some (⟨some ⟨H.next,0,none⟩,1,1⟩,H.push { obj:=.cells (EQ.enc (qw w0)).toArray 122 (0,0),opn:=false,esz:=0,ro:=false }):=by rw [hw0]; rfl
 rw [hr];simp only [Option.bind_some];show Option.bind (loopO (V1 (LCo k) m (GL.p L) e1 e2 e3 e4 e5) _) _=_;rw [a1];rfl
theorem fmP {L L1:GL} {n0:Nat} {H H':AH} {W:Nat→Prop} (h:Fm W H H') (hw:∀id,W id→∃c,L1.fp c id) (hfp:∀c id,L1.fp c id→L.fp c id∨n0≤id):Fm (Wc L n0) H H':=h.weak fun id _ hid hlt=>by
 obtain ⟨c,hc⟩:=hw id hid;rcases hfp c id hc with h | h
 ·exact ⟨c,h⟩
 ·omega
theorem zfr (hE:Env T tx m Tb) (hTI:T.I=3) (k:Nat) {x0:Gh} {n:Nat} {aa:List Nat} {sl:Sl3} (hal:aa.length≤64) (hxa:x0.g.args n=aa) (hal2:∀a∈aa,a<x0.g.of.length) (hcl:∀a∈aa,x0.g.o a<x0.g.cls.length)
  (hus:∀a∈aa,(x0.g.c (x0.g.o a)).uses.length≤1048576) (n0:Nat) (L0:GL) (hsl:L0.na[n]? = some sl) :
  ∀(d i:Nat) (H:AH) (L:GL),i+d=aa.length→Rep T tx m H L ⟨{ x0.g with cls:=addU x0.g.o n (aa.take i) x0.g.cls },x0.ids,x0.sd,x0.fe⟩→Tb H→m≤H.next→n0≤H.next→L.na=L0.na→L.q=L0.q→(∀c id,L.fp c id→L0.fp c id∨n0≤id) →
   ∃H' L',loopO (V2 (LCo k) m (n:Int) ⟨L0.q,0,none⟩ sl) (H,(i:Int))=some (.inl (H',(aa.length:Int)))∧Rep T tx m H' L' ⟨{ x0.g with cls:=addU x0.g.o n aa x0.g.cls },x0.ids,x0.sd,x0.fe⟩∧Tb H'∧m≤H'.next∧Fm (Wc L0 n0) H H'∧L'.q=L0.q∧(∀c id,L'.fp c id→L0.fp c id∨n0≤id):=by
 intro d;induction d with
 | zero =>
  intro i H L hi h hb hm hn hna hq hfp;have:i=aa.length:=by omega
  subst this;rw [List.take_length] at h;have hs:SlA EI T.I m H (x0.g.args n) sl:=(h.hold (.na n)) sl (by rw [hna]; exact hsl);rw [hxa] at hs;refine ⟨H,L,O1 ?_,h,hb,hm,Fm.refl _ _,hq,hfp⟩;unfold V2;simp only [hs.cnt,if_neg (show ¬((aa.length:Int)<(aa.length:Int)) by omega)]
 | succ d ih =>
  intro i H L hi h hb hm hn hna hq hfp;have hil:i<aa.length:=by omega
  have hs:SlA EI T.I m H (x0.g.args n) sl:=(h.hold (.na n)) sl (by rw [hna]; exact hsl);rw [hxa] at hs;obtain ⟨p,r1,r2⟩:=rd_EI hs hil (v:=(i:Int)) rfl;have ham:=List.getElem_mem hil;obtain ⟨p2,r3,r4⟩:=h.of_ (i:=aa[i]) (hal2 _ ham) (v:=(aa[i]:Int)) rfl;have r4:rd (deI .i64) H p2=some ((x0.g.o aa[i]:Nat):Int):=r4;have hclt:x0.g.o aa[i]<(addU x0.g.o n (aa.take i) x0.g.cls).length:=by rw [I9]; exact hcl _ ham
  obtain ⟨p3,pp,hpp,r5,r6⟩:=h.cls_ (k:=x0.g.o aa[i]) hclt (v:=((x0.g.o aa[i]:Nat):Int)) rfl;have hx:Ext H (H.push { obj:=.cells (EI.enc n).toArray 3 (0,0),opn:=false,esz:=0,ro:=false }):=Fm.push _ _ _;have hz:=z6g (e:=3) (H:=H) (k:=1) (sz:=EI.sz) (cells:=EI.enc n) (by rw [EI.len]; omega) (EI.one n);have hlen:((addU x0.g.o n (aa.take i) x0.g.cls).getD (x0.g.o aa[i]) Cl.nil).uses.length≤1048640:=by
   rw [z7e _ _ _ _ _ (by have:=hclt; rw [I9] at this; exact this)];have h1:=hus _ ham;have h1:(x0.g.cls.getD (x0.g.o aa[i]) Cl.nil).uses.length≤1048576:=h1;have h2:=List.countP_le_length (p:=fun a=>x0.g.o a == x0.g.o aa[i]) (l:=aa.take i);rw [List.length_take] at h2;omega
  obtain ⟨s',H',b1,b2,b3,b4⟩:=z6t k (h.ext hx) hTI hpp (l':=[n]) (by simpa using (show RdV 1 _ _ 1 (EI.enc n) from hz)) (by
   show ((addU x0.g.o n (aa.take i) x0.g.cls).getD (x0.g.o aa[i]) Cl.nil).uses.length+1≤_;omega) (Nat.le_trans hm hx.1)
  have hself:=hpp;have hxn:H.next≤H'.next:=Nat.le_trans hx.1 b3.1;have hfpS:∀c id,(L.setcl (x0.g.o aa[i]) (pp.1,s',pp.2.2.1,pp.2.2.2)).fp c id→L.fp c id∨H.next≤id:=by
   have get:∀{k:Nat} {p0},(L.setcl (x0.g.o aa[i]) (pp.1,s',pp.2.2.1,pp.2.2.2)).cl[k]? = some p0→L.cl[k]? = some p0∨k=x0.g.o aa[i]∧p0=(pp.1,s',pp.2.2.1,pp.2.2.2):=by
    intro k p0 h0;have h0:(L.cl.set (x0.g.o aa[i]) (pp.1,s',pp.2.2.1,pp.2.2.2))[k]? = some p0:=h0;by_cases hk:x0.g.o aa[i]=k
    ·subst hk;rw [List.getElem?_set_self (List.getElem?_eq_some_iff.1 hpp).1] at h0;cases h0;exact .inr ⟨rfl,rfl⟩
    ·rw [List.getElem?_set_ne hk] at h0;exact .inl h0
   intro c id hid;cases c with
   | blk j =>
    obtain ⟨p0,hp0,e⟩:=hid;rcases get hp0 with hp0 | ⟨rfl,rfl⟩
    ·exact .inl ⟨p0,hp0,e⟩
    ·exact .inl ⟨pp,hpp,e⟩
   | us j =>
    obtain ⟨p0,hp0,e⟩:=hid;rcases get hp0 with hp0 | ⟨rfl,rfl⟩
    ·exact .inl ⟨p0,hp0,e⟩
    ·rcases b4 id e with e | e
     ·exact .inl ⟨pp,hpp,e⟩
     ·exact .inr (Nat.le_trans hx.1 e)
   | me j =>
    obtain ⟨p0,hp0,e⟩:=hid;rcases get hp0 with hp0 | ⟨rfl,rfl⟩
    ·exact .inl ⟨p0,hp0,e⟩
    ·exact .inl ⟨pp,hpp,e⟩
   | va j =>
    obtain ⟨p0,hp0,e⟩:=hid;rcases get hp0 with hp0 | ⟨rfl,rfl⟩
    ·exact .inl ⟨p0,hp0,e⟩
    ·exact .inl ⟨pp,hpp,e⟩
   | _=>exact .inl hid
  have hrep:Rep T tx m H' (L.setcl (x0.g.o aa[i]) (pp.1,s',pp.2.2.1,pp.2.2.2)) ⟨{ x0.g with cls:=addU x0.g.o n (aa.take (i+1)) x0.g.cls },x0.ids,x0.sd,x0.fe⟩:=by
   rw [List.take_succ_eq_append_getElem hil,zc8,← zg0 _ _ (fun c=>{ c with uses:=c.uses++[n] }) hclt];exact b2
  have hbb:V2 (LCo k) m (n:Int) ⟨L0.q,0,none⟩ sl (H,(i:Int))=some (.next (H',((i+1:Nat):Int))):=by
   unfold V2;simp only [hs.cnt,if_pos (show (i:Int)<(aa.length:Int) by omega),r1,r2,Option.bind_some];rw [← hq,h.q (j:=5) (v:=L.sC.v) rfl,h.q (j:=4) (v:=L.sO.v) rfl];simp only [show deSl (Sl3.v L.sC)=some L.sC from rfl,show deSl (Sl3.v L.sO)=some L.sO from rfl,Option.bind_some,r3,r4,r5,r6];have hr:newR 3 1 #[(Value.int .i64 (n:Int))] H=some (⟨some ⟨H.next,0,none⟩,1,1⟩,H.push { obj:=.cells (EI.enc n).toArray 3 (0,0),opn:=false,esz:=0,ro:=false }):=rfl;rw [hr];simp only [Option.bind_some];rw [b1];simp only [Option.bind_some];rw [N1 (n:=aa.length) hil (by rw [Q1]; omega)]
  have fm1:Fm (Wc L0 n0) H H':=(fmE hx).comp (fmP (L1:=L) b3 (fun id hid=>hid.elim (fun e=>⟨.blk (x0.g.o aa[i]),pp,hpp,e⟩) fun e=>⟨.us (x0.g.o aa[i]),pp,hpp,e⟩) hfp) fun _ _ h=>h;obtain ⟨H2,L2,c1,c2,c3,c4,c5,c6,c7⟩:=ih (i+1) H' (L.setcl (x0.g.o aa[i]) (pp.1,s',pp.2.2.1,pp.2.2.2)) (by omega) hrep (hE.tb (hE.tbx hb hx) b3 fun id hid=>by
    rcases hid with e | e
    ·exact (h.low (c:=.blk (x0.g.o aa[i])) ⟨pp,hpp,e⟩).1
    ·exact (h.low (c:=.us (x0.g.o aa[i])) ⟨pp,hpp,e⟩).1) (Nat.le_trans hm hxn) (Nat.le_trans hn hxn) hna hq fun c id hid=>by
    rcases hfpS c id hid with h1 | h1
    ·exact hfp c id h1
    ·exact .inr (Nat.le_trans hn h1)
  exact ⟨H2,L2,by rw [K1 hbb]; exact c1,c2,c3,c4,fm1.comp c5 fun _ _ h=>h,c6,c7⟩
end
end Go.Proofs.YtgkhbmoidenjaaaDoor
namespace Go.Proofs.YtgkhbmoidenjaaaDoor
open Go Go.Abs Go.Abs.Eg
set_option maxRecDepth 100000
structure TyOK (T:Tys):Prop where
 G:T.G=63
 N:T.N=86
 S:T.S=91
 I:T.I=3
 P:T.P=79
 E:T.E=109
 C:T.C=78
section
variable {T:Tys} {tx:Key→ByteArray} {m:Nat} {H:AH} {L:GL} {x:Gh} {Tb:AH→Prop} {kt e:TypeId}
structure GR (T:Tys) (tx:Key→ByteArray) (m:Nat) (Tb:AH→Prop) (M:List (Nat×Nat)) (H:AH) (L:GL) (x:Gh):Prop where
 rep:Rep T tx m H L x
 tb:Tb H
 mi:MI x.g M []
 mx:MX x.g
 sm:Small x.g
 nm:m≤H.next
 cll:x.g.cls.length=x.g.n
 li:LI x.g.N x.sd x.fe x.g.n x.g.o
structure GC (T:Tys) (tx:Key→ByteArray) (m:Nat) (Tb:AH→Prop) (M:List (Nat×Nat)) (n0:Nat) (H:AH) (L:GL) (H':AH) (L':GL) (x':Gh):Prop where
 gr:GR T tx m Tb M H' L' x'
 q:L'.q=L.q
 fm:Fm (Wc L n0) H H'
 fp:∀c id,L'.fp c id→L.fp c id∨n0≤id
theorem zg9 (hE:Env T tx m Tb) (hP:PE T 58 kt e) (hT:TyOK T) (k:Nat) {y:Nd} (h:Rep T tx m H L (addN x y)) (hb:Tb H) {M:List (Nat×Nat)} (hI:MI x.g M []) (hX:MX x.g) (hS:Small (begSt x.g y)) (hc:x.g.cls.length=x.g.n) (hm:m≤H.next)
  (hy:∀a∈y.args,a<x.g.n) {n:Nat} (hn:n=x.g.n) (hli:LI x.g.N x.sd x.fe x.g.n x.g.o) :
  ∃H' L' x',P3 (LCo k) m H (GL.p L) (n:Int)=some H'∧GC T tx m Tb M H.next H L H' L' x'∧x'.g.N=x.g.N++[y]∧x'.ids=x.ids∧x'.sd=x.sd:=by
 subst hn;have hTI:=hT.I;have hTC:=hT.C;have hTP:=hT.P;have hTE:=hT.E;have hNs:x.g.n+1≤1048576:=by have:=hS.n; rw [beg_n] at this; exact this
 obtain ⟨s1,H2,p,H4,H5,a1,a2,a3,a4,a5,a6,a7⟩:=zib (T:=T) hm x.g.n y.value;have hyN:(addN x y).g.N[x.g.n]? = some y:=by
  have:=beg_N (g:=x.g) (x:=y) x.g.n;rw [if_pos rfl] at this;exact this
 have h4:=h.ext a5;have h5:=h.ext a6;have hm5:m≤H5.next:=Nat.le_trans hm a6.1;obtain ⟨p8,sl,r1,r2,r3,r4,r5,r6⟩:=h4.node hyN (v:=((x.g.n:Nat):Int)) rfl;have hol:x.g.of.length=x.g.n:=hI.len;obtain ⟨z6,H6,s6,H6',H7,b1,b2,b3,b4,b5,b6⟩:=h5.pushO x.g.cls.length (by show x.g.of.length≤_; omega) hm5;have hm7:m≤H7.next:=Nat.le_trans hm5 b5.1;have hd7:∀c' id,GL.fp { L with sO:=s6 } c' id→¬ownC p id:=fun c' id hid ho=>by
  rcases fpO (n0:=H5.next) b6 c' id hid with h1 | h1
  ·have:=(h.low h1).2; have:=a7 id ho; omega
  ·have:=(a4.lt ho).2; omega
 have a4':ClA T m H7 p ⟨[],[x.g.n],if y.value then [x.g.n] else [],x.g.n⟩:=a4.fr b5 fun id ho hw=>by
  have:=a7 id ho;rcases hw with e | e
  ·have:=(h.low (c:=.q) (id:=id) e).2; omega
  ·have:=(h.low (c:=.O) (id:=id) e).2; omega
 obtain ⟨z8,H8,s8,H8',H9,c1,c2,c3,c4,c5,c6⟩:=b4.pushC a4' hd7 (by show x.g.cls.length≤_; omega) hm7;have hm9:m≤H9.next:=Nat.le_trans hm7 c5.1;have hfel:x.fe.length=x.g.n:=by
  have:x.fe.map (·.1)=x.g.fo:=h.fel;rw [← hI.flen,← this,List.length_map]
 obtain ⟨z10,H10,s10,H10',H11,d1,d2,d3,d4,d5,d6⟩:=c4.pushF (-1,0,0,0,false) (by show x.fe.length≤_; omega) hm9;have hm11:m≤H11.next:=Nat.le_trans hm9 d5.1;have n5:H.next≤H5.next:=a6.1;have n7:H.next≤H7.next:=Nat.le_trans n5 b5.1;have n9:H.next≤H9.next:=Nat.le_trans n7 c5.1;have n11:H.next≤H11.next:=Nat.le_trans n9 d5.1;have fp1:∀c id,GL.fp { L with sO:=s6 } c id→L.fp c id∨H.next≤id:=fpO fun i hi=>(b6 i hi).imp (fun h=>h) fun h=>Nat.le_trans n5 h;have fp2:∀c id,GL.fp { L with sO:=s6,sC:=s8,cl:=L.cl++[p] } c id→L.fp c id∨H.next≤id:=fun c id hid=>by
  rcases fpC (L:={ L with sO:=s6 }) (n0:=H.next) (fun i hi=>(c6 i hi).imp (fun h=>h) fun h=>Nat.le_trans n7 h) a7 c id hid with h1 | h1
  ·exact fp1 c id h1
  ·exact .inr h1
 have fp3:∀c id,GL.fp { L with sO:=s6,sC:=s8,cl:=L.cl++[p],sF:=s10 } c id→L.fp c id∨H.next≤id:=fun c id hid=>by
  rcases fpF (L:={ L with sO:=s6,sC:=s8,cl:=L.cl++[p] }) (n0:=H.next) (fun i hi=>(d6 i hi).imp (fun h=>h) fun h=>Nat.le_trans n9 h) c id hid with h1 | h1
  ·exact fp2 c id h1
  ·exact .inr h1
 have fm1:Fm (Wc L H.next) H H5:=fmE a6;have fm2:Fm (Wc L H.next) H5 H7:=fmP (L1:=L) b5 (fun id hid=>hid.elim (fun e=>⟨.q,e⟩) fun e=>⟨.O,e⟩) fun _ _ h=>.inl h;have fm3:Fm (Wc L H.next) H7 H9:=fmP (L1:={ L with sO:=s6 }) c5 (fun id hid=>hid.elim (fun e=>⟨.q,e⟩) fun e=>⟨.C,e⟩) fp1;have fm4:Fm (Wc L H.next) H9 H11:=fmP (L1:={ L with sO:=s6,sC:=s8,cl:=L.cl++[p] }) d5 (fun id hid=>hid.elim (fun e=>⟨.q,e⟩) fun e=>⟨.F,e⟩) fp2;have fmA:Fm (Wc L H.next) H H11:=fmT fm1 (fmT fm2 (fmT fm3 fm4));have tb5:=hE.tbx hb a6;have tb7:Tb H7:=hE.tb tb5 b5 fun id hid=>hid.elim (fun e=>(h.low (c:=.q) (id:=id) e).1) fun e=>(h.low (c:=.O) (id:=id) e).1;have tb9:Tb H9:=hE.tb tb7 c5 fun id hid=>hid.elim (fun e=>(b4.low (c:=.q) (id:=id) e).1) fun e=>(b4.low (c:=.C) (id:=id) e).1;have tb11:Tb H11:=hE.tb tb9 d5 fun id hid=>hid.elim (fun e=>(c4.low (c:=.q) (id:=id) e).1) fun e=>(c4.low (c:=.F) (id:=id) e).1
 let x0:Gh:=⟨⟨x.g.N++[y],x.g.of++[x.g.cls.length],x.g.cls++[⟨[],[x.g.n],if y.value then [x.g.n] else [],x.g.n⟩],x.g.sigs,x.g.fo++[-1]⟩,x.ids,x.sd,x.fe++[(-1,0,0,0,false)]⟩
 let L0:GL:={ L with sO:=s6,sC:=s8,cl:=L.cl++[p],sF:=s10 }
 have d4:Rep T tx m H11 L0 x0:=d4;have ho0:∀i,i<x.g.n→x0.g.o i=x.g.o i:=fun i hi=>Z5 (x:=y) hol hi;have hx0a:x0.g.args x.g.n=y.args:=by
  unfold St.args;show (((addN x y).g.N[x.g.n]?).map Nd.args).getD []=_;rw [hyN]; rfl
 have husz:∀a∈y.args,(x0.g.c (x0.g.o a)).uses.length≤1048576:=by
  intro a ha;have hlt:=hI.cl a (hy a ha);have e0:x0.g.c (x.g.o a)=x.g.c (x.g.o a):=by
   show (x.g.cls++[_]).getD _ Cl.nil=x.g.cls.getD _ Cl.nil;rw [List.getD_eq_getElem?_getD,List.getD_eq_getElem?_getD,List.getElem?_append_left hlt]
  rw [ho0 a (hy a ha),e0,hX.ulen a (hy a ha)];have h1:=cnt_le (g:=x.g) (x.g.o a);have h2:=hS.tot;rw [zfe] at h2;omega
 obtain ⟨H12,L1,e1,e2,e3,e4,e5,e6,e7⟩:=zfr hE hTI k (x0:=x0) (n:=x.g.n) (aa:=y.args) (sl:=sl) (by
   refine hS.args x.g.n y ?_;exact hyN) hx0a (fun a ha=>by show a<(x.g.of++[_]).length; rw [List.length_append]; have:=hy a ha; omega) (fun a ha=>by
    rw [ho0 a (hy a ha)];show _<(x.g.cls++[_]).length;have:=hI.cl a (hy a ha);rw [List.length_append]; omega) husz H11.next L0 r6 y.args.length 0 H11 L0 (by omega) d4 tb11 hm11 (Nat.le_refl _) rfl rfl (fun c id h=>.inl h)
 let x1:Gh:=⟨begSt x.g y,x.ids,x.sd,x.fe++[(-1,0,0,0,false)]⟩
 have e2:Rep T tx m H12 L1 x1:=e2;have n12:H.next≤H12.next:=Nat.le_trans n11 e5.1;have fp4:∀c id,L1.fp c id→L.fp c id∨H.next≤id:=fun c id hid=>by
  rcases e7 c id hid with h1 | h1
  ·exact fp3 c id h1
  ·exact .inr (Nat.le_trans n11 h1)
 have fm5:Fm (Wc L H.next) H11 H12:=e5.weak fun id _ hw hlt=>by
  obtain ⟨c,hc⟩:=hw (by omega);rcases fp3 c id hc with h1 | h1
  ·exact ⟨c,h1⟩
  ·omega
 have fmB:Fm (Wc L H.next) H H12:=fmT fmA fm5;have hcl1:∀i,i<x1.g.n→x1.g.o i<x1.g.cls.length:=by
  intro i hi;have hi:i<(begSt x.g y).n:=hi;rw [beg_n] at hi;show (begSt x.g y).o i<(addU _ _ _ _).length;rw [I9,List.length_append];by_cases hh:i<x.g.n
  ·rw [Z5 hol hh]; have:=hI.cl i hh; omega
  ·have:i=x.g.n:=by omega
   rw [this,z5d hol]; simp
 have hol1:x1.g.of.length=x1.g.n:=by
  show (x.g.of++[_]).length=(begSt x.g y).n;rw [beg_n,List.length_append,hol]; rfl
 have hargs1:∀(i:Nat) z,x1.g.N[i]? = some z→∀a∈z.args,a<i:=by
  intro i z hz a ha;have hz:(begSt x.g y).N[i]? = some z:=hz;rw [beg_N] at hz;split at hz
  ·rename_i ei;cases hz;rw [ei]; exact hy a ha
  ·exact hI.args i z hz a ha
 have hn1:x.g.n<x1.g.n:=by show x.g.n<(begSt x.g y).n; rw [beg_n]; omega
 have hcc:x1.g.cls.length=x1.g.n:=by
  show (addU _ _ _ _).length=(begSt x.g y).n;rw [I9,List.length_append,beg_n,hc]; rfl
 have li1:LI x1.g.N x1.sd x1.fe x1.g.n x1.g.o:=by
  have:=hli.beg hol hI.cl y (0,0,0,false);show LI (x.g.N++[y]) x.sd (x.fe++[(-1,0,0,0,false)]) (begSt x.g y).n (begSt x.g y).o;rw [beg_n]; exact this
 obtain ⟨H13,f1,f2⟩:=z5k hE k m e2 e3 hol1 hS hcl1 hargs1 e4 hTI hn1 (v:=((x.g.n:Nat):Int)) rfl;have hsg:x1.g.sig x.g.n=Eg.keyOf y x.g.o:=by
  show (begSt x.g y).sig x.g.n=_;exact z1b hol hy
 rw [hsg] at f1;have e2':=e2.ext f2;have hl13:=e2'.lkS hP.mp (Eg.keyOf y x.g.o);have n13:H.next≤H13.next:=Nat.le_trans n12 f2.1;have m13:m≤H13.next:=Nat.le_trans e4 f2.1;have tb13:Tb H13:=hE.tbx e3 f2;have fmC':Fm (Wc L H.next) H H13:=fmT fmB (fmE f2);have walk:∀R:Option AH,(match x.g.sigs (Eg.keyOf y x.g.o) with
   | some j=>G2 (LCo k) m H13 (GL.p L1) ((x.g.n:Nat):Int) (j:Int) 0 0 ((x.g.n:Nat):Int) (j:Int) true
   | none=>upM Tryd.prog m 58 H13 (some L1.ms) (Value.string (tx (Eg.keyOf y x.g.o))) (Value.int .i64 ((x.g.n:Nat):Int)))=R→P3 (LCo k) m H (GL.p L) ((x.g.n:Nat):Int)=R:=by
  intro R hR;unfold P3;rw [hTI] at a1;rw [hTC] at a2;rw [a1];simp only [Option.bind_some];rw [a2];simp only [Option.bind_some];rw [h4.q (j:=0) (v:=L.sN.v) rfl];simp only [show deSl (Sl3.v L.sN)=some L.sN from rfl,Option.bind_some,r1,r4];have hv:(if y.value=true then
    (newR 3 1 #[(Value.int .i64 ((x.g.n:Nat):Int))] H4).bind fun x=>match x with
     | (s10,H11)=>(H11.setCell m ((⟨p.1,0,none⟩:Addr).add 2) (Sl3.v s10)).bind fun H12=>some H12
    else some H4)=some H5:=by
   rcases a3 with ⟨h1,h2⟩ | ⟨h1,s10',H11',h2,h3⟩
   ·rw [h1,h2]; rfl
   ·rw [hTI] at h2;rw [if_pos h1,h2];simp only [Option.bind_some];rw [h3]; rfl
  refine (congrArg (fun o=>Option.bind o _) hv).trans ?_;simp only [Option.bind_some];rw [h5.q (j:=4) (v:=L.sO.v) rfl,h5.q (j:=5) (v:=L.sC.v) rfl];simp only [show deSl (Sl3.v L.sO)=some L.sO from rfl,show deSl (Sl3.v L.sC)=some L.sC from rfl,Option.bind_some];have hcn:L.sC.n=x.g.cls.length:=by
   have:=SlA.cnt (show SlA EP T.P m H5 (L.cl.map (·.1)) L.sC from h5.hold .C);rw [this,List.length_map];exact h.cll
  rw [hTI] at b1 b2;rw [hTP] at c1 c2;rw [hTE] at d1 d2;rw [hcn,b1];simp only [Option.bind_some];rw [b2];simp only [Option.bind_some];rw [b3];simp only [Option.bind_some];rw [show rd deSl H7 ((⟨L.q,0,none⟩:Addr).add 5)=some L.sC from b4.q (j:=5) (v:=L.sC.v) rfl deSl];simp only [Option.bind_some];rw [c1];simp only [Option.bind_some];have c2':appS m 79 1 8 H8 L.sC z8=some (s8,H8'):=c2;rw [c2'];simp only [Option.bind_some];have c3':H8'.setCell m ((⟨L.q,0,none⟩:Addr).add 5) (Sl3.v s8)=some H9:=c3;rw [c3'];simp only [Option.bind_some];rw [show rd deSl H9 ((⟨L.q,0,none⟩:Addr).add 6)=some L.sF from c4.q (j:=6) (v:=L.sF.v) rfl deSl];simp only [Option.bind_some];have d1':newR 109 1 #[(Value.int .i64 (-1)),(Value.int .i64 0),(Value.int .i64 0),(Value.int .i64 0),(Value.bool false)] H9=some (z10,H10):=d1;rw [d1'];simp only [Option.bind_some];have d2':appS m 109 5 40 H10 L.sF z10=some (s10,H10'):=d2;rw [d2'];simp only [Option.bind_some];have d3':H10'.setCell m ((⟨L.q,0,none⟩:Addr).add 6) (Sl3.v s10)=some H11:=d3;rw [d3'];simp only [Option.bind_some];rw [show rd deSl H11 ((⟨L.q,0,none⟩:Addr).add 0)=some L.sN from d4.q (j:=0) (v:=L.sN.v) rfl deSl];obtain ⟨p8',sl',r1',r2',r3',r4',r5',r6'⟩:=d4.node (i:=x.g.n) (y:=y) hyN (v:=((x.g.n:Nat):Int)) rfl;have r1':idxA 3 L.sN ((x.g.n:Nat):Int)=some p8':=r1';have r6':L.na[x.g.n]? = some sl':=r6';rw [r6] at r6';cases r6';simp only [Option.bind_some,r1',r3'];refine (congrArg (fun o=>Option.bind o _) (show (LCo k).run (V2 (LCo k) m ((x.g.n:Nat):Int) ⟨L.q,0,none⟩ sl) (H11,0)=some (.inl (H12,(y.args.length:Int))) from e1)).trans ?_;simp only [Option.bind_some];have hq1:L1.q=L.q:=e6;have f1':P1 (LCo k) m H12 (some ⟨L.q,0,none⟩) ((x.g.n:Nat):Int)=some (tx (Eg.keyOf y x.g.o),H13):=by rw [← hq1]; exact f1
  rw [f1'];simp only [Option.bind_some];rw [← hq1,e2'.q (j:=7) (v:=.map (some L1.ms)) rfl deM];simp only [show deM (Value.map (some L1.ms))=some (some L1.ms) from rfl,Option.bind_some];rw [show lkM Tryd.prog 58 (deI .i64) H13 (some L1.ms) (Value.string (tx (Eg.keyOf y x.g.o)))=some ((((x.g.sigs (Eg.keyOf y x.g.o)).getD 0:Nat):Int),(x.g.sigs (Eg.keyOf y x.g.o)).isSome) from hl13];simp only [Option.bind_some];rw [← hR];cases hs:x.g.sigs (Eg.keyOf y x.g.o) with
  | some j =>
   simp only [Option.isSome_some,if_true,Option.getD_some,GL.p];cases G2 (LCo k) m H13 (some ⟨L1.q,0,none⟩) ((x.g.n:Nat):Int) (j:Int) 0 0 ((x.g.n:Nat):Int) (j:Int) true <;> rfl
  | none =>
   simp only [Option.isSome_none,Bool.false_eq_true,if_false];cases upM Tryd.prog m 58 H13 (some L1.ms) (Value.string (tx (Eg.keyOf y x.g.o))) (Value.int .i64 ((x.g.n:Nat):Int)) <;> rfl
 cases hs:x.g.sigs (Eg.keyOf y x.g.o) with
 | some j =>
  have hmi:=hI.beg_wait hy hs;have hmx:=MX.beg hI hX hy x.g.sigs;obtain ⟨H',L',x',g1,g2⟩:=za3 hE hP hTI k e2' tb13 (M:=M) (a:=x.g.n) (b:=j) hmi hmx hS m13 0 0 ((x.g.n:Nat):Int) (j:Int) true (v:=((x.g.n:Nat):Int)) (w:=(j:Int)) rfl rfl li1 (by
   obtain ⟨hj,hjs⟩:=hI.s1 _ _ hs;refine zf8 (g:=x1.g) hargs1 li1 hn1 (by omega) ?_ 0;rw [hsg];have:x1.g.sig j=x.g.sig j:=o9 hol hI.args hj;rw [this,hjs])
  refine ⟨H',L',x',walk _ (by rw [hs]; exact g1),⟨⟨g2.rep,g2.tb,g2.mi,g2.mx,g2.sm,g2.nm,?_,g2.li⟩,g2.q.trans e6,fmT fmC' (g2.fm.weak fun id _ hw hlt=>?_),fun c id hid=>?_⟩,g2.N,g2.ids,g2.sd⟩
  ·rw [g2.cll,hcc];show (begSt x.g y).N.length=x'.g.N.length;rw [g2.N]
  ·obtain ⟨c,hc⟩:=hw (by omega);rcases fp4 c id hc with h1 | h1
   ·exact ⟨c,h1⟩
   ·omega
  ·rcases g2.fp c id hid with h1 | h1
   ·exact fp4 c id h1
   ·exact .inr (Nat.le_trans n13 h1)
 | none =>
  have hmi:=hI.beg_new' hy hs;have hmx:=MX.beg hI hX hy fun s=>if s=Eg.keyOf y x.g.o then some x.g.n else x.g.sigs s
  obtain ⟨H',g1,g2,g3,g4⟩:=e2'.upS hE.inj hP.mp (Eg.keyOf y x.g.o) x.g.n;refine ⟨H',L1,_,walk _ (by rw [hs]; exact g1),⟨⟨g2,hE.tb tb13 g3 fun id hid=>?_,hmi,hmx,hS.s _,by rw [g4]; exact m13,hcc,li1⟩,e6,fmT fmC' (fmP (L1:=L1) g3 (fun id hid=>⟨.ms,hid⟩) fp4),fp4⟩,rfl,rfl,rfl⟩;exact (e2'.low (c:=.ms) (id:=id) hid).1
end
end Go.Proofs.YtgkhbmoidenjaaaDoor
namespace Go.Proofs.YtgkhbmoidenjaaaDoor
open Go Go.Abs Go.Abs.Eg
set_option maxRecDepth 100000
section
variable {T:Tys} {tx:Key→ByteArray} {m:Nat} {H:AH} {L:GL} {x:Gh} {Tb:AH→Prop} {kt e:TypeId}
structure GS (T:Tys) (tx:Key→ByteArray) (m:Nat) (Tb:AH→Prop) (H:AH) (L:GL) (x:Gh):Prop where
 gr:GR T tx m Tb (Mof x.sd) H L x
 ids:IdsOK x.ids x.g.N
 sdr:∀s∈x.sd,okA x.g.N s.1=true∧okA x.g.N s.2.1=true
structure GO (T:Tys) (tx:Key→ByteArray) (m:Nat) (Tb:AH→Prop) (n0:Nat) (H:AH) (L:GL) (H':AH) (L':GL) (x':Gh):Prop where
 gs:GS T tx m Tb H' L' x'
 q:L'.q=L.q
 fm:Fm (Wc L n0) H H'
 fp:∀c id,L'.fp c id→L.fp c id∨n0≤id
theorem zda {N:List Nd} {y:Nd} {a:Int} (h:okA N a=true):okA (N++[y]) a=true:=by
 obtain ⟨n,rfl,hn⟩:=J3.1 h;exact J3.2 ⟨n,rfl,by rw [List.length_append]; omega⟩
theorem GS.ext {H':AH} (hE:Env T tx m Tb) (h:GS T tx m Tb H L x) (hx:Ext H H'):GS T tx m Tb H' L x :=
 ⟨⟨h.gr.rep.ext hx,hE.tbx h.gr.tb hx,h.gr.mi,h.gr.mx,h.gr.sm,Nat.le_trans h.gr.nm hx.1,h.gr.cll,h.gr.li⟩,h.ids,h.sdr⟩
theorem zdl (hE:Env T tx m Tb) (hP:PE T 58 kt e) (hT:TyOK T) (k:Nat) (h:GS T tx m Tb H L x) {y:Nd} {sl:Sl3} (hs:SlA EI T.I m H y.args sl) {n0:Nat} (hn0:n0≤H.next) (hf:∀id,fpt sl id→n0≤id) (hd:∀c id,L.fp c id→¬fpt sl id)
  (hy:∀a∈y.args,a<x.g.n) (hl:y.args.length≤64) (hsy:-9223372036854775808≤y.sym∧y.sym<9223372036854775808) (ht:totN x.g.N+y.args.length≤1048576) :
  ∃H' L' x',P2 (LCo k) m H (GL.p L) y.sym sl y.value=some ((putP x.g.N y).1,(putP x.g.N y).2.1,H')∧GO T tx m Tb n0 H L H' L' x'∧x'.g.N=(putP x.g.N y).2.2∧x'.sd=x.sd:=by
 have hn:=h.gr.sm.n;obtain ⟨H2,a1,a2⟩:=hE.text k m m H y.value y.sym sl y.args h.gr.tb h.gr.nm hs (fun a ha=>by have:=hy a ha; omega) hl hsy.1 hsy.2;have h2:=h.gr.rep.ext a2;have hlk:=h2.lkI hP.mp (y.value,y.sym,y.args);have hids:x.ids (y.value,y.sym,y.args)=x.g.N.findIdx? fun z=>decide (z=y):=h.ids y;have m2:m≤H2.next:=Nat.le_trans h.gr.nm a2.1;cases hfi:x.g.N.findIdx? fun z=>decide (z=y) with
 | some i =>
  rw [hfi] at hids;rw [hids] at hlk;have hp:putP x.g.N y=((i:Int),0,x.g.N):=by unfold putP; rw [hfi]
  refine ⟨H2,L,x,?_,⟨h.ext hE a2,rfl,fmE a2,fun _ _ h=>.inl h⟩,by rw [hp],rfl⟩;rw [hp];unfold P2;rw [a1];simp only [Option.bind_some,GL.p];rw [h2.q (j:=1) (v:=.map (some L.mi)) rfl deM];simp only [show deM (Value.map (some L.mi))=some (some L.mi) from rfl,Option.bind_some];rw [show lkM Tryd.prog 58 (deI .i64) H2 (some L.mi) (Value.string (tx (y.value,y.sym,y.args)))=some (((((some i:Option Nat)).getD 0:Nat):Int),(some i:Option Nat).isSome) from hlk];rfl
 | none =>
  rw [hfi] at hids;rw [hids] at hlk;by_cases hbig:1048576≤x.g.N.length
  ·have hp:putP x.g.N y=(0,3,x.g.N):=by unfold putP; rw [hfi]; simp only [if_pos hbig]
   refine ⟨H2,L,x,?_,⟨h.ext hE a2,rfl,fmE a2,fun _ _ h=>.inl h⟩,by rw [hp],rfl⟩;rw [hp];unfold P2;rw [a1];simp only [Option.bind_some,GL.p];rw [h2.q (j:=1) (v:=.map (some L.mi)) rfl deM];simp only [show deM (Value.map (some L.mi))=some (some L.mi) from rfl,Option.bind_some];rw [show lkM Tryd.prog 58 (deI .i64) H2 (some L.mi) (Value.string (tx (y.value,y.sym,y.args)))=some (((((none:Option Nat)).getD 0:Nat):Int),(none:Option Nat).isSome) from hlk];simp only [Option.bind_some,Option.isSome_none,Bool.false_eq_true,if_false];rw [h2.q (j:=0) (v:=L.sN.v) rfl deSl];simp only [show deSl (Sl3.v L.sN)=some L.sN from rfl,Option.bind_some,z82 h2];rw [if_pos (by show (1048576:Int)≤((x.g.N.length:Nat):Int); omega)]
  ·have hp:putP x.g.N y=(((x.g.N.length:Nat):Int),0,x.g.N++[y]):=by unfold putP; rw [hfi]; simp only [if_neg hbig]
   rw [hp];obtain ⟨H3,b1,b2,b3,b4⟩:=h2.upI hE.inj hP.mp (y.value,y.sym,y.args) x.g.n;have m3:m≤H3.next:=by rw [b4]; exact m2
   have hs3:SlA EI T.I m H3 y.args sl:=(hs.ext a2).fr b3 fun id hid e=>hd .mi id e hid;obtain ⟨z4,H4,s4,H4',H5,c1,c2,c3,c4,c5,c6⟩:=b2.pushN y hs3 hd (by show x.g.N.length≤_; omega) m3;have m5:m≤H5.next:=Nat.le_trans m3 c5.1;have n2:n0≤H2.next:=Nat.le_trans hn0 a2.1;have n3:n0≤H3.next:=by rw [b4]; exact n2
   have n5:n0≤H5.next:=Nat.le_trans n3 c5.1;have tb3:=hE.tb (hE.tbx h.gr.tb a2) b3 fun id hid=>(h2.low (c:=.mi) (id:=id) hid).1;have tb5:=hE.tb tb3 c5 fun id hid=>hid.elim (fun e=>(b2.low (c:=.q) (id:=id) e).1) fun e=>(b2.low (c:=.N) (id:=id) e).1;have fp1:∀c id,GL.fp { L with sN:=s4,na:=L.na++[sl] } c id→L.fp c id∨n0≤id:=fpN (fun i hi=>(c6 i hi).imp (fun h=>h) fun h=>Nat.le_trans n3 h) hf;have hS:Small (begSt x.g y):=by
    refine ⟨by rw [beg_n]; show x.g.N.length+1≤_; omega,by rw [zfe,tot_eq]; exact ht,fun i z hz=>?_,fun i z hz=>?_,?_⟩
    ·rw [beg_N] at hz;split at hz
     ·cases hz; exact hl
     ·exact h.gr.sm.args i z hz
    ·rw [beg_N] at hz;split at hz
     ·cases hz; exact hsy
     ·exact h.gr.sm.sym i z hz
    ·show (addU _ _ _ _).length≤_;rw [I9,List.length_append,h.gr.cll];show x.g.N.length+1≤_;omega
   obtain ⟨H6,L6,x6,d1,d2,d3,d4,d5⟩:=zg9 hE hP hT k (x:=withI x fun k'=>if k'=(y.value,y.sym,y.args) then some x.g.n else x.ids k') (y:=y) c4 tb5 (M:=Mof x.sd) h.gr.mi h.gr.mx hS h.gr.cll m5 hy (n:=x.g.n) rfl h.gr.li;have d3:x6.g.N=x.g.N++[y]:=d3;have d4:x6.ids=fun k'=>if k'=keyN y then some x.g.n else x.ids k':=d4
   have d5:x6.sd=x.sd:=d5;refine ⟨H6,L6,x6,?_,⟨⟨by rw [d5]; exact d2.gr,?_,fun s hs'=>?_⟩,d2.q,?_,fun c id hid=>?_⟩,d3,d5⟩
   ·unfold P2;rw [a1];simp only [Option.bind_some,GL.p];rw [h2.q (j:=1) (v:=.map (some L.mi)) rfl deM];simp only [show deM (Value.map (some L.mi))=some (some L.mi) from rfl,Option.bind_some];rw [show lkM Tryd.prog 58 (deI .i64) H2 (some L.mi) (Value.string (tx (y.value,y.sym,y.args)))=some (((((none:Option Nat)).getD 0:Nat):Int),(none:Option Nat).isSome) from hlk];simp only [Option.bind_some,Option.isSome_none,Bool.false_eq_true,if_false];rw [h2.q (j:=0) (v:=L.sN.v) rfl deSl];simp only [show deSl (Sl3.v L.sN)=some L.sN from rfl,Option.bind_some,z82 h2];rw [if_neg (by show ¬(1048576:Int)≤((x.g.N.length:Nat):Int); omega)];have b1':upM Tryd.prog m 58 H2 (some L.mi) (Value.string (tx (y.value,y.sym,y.args))) (Value.int .i64 ((x.g.n:Nat):Int))=some H3:=b1;rw [b1'];simp only [Option.bind_some];rw [show rd deSl H3 ((⟨L.q,0,none⟩:Addr).add 0)=some L.sN from b2.q (j:=0) (v:=L.sN.v) rfl deSl];simp only [Option.bind_some];rw [hT.N] at c1 c2;rw [c1];simp only [Option.bind_some];rw [c2];simp only [Option.bind_some];rw [c3];simp only [Option.bind_some];have d1':P3 (LCo k) m H5 (some ⟨L.q,0,none⟩) ((x.g.n:Nat):Int)=some H6:=d1;rw [d1'];rfl
   ·rw [d3,d4];exact h.ids.push hids
   ·rw [d5] at hs';obtain ⟨s1,s2⟩:=h.sdr s hs';rw [d3];exact ⟨zda s1,zda s2⟩
   ·refine fmT (fmE a2) (fmT (fmP (L1:=L) b3 (fun id hid=>⟨.mi,hid⟩) fun _ _ h=>.inl h) (fmT (fmP (L1:=L) c5 (fun id hid=>hid.elim (fun e=>⟨.q,e⟩) fun e=>⟨.N,e⟩) fun _ _ h=>.inl h) (d2.fm.weak fun id _ hw hlt=>?_)));obtain ⟨c,hc⟩:=hw (by omega);rcases fp1 c id hc with h1 | h1
    ·exact ⟨c,h1⟩
    ·omega
   ·rcases d2.fp c id hid with h1 | h1
    ·exact fp1 c id h1
    ·exact .inr (Nat.le_trans n5 h1)
end
end Go.Proofs.YtgkhbmoidenjaaaDoor
namespace Go.Proofs.YtgkhbmoidenjaaaDoor
open Go Go.Abs Go.Abs.Eg
set_option maxRecDepth 100000
section
variable {T:Tys} {tx:Key→ByteArray} {m:Nat} {H:AH} {L:GL} {x:Gh} {Tb:AH→Prop} {kt e:TypeId}
theorem zh8 (hE:Env T tx m Tb) (hP:PE T 58 kt e) (hT:TyOK T) (k:Nat) (h:GS T tx m Tb H L x) {v:Int} (hsy:-9223372036854775808≤v∧v<9223372036854775808) (ht:totN x.g.N≤1048576) :
  ∃H' L' x',R5 (LCo k) m H (GL.p L) v=some ((valP x.g.N v).1,(valP x.g.N v).2.1,H')∧GO T tx m Tb H.next H L H' L' x'∧x'.g.N=(valP x.g.N v).2.2∧x'.sd=x.sd:=by
 obtain ⟨H',L',x',a1,a2,a3,a4⟩:=zdl hE hP hT k h (y:=⟨true,v,[]⟩) (sl:=Sl3.nil) SlA.nil (n0:=H.next) (Nat.le_refl _) (fun id h=>absurd h U1) (fun _ _ _=>U1) (fun a ha=>by cases ha) (by simp) hsy (by simpa using ht);refine ⟨H',L',x',?_,a2,a3,a4⟩;unfold R5;rw [X6 k h.gr.rep];simp only [Option.bind_some,if_true];rw [show P2 (LCo k) m H (GL.p L) v Sl3.nil true=_ from a1];rfl
theorem zgs (c m1:Nat) {s:Sl3} {l:List Nat} (h:∀H',Ext H H'→RdV 1 H' s l.length (l.flatMap EI.enc)) (hN:l.length≤1000) (hm:m1≤H.next) :
  ∃s' H',w7 (LCo c) m1 H s=some (s',H')∧VecA EI 3 m1 H' l s'∧Ext H H'∧∀id,owns s' id→H.next≤id:=by
 unfold w7;cases hnil:isNilS s with
 | true =>
  have hp:s.p=none:=by
   unfold isNilS at hnil;cases hq:s.p with
   | none=>rfl
   | some a=>rw [hq] at hnil; cases hnil
  have:l=[]:=by
   have:=(h H (Fm.refl _ _)).nil hp;exact List.length_eq_zero_iff.1 this.1
  subst this;exact ⟨Sl3.nil,H,rfl,VecA.nil _ _ _ _,Fm.refl _ _,fun id h=>absurd h z5r⟩
 | false =>
  have hp:Ext H (H.push { obj:=.cells #[] 3 (0,0),opn:=false,esz:=0,ro:=false }):=Fm.push _ _ _;obtain ⟨s',H',a1,a2,a3⟩:=VecA.app (E:=EI) (e:=3) (bytes:=8) (l:=[]) (l':=l) (m:=m1) (VecA.zero _ _ _ _ ⟨H.next,0,none⟩ ⟨by simp,rfl⟩) (h _ hp) (by simp only [List.length_nil,Nat.zero_add]; omega) (by simp only [List.length_nil,Nat.zero_add]; omega) (by simp; omega);have hx:=a3.ext hp fun id h=>absurd h zil;refine ⟨s',H',?_,a2,hx.1,hx.2⟩;simp only [Bool.false_eq_true,if_false,newR,Option.bind_some];have a1':appS m1 3 1 8 (H.push { obj:=.cells #[] 3 (0,0),opn:=false,esz:=0,ro:=false }) ⟨some ⟨H.next,0,none⟩,0,0⟩ s=some (s',H'):=a1;rw [a1'];rfl
theorem zch (k:Nat) (h:Rep T tx m H L x) {s:Sl3} {aa:List Int} (hs:AR H s aa) (hN:aa.length≤64) {pr:Addr} (hp:rd deP H pr=some (GL.p L)) :
  Y3 (LCo k) H s (some pr)=some (!aa.all (okA x.g.N)):=by
 have loop:∀(d i:Nat),i+d=aa.length→(∀j (hj:j<aa.length),j<i→okA x.g.N aa[j]=true)→∃r,loopO (A2 (LCo k) H s (some pr)) (i:Int)=some r∧(aa.all (okA x.g.N)=true→∃z,r=.inl z)∧(aa.all (okA x.g.N)=false→∃z:Nat,r=.inr (z:Int)):=by
  intro d;induction d with
  | zero =>
   intro i hi hall;refine ⟨.inl (i:Int),O1 ?_,fun _=>⟨_,rfl⟩,fun hc=>?_⟩
   ·unfold A2;simp only [hs.n,if_neg (show ¬((i:Int)<(aa.length:Int)) by omega)]
   ·have:aa.all (okA x.g.N)=true:=by
     rw [List.all_eq_true];intro a ha;obtain ⟨j,hj,rfl⟩:=List.mem_iff_getElem.1 ha;exact hall j hj (by omega)
    rw [this] at hc; cases hc
  | succ d ih =>
   intro i hi hall;have hil:i<aa.length:=by omega
   obtain ⟨q,r1,r2⟩:=hs.at_ i hil;have hadd:T5 (LCo k) H aa[i] (some pr)=some (!okA x.g.N aa[i]):=by
    unfold T5;simp only [Option.bind_some,hp];rw [Q6 k h];rfl
   cases hok:okA x.g.N aa[i] with
   | true =>
    have hb:A2 (LCo k) H s (some pr) (i:Int)=some (.next ((i+1:Nat):Int)):=by
     unfold A2;simp only [hs.n,if_pos (show (i:Int)<(aa.length:Int) by omega),r1,r2,Option.bind_some,hadd,hok];rw [N1 (n:=aa.length) hil (by rw [Q1]; omega)];rfl
    obtain ⟨r,c1,c2,c3⟩:=ih (i+1) (by omega) fun j hj hji=>by
     by_cases e:j=i
     ·subst e; exact hok
     ·exact hall j hj (by omega)
    exact ⟨r,by rw [K1 hb]; exact c1,c2,c3⟩
   | false =>
    refine ⟨.inr (i:Int),z3m ?_,fun hc=>?_,fun _=>⟨i,rfl⟩⟩
    ·unfold A2;simp only [hs.n,if_pos (show (i:Int)<(aa.length:Int) by omega),r1,r2,Option.bind_some,hadd,hok];rfl
    ·rw [List.all_eq_true] at hc;rw [hc _ (List.getElem_mem hil)] at hok; cases hok
 obtain ⟨r,c1,c2,c3⟩:=loop aa.length 0 (by omega) fun j hj hji=>absurd hji (Nat.not_lt_zero _);unfold Y3 B6;rw [show (LCo k).run (A2 (LCo k) H s (some pr)) 0=some r from c1];cases hall:aa.all (okA x.g.N) with
 | true =>
  obtain ⟨z,rfl⟩:=c2 hall;rfl
 | false =>
  obtain ⟨z,rfl⟩:=c3 hall;show some (decide ((z:Int)≥0))=some (!false);rw [decide_eq_true (show (z:Int)≥0 by omega)];rfl
theorem z2u (hE:Env T tx m Tb) (hP:PE T 58 kt e) (hT:TyOK T) (k:Nat) (h:GS T tx m Tb H L x) {v:Int} (hsy:-9223372036854775808≤v∧v<9223372036854775808) {s:Sl3} {aa:List Int} (hs:∀H',Ext H H'→AR H' s aa) (ht:totN x.g.N+aa.length≤1048576) :
  ∃H' L' x',S2 (LCo k) m H (GL.p L) v s=some ((addP x.g.N v aa).1,(addP x.g.N v aa).2.1,H')∧GO T tx m Tb H.next H L H' L' x'∧x'.g.N=(addP x.g.N v aa).2.2∧x'.sd=x.sd:=by
 let H2:=H.push (pubB 23 [Value.pointer (GL.p L)])
 have x2:Ext H H2:=Fm.push _ _ _;have h2:=h.ext hE x2;have hpr:rd deP H2 (⟨H.next,0,none⟩:Addr)=some (GL.p L):=by
  have:=(ArrV.new (f:=23) (m:=m) (H:=H) (cells:=[Value.pointer (GL.p L)]) h.gr.nm).rd (j:=0) (v:=Value.pointer (GL.p L)) rfl deP;rw [add_zero] at this;exact this
 have hnb:newB 23 [Value.pointer (GL.p L)] H=some (⟨H.next,0,none⟩,H2):=rfl;have hs2:=hs H2 x2;have pre:S2 (LCo k) m H (GL.p L) v s=if (aa.length:Int) > 64 then some (0,51,H2) else if (!aa.all (okA x.g.N))=true then some (0,150,H2) else
   (w7 (LCo k) (Nat.max m H2.next) H2 s).bind fun r=>(P2 (LCo k) m r.2 (GL.p L) v r.1 false).bind fun r=>some (r.1,r.2.1,r.2.2):=by
  unfold S2;rw [hnb];simp only [Option.bind_some];rw [hpr];simp only [Option.bind_some];rw [X6 k h2.gr.rep];simp only [Option.bind_some,if_true,hs2.n];by_cases hbig:(aa.length:Int) > 64
  ·rw [if_pos hbig,if_pos hbig]
  ·rw [if_neg hbig,if_neg hbig,zch k h2.gr.rep hs2 (by omega) hpr];rfl
 rw [pre];by_cases hbig:64<aa.length
 ·have hp:addP x.g.N v aa=(0,51,x.g.N):=by unfold addP; rw [if_pos hbig]
  rw [if_pos (by omega),hp];exact ⟨H2,L,x,rfl,⟨h2,rfl,fmE x2,fun _ _ h=>.inl h⟩,rfl,rfl⟩
 ·rw [if_neg (by omega)];cases hall:aa.all (okA x.g.N) with
  | false =>
   have hp:addP x.g.N v aa=(0,150,x.g.N):=by unfold addP; rw [if_neg hbig,hall]; rfl
   rw [hp];exact ⟨H2,L,x,rfl,⟨h2,rfl,fmE x2,fun _ _ h=>.inl h⟩,rfl,rfl⟩
  | true =>
   have hp:addP x.g.N v aa=putP x.g.N ⟨false,v,aa.map Int.toNat⟩:=by unfold addP; rw [if_neg hbig,hall]; rfl
   have hok:=List.all_eq_true.1 hall;have hnn:∀a∈aa,0≤a:=fun a ha=>by obtain ⟨n,rfl,_⟩:=J3.1 (hok a ha); exact Int.natCast_nonneg n
   obtain ⟨s',H3,b1,b2,b3,b4⟩:=zgs k (Nat.max m H2.next) (H:=H2) (s:=s) (l:=aa.map Int.toNat) (fun H' hx=>by
    have:=(hs H' (x2.trans hx)).rdv;rw [z9f hnn] at this;rw [List.length_map]; exact this) (by rw [List.length_map]; omega) (Nat.max_le.2 ⟨h2.gr.nm,Nat.le_refl _⟩)
   have h3:=h2.ext hE b3;have hsl:SlA EI T.I m H3 (aa.map Int.toNat) s':=by rw [hT.I]; exact SlA.down (VecA.toS b2) (Nat.le_max_left _ _)
   have hfr:∀id,fpt s' id→H.next≤id:=fun id hid=>Nat.le_trans x2.1 (b4 id (zkp b2 hid));obtain ⟨H',L',x',c1,c2,c3,c4⟩:=zdl hE hP hT k h3 (y:=⟨false,v,aa.map Int.toNat⟩) (sl:=s') hsl (n0:=H.next) (Nat.le_trans x2.1 b3.1) hfr (fun c id hc hf=>by
    have h1:=(h.gr.rep.low hc).2;have:=hfr id hf;omega) (fun a ha=>by
     obtain ⟨b,hb,rfl⟩:=List.mem_map.1 ha;obtain ⟨n,rfl,hn⟩:=J3.1 (hok b hb);exact hn) (by show (aa.map Int.toNat).length≤64; rw [List.length_map]; omega) hsy (by show totN x.g.N+(aa.map Int.toNat).length≤_; rw [List.length_map]; exact ht)
   refine ⟨H',L',x',?_,⟨c2.gs,c2.q,fmT (fmE (x2.trans b3)) c2.fm,c2.fp⟩,by rw [hp]; exact c3,c4⟩;rw [b1,hp];simp only [Option.bind_some,Bool.not_true,Bool.false_eq_true,if_false];have c1':P2 (LCo k) m H3 (GL.p L) v s' false=some ((putP x.g.N ⟨false,v,aa.map Int.toNat⟩).1,(putP x.g.N ⟨false,v,aa.map Int.toNat⟩).2.1,H'):=c1;rw [c1'];rfl
theorem z67 (hE:Env T tx m Tb) (hP:PE T 58 kt e) (hT:TyOK T) (k:Nat) (h:GS T tx m Tb H L x) (a b c:Int) (d:Bool) (hl:x.sd.length≤1048576) :
  ∃H' L' x',C3 (LCo k) m H (GL.p L) a b c d=some ((sayP x.g.N x.sd (a,b,c,d)).1,H')∧GO T tx m Tb H.next H L H' L' x'∧x'.g.N=x.g.N∧x'.sd=(sayP x.g.N x.sd (a,b,c,d)).2:=by
 have hm:=h.gr.nm;cases hok:okA x.g.N a&&okA x.g.N b with
 | false =>
  have hp:sayP x.g.N x.sd (a,b,c,d)=(150,x.sd):=by unfold sayP; simp only [hok]; rfl
  refine ⟨H,L,x,?_,⟨h,rfl,Fm.refl _ _,fun _ _ h=>.inl h⟩,rfl,by rw [hp]⟩;rw [hp];unfold C3;rw [X6 k h.gr.rep];simp only [Option.bind_some,if_true];rw [Q6 k h.gr.rep,Q6 k h.gr.rep];have e1:decide (0≤a∧a<(x.g.n:Int))=okA x.g.N a:=rfl;have e2:decide (0≤b∧b<(x.g.n:Int))=okA x.g.N b:=rfl;rw [e1,e2];cases ha:okA x.g.N a with
  | false=>rfl
  | true =>
   rw [ha] at hok;simp only [Bool.true_and] at hok;rw [hok];rfl
 | true =>
  have hp:sayP x.g.N x.sd (a,b,c,d)=(0,x.sd++[(a,b,c,d)]):=by unfold sayP; simp only [hok]; rfl
  simp only [Bool.and_eq_true] at hok;obtain ⟨n1,ra,hn1⟩:=J3.1 hok.1;obtain ⟨n2,rb,hn2⟩:=J3.1 hok.2;rw [hp];obtain ⟨z1,H1,s1,H1',H2,b1,b2,b3,b4,b5,b6⟩:=h.gr.rep.pushS (a,b,c,d) hl hm;have m2:m≤H2.next:=Nat.le_trans hm b5.1;have tb2:Tb H2:=hE.tb h.gr.tb b5 fun id hid=>hid.elim (fun e=>(h.gr.rep.low (c:=.q) (id:=id) e).1) fun e=>(h.gr.rep.low (c:=.S) (id:=id) e).1;have fp1:∀c id,GL.fp { L with sS:=s1 } c id→L.fp c id∨H.next≤id:=fpS b6;have fm1:Fm (Wc L H.next) H H2:=fmP (L1:=L) b5 (fun id hid=>hid.elim (fun e=>⟨.q,e⟩) fun e=>⟨.S,e⟩) fun _ _ h=>.inl h;have sdr':∀s∈x.sd++[(a,b,c,d)],okA x.g.N s.1=true∧okA x.g.N s.2.1=true:=by
   intro s hs;rcases List.mem_append.1 hs with hs | hs
   ·exact h.sdr s hs
   ·rw [List.mem_singleton] at hs;subst hs;exact hok
  have pre:C3 (LCo k) m H (GL.p L) a b c d=if d=true then some (0,H2) else (G2 (LCo k) m H2 (GL.p L) a b 0 c 0 0 false).bind fun H=>some (0,H):=by
   unfold C3;rw [X6 k h.gr.rep];simp only [Option.bind_some,if_true];rw [Q6 k h.gr.rep,Q6 k h.gr.rep];have e1:decide (0≤a∧a<(x.g.n:Int))=true:=hok.1;have e2:decide (0≤b∧b<(x.g.n:Int))=true:=hok.2;rw [e1,e2];simp only [Option.bind_some,if_true,Bool.not_true,Bool.false_eq_true,if_false,GL.p];rw [h.gr.rep.q (j:=2) (v:=L.sS.v) rfl deSl];simp only [show deSl (Sl3.v L.sS)=some L.sS from rfl,Option.bind_some];rw [hT.S] at b1 b2;rw [b1];simp only [Option.bind_some];rw [b2];simp only [Option.bind_some];rw [b3];simp only [Option.bind_some];cases d with
   | true=>rfl
   | false =>
    simp only [Bool.false_eq_true,if_false];cases G2 (LCo k) m H2 (some ⟨L.q,0,none⟩) a b 0 c 0 0 false <;> rfl
  have li':∀d',LI x.g.N (x.sd++[(a,b,c,d')]) x.fe x.g.n x.g.o:=fun d' i j hi hj e=>(h.gr.li i j hi hj e).mono (fun _ _ h=>h) (fun s hs=>List.mem_append_left _ hs) fun _ _ _ h=>h;rw [pre];cases d with
  | true =>
   refine ⟨H2,_,_,rfl,⟨⟨⟨b4,tb2,?_,h.gr.mx,h.gr.sm,m2,h.gr.cll,li' true⟩,h.ids,sdr'⟩,rfl,fm1,fp1⟩,rfl,rfl⟩;show MI x.g (Mof (x.sd++[(a,b,c,true)])) [];rw [z9l];simp only [if_true,List.append_nil];exact h.gr.mi
  | false =>
   have hmi:MI x.g (Mof (x.sd++[(a,b,c,false)])) [(n1,n2)]:=by
    rw [z9l];have:=h.gr.mi.say (a:=n1) (b:=n2) hn1 hn2;rw [ra,rb]
    simpa using this
   obtain ⟨H',L',x',g1,g2⟩:=za3 hE hP hT.I k b4 tb2 (M:=Mof (x.sd++[(a,b,c,false)])) hmi h.gr.mx h.gr.sm m2 0 c 0 0 false ra rb (li' false) (.inl ⟨rfl,(a,b,c,false),List.mem_append_right _ List.mem_cons_self,rfl,rfl,.inl ⟨ra,rb⟩⟩);have g1':G2 (LCo k) m H2 (GL.p L) a b 0 c 0 0 false=some H':=g1;have gN:x'.g.N=x.g.N:=g2.N;have gsd:x'.sd=x.sd++[(a,b,c,false)]:=g2.sd;refine ⟨H',L',x',by rw [g1']; rfl,⟨⟨⟨g2.rep,g2.tb,by rw [gsd]; exact g2.mi,g2.mx,g2.sm,g2.nm,?_,g2.li⟩,?_,?_⟩,g2.q,fmT fm1 (g2.fm.weak fun id _ hw hlt=>?_),fun c id hid=>?_⟩,gN,gsd⟩
   ·rw [g2.cll];show x.g.cls.length=x'.g.N.length;rw [gN]; exact h.gr.cll
   ·rw [show x'.ids=x.ids from g2.ids,gN]; exact h.ids
   ·rw [gsd,gN]; exact sdr'
   ·obtain ⟨c,hc⟩:=hw (by have:=b5.1; omega);rcases fp1 c id hc with h1 | h1
    ·exact ⟨c,h1⟩
    ·omega
   ·rcases g2.fp c id hid with h1 | h1
    ·exact fp1 c id h1
    ·exact .inr (Nat.le_trans b5.1 h1)
end
end Go.Proofs.YtgkhbmoidenjaaaDoor
namespace Go.Proofs.YtgkhbmoidenjaaaDoor
open Go Go.Abs Go.Abs.Eg
set_option maxRecDepth 100000
section
variable {T:Tys} {tx:Key→ByteArray} {m:Nat} {H:AH} {L:GL} {x:Gh} {Tb:AH→Prop} {kt e:TypeId}
theorem ze5 (hE:Env T tx m Tb) (hT:TyOK T) (k:Nat) (hb:Tb H) (hm:m≤H.next) :
  ∃H' L,zo (LCo k) m H=some (GL.p L,H')∧GS T tx m Tb H' L ⟨⟨[],[],[],fun _=>none,[]⟩,fun _=>none,[],[]⟩∧Ext H H'∧∀c id,L.fp c id→H.next≤id:=by
 let H2:=H.push mapB
 let H4:=H2.push mapB
 let L:GL:=⟨H4.next,H.next,H2.next,Sl3.nil,Sl3.nil,Sl3.nil,Sl3.nil,Sl3.nil,Sl3.nil,[],[]⟩
 let H6:=H4.push (pubB 63 (qCells L))
 have x1:Ext H H2:=Fm.push _ _ _;have x2:Ext H2 H4:=Fm.push _ _ _;have x3:Ext H4 H6:=Fm.push _ _ _;have n2:H2.next=H.next+1:=AH.next_push _ _;have n4:H4.next=H.next+2:=by show (H2.push _).next=_; rw [AH.next_push,n2]
 have n6:H6.next=H.next+3:=by show (H4.push _).next=_; rw [AH.next_push,n4]
 have xx:Ext H H6:=x1.trans (x2.trans x3);have m1:MapU Value.string H6 H.next fun _=>none:=by
  have h1:=(MapU.new Value.string (H:=H)).fr x2 (by show H.next<H2.next; omega) (fun h=>h);exact h1.fr x3 (by show H.next<H4.next; omega) (fun h=>h)
 have m2:MapU Value.string H6 H2.next fun _=>none:=(MapU.new Value.string (H:=H2)).fr x3 (by show H2.next<H4.next; omega) (fun h=>h);have own:∀c id,L.fp c id→(c=.q∧id=H4.next)∨(c=.mi∧id=H.next)∨(c=.ms∧id=H2.next):=by
  intro c id h;cases c with
  | q=>exact .inl ⟨rfl,h⟩
  | mi=>exact .inr (.inl ⟨rfl,h⟩)
  | ms=>exact .inr (.inr ⟨rfl,h⟩)
  | N=>exact (U1 h).elim
  | S=>exact (U1 h).elim
  | O=>exact (U1 h).elim
  | C=>exact (U1 h).elim
  | F=>exact (U1 h).elim
  | blk k=>obtain ⟨p,hp,_⟩:=h; cases hp
  | us k=>obtain ⟨p,hp,_⟩:=h; cases hp
  | me k=>obtain ⟨p,hp,_⟩:=h; cases hp
  | va k=>obtain ⟨p,hp,_⟩:=h; cases hp
  | na k=>obtain ⟨p,hp,_⟩:=h; cases hp
 refine ⟨H6,L,rfl,⟨⟨⟨fun c=>?_,fun c c' id h1 h2=>?_,rfl,rfl,rfl⟩,hE.tbx hb xx,MI.empty,⟨fun i h=>absurd h (Nat.not_lt_zero i),fun i h=>absurd h (Nat.not_lt_zero i)⟩,⟨by decide,by decide,fun i y h=>(by cases h),fun i y h=>(by cases h),by decide⟩,by omega,rfl,fun i j h=>absurd h (Nat.not_lt_zero i)⟩,fun y=>rfl,fun s h=>(by cases h)⟩,xx,fun c id h=>?_⟩
 ·cases c with
  | q =>
   show ArrV T.G m H6 H4.next (qCells L);rw [hT.G];exact ArrV.new (by omega)
  | mi=>exact ⟨hm,by show H.next<H6.next; omega,_,m1,fun k=>rfl⟩
  | ms=>exact ⟨by show m≤H2.next; omega,by show H2.next<H6.next; omega,_,m2,fun k=>rfl⟩
  | N=>exact SlA.nil
  | S=>exact SlA.nil
  | O=>exact SlA.nil
  | C=>exact SlA.nil
  | F=>exact SlA.nil
  | blk k=>intro p hp; cases hp
  | us k=>intro p hp; cases hp
  | me k=>intro p hp; cases hp
  | va k=>intro p hp; cases hp
  | na k=>intro p hp; cases hp
 ·rcases own c id h1 with ⟨rfl,e1⟩ | ⟨rfl,e1⟩ | ⟨rfl,e1⟩ <;> rcases own c' id h2 with ⟨rfl,e2⟩ | ⟨rfl,e2⟩ | ⟨rfl,e2⟩ <;> first | rfl | (exfalso; omega)
 ·rcases own c id h with ⟨_,e1⟩ | ⟨_,e1⟩ | ⟨_,e1⟩ <;> omega
theorem z9j (k:Nat) (h:GS T tx m Tb H L x):J5 (LCo k) H (GL.p L)=some ((x.g.N.length:Nat):Int):=by
 unfold J5;rw [X6 k h.gr.rep];simp only [Option.bind_some,if_true,GL.p];rw [h.gr.rep.q (j:=0) (v:=L.sN.v) rfl deSl];simp only [show deSl (Sl3.v L.sN)=some L.sN from rfl,Option.bind_some,z82 h.gr.rep];rfl
theorem zc5 (k:Nat) (h:GS T tx m Tb H L x) {a:Nat} (ha:a<x.g.n):K3 (LCo k) H (GL.p L) (a:Int)=some ((((x.g.c (x.g.o a)).low:Nat):Int),true):=by
 obtain ⟨q1,r1,r2⟩:=h.gr.rep.of_ (i:=a) (by rw [h.gr.mi.len]; exact ha) (v:=(a:Int)) rfl;obtain ⟨q2,p,hp,r3,r4⟩:=h.gr.rep.cls_ (h.gr.mi.cl a ha) (v:=((x.g.o a:Nat):Int)) rfl;unfold K3;rw [Q6 k h.gr.rep,decide_eq_true (show (0:Int)≤(a:Int)∧(a:Int)<(x.g.n:Int) by omega)];simp only [Option.bind_some,if_true,GL.p];rw [h.gr.rep.q (j:=5) (v:=L.sC.v) rfl deSl,h.gr.rep.q (j:=4) (v:=L.sO.v) rfl deSl];simp only [show deSl (Sl3.v L.sC)=some L.sC from rfl,show deSl (Sl3.v L.sO)=some L.sO from rfl,Option.bind_some,r1,r2,r3,r4];rw [readC h.gr.rep hp (j:=3) (v:=.int .i64 (((x.g.c (x.g.o a)).low:Nat):Int)) rfl (deI .i64)];rfl
theorem readO (h:GS T tx m Tb H L x) {a:Int} (ha:okA x.g.N a=true):∃q,idxA 1 L.sO a=some q∧rd (deI .i64) H q=some ((x.g.o a.toNat:Nat):Int):=by
 obtain ⟨n,rfl,hn⟩:=J3.1 ha;exact h.gr.rep.of_ (i:=n) (by rw [h.gr.mi.len]; exact hn) rfl
theorem m7 {l:List Nat} {k:Nat} {o:Nat→Nat}:(∃v w r,l=v :: w :: r∧o v=k)↔∃h:1<l.length,o (l[0]'(by omega))=k:=by
 constructor
 ·rintro ⟨v,w,r,rfl,h⟩
  exact ⟨by simp,h⟩
 ·rintro ⟨h,e⟩
  match l,h,e with
  | v :: w :: r,_,e=>exact ⟨v,w,r,rfl,e⟩
theorem zat (k:Nat) (h:GS T tx m Tb H L x) (hl:x.sd.length≤1048576):∃r:Bool,O3 (LCo k) H (GL.p L)=some r∧(r=false↔ClashP x.g.N x.sd (Cong x.g.N (Mof x.sd))):=by
 have hS:SlA ES T.S m H x.sd L.sS:=h.gr.rep.hold .S;have hcn:=hS.cnt;have hC:SlA EP T.P m H (L.cl.map (·.1)) L.sC:=h.gr.rep.hold .C;have hcc:L.sC.n=x.g.cls.length:=by rw [hC.cnt,List.length_map]; exact h.gr.rep.cll
 have hcl:=h.gr.sm.cls;rw [← zc4 h.gr.mi h.sdr];have A:=scanO (f:=I1 (LCo k) H ⟨L.q,0,none⟩ L.sS) x.sd.length (fun i=>match x.sd[i]? with
   | some s=>s.2.2.2&&decide (x.g.o s.1.toNat=x.g.o s.2.1.toNat)
   | none=>false) (fun i=>((i:Int),0,0,0,false)) (fun r=>r.2.2.2.2=true) (fun i hi hp=>?_) (fun i hi hp=>?_) ?_
 rotate_left
 ·rw [List.getElem?_eq_getElem hi] at hp;obtain ⟨q,r1,r2,r3,r4,r5⟩:=rd_ES hS hi (v:=(i:Int)) rfl;obtain ⟨o1,o2⟩:=h.sdr _ (List.getElem_mem hi);obtain ⟨q1,r6,r7⟩:=readO h o1;obtain ⟨q2,r8,r9⟩:=readO h o2;unfold I1;simp only [hcn,if_pos (show (i:Int)<(x.sd.length:Int) by omega),r1,r2,r3,r4,r5,Option.bind_some];rw [h.gr.rep.q (j:=4) (v:=L.sO.v) rfl deSl];simp only [show deSl (Sl3.v L.sO)=some L.sO from rfl,Option.bind_some,r6,r7,r8,r9];cases hsp:x.sd[i].2.2.2 with
  | false =>
   simp only [Bool.false_eq_true,if_false,Option.bind_some];rw [N1 (n:=x.sd.length) hi (by rw [Q1]; omega)]
  | true =>
   simp only [hsp,Bool.true_and] at hp;have hne:¬x.g.o x.sd[i].1.toNat=x.g.o x.sd[i].2.1.toNat:=of_decide_eq_false hp;simp only [if_true,Option.bind_some,decide_eq_false (show ¬((x.g.o x.sd[i].1.toNat:Nat):Int)=((x.g.o x.sd[i].2.1.toNat:Nat):Int) by omega),Bool.false_eq_true,if_false];rw [N1 (n:=x.sd.length) hi (by rw [Q1]; omega)]
 ·rw [List.getElem?_eq_getElem hi] at hp;obtain ⟨q,r1,r2,r3,r4,r5⟩:=rd_ES hS hi (v:=(i:Int)) rfl;obtain ⟨o1,o2⟩:=h.sdr _ (List.getElem_mem hi);obtain ⟨q1,r6,r7⟩:=readO h o1;obtain ⟨q2,r8,r9⟩:=readO h o2;simp only [Bool.and_eq_true,decide_eq_true_eq] at hp;refine ⟨(x.sd[i].1,x.sd[i].2.1,x.sd[i].2.2.1,x.sd[i].2.2.2,true),?_,rfl⟩;unfold I1;simp only [hcn,if_pos (show (i:Int)<(x.sd.length:Int) by omega),r1,r2,r3,r4,r5,Option.bind_some];rw [h.gr.rep.q (j:=4) (v:=L.sO.v) rfl deSl];simp only [show deSl (Sl3.v L.sO)=some L.sO from rfl,Option.bind_some,r6,r7,r8,r9,hp.1,if_true,hp.2,decide_true]
 ·unfold I1;simp only [hcn,if_neg (show ¬((x.sd.length:Int)<(x.sd.length:Int)) by omega)]
 have B:=scanO (f:=F1 (LCo k) H ⟨L.q,0,none⟩ L.sC) x.g.cls.length (fun i=>if hh:1<(x.g.c i).vals.length then decide (x.g.o ((x.g.c i).vals[0]'(by omega))=i) else false) (fun i=>((i:Int),0,0,0,false)) (fun r=>r.2.2.2.2=true) (fun i hi hp=>?_) (fun i hi hp=>?_) ?_;rotate_left
 ·obtain ⟨q,p,hp1,r1,r2⟩:=h.gr.rep.cls_ hi (v:=(i:Int)) rfl;have hv:SlA EI T.I m H (x.g.c i).vals p.2.2.2:=h.gr.rep.hold (.va i) p hp1;unfold F1;simp only [hcc,if_pos (show (i:Int)<(x.g.cls.length:Int) by omega),r1,r2,Option.bind_some];rw [readC h.gr.rep hp1 (j:=2) (v:=p.2.2.2.v) rfl deSl];simp only [show deSl (Sl3.v p.2.2.2)=some p.2.2.2 from rfl,Option.bind_some,hv.cnt];by_cases hh:1<(x.g.c i).vals.length
  ·rw [dif_pos hh] at hp;have hne:=of_decide_eq_false hp;obtain ⟨q1,r3,r4⟩:=rd_EI hv (i:=0) (by omega) (v:=0) rfl;obtain ⟨q2,r5,r6⟩:=h.gr.rep.of_ (i:=(x.g.c i).vals[0]) (by rw [h.gr.mi.len]; exact h.gr.mi.vlt i _ (List.getElem_mem _)) (v:=(((x.g.c i).vals[0]:Nat):Int)) rfl;rw [h.gr.rep.q (j:=4) (v:=L.sO.v) rfl deSl];simp only [show deSl (Sl3.v L.sO)=some L.sO from rfl,Option.bind_some,r3,r4,r5,r6,if_pos (show (((x.g.c i).vals.length:Nat):Int) > 1 by omega),decide_eq_false (show ¬((x.g.o (x.g.c i).vals[0]:Nat):Int)=(i:Int) by omega),Bool.false_eq_true,if_false];rw [N1 (n:=x.g.cls.length) hi (by rw [Q1]; omega)]
  ·simp only [if_neg (show ¬(((x.g.c i).vals.length:Nat):Int) > 1 by omega),Option.bind_some,Bool.false_eq_true,if_false];rw [N1 (n:=x.g.cls.length) hi (by rw [Q1]; omega)]
 ·obtain ⟨q,p,hp1,r1,r2⟩:=h.gr.rep.cls_ hi (v:=(i:Int)) rfl;have hv:SlA EI T.I m H (x.g.c i).vals p.2.2.2:=h.gr.rep.hold (.va i) p hp1;by_cases hh:1<(x.g.c i).vals.length
  ·rw [dif_pos hh] at hp;have heq:=of_decide_eq_true hp;obtain ⟨q1,r3,r4⟩:=rd_EI hv (i:=0) (by omega) (v:=0) rfl;obtain ⟨q3,r7,r8⟩:=rd_EI hv (i:=1) (by omega) (v:=1) rfl;obtain ⟨q2,r5,r6⟩:=h.gr.rep.of_ (i:=(x.g.c i).vals[0]) (by rw [h.gr.mi.len]; exact h.gr.mi.vlt i _ (List.getElem_mem _)) (v:=(((x.g.c i).vals[0]:Nat):Int)) rfl;refine ⟨((((x.g.c i).vals[0]:Nat):Int),(((x.g.c i).vals[1]:Nat):Int),0,false,true),?_,rfl⟩;unfold F1;simp only [hcc,if_pos (show (i:Int)<(x.g.cls.length:Int) by omega),r1,r2,Option.bind_some];rw [readC h.gr.rep hp1 (j:=2) (v:=p.2.2.2.v) rfl deSl];simp only [show deSl (Sl3.v p.2.2.2)=some p.2.2.2 from rfl,Option.bind_some,hv.cnt];rw [h.gr.rep.q (j:=4) (v:=L.sO.v) rfl deSl];simp only [show deSl (Sl3.v L.sO)=some L.sO from rfl,Option.bind_some,r3,r4,r5,r6,r7,r8,if_pos (show (((x.g.c i).vals.length:Nat):Int) > 1 by omega),heq,decide_true,if_true]
  ·rw [dif_neg hh] at hp; cases hp
 ·unfold F1;simp only [hcc,if_neg (show ¬((x.g.cls.length:Int)<(x.g.cls.length:Int)) by omega)]
 have pre:O3 (LCo k) H (GL.p L)=(X1 (LCo k) H (GL.p L)).bind fun r=>some (!r.2.2.2.2):=by
  unfold O3;rw [X6 k h.gr.rep];rfl
 rw [pre];unfold X1;simp only [GL.p,Option.bind_some];rw [h.gr.rep.q (j:=2) (v:=L.sS.v) rfl deSl];simp only [show deSl (Sl3.v L.sS)=some L.sS from rfl,Option.bind_some];rcases A with ⟨⟨i,hi,hp⟩,r,e1,e2⟩ | ⟨hall,e1⟩
 ·rw [show (LCo k).run (I1 (LCo k) H ⟨L.q,0,none⟩ L.sS) (0,0,0,0,false)=some (.inr r) from e1];refine ⟨false,?_,fun _=>.inl ?_,fun _=>rfl⟩
  ·simp only [Option.bind_some,e2]; rfl
  ·rw [List.getElem?_eq_getElem hi] at hp;simp only [Bool.and_eq_true,decide_eq_true_eq] at hp;exact ⟨_,List.getElem_mem hi,hp.1,hp.2⟩
 ·rw [show (LCo k).run (I1 (LCo k) H ⟨L.q,0,none⟩ L.sS) (0,0,0,0,false)=some (.inl ((x.sd.length:Int),0,0,0,false)) from e1];simp only [Option.bind_some];rw [h.gr.rep.q (j:=5) (v:=L.sC.v) rfl deSl];simp only [show deSl (Sl3.v L.sC)=some L.sC from rfl,Option.bind_some];have nosplit:¬∃s∈x.sd,s.2.2.2=true∧x.g.o s.1.toNat=x.g.o s.2.1.toNat:=by
   rintro ⟨s,hs,h1,h2⟩
   obtain ⟨i,hi,rfl⟩:=List.mem_iff_getElem.1 hs;have:=hall i hi;rw [List.getElem?_eq_getElem hi] at this;simp only [h1,h2,decide_true,Bool.and_self] at this;cases this
  rcases B with ⟨⟨i,hi,hp⟩,r,e3,e4⟩ | ⟨hall2,e3⟩
  ·rw [show (LCo k).run (F1 (LCo k) H ⟨L.q,0,none⟩ L.sC) (0,0,0,0,false)=some (.inr r) from e3];refine ⟨false,?_,fun _=>.inr ⟨i,hi,m7.2 ?_⟩,fun _=>rfl⟩
   ·simp only [Option.bind_some,e4]; rfl
   ·by_cases hh:1<(x.g.c i).vals.length
    ·rw [dif_pos hh] at hp;exact ⟨hh,of_decide_eq_true hp⟩
    ·rw [dif_neg hh] at hp; cases hp
  ·rw [show (LCo k).run (F1 (LCo k) H ⟨L.q,0,none⟩ L.sC) (0,0,0,0,false)=some (.inl ((x.g.cls.length:Int),0,0,0,false)) from e3];refine ⟨true,rfl,fun h=>(by cases h),fun hc=>?_⟩;exfalso;rcases hc with hc | ⟨i,hi,hc⟩
   ·exact nosplit hc
   ·obtain ⟨hh,heq⟩:=m7.1 hc;have:=hall2 i hi;rw [dif_pos hh,decide_eq_true heq] at this;cases this
end
end Go.Proofs.YtgkhbmoidenjaaaDoor
namespace Go.Proofs.YtgkhbmoidenjaaaDoor
open Go Go.Abs Go.Abs.Eg
set_option maxRecDepth 100000
section
variable {m:Nat} {H:AH} {id:Nat} {f:Nat→Nat}
theorem zfk:∀(u:Nat),Go.Lib.decDigits u=(decD (nd u) u).map Nat.toUInt8:=by
 intro u;induction u using Nat.strongRecOn with
 | ind u ih =>
  rw [Go.Lib.decDigits];by_cases h:u<10
  ·rw [dif_pos h,z31 h];show _=([]++[48+u % 10]:List Nat).map Nat.toUInt8;rw [Nat.mod_eq_of_lt h];rfl
  ·rw [dif_neg h,nd_big h,ih (u / 10) (by omega)];show _=(decD (nd (u / 10)) (u / 10)++[48+u % 10]).map Nat.toUInt8;rw [List.map_append];rfl
theorem zk6 (a:Int):(⟨(Go.Lib.itoa a).toArray⟩:ByteArray)=bytesL (itoaL a):=by
 unfold bytesL Go.Lib.itoa itoaL;by_cases h:a<0
 ·rw [if_pos h,if_pos h,zfk];rfl
 ·rw [if_neg h,if_neg h,zfk];have:a.natAbs=a.toNat:=by omega
  rw [this];rfl
theorem zbp (k:Nat) (hT:HasT H) (hm:m≤H.next) {a:Int} (h0:-9223372036854775808≤a) (h1:a<9223372036854775808):∃H',strconv_Itoa (LCo k) m H a=some (bytesL (itoaL a),H')∧Ext H H':=by
 refine ⟨H,?_,Fm.refl _ _⟩;unfold strconv_Itoa;rw [if_pos ⟨hT,h0,by omega⟩,zk6]
theorem z95 {a:Int} (h0:-9223372036854775808≤a) (h1:a<9223372036854775808):(itoaL a).length≤20:=by
 unfold itoaL;rw [List.length_append,z9c];have:a.natAbs<10 ^ (18+1):=by
  have:(10:Nat) ^ (18+1)=10000000000000000000:=by decide
  rw [this]; omega
 have:=nd_le 18 _ this;split <;> simp <;> omega
theorem cat_ok {l l':List Nat} (h:l.length+l'.length≤9223372036854775807):strcat (bytesL l) (bytesL l')=some (bytesL (l++l')):=by
 unfold strcat;rw [z8w,z8w,if_neg (by rw [show IntKind.i64.max=9223372036854775807 from rfl]; omega),zco]
theorem zhu (k m2:Nat) {sl:Sl3} {l:List Nat} (hl:l.length≤64) (hla:∀a∈l,a≤1048576) {pre:List Nat} (hp:pre.length≤1000):∀(d i:Nat) (H:AH),i+d=l.length→HasT H→m≤H.next→(∀H',Ext H H'→SlA EI 3 m2 H' l sl) →
  ∃H',loopO (E5 (LCo k) m sl) (H,bytesL (pre++argsL (l.take i)),(i:Int))=some (.inl (H',bytesL (pre++argsL l),(l.length:Int)))∧Ext H H':=by
 have hal:∀(l:List Nat),(∀a∈l,a≤1048576)→(argsL l).length≤21*l.length:=by
  intro l;induction l with
  | nil=>intro _; exact Nat.le_refl _
  | cons a l ih =>
   intro h;have h1:=ih fun b hb=>h b (List.mem_cons_of_mem _ hb);have h2:=h a (by simp);have h3:=z95 (a:=(a:Int)) (by omega) (by omega);show (32 :: (itoaL (a:Int))++argsL l).length≤_;simp only [List.length_append,List.length_cons];omega
 intro d;induction d with
 | zero =>
  intro i H hi hT hm hs;have:i=l.length:=by omega
  subst this;have h0:=(hs H (Fm.refl _ _)).cnt;refine ⟨H,?_,Fm.refl _ _⟩;rw [List.take_length];refine O1 ?_;unfold E5;simp only [h0,if_neg (show ¬((l.length:Int)<(l.length:Int)) by omega)]
 | succ d ih =>
  intro i H hi hT hm hs;have hil:i<l.length:=by omega
  have h0:=hs H (Fm.refl _ _);obtain ⟨q,r1,r2⟩:=rd_EI h0 hil (v:=(i:Int)) rfl;have hli:=hla _ (List.getElem_mem hil);obtain ⟨H1,a1,a2⟩:=zbp k hT hm (a:=((l[i]:Nat):Int)) (by omega) (by omega);have ln1:=z95 (a:=((l[i]:Nat):Int)) (by omega) (by omega);have ln2:=hal (l.take i) fun a ha=>hla a (List.mem_of_mem_take ha);rw [List.length_take] at ln2;have c1:strcat (⟨#[32]⟩:ByteArray) (bytesL (itoaL ((l[i]:Nat):Int)))=some (bytesL (32 :: itoaL ((l[i]:Nat):Int))):=cat_ok (l:=[32]) (by simp only [List.length_singleton]; omega);have c2:strcat (bytesL (pre++argsL (l.take i))) (bytesL (32 :: itoaL ((l[i]:Nat):Int)))=some (bytesL (pre++argsL (l.take (i+1)))):=by
   rw [cat_ok (by simp only [List.length_append,List.length_cons]; omega),List.take_succ_eq_append_getElem hil]
   congr 2
   unfold argsL;rw [List.flatMap_append,List.append_assoc]
   congr 2
   simp
  obtain ⟨H2,b1,b2⟩:=ih (i+1) H1 (by omega) (hT.ext a2) (Nat.le_trans hm a2.1) fun H' hx=>hs H' (a2.trans hx);refine ⟨H2,?_,a2.trans b2⟩;rw [← b1];refine K1 ?_;unfold E5;simp only [h0.cnt,if_pos (show (i:Int)<(l.length:Int) by omega),r1,r2,Option.bind_some,a1,c1,c2];rw [N1 (n:=l.length) hil (by rw [Q1]; omega)]
theorem zjs {T:Tys} {Tb:AH→Prop} (hI:T.I=3) (htab:∀H,Tb H→HasT H) (htb:∀{H H':AH} {W:Nat→Prop},Tb H→Fm W H H'→(∀id,W id→m≤id)→Tb H'):Env T txK m Tb:=by
 refine ⟨zka,htb,fun k m1 m2 H v s sl l hb hm hs hla hl h0 h1=>?_⟩;rw [hI] at hs;have hT:=htab H hb;obtain ⟨H1,a1,a2⟩:=zbp (m:=m1) k hT hm h0 h1;have ln1:=z95 h0 h1;obtain ⟨H2,b1,b2⟩:=zhu (m:=m1) k m2 hl hla (pre:=(if v then 118 else 115) :: itoaL s) (by simp only [List.length_cons]; omega) l.length 0 H1 (by omega) (hT.ext a2) (Nat.le_trans hm a2.1) fun H' hx=>hs.ext (a2.trans hx);refine ⟨H2,?_,a2.trans b2⟩;have c1:strcat (bytesL [if v then 118 else 115]) (bytesL (itoaL s))=some (bytesL ((if v then 118 else 115) :: itoaL s)):=cat_ok (l:=[if v then 118 else 115]) (by simp only [List.length_singleton]; omega);have hv:(if v=true then some (⟨#[118]⟩:ByteArray) else some (⟨#[115]⟩:ByteArray):Option ByteArray)=some (bytesL [if v then 118 else 115]):=by cases v <;> rfl
 unfold S7;refine (congrArg (fun o=>Option.bind o _) hv).trans ?_;simp only [Option.bind_some];rw [a1];simp only [Option.bind_some];rw [c1];simp only [Option.bind_some];have b1':(LCo k).run (E5 (LCo k) m1 sl) (H1,bytesL ((if v then 118 else 115) :: itoaL s),0)=some (.inl (H2,bytesL (((if v then 118 else 115) :: itoaL s)++argsL l),(l.length:Int))):=by
  have e:((if v then 118 else 115) :: itoaL s)++argsL (l.take 0)=(if v then 118 else 115) :: itoaL s:=by simp [argsL]
  rw [e] at b1;exact b1
 rw [b1'];rfl
end
end Go.Proofs.YtgkhbmoidenjaaaDoor
namespace Go.Proofs.YtgkhbmoidenjaaaDoor
open Go Go.Abs Go.Abs.Eg
set_option maxRecDepth 100000
theorem strK:KeyK Tryd.prog 9 (fun s:ByteArray=>Value.string s):=by
 refine ⟨⟨.string,by kernel_rfl,.inl fun a b=>?_⟩,fun a b=>by kernel_rfl,fun a=>?_⟩
 ·show some (a == b)=_;rw [ba_beq]
 ·show (a == a)=true;rw [ba_beq]; simp
theorem mp:MP Tryd.prog 58 9 3:=⟨strK,by kernel_rfl,by kernel_rfl⟩
theorem del_eq (m:Nat) (H H':AH) (r:Option Nat) (s:ByteArray) (h:aDelete Tryd.prog m #[58] [.map r,.string s] H=some (.tuple #[],H')):gOp Tryd.prog m (opsOf (cfst (csnd (csnd (csnd (cfst (cfst (csnd (csnd (cfst (cfst (csnd (cfst (csnd (csnd B73))))))))))))))) 7 [(65,.val (Value.map r)),(68,.val (Value.string s))] deV H=some (.tuple #[],H'):=by
 unfold gOp;rw [show runOp Tryd.prog (NE.plain 0) ih0 m (opAt (opsOf (cfst (csnd (csnd (csnd (cfst (cfst (csnd (csnd (cfst (cfst (csnd (cfst (csnd (csnd B73))))))))))))))) 7) (evV [(65,.val (Value.map r)),(68,.val (Value.string s))]) H=aDelete Tryd.prog m #[58] [.map r,.string s] H from by kernel_rfl];rw [h];rfl
theorem min_eq (a b:Int) (H:AH):gOp1 Tryd.prog (opsOf (cfst (csnd (csnd (csnd (csnd (csnd (csnd (csnd (csnd (csnd B73))))))))))) 9 [(166,.val (Value.int .i64 a)),(170,.val (Value.int .i64 b))] (deI .i64) H=some (min a b):=by
 have h:runOp Tryd.prog (NE.plain 0) ih0 0 (opAt (opsOf (cfst (csnd (csnd (csnd (csnd (csnd (csnd (csnd (csnd (csnd B73))))))))))) 9) (evV [(166,.val (Value.int .i64 a)),(170,.val (Value.int .i64 b))]) H=some (.int .i64 (if b<a then b else a),H):=by kernel_rfl
 unfold gOp1 gOp;rw [h];show some (if b<a then b else a)=some (min a b)
 congr 1
 split <;> omega
theorem pe {T:Tys}:PE T 58 9 3:=⟨mp,del_eq,min_eq⟩
section
variable {m:Nat} {H:AH} {R:RL} {N:List Nd} {sd:List Sd}
abbrev RF (m:Nat) (H:AH) (R:RL) (N:List Nd) (sd:List Sd):Prop:=RR 32 42 49 m H R N sd
abbrev RL.p (R:RL):Option Addr:=some ⟨R.q,0,none⟩
theorem zcb (k:Nat) {s1 s2:Sl3} {m1 m2:Nat} {z y:Nd} (hz:SlA EI 3 m1 H z.args s1) (hy:SlA EI 3 m2 H y.args s2) (hl:z.args.length≤64):zw (LCo k) H z.sym z.value s1 y.sym y.value s2=some (decide (z=y)):=by
 have first:(if z.sym=y.sym then if (z.value == y.value)=true then some (!decide ((s1.n:Int)=(s2.n:Int))) else some true else some true:Option Bool)=some (!(decide (z.sym=y.sym)&&(decide (z.value=y.value)&&decide (z.args.length=y.args.length)))):=by
  rw [hz.cnt,hy.cnt];by_cases h1:z.sym=y.sym
  ·rw [if_pos h1];by_cases h2:z.value=y.value
   ·rw [if_pos (by rw [h2]; simp)];by_cases h3:z.args.length=y.args.length
    ·simp [h1,h2,h3]
    ·have:¬(z.args.length:Int)=(y.args.length:Int):=by omega
     simp [h1,h2,h3];exact this
   ·rw [if_neg (by simpa using h2)];simp [h2]
  ·rw [if_neg h1];simp [h1]
 unfold zw;refine (congrArg (fun o=>Option.bind o _) first).trans ?_;simp only [Option.bind_some];by_cases hc:z.sym=y.sym∧z.value=y.value∧z.args.length=y.args.length
 ·obtain ⟨c1,c2,c3⟩:=hc;rw [if_neg (by simp [c1,c2,c3])];have A:=scanI (f:=I4 (LCo k) H z.sym z.value s1 y.sym y.value s2) z.args.length (fun i=>decide (z.args[i]? ≠ y.args[i]?)) (fun i=>(i:Int)) (fun _=>false) (fun i hi hp=>?_) (fun i hi hp=>?_) ?_;rotate_left
  ·obtain ⟨q1,r1,r2⟩:=rd_EI hz hi (v:=(i:Int)) rfl;obtain ⟨q2,r3,r4⟩:=rd_EI hy (i:=i) (by omega) (v:=(i:Int)) rfl;have he:z.args[i]=y.args[i]'(by omega):=by
    have:=of_decide_eq_false hp;rw [List.getElem?_eq_getElem hi,List.getElem?_eq_getElem (show i<y.args.length by omega)] at this
    simpa using this
   unfold I4;simp only [hz.cnt,if_pos (show (i:Int)<(z.args.length:Int) by omega),r1,r2,r3,r4,Option.bind_some];rw [if_pos (by rw [he]),N1 (n:=z.args.length) hi (by rw [Q1]; omega)]
  ·obtain ⟨q1,r1,r2⟩:=rd_EI hz hi (v:=(i:Int)) rfl;obtain ⟨q2,r3,r4⟩:=rd_EI hy (i:=i) (by omega) (v:=(i:Int)) rfl;have he:¬z.args[i]=y.args[i]'(by omega):=by
    have:=of_decide_eq_true hp;rw [List.getElem?_eq_getElem hi,List.getElem?_eq_getElem (show i<y.args.length by omega)] at this
    simpa using this
   unfold I4;simp only [hz.cnt,if_pos (show (i:Int)<(z.args.length:Int) by omega),r1,r2,r3,r4,Option.bind_some];rw [if_neg (by omega)]
  ·unfold I4;simp only [hz.cnt,if_neg (show ¬((z.args.length:Int)<(z.args.length:Int)) by omega)]
  rcases A with ⟨i,hi,hp,_,e⟩ | ⟨hall,e⟩
  ·rw [show (LCo k).run (I4 (LCo k) H z.sym z.value s1 y.sym y.value s2) 0=some (.inr false) from e];have:¬z=y:=fun h=>by
    rw [h] at hp;simp at hp
   simp only [Option.bind_some,decide_eq_false this]
  ·rw [show (LCo k).run (I4 (LCo k) H z.sym z.value s1 y.sym y.value s2) 0=some (.inl (z.args.length:Int)) from e];have:z=y:=by
    have ha:z.args=y.args:=by
     refine List.ext_getElem? fun i=>?_;by_cases hi:i<z.args.length
     ·have:=of_decide_eq_false (hall i hi)
      simpa using this
     ·rw [List.getElem?_eq_none (by omega),List.getElem?_eq_none (by omega)]
    cases z; cases y;simp only at c1 c2 ha;rw [c1,c2,ha]
   simp only [Option.bind_some,decide_eq_true this]
 ·have hb:(!(decide (z.sym=y.sym)&&(decide (z.value=y.value)&&decide (z.args.length=y.args.length))))=true:=by
   by_cases h1:z.sym=y.sym
   ·by_cases h2:z.value=y.value
    ·have h3:¬z.args.length=y.args.length:=fun h3=>hc ⟨h1,h2,h3⟩;simp [h3]
    ·simp [h2]
   ·simp [h1]
  rw [if_pos hb,decide_eq_false]
  rintro rfl
  exact hc ⟨rfl,rfl,rfl⟩
structure RO (m n0:Nat) (H:AH) (R:RL) (H':AH) (R':RL) (N:List Nd) (sd:List Sd):Prop where
 rr:RF m H' R' N sd
 q:R'.q=R.q
 nm:m≤H'.next
 fm:Fm (fun id=>id<n0→R.fp id) H H'
 fp:∀id,R'.fp id→R.fp id∨n0≤id
theorem z8o (k:Nat) (h:RF m H R N sd) (hm:m≤H.next) {y:Nd} {sl:Sl3} (hs:SlA EI 3 m H y.args sl) {n0:Nat} (hn0:n0≤H.next) (hf:∀id,fpt sl id→n0≤id) (hd:∀id,R.fp id→¬fpt sl id) (hl:∀z∈N,z.args.length≤64) (hN:N.length≤1048576) :
  ∃H' R',C4 (LCo k) m H (RL.p R) y.sym y.value sl=some ((putP N y).1,(putP N y).2.1,H')∧RO m n0 H R H' R' (putP N y).2.2 sd:=by
 have hcnt:R.sN.n=N.length:=by rw [h.hN.cnt,i7 h.nal]
 have A:=scanI (f:=Z2 (LCo k) H (RL.p R) y.sym y.value sl) N.length (fun i=>decide (N[i]? = some y)) (fun i=>(i:Int)) (fun i=>((i:Int),0,H)) (fun i hi hp=>?_) (fun i hi hp=>?_) ?_;rotate_left
 ·obtain ⟨q,s,r1,r2,r3,r4,r5,_⟩:=h.node hi (v:=(i:Int)) rfl;have hne:¬N[i]=y:=by
   have:=of_decide_eq_false hp;rw [List.getElem?_eq_getElem hi] at this
   simpa using this
  unfold Z2;simp only [Option.bind_some];rw [h.q.rd (j:=0) (v:=R.sN.v) rfl deSl];simp only [show deSl (Sl3.v R.sN)=some R.sN from rfl,Option.bind_some,hcnt,if_pos (show (i:Int)<(N.length:Int) by omega),r1,r2,r3,r4];rw [zcb k r5 hs (hl _ (List.getElem_mem hi)),decide_eq_false hne];simp only [Option.bind_some,Bool.false_eq_true,if_false];rw [N1 (n:=N.length) hi (by rw [Q1]; omega)]
 ·obtain ⟨q,s,r1,r2,r3,r4,r5,_⟩:=h.node hi (v:=(i:Int)) rfl;have he:N[i]=y:=by
   have:=of_decide_eq_true hp;rw [List.getElem?_eq_getElem hi] at this
   simpa using this
  unfold Z2;simp only [Option.bind_some];rw [h.q.rd (j:=0) (v:=R.sN.v) rfl deSl];simp only [show deSl (Sl3.v R.sN)=some R.sN from rfl,Option.bind_some,hcnt,if_pos (show (i:Int)<(N.length:Int) by omega),r1,r2,r3,r4];rw [zcb k r5 hs (hl _ (List.getElem_mem hi)),decide_eq_true he];simp only [Option.bind_some,if_true]
 ·unfold Z2;simp only [Option.bind_some];rw [h.q.rd (j:=0) (v:=R.sN.v) rfl deSl];simp only [show deSl (Sl3.v R.sN)=some R.sN from rfl,Option.bind_some,hcnt,if_neg (show ¬((N.length:Int)<(N.length:Int)) by omega)]
 unfold C4;rcases A with ⟨i,hi,hp,hfst,e⟩ | ⟨hall,e⟩
 ·rw [show (LCo k).run (Z2 (LCo k) H (RL.p R) y.sym y.value sl) 0=some (.inr ((i:Int),0,H)) from e];have he:N[i]=y:=by
   have:=of_decide_eq_true hp;rw [List.getElem?_eq_getElem hi] at this
   simpa using this
  have hfi:=zcq hi he fun j hj hh=>by
   have:=of_decide_eq_false (hfst j hj);rw [List.getElem?_eq_getElem (show j<N.length by omega)] at this;exact this (by rw [hh])
  have hp:putP N y=((i:Int),0,N):=by unfold putP; rw [hfi]
  rw [hp];exact ⟨H,R,rfl,h,rfl,hm,Fm.refl _ _,fun _ h=>.inl h⟩
 ·rw [show (LCo k).run (Z2 (LCo k) H (RL.p R) y.sym y.value sl) 0=some (.inl (N.length:Int)) from e];have hfi:=zdk (N:=N) (y:=y) fun j hj hh=>by
   have:=of_decide_eq_false (hall j hj);rw [List.getElem?_eq_getElem hj] at this;exact this (by rw [hh])
  simp only [Option.bind_some];rw [h.q.rd (j:=0) (v:=R.sN.v) rfl deSl];simp only [show deSl (Sl3.v R.sN)=some R.sN from rfl,Option.bind_some,hcnt];by_cases hbig:1048576≤N.length
  ·have hp:putP N y=(0,3,N):=by unfold putP; rw [hfi]; simp only [if_pos hbig]
   rw [hp,if_pos (show ((N.length:Nat):Int)≥1048576 by omega)];exact ⟨H,R,rfl,h,rfl,hm,Fm.refl _ _,fun _ h=>.inl h⟩
  ·have hp:putP N y=(((N.length:Nat):Int),0,N++[y]):=by unfold putP; rw [hfi]; simp only [if_neg hbig]
   rw [hp,if_neg (show ¬((N.length:Nat):Int)≥1048576 by omega)];obtain ⟨z,H0,s',H1,H2,a1,a2,a3,a4,a5,a6⟩:=h.pushN y hs hd hN hm;refine ⟨H2,{ R with sN:=s',na:=R.na++[sl] },?_,a4,rfl,Nat.le_trans hm a5.1,a5.weak fun id _ hid _=>hid.elim (fun e=>.inl e) fun e=>.inr (.inl e),fun id hid=>?_⟩
   ·rw [a1];simp only [Option.bind_some];rw [a2];simp only [Option.bind_some];rw [a3];simp only [Option.bind_some];rw [show rd deSl H2 ((⟨R.q,0,none⟩:Addr).add 0)=some s' from a4.q.rd (j:=0) (v:=s'.v) rfl deSl];simp only [Option.bind_some];have hc:s'.n=N.length+1:=by
     have:=a4.hN.cnt;rw [show ({ R with sN:=s',na:=R.na++[sl] }:RL).sN=s' from rfl] at this;rw [this,zbo h.nal,List.length_append,i7 h.nal];rfl
    rw [hc,k7 (n:=N.length) (by omega) (by omega)]
   ·rcases hid with e0 | e0 | e0 | ⟨s0,hs',e0⟩
    ·exact .inl (.inl e0)
    ·rcases a6 id e0 with e0 | e0
     ·exact .inl (.inr (.inl e0))
     ·exact .inr (Nat.le_trans hn0 e0)
    ·exact .inl (.inr (.inr (.inl e0)))
    ·rcases List.mem_append.1 hs' with h1 | h1
     ·exact .inl (.inr (.inr (.inr ⟨s0,h1,e0⟩)))
     ·rw [List.mem_singleton] at h1;rw [h1] at e0;exact .inr (hf id e0)
theorem zce (k:Nat) (h:RF m H R N sd) (hm:m≤H.next) (v:Int) (hl:∀z∈N,z.args.length≤64) (hN:N.length≤1048576) :
  ∃H' R',o6 (LCo k) m H (RL.p R) v=some ((valP N v).1,(valP N v).2.1,H')∧RO m H.next H R H' R' (valP N v).2.2 sd:=by
 obtain ⟨H',R',a1,a2⟩:=z8o k h hm (y:=⟨true,v,[]⟩) (sl:=Sl3.nil) SlA.nil (n0:=H.next) (Nat.le_refl _) (fun id h=>absurd h U1) (fun _ _=>U1) hl hN;refine ⟨H',R',?_,a2⟩;unfold o6;rw [show C4 (LCo k) m H (RL.p R) v true Sl3.nil=_ from a1];rfl
theorem zg (k:Nat) (h:RF m H R N sd) (a:Int):I3 (LCo k) H (RL.p R) a=some (okA N a):=by
 have hcnt:R.sN.n=N.length:=by rw [h.hN.cnt,i7 h.nal]
 unfold I3;by_cases h0:a≥0
 ·rw [if_pos h0];simp only [Option.bind_some];rw [h.q.rd (j:=0) (v:=R.sN.v) rfl deSl];simp only [show deSl (Sl3.v R.sN)=some R.sN from rfl,Option.bind_some,hcnt];unfold okA
  congr 1
  exact decide_eq_decide.2 ⟨fun h1=>⟨h0,h1⟩,fun h1=>h1.2⟩
 ·rw [if_neg h0];unfold okA
  congr 1
  exact (decide_eq_false fun h1=>h0 h1.1).symm
theorem zez (k:Nat) (h:RF m H R N sd) (hm:m≤H.next) {v:Int} {s:Sl3} {aa:List Int} (hs:Eg.AR H s aa) (hl:∀z∈N,z.args.length≤64) (hN:N.length≤1048576) :
  ∃H' R',Y6 (LCo k) m H (RL.p R) v s=some ((addP N v aa).1,(addP N v aa).2.1,H')∧RO m H.next H R H' R' (addP N v aa).2.2 sd:=by
 unfold Y6;rw [hs.n];by_cases hbig:64<aa.length
 ·have hp:addP N v aa=(0,51,N):=by unfold addP; rw [if_pos hbig]
  rw [if_pos (show ((aa.length:Nat):Int) > 64 by omega),hp];exact ⟨H,R,rfl,h,rfl,hm,Fm.refl _ _,fun _ h=>.inl h⟩
 ·rw [if_neg (show ¬((aa.length:Nat):Int) > 64 by omega)];have A:=scanI (f:=Y2 (LCo k) H (RL.p R) v s) aa.length (fun i=>match aa[i]? with
    | some a=>!okA N a
    | none=>false) (fun i=>(i:Int)) (fun _=>(0,150,H)) (fun i hi hp=>?_) (fun i hi hp=>?_) ?_
  rotate_left
  ·rw [List.getElem?_eq_getElem hi] at hp;obtain ⟨q,r1,r2⟩:=hs.at_ i hi;have hp:okA N aa[i]=true:=by simpa using hp
   unfold Y2;simp only [hs.n,if_pos (show (i:Int)<(aa.length:Int) by omega),r1,r2,Option.bind_some];rw [zg k h,hp];simp only [Option.bind_some,if_true];rw [N1 (n:=aa.length) hi (by rw [Q1]; omega)]
  ·rw [List.getElem?_eq_getElem hi] at hp;obtain ⟨q,r1,r2⟩:=hs.at_ i hi;have hp:okA N aa[i]=false:=by simpa using hp
   unfold Y2;simp only [hs.n,if_pos (show (i:Int)<(aa.length:Int) by omega),r1,r2,Option.bind_some];rw [zg k h,hp];rfl
  ·unfold Y2;simp only [hs.n,if_neg (show ¬((aa.length:Int)<(aa.length:Int)) by omega)]
  rcases A with ⟨i,hi,hp,_,e⟩ | ⟨hall,e⟩
  ·rw [show (LCo k).run (Y2 (LCo k) H (RL.p R) v s) 0=some (.inr (0,150,H)) from e];rw [List.getElem?_eq_getElem hi] at hp;have hp:okA N aa[i]=false:=by simpa using hp
   have hf:aa.all (okA N)=false:=by
    rw [List.all_eq_false];exact ⟨_,List.getElem_mem hi,by rw [hp]; simp⟩
   have hp:addP N v aa=(0,150,N):=by unfold addP; rw [if_neg hbig,hf]; rfl
   rw [hp];exact ⟨H,R,rfl,h,rfl,hm,Fm.refl _ _,fun _ h=>.inl h⟩
  ·rw [show (LCo k).run (Y2 (LCo k) H (RL.p R) v s) 0=some (.inl (aa.length:Int)) from e];have hok:∀a∈aa,okA N a=true:=fun a ha=>by
    obtain ⟨i,hi,rfl⟩:=List.mem_iff_getElem.1 ha;have:=hall i hi;rw [List.getElem?_eq_getElem hi] at this
    simpa using this
   have hp:addP N v aa=putP N ⟨false,v,aa.map Int.toNat⟩:=by unfold addP; rw [if_neg hbig,List.all_eq_true.2 hok]; rfl
   have hnn:∀a∈aa,0≤a:=fun a ha=>by obtain ⟨n,rfl,_⟩:=J3.1 (hok a ha); exact Int.natCast_nonneg n
   have hz:=hs.rdv;rw [z9f hnn] at hz;obtain ⟨s',H1,b1,b2,b3,b4⟩:=SlA.app (E:=EI) (e:=3) (m:=m) (bytes:=8) (l:=[]) (l':=aa.map Int.toNat) (s:=Sl3.nil) (z:=s) SlA.nil (by rw [List.length_map]; exact hz) (by simp only [List.length_nil,List.length_map,Nat.zero_add]; omega) (by simp only [List.length_nil,List.length_map,Nat.zero_add]; omega) hm;have x1:Ext H H1:=⟨b3.1,fun id b hid _ hg=>b3.2 id b hid U1 hg⟩;have hfr:∀id,fpt s' id→H.next≤id:=fun id hid=>(b4 id hid).resolve_left U1;obtain ⟨H',R',c1,c2⟩:=z8o k (RR.ext h x1) (Nat.le_trans hm x1.1) (y:=⟨false,v,aa.map Int.toNat⟩) (sl:=s') b2 (n0:=H.next) x1.1 hfr (fun id hid hf=>by have:=(RR.low h hid).2; have:=hfr id hf; omega) hl hN;refine ⟨H',R',?_,by rw [hp]; exact c2.rr,c2.q,c2.nm,⟨Nat.le_trans x1.1 c2.fm.1,fun id b hid hw hg=>c2.fm.2 id b (Nat.lt_of_lt_of_le hid x1.1) hw (x1.2 id b hid (fun h=>h) hg)⟩,c2.fp⟩;simp only [Option.bind_some];have b1':appS m 3 1 8 H Sl3.nil s=some (s',H1):=b1;rw [b1',hp];simp only [Option.bind_some];rw [show C4 (LCo k) m H1 (RL.p R) v false s'=_ from c1];rfl
theorem z8v (k:Nat) (h:RF m H R N sd) (hm:m≤H.next) (a b c:Int) (d:Bool) (hl:sd.length≤1048576) :
  ∃H' R',X5 (LCo k) m H (RL.p R) a b c d=some ((sayP N sd (a,b,c,d)).1,H')∧RO m H.next H R H' R' N (sayP N sd (a,b,c,d)).2:=by
 have pre:((I3 (LCo k) H (RL.p R) a).bind fun x2=>if x2=true then (I3 (LCo k) H (RL.p R) b).bind fun x3=>some (!x3) else some true:Option Bool)=some (!(okA N a&&okA N b)):=by
  rw [zg k h,zg k h];cases okA N a <;> cases okA N b <;> rfl
 unfold X5;refine Exists.imp (fun H'=>Exists.imp fun R'=>And.imp_left fun hh=>(congrArg (fun o=>Option.bind o _) pre).trans hh) ?_;simp only [Option.bind_some];cases hok:okA N a&&okA N b with
 | false =>
  have hp:sayP N sd (a,b,c,d)=(150,sd):=by unfold sayP; simp only [hok]; rfl
  rw [hp];exact ⟨H,R,rfl,h,rfl,hm,Fm.refl _ _,fun _ h=>.inl h⟩
 | true =>
  have hp:sayP N sd (a,b,c,d)=(0,sd++[(a,b,c,d)]):=by unfold sayP; simp only [hok]; rfl
  rw [hp];obtain ⟨z,H0,s',H1,H2,a1,a2,a3,a4,a5,a6⟩:=RR.pushS h (a,b,c,d) hl hm;refine ⟨H2,{ R with sS:=s' },?_,a4,rfl,Nat.le_trans hm a5.1,a5.weak fun id _ hid _=>hid.elim (fun e=>.inl e) fun e=>.inr (.inr (.inl e)),fun id hid=>?_⟩
  ·simp only [Bool.not_true,Bool.false_eq_true,if_false];rw [RR.q h |>.rd (j:=1) (v:=R.sS.v) rfl deSl];simp only [show deSl (Sl3.v R.sS)=some R.sS from rfl,Option.bind_some];rw [a1];simp only [Option.bind_some];rw [a2];simp only [Option.bind_some];rw [a3];rfl
  ·rcases hid with e | e | e | e
   ·exact .inl (.inl e)
   ·exact .inl (.inr (.inl e))
   ·rcases a6 id e with e | e
    ·exact .inl (.inr (.inr (.inl e)))
    ·exact .inr e
   ·exact .inl (.inr (.inr (.inr e)))
end
end Go.Proofs.YtgkhbmoidenjaaaDoor
