/- Parts of the proof: an abstract interpreter of the loaded program and its soundness, printed functions, the law's own texts; part 4. No condition. -/
import Derived.Test.YtfbinmgldpnjhaaGreatDoorNb3
namespace Go.Proofs.YtfbinmgldpnjhaaGreatDoor
open Go Go.Abs
set_option maxRecDepth 100000
noncomputable def B46:Code:=(Tryz.f46.body).getD .skip
def zac:AH→Value
 | _=>(Value.tuple #[])
def zbj (_:AH):AH→AH:=fun r=>r
noncomputable def z6p (_L:LC) (m:Nat) (a0:Sl3):(AH×Int×Int)→Option (Lp (AH×Int×Int) AH):=fun (H1,v2_2,v3_3) =>
 if v2_2<v3_3 then
  Option.bind (idxA 1 a0 v3_3) fun p4 =>
  Option.bind (rd (deI .i64) H1 p4) fun x5 =>
  Option.bind (idxA 1 a0 v2_2) fun p6 =>
  Option.bind (rd (deI .i64) H1 p6) fun x7 =>
  Option.bind (idxA 1 a0 v2_2) fun p8 =>
  Option.bind (H1.setCell m p8 (Value.int .i64 x5)) fun H9 =>
  Option.bind (idxA 1 a0 v3_3) fun p10 =>
  Option.bind (H9.setCell m p10 (Value.int .i64 x7)) fun H11 =>
  some (.next (H11,(IntKind.i64.wrap (v2_2+1)),(IntKind.i64.wrap (v3_3 - 1))))
 else
  some (.brk (H1,v2_2,v3_3))
def zfg (_L:LC) (_m:Nat) (a0:Sl3):(AH×Int×Int)→KN×Lcs:=fun (_,v2_2,v3_3)=>([kI 2 v2_2,kI 3 v3_3,kS 0 a0],[])
noncomputable def z9m (L:LC) (m:Nat) (H:AH) (a0:Sl3):Option AH :=
 Option.bind (L.run (z6p L m a0) (H,0,(IntKind.i64.wrap ((a0.n:Int) - 1)))) fun o=>match o with
 | .inl (H12,_,_) =>
  some H12
 | .inr r=>some r
theorem z91 {E H L m a0} :LoopF Tryz.prog (NE.plain 202) m E Tryz.f46 ((cfst (csnd B46))) (zfg L m a0) (fun s=>s.1) 0 zac (zbj H) (z6p L m a0):=by
 rintro ⟨H1,v2_2,v3_3⟩ o h
 unfold z6p at h
 try dsimp only at h
 refine WS.sq (WS.sq (WS.rg (RS.mS 3 [kB 9 (decide (v2_2<v3_3)),kI 8 v3_3,kI 7 v2_2] (RS.dn (WS.nxt ?_)))))
 rcases z0 h with ⟨hp,h⟩ | ⟨hp,h⟩
 ·refine WS.fx 9 true (decide_eq_true hp) (WS.cT (WS.sk (WS.nxt (WS.sq (WS.bk 1 ?_)))))
  refine WS.dr [4,5,6,7,8,9,10,11] [0,0,0,0,0,0,48,112,0,0,768,1792,4083,8179,16383,32767] 16 (fun hcl=>?_)
  refine DA.tK 4 (some 18) (Sl3.v a0) (DA.tK 5 (some 19) (Value.int .i64 v3_3) ?_)
  obtain ⟨p4,hx,h⟩:=bind_some h
  refine DA.tD 6 (some 20) (Value.pointer (some p4)) (Abs.det_idx (s:=a0) (k:=.i64) (t:=37) (e:=3) (x:=.tmp 18) (y:=.tmp 19) (by kernel_rfl) (by kernel_rfl) (by kernel_rfl) (by kernel_rfl) (by kernel_rfl) hx) ?_
  obtain ⟨x5,hx,h⟩:=bind_some h
  refine DA.tD 7 (some 21) (Value.int .i64 x5) (Abs.det_load (t:=3) (x:=.tmp 20) (a:=p4) (by kernel_rfl) (by kernel_rfl) (by kernel_rfl) (by kernel_rfl) (z1 hx z8)) (DA.tK 8 (some 22) (Sl3.v a0) (DA.tK 9 (some 23) (Value.int .i64 v2_2) ?_))
  obtain ⟨p6,hx,h⟩:=bind_some h
  refine DA.tD 10 (some 24) (Value.pointer (some p6)) (Abs.det_idx (s:=a0) (k:=.i64) (t:=37) (e:=3) (x:=.tmp 22) (y:=.tmp 23) (by kernel_rfl) (by kernel_rfl) (by kernel_rfl) (by kernel_rfl) (by kernel_rfl) hx) ?_
  obtain ⟨x7,hx,h⟩:=bind_some h
  refine DA.tD 11 (some 25) (Value.int .i64 x7) (Abs.det_load (t:=3) (x:=.tmp 24) (a:=p6) (by kernel_rfl) (by kernel_rfl) (by kernel_rfl) (by kernel_rfl) (z1 hx z8)) (DA.tP 0 (some 14) (Sl3.v a0) (DA.tP 1 (some 15) (Value.int .i64 v2_2) (DA.tP 2 (some 16) (Sl3.v a0) (DA.tP 3 (some 17) (Value.int .i64 v3_3) ?_))))
  obtain ⟨p8,hx,h⟩:=bind_some h
  refine DA.tPx 12 (some 26) (Value.pointer (some p8)) (Abs.det_idx (s:=a0) (k:=.i64) (t:=37) (e:=3) (x:=.tmp 14) (y:=.tmp 15) (by kernel_rfl) (by kernel_rfl) (by kernel_rfl) (by kernel_rfl) (by kernel_rfl) hx) ?_
  obtain ⟨H9,hx,h⟩:=bind_some h
  refine DA.on 13 (DA.aH (H':=H9) 13 none undef (Abs.run_store1 (t:=3) (x:=.tmp 26) (y:=.tmp 21) (a:=p8) (v:=(Value.int .i64 x5)) (by kernel_rfl) (by kernel_rfl) (by kernel_rfl) (by kernel_rfl) (by kernel_rfl) hx) ?_)
  obtain ⟨p10,hx,h⟩:=bind_some h
  refine DA.tPx 14 (some 27) (Value.pointer (some p10)) (Abs.det_idx (s:=a0) (k:=.i64) (t:=37) (e:=3) (x:=.tmp 16) (y:=.tmp 17) (by kernel_rfl) (by kernel_rfl) (by kernel_rfl) (by kernel_rfl) (by kernel_rfl) hx) ?_
  obtain ⟨H11,hx,h⟩:=bind_some h
  refine DA.on 15 (DA.aH (H':=H11) 15 none undef (Abs.run_store1 (t:=3) (x:=.tmp 27) (y:=.tmp 25) (a:=p10) (v:=(Value.int .i64 x7)) (by kernel_rfl) (by kernel_rfl) (by kernel_rfl) (by kernel_rfl) (by kernel_rfl) hx) (DA.dn ?_))
  refine fun a w hs=>bkN ((WS.nxt ?_ a w hs))
  refine WS.rg (RS.mS 6 [kI 3 (IntKind.i64.wrap (v3_3 - 1)),kI 2 (IntKind.i64.wrap (v2_2+1)),kI 13 (IntKind.i64.wrap (v3_3 - 1)),kI 12 v3_3,kI 11 (IntKind.i64.wrap (v2_2+1)),kI 10 v2_2] (RS.dn ?_))
  cases h
  exact fun a w hs=>lsN rfl (hs.sb 0)
 ·refine WS.fx 9 false (decide_eq_false hp) (WS.cF (WS.ex 0 ?_))
  cases h
  exact fun a w hs=>sqE (lsB rfl (hs.sb 0))
theorem zj3 {L:LC} {m:Nat} {H:AH} {a0:Sl3} {r:AH} (h:z9m L m H a0=some r) :
  CallS Tryz.prog (NE.plain 202) m 46 #[(Sl3.v a0)] H (zac r) (zbj H r):=by
 refine CallS.mk (args:=[(Sl3.v a0)]) Tryz.func46 (B:=B46) (by kernel_rfl) (fun E _=>?_)
 unfold z9m at h
 refine WS.sq (WS.rg (RS.mS 5 [kI 3 (IntKind.i64.wrap ((a0.n:Int) - 1)),kI 2 0,kI 6 (IntKind.i64.wrap ((a0.n:Int) - 1)),kI 5 (a0.n:Int),kS 4 a0] (RS.dn (WS.nxt (WS.bk 0 ?_)))))
 obtain ⟨o,hl,h⟩:=bind_some h
 rcases o with ⟨H12,v2_13,v3_14⟩ | r
 ·try dsimp only at h
  refine WS.lI (z91 (L:=L) (E:=E) (m:=m) (H:=H)) (L.ok hl) 0 ?_
  clear hl
  cases h
  exact fun a w hs=>bkE (rtN (rS hs))
 ·try dsimp only at h
  refine WS.lR (z91 (L:=L) (E:=E) (m:=m) (H:=H)) (L.ok hl) 0 ?_
  cases h
  exact fun a w hq=>bkR (rtR hq)
noncomputable def B13:Code:=(Tryz.f13.body).getD .skip
def z1d:(Sl3×AH)→Value
 | (r0,_)=>(Sl3.v r0)
def z1p (_:AH):(Sl3×AH)→AH:=fun r=>r.2
noncomputable def z4p (_L:LC) (m:Nat) (a1:Sl3) (_q2:Addr) (s4:Sl3):(AH×Int)→Option (Lp (AH×Int) (Sl3×AH)):=fun (H6,v23_7) =>
 if v23_7<(a1.n:Int) then
  Option.bind (idxA 1 a1 v23_7) fun p8 =>
  Option.bind (rd (deI .i64) H6 p8) fun x9 =>
  if x9≥0 then
   if x9<(s4.n:Int) then
    Option.bind (idxA 1 s4 x9) fun p10 =>
    Option.bind (H6.setCell m p10 (Value.bool true)) fun H11 =>
    some (.next (H11,(IntKind.i64.wrap (v23_7+1))))
   else
    none
  else
   none
 else
  some (.brk (H6,v23_7))
def zdt (_L:LC) (_m:Nat) (a1:Sl3) (q2:Addr) (s4:Sl3):(AH×Int)→KN×Lcs:=fun (_,v23_7)=>([kI 23 v23_7,kP 0 q2,kS 5 s4,kS 21 a1,kI 22 (a1.n:Int)],[])
noncomputable def z50 (_L:LC) (m:Nat) (_q2:Addr) (s4:Sl3) (_v9_16:Int) (_s21 x25:Sl3):(AH×Int)→Option (Lp (AH×Int) (Sl3×AH)):=fun (H26,v65_27) =>
 if v65_27<(x25.n:Int) then
  Option.bind (idxA 1 x25 v65_27) fun p28 =>
  Option.bind (rd (deI .i64) H26 p28) fun x29 =>
  Option.bind (idxA 1 s4 x29) fun p30 =>
  Option.bind (H26.setCell m p30 (Value.bool true)) fun H31 =>
  some (.next (H31,(IntKind.i64.wrap (v65_27+1))))
 else
  some (.brk (H26,v65_27))
def ze3 (_L:LC) (_m:Nat) (q2:Addr) (s4:Sl3) (v9_16:Int) (s21 x25:Sl3):(AH×Int)→KN×Lcs:=fun (_,v65_27)=>([kI 65 v65_27,kP 0 q2,kS 5 s4,kS 8 s21,kI 9 v9_16,kS 63 x25,kI 64 (x25.n:Int)],[])
noncomputable def z4v (L:LC) (m:Nat) (q2:Addr) (s4:Sl3):(AH×Sl3×Int)→Option (Lp (AH×Sl3×Int) (Sl3×AH)):=fun (H14,v8_15,v9_16) =>
 if v9_16≥0 then
  Option.bind (idxA 1 s4 v9_16) fun p17 =>
  Option.bind (rd deB H14 p17) fun x18 =>
  if x18=true then
   Option.bind (newR 3 1 #[(Value.int .i64 v9_16)] H14) fun (s19,H20) =>
   Option.bind (appS m 3 1 8 H20 v8_15 s19) fun (s21,H22) =>
   Option.bind (rd deSl H22 (Addr.add q2 3)) fun x23 =>
   Option.bind (idxA 16 x23 v9_16) fun p24 =>
   Option.bind (rd deSl H22 (Addr.add (Addr.add p24 0) 11)) fun x25 =>
   Option.bind (L.run (z50 L m q2 s4 v9_16 s21 x25) (H22,0)) fun o=>match o with
   | .inl (H32,_) =>
    some (.next (H32,s21,(IntKind.i64.wrap (v9_16 - 1))))
   | .inr r=>some (.ret r)
  else
   none
 else
  some (.brk (H14,v8_15,v9_16))
def ze5 (_L:LC) (_m:Nat) (q2:Addr) (s4:Sl3):(AH×Sl3×Int)→KN×Lcs:=fun (_,v8_15,v9_16)=>([kS 8 v8_15,kI 9 v9_16,kP 0 q2,kS 5 s4],[])
noncomputable def z7h (L:LC) (m:Nat) (H:AH) (a0:Option Addr) (a1:Sl3):Option (Sl3×AH) :=
 Option.bind (z27 L H a0) fun x1 =>
 if x1=true then
  Option.bind a0 fun q2 =>
  Option.bind (rd deSl H (Addr.add q2 3)) fun x3 =>
  Option.bind (mkS 4 1 1 #[(Value.bool false)] H (x3.n:Int) (x3.n:Int)) fun (s4,H5) =>
  Option.bind (L.run (z4p L m a1 q2 s4) (H5,0)) fun o=>match o with
  | .inl (H12,_) =>
   Option.bind (L.run (z4v L m q2 s4) (H12,Sl3.nil,(IntKind.i64.wrap ((s4.n:Int) - 1)))) fun o=>match o with
   | .inl (H34,v8_35,_) =>
    Option.bind (z9m L m H34 v8_35) fun H37 =>
    some (v8_35,H37)
   | .inr r=>some r
  | .inr r=>some r
 else
  none
theorem z6z {E H L m a1 q2 s4} :LoopF Tryz.prog (NE.plain 202) m E Tryz.f13 ((cfst (csnd (cfst (csnd (csnd (csnd B13))))))) (zdt L m a1 q2 s4) (fun s=>s.1) 0 z1d (z1p H) (z4p L m a1 q2 s4):=by
 rintro ⟨H6,v23_7⟩ o h
 unfold z4p at h
 try dsimp only at h
 refine WS.sq (WS.rg (RS.mS 1 [kB 24 (decide (v23_7<(a1.n:Int)))] (RS.dn (WS.nxt (WS.sq ?_)))))
 rcases z0 h with ⟨hp,h⟩ | ⟨hp,h⟩
 ·refine WS.fx 24 true (decide_eq_true hp) (WS.cT (WS.sk (WS.nxt (WS.sq (WS.bk 1 (WS.sq (WS.rg ?_)))))))
  obtain ⟨p8,hx,h⟩:=bind_some h
  refine RS.ix 25 37 3 (.tmp 21) (.tmp 23) hx ?_
  obtain ⟨x9,hx,h⟩:=bind_some h
  refine RS.ld 26 3 (.tmp 25) (z1 hx z8) (RS.mS 1 [kI 7 x9] (RS.dn (WS.nxt (WS.sq (WS.rg (RS.mS 3 [kB 29 (decide (x9≥0)),kB 28 (decide (x9≥0)),kI 27 x9] ?_))))))
  rcases z0 h with ⟨hp,h⟩ | ⟨hp,h⟩
  ·refine RS.fx 29 true (decide_eq_true hp) (RS.mS 5 [kB 34 (decide (x9<(s4.n:Int))),kB 33 (decide (x9<(s4.n:Int))),kI 32 (s4.n:Int),kS 31 s4,kI 30 x9] (RS.dn (WS.nxt ?_)))
   rcases z0 h with ⟨hp,h⟩ | ⟨hp,h⟩
   ·refine WS.fx 34 true (decide_eq_true hp) (WS.cT (WS.rg (RS.mS 2 [kI 36 x9,kS 35 s4] ?_)))
    obtain ⟨p10,hx,h⟩:=bind_some h
    refine RS.ix 37 97 4 (.tmp 35) (.tmp 36) hx ?_
    obtain ⟨H11,hx,h⟩:=bind_some h
    refine RS.o (H':=H11) none undef (Abs.run_store1 (t:=4) (x:=.tmp 37) (y:=.const (Value.bool true)) (a:=p10) (v:=(Value.bool true)) (by kernel_rfl) (by kernel_rfl) (by kernel_rfl) (by kernel_rfl) (by kernel_rfl) hx) (RS.dn ?_)
    refine fun a w hs=>bkN ((WS.nxt ?_ a w hs))
    refine WS.rg (RS.mS 2 [kI 23 (IntKind.i64.wrap (v23_7+1)),kI 38 (IntKind.i64.wrap (v23_7+1))] (RS.dn ?_))
    cases h
    exact fun a w hs=>lsN rfl (hs.sb 0)
   ·refine WS.fx 34 false (decide_eq_false hp) (WS.cF ?_)
    cases h
  ·refine RS.fx 29 false (decide_eq_false hp) ?_
   cases h
 ·refine WS.fx 24 false (decide_eq_false hp) (WS.cF (WS.ex 0 ?_))
  cases h
  exact fun a w hs=>sqE (lsB rfl (hs.sb 0))
theorem z6v {E H L m q2 s4 v9_16 s21 x25} :LoopF Tryz.prog (NE.plain 202) m E Tryz.f13 ((cfst (csnd (csnd (csnd (cfst (cfst (csnd (cfst (cfst (csnd (cfst (csnd (csnd (csnd (csnd (csnd B13))))))))))))))))) (ze3 L m q2 s4 v9_16 s21 x25) (fun s=>s.1) 4 z1d (z1p H) (z50 L m q2 s4 v9_16 s21 x25):=by
 rintro ⟨H26,v65_27⟩ o h
 unfold z50 at h
 try dsimp only at h
 refine WS.sq (WS.rg (RS.mS 1 [kB 66 (decide (v65_27<(x25.n:Int)))] (RS.dn (WS.nxt (WS.sq ?_)))))
 rcases z0 h with ⟨hp,h⟩ | ⟨hp,h⟩
 ·refine WS.fx 66 true (decide_eq_true hp) (WS.cT (WS.sk (WS.nxt (WS.sq (WS.bk 5 (WS.sq (WS.rg ?_)))))))
  obtain ⟨p28,hx,h⟩:=bind_some h
  refine RS.ix 67 37 3 (.tmp 63) (.tmp 65) hx ?_
  obtain ⟨x29,hx,h⟩:=bind_some h
  refine RS.ld 68 3 (.tmp 67) (z1 hx z8) (RS.mS 1 [kI 11 x29] (RS.dn (WS.nxt (WS.rg (RS.mS 2 [kI 70 x29,kS 69 s4] ?_)))))
  obtain ⟨p30,hx,h⟩:=bind_some h
  refine RS.ix 71 97 4 (.tmp 69) (.tmp 70) hx ?_
  obtain ⟨H31,hx,h⟩:=bind_some h
  refine RS.o (H':=H31) none undef (Abs.run_store1 (t:=4) (x:=.tmp 71) (y:=.const (Value.bool true)) (a:=p30) (v:=(Value.bool true)) (by kernel_rfl) (by kernel_rfl) (by kernel_rfl) (by kernel_rfl) (by kernel_rfl) hx) (RS.dn ?_)
  refine fun a w hs=>bkN ((WS.nxt ?_ a w hs))
  refine WS.rg (RS.mS 2 [kI 65 (IntKind.i64.wrap (v65_27+1)),kI 72 (IntKind.i64.wrap (v65_27+1))] (RS.dn ?_))
  cases h
  exact fun a w hs=>lsN rfl (hs.sb 0)
 ·refine WS.fx 66 false (decide_eq_false hp) (WS.cF (WS.ex 4 ?_))
  cases h
  exact fun a w hs=>sqE (lsB rfl (hs.sb 0))
theorem z74 {E H L m q2 s4} :LoopF Tryz.prog (NE.plain 202) m E Tryz.f13 ((cfst (csnd (cfst (csnd (csnd (csnd (csnd (csnd B13))))))))) (ze5 L m q2 s4) (fun s=>s.1) 2 z1d (z1p H) (z4v L m q2 s4):=by
 rintro ⟨H14,v8_15,v9_16⟩ o h
 unfold z4v at h
 try dsimp only at h
 refine WS.sq (WS.sq (WS.rg (RS.mS 2 [kB 43 (decide (v9_16≥0)),kI 42 v9_16] (RS.dn (WS.nxt ?_)))))
 rcases z0 h with ⟨hp,h⟩ | ⟨hp,h⟩
 ·refine WS.fx 43 true (decide_eq_true hp) (WS.cT (WS.sk (WS.nxt (WS.sq (WS.bk 3 (WS.sq (WS.sq (WS.rg (RS.mS 2 [kI 47 v9_16,kS 46 s4] ?_)))))))))
  obtain ⟨p17,hx,h⟩:=bind_some h
  refine RS.ix 48 97 4 (.tmp 46) (.tmp 47) hx ?_
  obtain ⟨x18,hx,h⟩:=bind_some h
  refine RS.ld 49 4 (.tmp 48) (z1 hx zbu) (RS.mS 1 [kB 50 (!x18)] (RS.dn (WS.nxt ?_)))
  rcases z0 h with ⟨hp,h⟩ | ⟨hp,h⟩
  ·refine WS.fx 50 false (nb_not hp) (WS.cF (WS.sk (WS.nxt (WS.sq (WS.rg (RS.mS 2 [kI 52 v9_16,kS 51 v8_15] ?_))))))
   obtain ⟨⟨s19,H20⟩,hx,h⟩:=bind_some h
   try dsimp only at h
   refine RS.o (H':=H20) (some 53) (Sl3.v s19) (Abs.run_newR (by kernel_rfl) (by kernel_rfl) hx) ?_
   obtain ⟨⟨s21,H22⟩,hx,h⟩:=bind_some h
   try dsimp only at h
   refine RS.o (H':=H22) (some 54) (Sl3.v s21) (Abs.run_app (x:=.tmp 51) (y:=.tmp 53) (ts:=#[37,37]) (s:=v8_15) (z:=s19) (by kernel_rfl) (by kernel_rfl) (by kernel_rfl) (by kernel_rfl) hx) (RS.mS 1 [kS 8 s21] (RS.dn (WS.nxt (WS.sq (WS.rg (RS.mS 3 [(57,.val (Value.pointer (some (Addr.add q2 3)))),kP 56 q2,kP 55 q2] ?_))))))
   obtain ⟨x23,hx,h⟩:=bind_some h
   refine RS.ld 58 28 (.tmp 57) (z1 hx z6) (RS.mS 1 [kI 59 v9_16] ?_)
   obtain ⟨p24,hx,h⟩:=bind_some h
   refine RS.ix 60 28 99 (.tmp 58) (.tmp 59) hx (RS.mS 2 [(62,.val (Value.pointer (some (Addr.add (Addr.add p24 0) 11)))),(61,.val (Value.pointer (some (Addr.add p24 0))))] ?_)
   obtain ⟨x25,hx,h⟩:=bind_some h
   refine RS.ld 63 37 (.tmp 62) (z1 hx z6) (RS.mS 2 [kI 65 0,kI 64 (x25.n:Int)] (RS.dn (WS.nxt (WS.bk 4 ?_))))
   obtain ⟨o,hl,h⟩:=bind_some h
   rcases o with ⟨H32,v65_33⟩ | r
   ·try dsimp only at h
    refine WS.lI (z6v (L:=L) (E:=E) (m:=m) (H:=H)) (L.ok hl) 0 ?_
    clear hl
    refine fun a w hs=>bkE (bkN ((WS.nxt ?_ a w hs)))
    refine WS.rg (RS.mS 3 [kI 9 (IntKind.i64.wrap (v9_16 - 1)),kI 45 (IntKind.i64.wrap (v9_16 - 1)),kI 44 v9_16] (RS.dn ?_))
    cases h
    exact fun a w hs=>lsN rfl (hs.sb 0)
   ·try dsimp only at h
    refine WS.lR (z6v (L:=L) (E:=E) (m:=m) (H:=H)) (L.ok hl) 0 ?_
    cases h
    exact fun a w hq=>bkR (bkR (sqR (lsR rfl hq)))
  ·refine WS.fx 50 true (z19 hp) (WS.cT ?_)
   cases h
 ·refine WS.fx 43 false (decide_eq_false hp) (WS.cF (WS.ex 2 ?_))
  cases h
  exact fun a w hs=>sqE (lsB rfl (hs.sb 0))
theorem zhk {L:LC} {m:Nat} {H:AH} {a0:Option Addr} {a1:Sl3} {r:(Sl3×AH)} (h:z7h L m H a0 a1=some r) :
  CallS Tryz.prog (NE.plain 202) m 13 #[(Value.pointer a0),(Sl3.v a1)] H (z1d r) (z1p H r):=by
 refine CallS.mk (args:=[(Value.pointer a0),(Sl3.v a1)]) Tryz.func13 (B:=B13) (by kernel_rfl) (fun E _=>?_)
 unfold z7h at h
 refine WS.sq (WS.rg (RS.mS 1 [kS 4 Sl3.nil] (RS.dn (WS.nxt (WS.sq (WS.sq (WS.rg (RS.mS 1 [(12,.val (Value.pointer a0))] ?_))))))))
 obtain ⟨x1,hx,h⟩:=bind_some h
 refine RS.cl (some 13) (v:=(Value.bool x1)) 45 #[(Value.pointer a0)] (z34 hx) (RS.mS 1 [kB 14 (!x1)] (RS.dn (WS.nxt ?_)))
 rcases z0 h with ⟨hp,h⟩ | ⟨hp,h⟩
 ·refine WS.fx 14 false (nb_not hp) (WS.cF (WS.sk (WS.nxt (WS.sq (WS.rg (RS.mS 1 [(15,.val (Value.pointer a0))] ?_))))))
  obtain ⟨q2,hx,hq2⟩:=bind_some h
  subst hx
  have h:=hq2
  refine RS.mS 2 [(17,.val (Value.pointer (some (Addr.add q2 3)))),kP 16 q2] ?_
  obtain ⟨x3,hx,h⟩:=bind_some h
  refine RS.ld 18 28 (.tmp 17) (z1 hx z6) (RS.mS 1 [kI 19 (x3.n:Int)] ?_)
  obtain ⟨⟨s4,H5⟩,hx,h⟩:=bind_some h
  try dsimp only at h
  refine RS.o (H':=H5) (some 20) (Sl3.v s4) (Abs.run_mk (t:=97) (x:=.tmp 19) (y:=.tmp 19) (k1:=.i64) (k2:=.i64) (by kernel_rfl) (by kernel_rfl) (by kernel_rfl) (by kernel_rfl) hx) (RS.mS 1 [kS 5 s4] (RS.dn (WS.nxt (WS.sq (WS.sq (WS.rg (RS.mS 3 [kI 23 0,kI 22 (a1.n:Int),kS 21 a1] (RS.dn (WS.nxt ?_)))))))))
  refine WS.bk 0 ?_
  obtain ⟨o,hl,h⟩:=bind_some h
  rcases o with ⟨H12,v23_13⟩ | r
  ·try dsimp only at h
   refine WS.lI (z6z (L:=L) (E:=E) (m:=m) (H:=H)) (L.ok hl) 0 ?_
   clear hl
   refine fun a w hs=>bkE ((WS.nxt ?_ a w hs))
   refine WS.sq (WS.rg (RS.mS 1 [kS 8 Sl3.nil] (RS.dn (WS.nxt (WS.sq (WS.sq (WS.rg (RS.mS 4 [kI 9 (IntKind.i64.wrap ((s4.n:Int) - 1)),kI 41 (IntKind.i64.wrap ((s4.n:Int) - 1)),kI 40 (s4.n:Int),kS 39 s4] (RS.dn ?_)))))))))
   refine WS.nxt (WS.bk 2 ?_)
   obtain ⟨o,hl,h⟩:=bind_some h
   rcases o with ⟨H34,v8_35,v9_36⟩ | r
   ·try dsimp only at h
    refine WS.lI (z74 (L:=L) (E:=E) (m:=m) (H:=H)) (L.ok hl) 0 ?_
    clear hl
    refine fun a w hs=>bkE ((WS.nxt ?_ a w hs))
    refine WS.sq (WS.rg (RS.mS 1 [kS 73 v8_35] ?_))
    obtain ⟨H37,hx,h⟩:=bind_some h
    refine RS.cl (some 74) (v:=(Value.tuple #[])) 46 #[(Sl3.v v8_35)] (zj3 hx) (RS.dn (WS.nxt (WS.sq (WS.rg (RS.mS 2 [kS 4 v8_35,kS 75 v8_35] (RS.dn (WS.nxt (WS.rt ?_))))))))
    cases h
    exact fun a w hs=>rtR (rS hs)
   ·try dsimp only at h
    refine WS.lR (z74 (L:=L) (E:=E) (m:=m) (H:=H)) (L.ok hl) 0 ?_
    cases h
    exact fun a w hq=>bkR (sqR (rtR hq))
  ·try dsimp only at h
   refine WS.lR (z6z (L:=L) (E:=E) (m:=m) (H:=H)) (L.ok hl) 0 ?_
   cases h
   exact fun a w hq=>bkR (sqR (rtR hq))
 ·refine WS.fx 14 true (z19 hp) (WS.cT ?_)
  cases h
noncomputable def B20:Code:=(Tryz.f20.body).getD .skip
def z7u:(Int×ByteArray×Bool×Sl3×Int×Sl3×Int×Int×ByteArray×Sl3×Sl3×Sl3×AH)→Value
 | (r0,r1,r2,r3,r4,r5,r6,r7,r8,r9,r10,r11,_)=>(Value.agg #[(Value.int .i64 r0),(Value.string r1),(Value.bool r2),(Sl3.v r3),(Value.int .i64 r4),(Sl3.v r5),(Value.int .i64 r6),(Value.int .i64 r7),(Value.string r8),(Sl3.v r9),(Sl3.v r10),(Sl3.v r11)])
def z8x (_:AH):(Int×ByteArray×Bool×Sl3×Int×Sl3×Int×Int×ByteArray×Sl3×Sl3×Sl3×AH)→AH:=fun r=>r.2.2.2.2.2.2.2.2.2.2.2.2
noncomputable def z15 (L:LC) (m:Nat) (H:AH) (a0:Option Addr) (a1:Int):Option (Int×ByteArray×Bool×Sl3×Int×Sl3×Int×Int×ByteArray×Sl3×Sl3×Sl3×AH) :=
 Option.bind a0 fun q1 =>
 Option.bind (rd deP H (Addr.add q1 0)) fun x2 =>
 Option.bind (z5d L m H x2 a1) fun (x3_0,x3_1,x3_2,x3_3,x3_4,x3_5,x3_6,x3_7,x3_8,x3_9,x3_10,x3_11,_,H5) =>
 some (x3_0,x3_1,x3_2,x3_3,x3_4,x3_5,x3_6,x3_7,x3_8,x3_9,x3_10,x3_11,H5)
theorem z10 {L:LC} {m:Nat} {H:AH} {a0:Option Addr} {a1:Int} {r:(Int×ByteArray×Bool×Sl3×Int×Sl3×Int×Int×ByteArray×Sl3×Sl3×Sl3×AH)} (h:z15 L m H a0 a1=some r) :
  CallS Tryz.prog (NE.plain 202) m 20 #[(Value.pointer a0),(Value.int .i64 a1)] H (z7u r) (z8x H r):=by
 refine CallS.mk (args:=[(Value.pointer a0),(Value.int .i64 a1)]) Tryz.func20 (B:=B20) (by kernel_rfl) (fun E _=>?_)
 unfold z15 at h
 refine WS.sq (WS.rg (RS.mL 1 [kL 4 0 0] ([some (70,[(Value.int .i64 0),(Value.string (⟨#[]⟩:ByteArray)),(Value.bool false),(Sl3.v Sl3.nil),(Value.int .i64 0),(Sl3.v Sl3.nil),(Value.int .i64 0),(Value.int .i64 0),(Value.string (⟨#[]⟩:ByteArray)),(Sl3.v Sl3.nil),(Sl3.v Sl3.nil),(Sl3.v Sl3.nil)])]) (RS.dn (WS.nxt (WS.sq (WS.rg (RS.mS 1 [(8,.val (Value.pointer a0))] ?_)))))))
 obtain ⟨q1,hx,hq1⟩:=bind_some h
 subst hx
 have h:=hq1
 refine RS.mS 2 [(10,.val (Value.pointer (some (Addr.add q1 0)))),kP 9 q1] ?_
 obtain ⟨x2,hx,h⟩:=bind_some h
 refine RS.ld 11 22 (.tmp 10) (z1 hx z31) (RS.mS 1 [kI 12 a1] ?_)
 obtain ⟨⟨x3_0,x3_1,x3_2,x3_3,x3_4,x3_5,x3_6,x3_7,x3_8,x3_9,x3_10,x3_11,x4,H5⟩,hx,h⟩:=bind_some h
 try dsimp only at h
 refine RS.cl (some 13) (v:=(Value.tuple #[(Value.agg #[(Value.int .i64 x3_0),(Value.string x3_1),(Value.bool x3_2),(Sl3.v x3_3),(Value.int .i64 x3_4),(Sl3.v x3_5),(Value.int .i64 x3_6),(Value.int .i64 x3_7),(Value.string x3_8),(Sl3.v x3_9),(Sl3.v x3_10),(Sl3.v x3_11)]),(Value.bool x4)])) 31 #[(Value.pointer x2),(Value.int .i64 a1)] (za2 hx) (RS.mL 6 [kB 6 x4,kL 5 1 0,kB 15 x4,kA 14 #[(Value.int .i64 x3_0),(Value.string x3_1),(Value.bool x3_2),(Sl3.v x3_3),(Value.int .i64 x3_4),(Sl3.v x3_5),(Value.int .i64 x3_6),(Value.int .i64 x3_7),(Value.string x3_8),(Sl3.v x3_9),(Sl3.v x3_10),(Sl3.v x3_11)],(7,.val (Value.tuple #[(Value.agg #[(Value.int .i64 x3_0),(Value.string x3_1),(Value.bool x3_2),(Sl3.v x3_3),(Value.int .i64 x3_4),(Sl3.v x3_5),(Value.int .i64 x3_6),(Value.int .i64 x3_7),(Value.string x3_8),(Sl3.v x3_9),(Sl3.v x3_10),(Sl3.v x3_11)]),(Value.bool x4)]))] ([some (70,[(Value.int .i64 0),(Value.string (⟨#[]⟩:ByteArray)),(Value.bool false),(Sl3.v Sl3.nil),(Value.int .i64 0),(Sl3.v Sl3.nil),(Value.int .i64 0),(Value.int .i64 0),(Value.string (⟨#[]⟩:ByteArray)),(Sl3.v Sl3.nil),(Sl3.v Sl3.nil),(Sl3.v Sl3.nil)]),some (70,[(Value.int .i64 x3_0),(Value.string x3_1),(Value.bool x3_2),(Sl3.v x3_3),(Value.int .i64 x3_4),(Sl3.v x3_5),(Value.int .i64 x3_6),(Value.int .i64 x3_7),(Value.string x3_8),(Sl3.v x3_9),(Sl3.v x3_10),(Sl3.v x3_11)])]) (RS.dn (WS.nxt (WS.sq (WS.rg (RS.mL 2 [kA 16 #[(Value.int .i64 x3_0),(Value.string x3_1),(Value.bool x3_2),(Sl3.v x3_3),(Value.int .i64 x3_4),(Sl3.v x3_5),(Value.int .i64 x3_6),(Value.int .i64 x3_7),(Value.string x3_8),(Sl3.v x3_9),(Sl3.v x3_10),(Sl3.v x3_11)]] ([some (70,[(Value.int .i64 x3_0),(Value.string x3_1),(Value.bool x3_2),(Sl3.v x3_3),(Value.int .i64 x3_4),(Sl3.v x3_5),(Value.int .i64 x3_6),(Value.int .i64 x3_7),(Value.string x3_8),(Sl3.v x3_9),(Sl3.v x3_10),(Sl3.v x3_11)]),some (70,[(Value.int .i64 x3_0),(Value.string x3_1),(Value.bool x3_2),(Sl3.v x3_3),(Value.int .i64 x3_4),(Sl3.v x3_5),(Value.int .i64 x3_6),(Value.int .i64 x3_7),(Value.string x3_8),(Sl3.v x3_9),(Sl3.v x3_10),(Sl3.v x3_11)])]) (RS.dn (WS.nxt (WS.rt ?_)))))))))
 cases h
 exact fun a w hs=>rtR (rS hs)
noncomputable def B149:Code:=(Tryz.f149.body).getD .skip
def zju:(Int×Int×ByteArray×Sl3)→Value
 | (r0,r1,r2,r3)=>(Value.agg #[(Value.int .i64 r0),(Value.int .i64 r1),(Value.string r2),(Sl3.v r3)])
def zkd (H:AH):(Int×Int×ByteArray×Sl3)→AH:=fun _=>H
noncomputable def z8y (_L:LC):Option (Int×Int×ByteArray×Sl3) :=
 some (1,0,(⟨#[]⟩:ByteArray),Sl3.nil)
theorem zdc {L:LC} {m:Nat} {H:AH}  {r:(Int×Int×ByteArray×Sl3)} (h:z8y L=some r) :
  CallS Tryz.prog (NE.plain 202) m 149 #[] H (zju r) (zkd H r):=by
 refine CallS.mk (args:=[]) Tryz.func149 (B:=B149) (by kernel_rfl) (fun E _=>?_)
 unfold z8y at h
 refine WS.sq (WS.rg (RS.mL 1 [kL 0 0 0] ([some (68,[(Value.int .i64 0),(Value.int .i64 0),(Value.string (⟨#[]⟩:ByteArray)),(Sl3.v Sl3.nil)])]) (RS.dn (WS.nxt (WS.sq (WS.rg (RS.mL 2 [kA 1 #[(Value.int .i64 1),(Value.int .i64 0),(Value.string (⟨#[]⟩:ByteArray)),(Sl3.v Sl3.nil)]] ([some (68,[(Value.int .i64 1),(Value.int .i64 0),(Value.string (⟨#[]⟩:ByteArray)),(Sl3.v Sl3.nil)])]) (RS.dn (WS.nxt ?_)))))))))
 refine WS.rt ?_
 cases h
 exact fun a w hs=>rtR (rS hs)
noncomputable def B19:Code:=(Tryz.f19.body).getD .skip
noncomputable def B57:Code:=(Tryz.f57.body).getD .skip
def zam:Bool→Value
 | r0=>(Value.bool r0)
def zbw (H:AH):Bool→AH:=fun _=>H
def z1g:Bool→Value
 | r0=>(Value.bool r0)
def z1l (H:AH):Bool→AH:=fun _=>H
noncomputable def z9h (_L:LC) (rec_slices_EqualFunc__19:AH→Sl3→Sl3→Option Bool) (H:AH) (a0_0 a0_1:Int) (a0_2:ByteArray) (a0_3:Sl3) (a1_0 a1_1:Int) (a1_2:ByteArray) (a1_3:Sl3):Option Bool :=
 if a0_0=a1_0 then
  if a0_1=a1_1 then
   if (a0_2.toList == a1_2.toList)=true then
    Option.bind (rec_slices_EqualFunc__19 H a0_3 a1_3) fun x1 =>
    some x1
   else
    none
  else
   none
 else
  none
noncomputable def z2w (_L:LC) (_H:AH) (a0 _a1:Sl3):Int→Option (Lp Int Bool):=fun v17_1 =>
 if v17_1<(a0.n:Int) then
  none
 else
  some (.brk v17_1)
def zb7 (_L:LC) (_H:AH) (a0 a1:Sl3):Int→KN×Lcs:=fun v17_1=>([kI 17 v17_1,kS 1 a1,(2,.val (Value.func (.func 19) #[] #[])),kS 15 a0,kI 16 (a0.n:Int)],[])
noncomputable def z2e (L:LC) (H:AH) (a0 a1:Sl3):Option Bool :=
 if (a0.n:Int)=(a1.n:Int) then
  Option.bind (L.run (z2w L H a0 a1) 0) fun o=>match o with
  | .inl _ =>
   some true
  | .inr r=>some r
 else
  none
noncomputable def zao (L:LC) (n:Nat):(AH→Int→Int→ByteArray→Sl3→Int→Int→ByteArray→Sl3→Option Bool)×(AH→Sl3→Sl3→Option Bool):=Nat.rec (motive:=fun _=>(AH→Int→Int→ByteArray→Sl3→Int→Int→ByteArray→Sl3→Option Bool)×(AH→Sl3→Sl3→Option Bool)) ((fun _ _ _ _ _ _ _ _ _=>none),(fun _ _ _=>none)) (fun _ p=>(z9h L p.2,z2e L)) n
noncomputable def zlu (L:LC) (H:AH) (a0_0 a0_1:Int) (a0_2:ByteArray) (a0_3:Sl3) (a1_0 a1_1:Int) (a1_2:ByteArray) (a1_3:Sl3):Option Bool:=((zao L L.fuel).1) H a0_0 a0_1 a0_2 a0_3 a1_0 a1_1 a1_2 a1_3
theorem ziy {L:LC} {rec_slices_EqualFunc__19:AH→Sl3→Sl3→Option Bool} (hrec_slices_EqualFunc__19:∀(m:Nat) (H:AH) (a0 a1:Sl3) (r:Bool),rec_slices_EqualFunc__19 H a0 a1=some r→CallS Tryz.prog (NE.plain 202) m 57 #[(Sl3.v a0),(Sl3.v a1),(Value.func (.func 19) #[] #[])] H (z1g r) (z1l H r)) {m:Nat} {H:AH} {a0_0 a0_1:Int} {a0_2:ByteArray} {a0_3:Sl3} {a1_0 a1_1:Int} {a1_2:ByteArray} {a1_3:Sl3} {r:Bool} (h:z9h L rec_slices_EqualFunc__19 H a0_0 a0_1 a0_2 a0_3 a1_0 a1_1 a1_2 a1_3=some r) :
  CallS Tryz.prog (NE.plain 202) m 19 #[(Value.agg #[(Value.int .i64 a0_0),(Value.int .i64 a0_1),(Value.string a0_2),(Sl3.v a0_3)]),(Value.agg #[(Value.int .i64 a1_0),(Value.int .i64 a1_1),(Value.string a1_2),(Sl3.v a1_3)])] H (zam r) (zbw H r):=by
 refine CallS.mk (args:=[(Value.agg #[(Value.int .i64 a0_0),(Value.int .i64 a0_1),(Value.string a0_2),(Sl3.v a0_3)]),(Value.agg #[(Value.int .i64 a1_0),(Value.int .i64 a1_1),(Value.string a1_2),(Sl3.v a1_3)])]) Tryz.func19 (B:=B19) (by kernel_rfl) (fun E _=>?_)
 unfold z9h at h
 refine WS.sq (WS.rg (RS.mL 3 [kB 4 false,kL 3 1 0,kL 2 0 0] ([some (68,[(Value.int .i64 a0_0),(Value.int .i64 a0_1),(Value.string a0_2),(Sl3.v a0_3)]),some (68,[(Value.int .i64 a1_0),(Value.int .i64 a1_1),(Value.string a1_2),(Sl3.v a1_3)])]) (RS.dn (WS.nxt (WS.sq (WS.rg (RS.mS 6 [kB 10 (decide (a0_0=a1_0)),kB 9 (decide (a0_0=a1_0)),kI 8 a1_0,kL 7 1 0,kI 6 a0_0,kL 5 0 0] ?_)))))))
 rcases z0 h with ⟨hp,h⟩ | ⟨hp,h⟩
 ·refine RS.fx 10 true (decide_eq_true hp) (RS.mS 7 [kB 17 (decide (a0_1=a1_1)),kB 16 (decide (a0_1=a1_1)),kB 15 (decide (a0_1=a1_1)),kI 14 a1_1,kL 13 1 1,kI 12 a0_1,kL 11 0 1] ?_)
  rcases z0 h with ⟨hp,h⟩ | ⟨hp,h⟩
  ·refine RS.fx 17 true (decide_eq_true hp) (RS.mS 7 [kB 24 (a0_2.toList == a1_2.toList),kB 23 (a0_2.toList == a1_2.toList),kB 22 (a0_2.toList == a1_2.toList),kT 21 a1_2,kL 20 1 2,kT 19 a0_2,kL 18 0 2] ?_)
   rcases z0 h with ⟨hp,h⟩ | ⟨hp,h⟩
   ·refine RS.fx 24 true hp (RS.mS 4 [kS 28 a1_3,kL 27 1 3,kS 26 a0_3,kL 25 0 3] ?_)
    obtain ⟨x1,hx,h⟩:=bind_some h
    refine RS.cl (some 29) (v:=(Value.bool x1)) 57 #[(Sl3.v a0_3),(Sl3.v a1_3),(Value.func (.func 19) #[] #[])] (hrec_slices_EqualFunc__19 _ _ _ _ _ hx) (RS.mS 2 [kB 4 x1,kB 30 x1] (RS.dn (WS.nxt (WS.rt ?_))))
    cases h
    exact fun a w hs=>rtR (rS hs)
   ·refine RS.fx 24 false (b_not hp) ?_
    cases h
  ·refine RS.fx 17 false (decide_eq_false hp) ?_
   cases h
 ·refine RS.fx 10 false (decide_eq_false hp) ?_
  cases h
theorem z4i {E m L H a0 a1} :LoopF Tryz.prog (NE.plain 202) m E Tryz.f57 ((cfst (csnd (cfst (csnd (csnd B57)))))) (zb7 L H a0 a1) (fun _=>H) 0 z1g (z1l H) (z2w L H a0 a1):=by
 rintro v17_1 o h
 unfold z2w at h
 try dsimp only at h
 refine WS.sq (WS.rg (RS.mS 1 [kB 18 (decide (v17_1<(a0.n:Int)))] (RS.dn (WS.nxt (WS.sq ?_)))))
 rcases z0 h with ⟨hp,h⟩ | ⟨hp,h⟩
 ·refine WS.fx 18 true (decide_eq_true hp) (WS.cT ?_)
  cases h
 ·refine WS.fx 18 false (decide_eq_false hp) (WS.cF (WS.ex 0 ?_))
  cases h
  exact fun a w hs=>sqE (lsB rfl (hs.sb 0))
theorem z9p {L:LC} {m:Nat} {H:AH} {a0 a1:Sl3} {r:Bool} (h:z2e L H a0 a1=some r) :
  CallS Tryz.prog (NE.plain 202) m 57 #[(Sl3.v a0),(Sl3.v a1),(Value.func (.func 19) #[] #[])] H (z1g r) (z1l H r):=by
 refine CallS.mk (args:=[(Sl3.v a0),(Sl3.v a1),(Value.func (.func 19) #[] #[])]) Tryz.func57 (B:=B57) (by kernel_rfl) (fun E _=>?_)
 unfold z2e at h
 refine WS.sq (WS.rg (RS.mS 1 [kB 6 false] (RS.dn (WS.nxt (WS.sq (WS.sq (WS.rg (RS.mS 5 [kB 14 (!decide ((a0.n:Int)=(a1.n:Int))),kI 13 (a1.n:Int),kS 12 a1,kI 11 (a0.n:Int),kS 10 a0] (RS.dn ?_)))))))))
 refine WS.nxt ?_
 rcases z0 h with ⟨hp,h⟩ | ⟨hp,h⟩
 ·refine WS.fx 14 false (zh hp) (WS.cF (WS.sk (WS.nxt (WS.sq (WS.sq (WS.rg (RS.mS 3 [kI 17 0,kI 16 (a0.n:Int),kS 15 a0] (RS.dn (WS.nxt ?_)))))))))
  refine WS.bk 0 ?_
  obtain ⟨o,hl,h⟩:=bind_some h
  rcases o with v17_2 | r
  ·try dsimp only at h
   refine WS.lI (z4i (L:=L) (E:=E) (m:=m) (H:=H)) (L.ok hl) 0 ?_
   clear hl
   refine fun a w hs=>bkE ((WS.nxt ?_ a w hs))
   refine WS.sq (WS.rg (RS.mS 1 [kB 6 true] (RS.dn (WS.nxt (WS.rt ?_)))))
   cases h
   exact fun a w hs=>rtR (rS hs)
  ·try dsimp only at h
   refine WS.lR (z4i (L:=L) (E:=E) (m:=m) (H:=H)) (L.ok hl) 0 ?_
   cases h
   exact fun a w hq=>bkR (sqR (rtR hq))
 ·refine WS.fx 14 true (ze hp) (WS.cT ?_)
  cases h
theorem zjh {L:LC}:∀n,(∀(m:Nat) (H:AH) (a0_0 a0_1:Int) (a0_2:ByteArray) (a0_3:Sl3) (a1_0 a1_1:Int) (a1_2:ByteArray) (a1_3:Sl3) (r:Bool),((zao L n).1) H a0_0 a0_1 a0_2 a0_3 a1_0 a1_1 a1_2 a1_3=some r→CallS Tryz.prog (NE.plain 202) m 19 #[(Value.agg #[(Value.int .i64 a0_0),(Value.int .i64 a0_1),(Value.string a0_2),(Sl3.v a0_3)]),(Value.agg #[(Value.int .i64 a1_0),(Value.int .i64 a1_1),(Value.string a1_2),(Sl3.v a1_3)])] H (zam r) (zbw H r))∧(∀(m:Nat) (H:AH) (a0 a1:Sl3) (r:Bool),((zao L n).2) H a0 a1=some r→CallS Tryz.prog (NE.plain 202) m 57 #[(Sl3.v a0),(Sl3.v a1),(Value.func (.func 19) #[] #[])] H (z1g r) (z1l H r)):=by
 intro n
 induction n with
 | zero=>exact ⟨(fun _ _ _ _ _ _ _ _ _ _ _ h=>(Option.some_ne_none _ h.symm).elim),(fun _ _ _ _ _ h=>(Option.some_ne_none _ h.symm).elim)⟩
 | succ n ih=>exact ⟨(fun _ _ _ _ _ _ _ _ _ _ _ h=>ziy (L:=L) ih.2 h),(fun _ _ _ _ _ h=>z9p (L:=L)  h)⟩
theorem znf {L:LC} {m:Nat} {H:AH} {a0_0 a0_1:Int} {a0_2:ByteArray} {a0_3:Sl3} {a1_0 a1_1:Int} {a1_2:ByteArray} {a1_3:Sl3} {r:Bool} (h:zlu L H a0_0 a0_1 a0_2 a0_3 a1_0 a1_1 a1_2 a1_3=some r) :
  CallS Tryz.prog (NE.plain 202) m 19 #[(Value.agg #[(Value.int .i64 a0_0),(Value.int .i64 a0_1),(Value.string a0_2),(Sl3.v a0_3)]),(Value.agg #[(Value.int .i64 a1_0),(Value.int .i64 a1_1),(Value.string a1_2),(Sl3.v a1_3)])] H (zam r) (zbw H r) :=
 ((zjh _).1) _ _ _ _ _ _ _ _ _ _ _ h
noncomputable def B200:Code:=(Tryz.f200.body).getD .skip
def zld:Bool→Value
 | r0=>(Value.bool r0)
def zm8 (H:AH):Bool→AH:=fun _=>H
noncomputable def zfr (L:LC) (H:AH) (a0_0 a0_1:Int) (a0_2:ByteArray) (a0_3:Sl3) (a1:Option Addr):Option Bool :=
 Option.bind a1 fun q1 =>
 Option.bind (rd (deI .i64) H (Addr.add q1 0)) fun x2_0 =>
 Option.bind (rd (deI .i64) H (Addr.add q1 1)) fun x2_1 =>
 Option.bind (rd deS H (Addr.add q1 2)) fun x2_2 =>
 Option.bind (rd deSl H (Addr.add q1 3)) fun x2_3 =>
 Option.bind (zlu L H a0_0 a0_1 a0_2 a0_3 x2_0 x2_1 x2_2 x2_3) fun x3 =>
 some (!x3)
theorem zmb {L:LC} {m:Nat} {H:AH} {a0_0 a0_1:Int} {a0_2:ByteArray} {a0_3:Sl3} {a1:Option Addr} {r:Bool} (h:zfr L H a0_0 a0_1 a0_2 a0_3 a1=some r) :
  CallS Tryz.prog (NE.plain 202) m 200 #[(Value.agg #[(Value.int .i64 a0_0),(Value.int .i64 a0_1),(Value.string a0_2),(Sl3.v a0_3)]),(Value.pointer a1)] H (zld r) (zm8 H r):=by
 refine CallS.mk (args:=[(Value.agg #[(Value.int .i64 a0_0),(Value.int .i64 a0_1),(Value.string a0_2),(Sl3.v a0_3)]),(Value.pointer a1)]) Tryz.func200 (B:=B200) (by kernel_rfl) (fun E _=>?_)
 unfold zfr at h
 refine WS.sq (WS.rg (RS.mL 2 [kB 3 false,kL 2 0 0] ([some (68,[(Value.int .i64 a0_0),(Value.int .i64 a0_1),(Value.string a0_2),(Sl3.v a0_3)])]) (RS.dn (WS.nxt (WS.sq (WS.rg (RS.mS 1 [kA 4 #[(Value.int .i64 a0_0),(Value.int .i64 a0_1),(Value.string a0_2),(Sl3.v a0_3)]] ?_)))))))
 obtain ⟨q1,hx,hq1⟩:=bind_some h
 subst hx
 have h:=hq1
 obtain ⟨x2_0,hx0,h⟩:=bind_some h
 obtain ⟨x2_1,hx1,h⟩:=bind_some h
 obtain ⟨x2_2,hx2,h⟩:=bind_some h
 obtain ⟨x2_3,hx3,h⟩:=bind_some h
 refine RS.la 5 68 (.tmp 1) 4 (z3 (z1 hx0 z8) (z3 (z1 hx1 z8) (z3 (z1 hx2 zl) (z3 (z1 hx3 z6) z30)))) ?_
 obtain ⟨x3,hx,h⟩:=bind_some h
 refine RS.cl (some 6) (v:=(Value.bool x3)) 19 #[(Value.agg #[(Value.int .i64 a0_0),(Value.int .i64 a0_1),(Value.string a0_2),(Sl3.v a0_3)]),(Value.agg #[(Value.int .i64 x2_0),(Value.int .i64 x2_1),(Value.string x2_2),(Sl3.v x2_3)])] (znf hx) (RS.mS 2 [kB 3 (!x3),kB 7 (!x3)] (RS.dn (WS.nxt (WS.rt ?_))))
 cases h
 exact fun a w hs=>rtR (rS hs)
noncomputable def B247:Code:=(Tryz.f247.body).getD .skip
def z3i:Int→Value
 | r0=>(Value.int .i64 r0)
def z3w (H:AH):Int→AH:=fun _=>H
noncomputable def z1r (L:LC) (H:AH) (a0:Sl3) (a1_0:Option Addr):Int→Option (Lp Int Int):=fun v8_1 =>
 if v8_1<(a0.n:Int) then
  Option.bind (idxA 4 a0 v8_1) fun p2 =>
  Option.bind (rd (deI .i64) H (Addr.add p2 0)) fun x3_0 =>
  Option.bind (rd (deI .i64) H (Addr.add p2 1)) fun x3_1 =>
  Option.bind (rd deS H (Addr.add p2 2)) fun x3_2 =>
  Option.bind (rd deSl H (Addr.add p2 3)) fun x3_3 =>
  Option.bind (zfr L H x3_0 x3_1 x3_2 x3_3 a1_0) fun x4 =>
  if x4=true then
   none
  else
   some (.next (IntKind.i64.wrap (v8_1+1)))
 else
  some (.brk v8_1)
def z7z (_L:LC) (_H:AH) (a0:Sl3) (a1_0:Option Addr):Int→KN×Lcs:=fun v8_1=>([kI 8 v8_1,kS 0 a0,(1,.val (Value.func (.func 200) #[] #[(Value.pointer a1_0)])),kI 7 (a0.n:Int)],[])
noncomputable def z2g (L:LC) (H:AH) (a0:Sl3) (a1_0:Option Addr):Option Int :=
 Option.bind (L.run (z1r L H a0 a1_0) 0) fun o=>match o with
 | .inl _ =>
  some (-1)
 | .inr r=>some r
theorem z2t {E m L H a0 a1_0} :LoopF Tryz.prog (NE.plain 202) m E Tryz.f247 ((cfst (csnd (cfst (csnd B247))))) (z7z L H a0 a1_0) (fun _=>H) 0 z3i (z3w H) (z1r L H a0 a1_0):=by
 rintro v8_1 o h
 unfold z1r at h
 try dsimp only at h
 refine WS.sq (WS.rg (RS.mS 1 [kB 9 (decide (v8_1<(a0.n:Int)))] (RS.dn (WS.nxt (WS.sq ?_)))))
 rcases z0 h with ⟨hp,h⟩ | ⟨hp,h⟩
 ·refine WS.fx 9 true (decide_eq_true hp) (WS.cT (WS.sk (WS.nxt (WS.sq (WS.bk 1 (WS.sq (WS.rg (RS.mS 2 [kI 5 v8_1,kI 10 v8_1] (RS.dn ?_)))))))))
  refine WS.nxt (WS.sq (WS.rg (RS.mS 3 [kI 13 v8_1,kS 12 a0,(11,.val (Value.func (.func 200) #[] #[(Value.pointer a1_0)]))] ?_)))
  obtain ⟨p2,hx,h⟩:=bind_some h
  refine RS.ix 14 66 68 (.tmp 12) (.tmp 13) hx ?_
  obtain ⟨x3_0,hx0,h⟩:=bind_some h
  obtain ⟨x3_1,hx1,h⟩:=bind_some h
  obtain ⟨x3_2,hx2,h⟩:=bind_some h
  obtain ⟨x3_3,hx3,h⟩:=bind_some h
  refine RS.la 15 68 (.tmp 14) 4 (z3 (z1 hx0 z8) (z3 (z1 hx1 z8) (z3 (z1 hx2 zl) (z3 (z1 hx3 z6) z30)))) ?_
  obtain ⟨x4,hx,h⟩:=bind_some h
  refine RS.cl (some 16) (v:=(Value.bool x4)) 200 #[(Value.agg #[(Value.int .i64 x3_0),(Value.int .i64 x3_1),(Value.string x3_2),(Sl3.v x3_3)]),(Value.pointer a1_0)] (zmb hx) (RS.dn (WS.nxt ?_))
  rcases z0 h with ⟨hp,h⟩ | ⟨hp,h⟩
  ·refine WS.fx 16 true hp (WS.cT ?_)
   cases h
  ·refine WS.fx 16 false (b_not hp) (WS.cF (WS.sk ?_))
   refine fun a w hs=>bkN ((WS.nxt ?_ a w hs))
   refine WS.rg (RS.mS 2 [kI 8 (IntKind.i64.wrap (v8_1+1)),kI 18 (IntKind.i64.wrap (v8_1+1))] (RS.dn ?_))
   cases h
   exact fun a w hs=>lsN rfl (hs.sb 0)
 ·refine WS.fx 9 false (decide_eq_false hp) (WS.cF (WS.ex 0 ?_))
  cases h
  exact fun a w hs=>sqE (lsB rfl (hs.sb 0))
theorem z9g {L:LC} {m:Nat} {H:AH} {a0:Sl3} {a1_0:Option Addr} {r:Int} (h:z2g L H a0 a1_0=some r) :
  CallS Tryz.prog (NE.plain 202) m 247 #[(Sl3.v a0),(Value.func (.func 200) #[] #[(Value.pointer a1_0)])] H (z3i r) (z3w H r):=by
 refine CallS.mk (args:=[(Sl3.v a0),(Value.func (.func 200) #[] #[(Value.pointer a1_0)])]) Tryz.func247 (B:=B247) (by kernel_rfl) (fun E _=>?_)
 unfold z2g at h
 refine WS.sq (WS.rg (RS.mS 1 [kI 4 0] (RS.dn (WS.nxt (WS.sq (WS.sq (WS.rg (RS.mS 3 [kI 8 0,kI 7 (a0.n:Int),kS 6 a0] (RS.dn ?_)))))))))
 refine WS.nxt (WS.bk 0 ?_)
 obtain ⟨o,hl,h⟩:=bind_some h
 rcases o with v8_5 | r
 ·try dsimp only at h
  refine WS.lI (z2t (L:=L) (E:=E) (m:=m) (H:=H)) (L.ok hl) 0 ?_
  clear hl
  refine fun a w hs=>bkE ((WS.nxt ?_ a w hs))
  refine WS.sq (WS.rg (RS.mS 1 [kI 4 (-1)] (RS.dn (WS.nxt (WS.rt ?_)))))
  cases h
  exact fun a w hs=>rtR (rS hs)
 ·try dsimp only at h
  refine WS.lR (z2t (L:=L) (E:=E) (m:=m) (H:=H)) (L.ok hl) 0 ?_
  cases h
  exact fun a w hq=>bkR (sqR (rtR hq))
noncomputable def B199:Code:=(Tryz.f199.body).getD .skip
def z7f:Bool→Value
 | r0=>(Value.bool r0)
def z82 (H:AH):Bool→AH:=fun _=>H
noncomputable def z1q (L:LC) (H:AH) (a0:Sl3) (a1_0:Option Addr):Option Bool :=
 Option.bind (z2g L H a0 a1_0) fun x1 =>
 some (decide (x1≥0))
theorem z81 {L:LC} {m:Nat} {H:AH} {a0:Sl3} {a1_0:Option Addr} {r:Bool} (h:z1q L H a0 a1_0=some r) :
  CallS Tryz.prog (NE.plain 202) m 199 #[(Sl3.v a0),(Value.func (.func 200) #[] #[(Value.pointer a1_0)])] H (z7f r) (z82 H r):=by
 refine CallS.mk (args:=[(Sl3.v a0),(Value.func (.func 200) #[] #[(Value.pointer a1_0)])]) Tryz.func199 (B:=B199) (by kernel_rfl) (fun E _=>?_)
 unfold z1q at h
 refine WS.sq (WS.rg (RS.mS 1 [kB 4 false] (RS.dn (WS.nxt (WS.sq (WS.rg (RS.mS 2 [(6,.val (Value.func (.func 200) #[] #[(Value.pointer a1_0)])),kS 5 a0] ?_)))))))
 obtain ⟨x1,hx,h⟩:=bind_some h
 refine RS.cl (some 7) (v:=(Value.int .i64 x1)) 247 #[(Sl3.v a0),(Value.func (.func 200) #[] #[(Value.pointer a1_0)])] (z9g hx) (RS.mS 2 [kB 4 (decide (x1≥0)),kB 8 (decide (x1≥0))] (RS.dn (WS.nxt (WS.rt ?_))))
 cases h
 exact fun a w hs=>rtR (rS hs)
noncomputable def B150:Code:=(Tryz.f150.body).getD .skip
def zn4:(Bool×AH)→Value
 | (r0,_)=>(Value.bool r0)
def zos (_:AH):(Bool×AH)→AH:=fun r=>r.2
noncomputable def zjl (L:LC) (_m:Nat) (H:AH) (a0:Sl3) (a1_0 a1_1:Int) (a1_2:ByteArray) (a1_3:Sl3):Option (Bool×AH) :=
 Option.bind (newB 68 [(Value.int .i64 a1_0),(Value.int .i64 a1_1),(Value.string a1_2),(Sl3.v a1_3)] H) fun (p1,H2) =>
 Option.bind (z1q L H2 a0 (some p1)) fun x3 =>
 some ((!x3),H2)
theorem zoq {L:LC} {m:Nat} {H:AH} {a0:Sl3} {a1_0 a1_1:Int} {a1_2:ByteArray} {a1_3:Sl3} {r:(Bool×AH)} (h:zjl L m H a0 a1_0 a1_1 a1_2 a1_3=some r) :
  CallS Tryz.prog (NE.plain 202) m 150 #[(Sl3.v a0),(Value.agg #[(Value.int .i64 a1_0),(Value.int .i64 a1_1),(Value.string a1_2),(Sl3.v a1_3)])] H (zn4 r) (zos H r):=by
 refine CallS.mk (args:=[(Sl3.v a0),(Value.agg #[(Value.int .i64 a1_0),(Value.int .i64 a1_1),(Value.string a1_2),(Sl3.v a1_3)])]) Tryz.func150 (B:=B150) (by kernel_rfl) (fun E _=>?_)
 unfold zjl at h
 refine WS.sq (WS.rg ?_)
 obtain ⟨⟨p1,H2⟩,hx,h⟩:=bind_some h
 try dsimp only at h
 refine RS.o (H':=H2) (some 3) (Value.pointer (some p1)) (Abs.run_newB (by kernel_rfl) hx) (RS.mS 1 [kB 4 false] (RS.dn (WS.nxt (WS.sq (WS.rg (RS.mS 2 [(6,.val (Value.func (.func 200) #[] #[(Value.pointer (some p1))])),kS 5 a0] ?_))))))
 obtain ⟨x3,hx,h⟩:=bind_some h
 refine RS.cl (some 7) (v:=(Value.bool x3)) 199 #[(Sl3.v a0),(Value.func (.func 200) #[] #[(Value.pointer (some p1))])] (z81 hx) (RS.mS 2 [kB 4 (!x3),kB 8 (!x3)] (RS.dn (WS.nxt (WS.rt ?_))))
 cases h
 exact fun a w hs=>rtR (rS hs)
noncomputable def B104:Code:=(Tryz.f104.body).getD .skip
def zkk:(Int×Int×ByteArray×Sl3×Bool×AH)→Value
 | (r0,r1,r2,r3,r4,_)=>(Value.tuple #[(Value.agg #[(Value.int .i64 r0),(Value.int .i64 r1),(Value.string r2),(Sl3.v r3)]),(Value.bool r4)])
def zl2 (_:AH):(Int×Int×ByteArray×Sl3×Bool×AH)→AH:=fun r=>r.2.2.2.2.2
noncomputable def zel (L:LC) (m:Nat) (H:AH) (a0_0:Int) (_a0_1:ByteArray) (_a0_2:Bool) (_a0_3:Sl3) (_a0_4:Int) (_a0_5:Sl3) (_a0_6 _a0_7:Int) (_a0_8:ByteArray) (_a0_9 _a0_10:Sl3) (_a0_11 a1:Sl3):Option (Int×Int×ByteArray×Sl3×Bool×AH) :=
 if a0_0≤7 then
  Option.bind (z8y L) fun (x1_0,x1_1,x1_2,x1_3) =>
  Option.bind (z8y L) fun (x2_0,x2_1,x2_2,x2_3) =>
  Option.bind (zjl L m H a1 x2_0 x2_1 x2_2 x2_3) fun (x3,H4) =>
  some (x1_0,x1_1,x1_2,x1_3,x3,H4)
 else
  none
theorem zli {L:LC} {m:Nat} {H:AH} {a0_0:Int} {a0_1:ByteArray} {a0_2:Bool} {a0_3:Sl3} {a0_4:Int} {a0_5:Sl3} {a0_6 a0_7:Int} {a0_8:ByteArray} {a0_9 a0_10:Sl3} {a0_11 a1:Sl3} {r:(Int×Int×ByteArray×Sl3×Bool×AH)} (h:zel L m H a0_0 a0_1 a0_2 a0_3 a0_4 a0_5 a0_6 a0_7 a0_8 a0_9 a0_10 a0_11 a1=some r) :
  CallS Tryz.prog (NE.plain 202) m 104 #[(Value.agg #[(Value.int .i64 a0_0),(Value.string a0_1),(Value.bool a0_2),(Sl3.v a0_3),(Value.int .i64 a0_4),(Sl3.v a0_5),(Value.int .i64 a0_6),(Value.int .i64 a0_7),(Value.string a0_8),(Sl3.v a0_9),(Sl3.v a0_10),(Sl3.v a0_11)]),(Sl3.v a1)] H (zkk r) (zl2 H r):=by
 refine CallS.mk (args:=[(Value.agg #[(Value.int .i64 a0_0),(Value.string a0_1),(Value.bool a0_2),(Sl3.v a0_3),(Value.int .i64 a0_4),(Sl3.v a0_5),(Value.int .i64 a0_6),(Value.int .i64 a0_7),(Value.string a0_8),(Sl3.v a0_9),(Sl3.v a0_10),(Sl3.v a0_11)]),(Sl3.v a1)]) Tryz.func104 (B:=B104) (by kernel_rfl) (fun E _=>?_)
 unfold zel at h
 refine WS.sq (WS.rg (RS.mL 3 [kB 5 false,kL 4 1 0,kL 2 0 0] ([some (70,[(Value.int .i64 a0_0),(Value.string a0_1),(Value.bool a0_2),(Sl3.v a0_3),(Value.int .i64 a0_4),(Sl3.v a0_5),(Value.int .i64 a0_6),(Value.int .i64 a0_7),(Value.string a0_8),(Sl3.v a0_9),(Sl3.v a0_10),(Sl3.v a0_11)]),some (68,[(Value.int .i64 0),(Value.int .i64 0),(Value.string (⟨#[]⟩:ByteArray)),(Sl3.v Sl3.nil)])]) (RS.dn (WS.nxt (WS.sq (WS.bk 0 (WS.sq (WS.rg (RS.mS 4 [kB 6 (decide (a0_0≤7)),kB 9 (decide (a0_0≤7)),kI 8 a0_0,kL 7 0 0] ?_)))))))))
 refine RS.dn (WS.nxt ?_)
 rcases z0 h with ⟨hp,h⟩ | ⟨hp,h⟩
 ·refine WS.fx 6 true (decide_eq_true hp) (WS.cT (WS.sq (WS.rg ?_)))
  obtain ⟨⟨x1_0,x1_1,x1_2,x1_3⟩,hx,h⟩:=bind_some h
  try dsimp only at h
  refine RS.cl (some 10) (v:=(Value.agg #[(Value.int .i64 x1_0),(Value.int .i64 x1_1),(Value.string x1_2),(Sl3.v x1_3)])) 149 #[] (zdc hx) (RS.mS 1 [kS 11 a1] ?_)
  obtain ⟨⟨x2_0,x2_1,x2_2,x2_3⟩,hx,h⟩:=bind_some h
  try dsimp only at h
  refine RS.cl (some 12) (v:=(Value.agg #[(Value.int .i64 x2_0),(Value.int .i64 x2_1),(Value.string x2_2),(Sl3.v x2_3)])) 149 #[] (zdc hx) ?_
  obtain ⟨⟨x3,H4⟩,hx,h⟩:=bind_some h
  try dsimp only at h
  refine RS.cl (some 13) (v:=(Value.bool x3)) 150 #[(Sl3.v a1),(Value.agg #[(Value.int .i64 x2_0),(Value.int .i64 x2_1),(Value.string x2_2),(Sl3.v x2_3)])] (zoq hx) (RS.mL 2 [kB 5 x3] ([some (70,[(Value.int .i64 a0_0),(Value.string a0_1),(Value.bool a0_2),(Sl3.v a0_3),(Value.int .i64 a0_4),(Sl3.v a0_5),(Value.int .i64 a0_6),(Value.int .i64 a0_7),(Value.string a0_8),(Sl3.v a0_9),(Sl3.v a0_10),(Sl3.v a0_11)]),some (68,[(Value.int .i64 x1_0),(Value.int .i64 x1_1),(Value.string x1_2),(Sl3.v x1_3)])]) (RS.dn (WS.nxt (WS.rt ?_))))
  cases h
  exact fun a w hs=>bkR (sqR (rtR (rS hs)))
 ·refine WS.fx 6 false (decide_eq_false hp) (WS.cF ?_)
  cases h
noncomputable def B105:Code:=(Tryz.f105.body).getD .skip
def zf4:Bool→Value
 | r0=>(Value.bool r0)
def zfm (H:AH):Bool→AH:=fun _=>H
noncomputable def z6l (_L:LC) (_H:AH) (_a0:Option Addr) (a1_0:Int) (_a1_1:ByteArray) (_a1_2:Bool) (_a1_3:Sl3) (_a1_4:Int) (_a1_5:Sl3) (_a1_6 _a1_7:Int) (_a1_8:ByteArray) (_a1_9 _a1_10 _a1_11:Sl3):Option Bool :=
 if a1_0=24 then
  none
 else
  if a1_0=25 then
   none
  else
   if a1_0=26 then
    none
   else
    some true
theorem zgc {L:LC} {m:Nat} {H:AH} {a0:Option Addr} {a1_0:Int} {a1_1:ByteArray} {a1_2:Bool} {a1_3:Sl3} {a1_4:Int} {a1_5:Sl3} {a1_6 a1_7:Int} {a1_8:ByteArray} {a1_9 a1_10 a1_11:Sl3} {r:Bool} (h:z6l L H a0 a1_0 a1_1 a1_2 a1_3 a1_4 a1_5 a1_6 a1_7 a1_8 a1_9 a1_10 a1_11=some r) :
  CallS Tryz.prog (NE.plain 202) m 105 #[(Value.pointer a0),(Value.agg #[(Value.int .i64 a1_0),(Value.string a1_1),(Value.bool a1_2),(Sl3.v a1_3),(Value.int .i64 a1_4),(Sl3.v a1_5),(Value.int .i64 a1_6),(Value.int .i64 a1_7),(Value.string a1_8),(Sl3.v a1_9),(Sl3.v a1_10),(Sl3.v a1_11)])] H (zf4 r) (zfm H r):=by
 refine CallS.mk (args:=[(Value.pointer a0),(Value.agg #[(Value.int .i64 a1_0),(Value.string a1_1),(Value.bool a1_2),(Sl3.v a1_3),(Value.int .i64 a1_4),(Sl3.v a1_5),(Value.int .i64 a1_6),(Value.int .i64 a1_7),(Value.string a1_8),(Sl3.v a1_9),(Sl3.v a1_10),(Sl3.v a1_11)])]) Tryz.func105 (B:=B105) (by kernel_rfl) (fun E _=>?_)
 unfold z6l at h
 refine WS.sq (WS.rg (RS.mL 2 [kB 4 false,kL 3 0 0] ([some (70,[(Value.int .i64 a1_0),(Value.string a1_1),(Value.bool a1_2),(Sl3.v a1_3),(Value.int .i64 a1_4),(Sl3.v a1_5),(Value.int .i64 a1_6),(Value.int .i64 a1_7),(Value.string a1_8),(Sl3.v a1_9),(Sl3.v a1_10),(Sl3.v a1_11)])]) (RS.dn (WS.nxt (WS.sq (WS.sq (WS.rg (RS.mS 2 [kI 12 a1_0,kL 11 0 0] (RS.dn ?_)))))))))
 refine WS.nxt (WS.bk 0 (WS.sq (WS.rg (RS.mS 2 [kB 13 (decide (a1_0=24)),kB 14 (decide (a1_0=24))] (RS.dn (WS.nxt ?_))))))
 rcases z0 h with ⟨hp,h⟩ | ⟨hp,h⟩
 ·refine WS.fx 13 true (decide_eq_true hp) (WS.cT ?_)
  cases h
 ·refine WS.fx 13 false (decide_eq_false hp) (WS.cF (WS.sq (WS.sq (WS.rg (RS.mS 2 [kB 37 (decide (a1_0=25)),kB 38 (decide (a1_0=25))] (RS.dn (WS.nxt ?_)))))))
  rcases z0 h with ⟨hp,h⟩ | ⟨hp,h⟩
  ·refine WS.fx 37 true (decide_eq_true hp) (WS.cT ?_)
   cases h
  ·refine WS.fx 37 false (decide_eq_false hp) (WS.cF (WS.rg (RS.mS 2 [kB 37 (decide (a1_0=26)),kB 39 (decide (a1_0=26))] (RS.dn (WS.nxt ?_)))))
   rcases z0 h with ⟨hp,h⟩ | ⟨hp,h⟩
   ·refine WS.fx 37 true (decide_eq_true hp) (WS.cT ?_)
    cases h
   ·refine WS.fx 37 false (decide_eq_false hp) (WS.cF (WS.sk ?_))
    refine fun a w hs=>bkN ((WS.nxt ?_ a w hs))
    refine WS.sq (WS.rg (RS.mS 1 [kB 4 true] (RS.dn (WS.nxt (WS.rt ?_)))))
    cases h
    exact fun a w hs=>rtR (rS hs)
end Go.Proofs.YtfbinmgldpnjhaaGreatDoor
namespace Go.Proofs.YtfbinmgldpnjhaaGreatDoor
open Go Go.Abs
set_option maxRecDepth 100000
noncomputable def B204:Code:=(Tryz.f204.body).getD .skip
def zit:ByteArray→Value
 | r0=>(Value.string r0)
def zjx (H:AH):ByteArray→AH:=fun _=>H
noncomputable def zak (_L:LC) (a0:Int):Option ByteArray :=
 if a0<10 then
  Option.bind (strC (⟨#[48,49,50,51,52,53,54,55,56,57,97,98,99,100,101,102,103,104,105,106,107,108,109,110,111,112,113,114,115,116,117,118,119,120,121,122]⟩:ByteArray) (some a0) (some (IntKind.i64.wrap (a0+1)))) fun s1 =>
  some s1
 else
  Option.bind (strC (⟨#[48,48,48,49,48,50,48,51,48,52,48,53,48,54,48,55,48,56,48,57,49,48,49,49,49,50,49,51,49,52,49,53,49,54,49,55,49,56,49,57,50,48,50,49,50,50,50,51,50,52,50,53,50,54,50,55,50,56,50,57,51,48,51,49,51,50,51,51,51,52,51,53,51,54,51,55,51,56,51,57,52,48,52,49,52,50,52,51,52,52,52,53,52,54,52,55,52,56,52,57,53,48,53,49,53,50,53,51,53,52,53,53,53,54,53,55,53,56,53,57,54,48,54,49,54,50,54,51,54,52,54,53,54,54,54,55,54,56,54,57,55,48,55,49,55,50,55,51,55,52,55,53,55,54,55,55,55,56,55,57,56,48,56,49,56,50,56,51,56,52,56,53,56,54,56,55,56,56,56,57,57,48,57,49,57,50,57,51,57,52,57,53,57,54,57,55,57,56,57,57]⟩:ByteArray) (some (IntKind.i64.wrap (a0*2))) (some (IntKind.i64.wrap ((IntKind.i64.wrap (a0*2))+2)))) fun s2 =>
  some s2
theorem zjt {L:LC} {m:Nat} {H:AH} {a0:Int} {r:ByteArray} (h:zak L a0=some r) :
  CallS Tryz.prog (NE.plain 202) m 204 #[(Value.int .i64 a0)] H (zit r) (zjx H r):=by
 refine CallS.mk (args:=[(Value.int .i64 a0)]) Tryz.func204 (B:=B204) (by kernel_rfl) (fun E _=>?_)
 unfold zak at h
 refine WS.sq (WS.rg (RS.mS 1 [kT 2 (⟨#[]⟩:ByteArray)] (RS.dn (WS.nxt (WS.sq (WS.sq (WS.rg (RS.mS 2 [kB 4 (decide (a0<10)),kI 3 a0] (RS.dn ?_)))))))))
 refine WS.nxt ?_
 rcases z0 h with ⟨hp,h⟩ | ⟨hp,h⟩
 ·refine WS.fx 4 true (decide_eq_true hp) (WS.cT (WS.sq (WS.rg (RS.mS 3 [kI 7 (IntKind.i64.wrap (a0+1)),kI 6 a0,kI 5 a0] ?_))))
  obtain ⟨s1,hx,h⟩:=bind_some h
  refine RS.o (H':=H) (some 8) (Value.string s1) (Abs.run_strC (t:=9) (x:=.const (Value.string (⟨#[48,49,50,51,52,53,54,55,56,57,97,98,99,100,101,102,103,104,105,106,107,108,109,110,111,112,113,114,115,116,117,118,119,120,121,122]⟩:ByteArray))) (lo:=(some (.tmp 5))) (hi:=(some (.tmp 7))) (s:=(⟨#[48,49,50,51,52,53,54,55,56,57,97,98,99,100,101,102,103,104,105,106,107,108,109,110,111,112,113,114,115,116,117,118,119,120,121,122]⟩:ByteArray)) (k1:=.i64) (k2:=.i64) (by kernel_rfl) (by kernel_rfl) (by kernel_rfl) (by kernel_rfl) (by kernel_rfl) hx) (RS.mS 1 [kT 2 s1] (RS.dn (WS.nxt (WS.rt ?_))))
  cases h
  exact fun a w hs=>sqR (rtR (rS hs))
 ·refine WS.fx 4 false (decide_eq_false hp) (WS.cF (WS.sk (WS.nxt (WS.sq (WS.rg (RS.mS 5 [kI 13 (IntKind.i64.wrap ((IntKind.i64.wrap (a0*2))+2)),kI 12 (IntKind.i64.wrap (a0*2)),kI 11 a0,kI 10 (IntKind.i64.wrap (a0*2)),kI 9 a0] ?_))))))
  obtain ⟨s2,hx,h⟩:=bind_some h
  refine RS.o (H':=H) (some 14) (Value.string s2) (Abs.run_strC (t:=9) (x:=.const (Value.string (⟨#[48,48,48,49,48,50,48,51,48,52,48,53,48,54,48,55,48,56,48,57,49,48,49,49,49,50,49,51,49,52,49,53,49,54,49,55,49,56,49,57,50,48,50,49,50,50,50,51,50,52,50,53,50,54,50,55,50,56,50,57,51,48,51,49,51,50,51,51,51,52,51,53,51,54,51,55,51,56,51,57,52,48,52,49,52,50,52,51,52,52,52,53,52,54,52,55,52,56,52,57,53,48,53,49,53,50,53,51,53,52,53,53,53,54,53,55,53,56,53,57,54,48,54,49,54,50,54,51,54,52,54,53,54,54,54,55,54,56,54,57,55,48,55,49,55,50,55,51,55,52,55,53,55,54,55,55,55,56,55,57,56,48,56,49,56,50,56,51,56,52,56,53,56,54,56,55,56,56,56,57,57,48,57,49,57,50,57,51,57,52,57,53,57,54,57,55,57,56,57,57]⟩:ByteArray))) (lo:=(some (.tmp 10))) (hi:=(some (.tmp 13))) (s:=(⟨#[48,48,48,49,48,50,48,51,48,52,48,53,48,54,48,55,48,56,48,57,49,48,49,49,49,50,49,51,49,52,49,53,49,54,49,55,49,56,49,57,50,48,50,49,50,50,50,51,50,52,50,53,50,54,50,55,50,56,50,57,51,48,51,49,51,50,51,51,51,52,51,53,51,54,51,55,51,56,51,57,52,48,52,49,52,50,52,51,52,52,52,53,52,54,52,55,52,56,52,57,53,48,53,49,53,50,53,51,53,52,53,53,53,54,53,55,53,56,53,57,54,48,54,49,54,50,54,51,54,52,54,53,54,54,54,55,54,56,54,57,55,48,55,49,55,50,55,51,55,52,55,53,55,54,55,55,55,56,55,57,56,48,56,49,56,50,56,51,56,52,56,53,56,54,56,55,56,56,56,57,57,48,57,49,57,50,57,51,57,52,57,53,57,54,57,55,57,56,57,57]⟩:ByteArray)) (k1:=.i64) (k2:=.i64) (by kernel_rfl) (by kernel_rfl) (by kernel_rfl) (by kernel_rfl) (by kernel_rfl) hx) (RS.mS 1 [kT 2 s2] (RS.dn (WS.nxt (WS.rt ?_))))
  cases h
  exact fun a w hs=>rtR (rS hs)
noncomputable def B203:Code:=(Tryz.f203.body).getD .skip
def zez:(ByteArray×AH)→Value
 | (r0,_)=>(Value.string r0)
def zfp (_:AH):(ByteArray×AH)→AH:=fun r=>r.2
noncomputable def z6o (L:LC) (_m:Nat) (H:AH) (a0 a1:Int):Option (ByteArray×AH) :=
 if a1=10 then
  if 0≤a0 then
   if a0<100 then
    Option.bind (zak L a0) fun x1 =>
    some (x1,H)
   else
    none
  else
   none
 else
  none
theorem zfo {L:LC} {m:Nat} {H:AH} {a0 a1:Int} {r:(ByteArray×AH)} (h:z6o L m H a0 a1=some r) :
  CallS Tryz.prog (NE.plain 202) m 203 #[(Value.int .i64 a0),(Value.int .i64 a1)] H (zez r) (zfp H r):=by
 refine CallS.mk (args:=[(Value.int .i64 a0),(Value.int .i64 a1)]) Tryz.func203 (B:=B203) (by kernel_rfl) (fun E _=>?_)
 unfold z6o at h
 refine WS.sq (WS.rg (RS.mS 1 [kT 4 (⟨#[]⟩:ByteArray)] (RS.dn (WS.nxt (WS.sq (WS.sq (WS.rg (RS.mS 2 [kB 11 (decide (a1=10)),kI 10 a1] (RS.dn ?_)))))))))
 refine WS.nxt ?_
 rcases z0 h with ⟨hp,h⟩ | ⟨hp,h⟩
 ·refine WS.fx 11 true (decide_eq_true hp) (WS.cT (WS.sq (WS.sq (WS.rg (RS.mS 3 [kB 14 (decide (0≤a0)),kB 13 (decide (0≤a0)),kI 12 a0] ?_)))))
  rcases z0 h with ⟨hp,h⟩ | ⟨hp,h⟩
  ·refine RS.fx 14 true (decide_eq_true hp) (RS.mS 3 [kB 17 (decide (a0<100)),kB 16 (decide (a0<100)),kI 15 a0] (RS.dn (WS.nxt ?_)))
   rcases z0 h with ⟨hp,h⟩ | ⟨hp,h⟩
   ·refine WS.fx 17 true (decide_eq_true hp) (WS.cT (WS.sq (WS.rg (RS.mS 1 [kI 18 a0] ?_))))
    obtain ⟨x1,hx,h⟩:=bind_some h
    refine RS.cl (some 19) (v:=(Value.string x1)) 204 #[(Value.int .i64 a0)] (zjt hx) (RS.mS 1 [kT 4 x1] (RS.dn (WS.nxt (WS.rt ?_))))
    cases h
    exact fun a w hs=>sqR (sqR (rtR (rS hs)))
   ·refine WS.fx 17 false (decide_eq_false hp) (WS.cF ?_)
    cases h
  ·refine RS.fx 14 false (decide_eq_false hp) ?_
   cases h
 ·refine WS.fx 11 false (decide_eq_false hp) (WS.cF ?_)
  cases h
noncomputable def B156:Code:=(Tryz.f156.body).getD .skip
def zg5:(ByteArray×AH)→Value
 | (r0,_)=>(Value.string r0)
def zh6 (_:AH):(ByteArray×AH)→AH:=fun r=>r.2
noncomputable def z7n (L:LC) (m:Nat) (H:AH) (a0:Int):Option (ByteArray×AH) :=
 Option.bind (z6o L m H a0 10) fun (x1,H2) =>
 some (x1,H2)
theorem zhh {L:LC} {m:Nat} {H:AH} {a0:Int} {r:(ByteArray×AH)} (h:z7n L m H a0=some r) :
  CallS Tryz.prog (NE.plain 202) m 156 #[(Value.int .i64 a0)] H (zg5 r) (zh6 H r):=by
 refine CallS.mk (args:=[(Value.int .i64 a0)]) Tryz.func156 (B:=B156) (by kernel_rfl) (fun E _=>?_)
 unfold z7n at h
 refine WS.sq (WS.rg (RS.mS 1 [kT 2 (⟨#[]⟩:ByteArray)] (RS.dn (WS.nxt (WS.sq (WS.rg (RS.mS 1 [kI 3 a0] ?_)))))))
 obtain ⟨⟨x1,H2⟩,hx,h⟩:=bind_some h
 try dsimp only at h
 refine RS.cl (some 4) (v:=(Value.string x1)) 203 #[(Value.int .i64 a0),(Value.int .i64 10)] (zfo hx) (RS.mS 1 [kT 2 x1] (RS.dn (WS.nxt (WS.rt ?_))))
 cases h
 exact fun a w hs=>rtR (rS hs)
noncomputable def B110:Code:=(Tryz.f110.body).getD .skip
def zjq:(ByteArray×AH)→Value
 | (r0,_)=>(Value.string r0)
def zkh (_:AH):(ByteArray×AH)→AH:=fun r=>r.2
noncomputable def zcc (L:LC) (m:Nat) (H:AH) (a0:Int):Option (ByteArray×AH) :=
 Option.bind (z7n L m H a0) fun (x1,H2) =>
 some (x1,H2)
theorem zke {L:LC} {m:Nat} {H:AH} {a0:Int} {r:(ByteArray×AH)} (h:zcc L m H a0=some r) :
  CallS Tryz.prog (NE.plain 202) m 110 #[(Value.int .i64 a0)] H (zjq r) (zkh H r):=by
 refine CallS.mk (args:=[(Value.int .i64 a0)]) Tryz.func110 (B:=B110) (by kernel_rfl) (fun E _=>?_)
 unfold zcc at h
 refine WS.sq (WS.rg (RS.mS 1 [kT 2 (⟨#[]⟩:ByteArray)] (RS.dn (WS.nxt (WS.sq (WS.rg (RS.mS 1 [kI 3 a0] ?_)))))))
 obtain ⟨⟨x1,H2⟩,hx,h⟩:=bind_some h
 try dsimp only at h
 refine RS.cl (some 4) (v:=(Value.string x1)) 156 #[(Value.int .i64 a0)] (zhh hx) (RS.mS 1 [kT 2 x1] (RS.dn (WS.nxt (WS.rt ?_))))
 cases h
 exact fun a w hs=>rtR (rS hs)
noncomputable def B108:Code:=(Tryz.f108.body).getD .skip
def zl7:AH→Value
 | _=>(Value.tuple #[])
def zmn (_:AH):AH→AH:=fun r=>r
noncomputable def zbn (L:LC) (m:Nat) (H:AH) (a0:Int) (a1:Option Addr):Option AH :=
 Option.bind (zcc L m H a0) fun (x1,H2) =>
 Option.bind (zq L m H2 a1 x1) fun (_,_,H5) =>
 Option.bind (zu L m H5 a1 32) fun (_,H7) =>
 some H7
theorem zgl {L:LC} {m:Nat} {H:AH} {a0:Int} {a1:Option Addr} {r:AH} (h:zbn L m H a0 a1=some r) :
  CallS Tryz.prog (NE.plain 202) m 108 #[(Value.int .i64 a0),(Value.pointer a1)] H (zl7 r) (zmn H r):=by
 refine CallS.mk (args:=[(Value.int .i64 a0),(Value.pointer a1)]) Tryz.func108 (B:=B108) (by kernel_rfl) (fun E _=>?_)
 unfold zbn at h
 refine WS.sq (WS.rg (RS.mS 1 [kI 3 a0] ?_))
 obtain ⟨⟨x1,H2⟩,hx,h⟩:=bind_some h
 try dsimp only at h
 refine RS.cl (some 4) (v:=(Value.string x1)) 110 #[(Value.int .i64 a0)] (zke hx) ?_
 obtain ⟨⟨x3,x4,H5⟩,hx,h⟩:=bind_some h
 try dsimp only at h
 refine RS.cl (some 5) (v:=(Value.tuple #[(Value.int .i64 x3),x4])) 109 #[(Value.pointer a1),(Value.string x1)] (z1f hx) (RS.dn (WS.nxt (WS.rg ?_)))
 obtain ⟨⟨x6,H7⟩,hx,h⟩:=bind_some h
 try dsimp only at h
 refine RS.cl (some 6) (v:=x6) 111 #[(Value.pointer a1),(Value.int .u8 32)] (z1u hx) (RS.dn ?_)
 cases h
 exact fun a w hs=>rtN (rS hs)
noncomputable def B195:Code:=(Tryz.f195.body).getD .skip
def zd4:Bool→Value
 | r0=>(Value.bool r0)
def zed (H:AH):Bool→AH:=fun _=>H
noncomputable def z4u (_L:LC) (H:AH) (a0_0:ByteArray) (_a0_1:Sl3) (_a0_2 _a0_3:Int) (_a0_4:ByteArray) (_a0_5:Sl3) (a1:Option Addr):Option Bool :=
 Option.bind a1 fun q1 =>
 Option.bind (rd deS H q1) fun x2 =>
 some (a0_0.toList == x2.toList)
theorem ze0 {L:LC} {m:Nat} {H:AH} {a0_0:ByteArray} {a0_1:Sl3} {a0_2 a0_3:Int} {a0_4:ByteArray} {a0_5:Sl3} {a1:Option Addr} {r:Bool} (h:z4u L H a0_0 a0_1 a0_2 a0_3 a0_4 a0_5 a1=some r) :
  CallS Tryz.prog (NE.plain 202) m 195 #[(Value.agg #[(Value.string a0_0),(Sl3.v a0_1),(Value.int .i64 a0_2),(Value.int .i64 a0_3),(Value.string a0_4),(Sl3.v a0_5)]),(Value.pointer a1)] H (zd4 r) (zed H r):=by
 refine CallS.mk (args:=[(Value.agg #[(Value.string a0_0),(Sl3.v a0_1),(Value.int .i64 a0_2),(Value.int .i64 a0_3),(Value.string a0_4),(Sl3.v a0_5)]),(Value.pointer a1)]) Tryz.func195 (B:=B195) (by kernel_rfl) (fun E _=>?_)
 unfold z4u at h
 refine WS.sq (WS.rg (RS.mL 2 [kB 3 false,kL 2 0 0] ([some (84,[(Value.string a0_0),(Sl3.v a0_1),(Value.int .i64 a0_2),(Value.int .i64 a0_3),(Value.string a0_4),(Sl3.v a0_5)])]) (RS.dn (WS.nxt (WS.sq (WS.rg (RS.mS 2 [kT 5 a0_0,kL 4 0 0] ?_)))))))
 obtain ⟨q1,hx,hq1⟩:=bind_some h
 subst hx
 have h:=hq1
 obtain ⟨x2,hx,h⟩:=bind_some h
 refine RS.ld 6 9 (.tmp 1) (z1 hx zl) (RS.mS 2 [kB 3 (a0_0.toList == x2.toList),kB 7 (a0_0.toList == x2.toList)] (RS.dn (WS.nxt (WS.rt ?_))))
 cases h
 exact fun a w hs=>rtR (rS hs)
noncomputable def B194:Code:=(Tryz.f194.body).getD .skip
def z3j:Int→Value
 | r0=>(Value.int .i64 r0)
def z3t (H:AH):Int→AH:=fun _=>H
noncomputable def z1s (L:LC) (H:AH) (a0:Sl3) (a1_0:Option Addr):Int→Option (Lp Int Int):=fun v8_1 =>
 if v8_1<(a0.n:Int) then
  Option.bind (idxA 6 a0 v8_1) fun p2 =>
  Option.bind (rd deS H (Addr.add p2 0)) fun x3_0 =>
  Option.bind (rd deSl H (Addr.add p2 1)) fun x3_1 =>
  Option.bind (rd (deI .i64) H (Addr.add p2 2)) fun x3_2 =>
  Option.bind (rd (deI .i64) H (Addr.add p2 3)) fun x3_3 =>
  Option.bind (rd deS H (Addr.add p2 4)) fun x3_4 =>
  Option.bind (rd deSl H (Addr.add p2 5)) fun x3_5 =>
  Option.bind (z4u L H x3_0 x3_1 x3_2 x3_3 x3_4 x3_5 a1_0) fun x4 =>
  if x4=true then
   some (.ret v8_1)
  else
   some (.next (IntKind.i64.wrap (v8_1+1)))
 else
  none
def z80 (_L:LC) (_H:AH) (a0:Sl3) (a1_0:Option Addr):Int→KN×Lcs:=fun v8_1=>([kI 8 v8_1,kS 0 a0,(1,.val (Value.func (.func 195) #[] #[(Value.pointer a1_0)])),kI 7 (a0.n:Int)],[])
noncomputable def z2i (L:LC) (H:AH) (a0:Sl3) (a1_0:Option Addr):Option Int :=
 Option.bind (L.run (z1s L H a0 a1_0) 0) fun o=>match o with
 | .inl _ =>
  some (-1)
 | .inr r=>some r
theorem z2s {E m L H a0 a1_0} :LoopF Tryz.prog (NE.plain 202) m E Tryz.f194 ((cfst (csnd (cfst (csnd B194))))) (z80 L H a0 a1_0) (fun _=>H) 0 z3j (z3t H) (z1s L H a0 a1_0):=by
 rintro v8_1 o h
 unfold z1s at h
 try dsimp only at h
 refine WS.sq (WS.rg (RS.mS 1 [kB 9 (decide (v8_1<(a0.n:Int)))] (RS.dn (WS.nxt (WS.sq ?_)))))
 rcases z0 h with ⟨hp,h⟩ | ⟨hp,h⟩
 ·refine WS.fx 9 true (decide_eq_true hp) (WS.cT (WS.sk (WS.nxt (WS.sq (WS.bk 1 (WS.sq (WS.rg (RS.mS 2 [kI 5 v8_1,kI 10 v8_1] (RS.dn ?_)))))))))
  refine WS.nxt (WS.sq (WS.rg (RS.mS 3 [kI 13 v8_1,kS 12 a0,(11,.val (Value.func (.func 195) #[] #[(Value.pointer a1_0)]))] ?_)))
  obtain ⟨p2,hx,h⟩:=bind_some h
  refine RS.ix 14 25 84 (.tmp 12) (.tmp 13) hx ?_
  obtain ⟨x3_0,hx0,h⟩:=bind_some h
  obtain ⟨x3_1,hx1,h⟩:=bind_some h
  obtain ⟨x3_2,hx2,h⟩:=bind_some h
  obtain ⟨x3_3,hx3,h⟩:=bind_some h
  obtain ⟨x3_4,hx4,h⟩:=bind_some h
  obtain ⟨x3_5,hx5,h⟩:=bind_some h
  refine RS.la 15 84 (.tmp 14) 6 (z3 (z1 hx0 zl) (z3 (z1 hx1 z6) (z3 (z1 hx2 z8) (z3 (z1 hx3 z8) (z3 (z1 hx4 zl) (z3 (z1 hx5 z6) z30)))))) ?_
  obtain ⟨x4,hx,h⟩:=bind_some h
  refine RS.cl (some 16) (v:=(Value.bool x4)) 195 #[(Value.agg #[(Value.string x3_0),(Sl3.v x3_1),(Value.int .i64 x3_2),(Value.int .i64 x3_3),(Value.string x3_4),(Sl3.v x3_5)]),(Value.pointer a1_0)] (ze0 hx) (RS.dn (WS.nxt ?_))
  rcases z0 h with ⟨hp,h⟩ | ⟨hp,h⟩
  ·refine WS.fx 16 true hp (WS.cT (WS.sq (WS.rg (RS.mS 2 [kI 4 v8_1,kI 17 v8_1] (RS.dn (WS.nxt (WS.rt ?_)))))))
   cases h
   exact fun a w hs=>bkR (sqR (lsR rfl (rS hs)))
  ·refine WS.fx 16 false (b_not hp) (WS.cF (WS.sk ?_))
   refine fun a w hs=>bkN ((WS.nxt ?_ a w hs))
   refine WS.rg (RS.mS 2 [kI 8 (IntKind.i64.wrap (v8_1+1)),kI 18 (IntKind.i64.wrap (v8_1+1))] (RS.dn ?_))
   cases h
   exact fun a w hs=>lsN rfl (hs.sb 0)
 ·refine WS.fx 9 false (decide_eq_false hp) (WS.cF ?_)
  cases h
theorem z9r {L:LC} {m:Nat} {H:AH} {a0:Sl3} {a1_0:Option Addr} {r:Int} (h:z2i L H a0 a1_0=some r) :
  CallS Tryz.prog (NE.plain 202) m 194 #[(Sl3.v a0),(Value.func (.func 195) #[] #[(Value.pointer a1_0)])] H (z3j r) (z3t H r):=by
 refine CallS.mk (args:=[(Sl3.v a0),(Value.func (.func 195) #[] #[(Value.pointer a1_0)])]) Tryz.func194 (B:=B194) (by kernel_rfl) (fun E _=>?_)
 unfold z2i at h
 refine WS.sq (WS.rg (RS.mS 1 [kI 4 0] (RS.dn (WS.nxt (WS.sq (WS.sq (WS.rg (RS.mS 3 [kI 8 0,kI 7 (a0.n:Int),kS 6 a0] (RS.dn ?_)))))))))
 refine WS.nxt (WS.bk 0 ?_)
 obtain ⟨o,hl,h⟩:=bind_some h
 rcases o with v8_5 | r
 ·try dsimp only at h
  refine WS.lI (z2s (L:=L) (E:=E) (m:=m) (H:=H)) (L.ok hl) 0 ?_
  clear hl
  refine fun a w hs=>bkE ((WS.nxt ?_ a w hs))
  refine WS.sq (WS.rg (RS.mS 1 [kI 4 (-1)] (RS.dn (WS.nxt (WS.rt ?_)))))
  cases h
  exact fun a w hs=>rtR (rS hs)
 ·try dsimp only at h
  refine WS.lR (z2s (L:=L) (E:=E) (m:=m) (H:=H)) (L.ok hl) 0 ?_
  cases h
  exact fun a w hq=>bkR (sqR (rtR hq))
noncomputable def B146:Code:=(Tryz.f146.body).getD .skip
def zfc:(Sl3×Int×Int×ByteArray×Sl3×Bool×AH)→Value
 | (r0,r1,r2,r3,r4,r5,_)=>(Value.tuple #[(Sl3.v r0),(Value.agg #[(Value.int .i64 r1),(Value.int .i64 r2),(Value.string r3),(Sl3.v r4)]),(Value.bool r5)])
def zgg (_:AH):(Sl3×Int×Int×ByteArray×Sl3×Bool×AH)→AH:=fun r=>r.2.2.2.2.2.2
noncomputable def z6r (L:LC) (_m:Nat) (H:AH) (a0:Option Addr) (a1:Int) (a2:ByteArray):Option (Sl3×Int×Int×ByteArray×Sl3×Bool×AH) :=
 Option.bind (newB 9 [(Value.string a2)] H) fun (p1,H2) =>
 if a1=11 then
  Option.bind a0 fun q3 =>
  Option.bind (rd deSl H2 (Addr.add (Addr.add q3 0) 2)) fun x4 =>
  Option.bind (z2i L H2 x4 (some p1)) fun x5 =>
  if x5<0 then
   none
  else
   Option.bind (rd deSl H2 (Addr.add (Addr.add q3 0) 2)) fun x6 =>
   Option.bind (idxA 6 x6 x5) fun p7 =>
   Option.bind (rd deSl H2 (Addr.add p7 1)) fun x8 =>
   Option.bind (rd deSl H2 (Addr.add (Addr.add q3 0) 2)) fun x9 =>
   Option.bind (idxA 6 x9 x5) fun p10 =>
   Option.bind (rd (deI .i64) H2 (Addr.add (Addr.add p10 2) 0)) fun x11_0 =>
   Option.bind (rd (deI .i64) H2 (Addr.add (Addr.add p10 2) 1)) fun x11_1 =>
   Option.bind (rd deS H2 (Addr.add (Addr.add p10 2) 2)) fun x11_2 =>
   Option.bind (rd deSl H2 (Addr.add (Addr.add p10 2) 3)) fun x11_3 =>
   some (x8,x11_0,x11_1,x11_2,x11_3,true,H2)
 else
  none
theorem z86 {L:LC} {m:Nat} {H:AH} {a0:Option Addr} {a1:Int} {a2:ByteArray} {r:(Sl3×Int×Int×ByteArray×Sl3×Bool×AH)} (h:z6r L m H a0 a1 a2=some r) :
  CallS Tryz.prog (NE.plain 202) m 146 #[(Value.pointer a0),(Value.int .i64 a1),(Value.string a2)] H (zfc r) (zgg H r):=by
 refine CallS.mk (args:=[(Value.pointer a0),(Value.int .i64 a1),(Value.string a2)]) Tryz.func146 (B:=B146) (by kernel_rfl) (fun E _=>?_)
 unfold z6r at h
 refine WS.sq (WS.rg ?_)
 obtain ⟨⟨p1,H2⟩,hx,h⟩:=bind_some h
 try dsimp only at h
 refine RS.o (H':=H2) (some 5) (Value.pointer (some p1)) (Abs.run_newB (by kernel_rfl) hx) (RS.mL 3 [kB 8 false,kL 7 0 0,kS 6 Sl3.nil] ([some (68,[(Value.int .i64 0),(Value.int .i64 0),(Value.string (⟨#[]⟩:ByteArray)),(Sl3.v Sl3.nil)])]) (RS.dn (WS.nxt (WS.sq (WS.sq (WS.rg (RS.mS 2 [kB 21 (decide (a1=11)),kI 20 a1] (RS.dn (WS.nxt ?_)))))))))
 rcases z0 h with ⟨hp,h⟩ | ⟨hp,h⟩
 ·refine WS.fx 21 true (decide_eq_true hp) (WS.cT (WS.sq (WS.rg (RS.mS 1 [(22,.val (Value.pointer a0))] ?_))))
  obtain ⟨q3,hx,hq3⟩:=bind_some h
  subst hx
  have h:=hq3
  refine RS.mS 3 [(25,.val (Value.pointer (some (Addr.add (Addr.add q3 0) 2)))),(24,.val (Value.pointer (some (Addr.add q3 0)))),kP 23 q3] ?_
  obtain ⟨x4,hx,h⟩:=bind_some h
  refine RS.ld 26 25 (.tmp 25) (z1 hx z6) (RS.mS 1 [(27,.val (Value.func (.func 195) #[] #[(Value.pointer (some p1))]))] ?_)
  obtain ⟨x5,hx,h⟩:=bind_some h
  refine RS.cl (some 28) (v:=(Value.int .i64 x5)) 194 #[(Sl3.v x4),(Value.func (.func 195) #[] #[(Value.pointer (some p1))])] (z9r hx) (RS.mS 1 [kI 9 x5] (RS.dn (WS.nxt (WS.sq (WS.sq (WS.rg (RS.mS 2 [kB 30 (decide (x5<0)),kI 29 x5] (RS.dn (WS.nxt ?_)))))))))
  rcases z0 h with ⟨hp,h⟩ | ⟨hp,h⟩
  ·refine WS.fx 30 true (decide_eq_true hp) (WS.cT ?_)
   cases h
  ·refine WS.fx 30 false (decide_eq_false hp) (WS.cF (WS.sk (WS.nxt (WS.sq ?_))))
   refine WS.dr [0,1,2,3,4,5,6,7,8,9,10,11,12,13,14,15,16,17] [0,1,3,7,15,0,63,127,255,0,512,1536,3584,7680,0,32256,65024,130560,511,524287,1048575] 21 (fun hcl=>?_)
   refine DA.tK 0 (some 32) (Value.pointer (some q3)) (DA.tK 1 (some 33) (Value.pointer (some q3)) (DA.tK 2 (some 34) (Value.pointer (some (Addr.add q3 0))) (DA.tK 3 (some 35) (Value.pointer (some (Addr.add (Addr.add q3 0) 2))) ?_)))
   obtain ⟨x6,hx,h⟩:=bind_some h
   refine DA.tD 4 (some 36) (Sl3.v x6) (Abs.det_load (t:=25) (x:=.tmp 35) (a:=(Addr.add (Addr.add q3 0) 2)) (by kernel_rfl) (by kernel_rfl) (by kernel_rfl) (by kernel_rfl) (z1 hx z6)) (DA.tK 5 (some 37) (Value.int .i64 x5) ?_)
   obtain ⟨p7,hx,h⟩:=bind_some h
   refine DA.tD 6 (some 38) (Value.pointer (some p7)) (Abs.det_idx (s:=x6) (k:=.i64) (t:=25) (e:=84) (x:=.tmp 36) (y:=.tmp 37) (by kernel_rfl) (by kernel_rfl) (by kernel_rfl) (by kernel_rfl) (by kernel_rfl) hx) (DA.tK 7 (some 39) (Value.pointer (some (Addr.add p7 1))) ?_)
   obtain ⟨x8,hx,h⟩:=bind_some h
   refine DA.tD 8 (some 40) (Sl3.v x8) (Abs.det_load (t:=66) (x:=.tmp 39) (a:=(Addr.add p7 1)) (by kernel_rfl) (by kernel_rfl) (by kernel_rfl) (by kernel_rfl) (z1 hx z6)) (DA.tK 9 (some 41) (Value.pointer (some q3)) (DA.tK 10 (some 42) (Value.pointer (some q3)) (DA.tK 11 (some 43) (Value.pointer (some (Addr.add q3 0))) (DA.tK 12 (some 44) (Value.pointer (some (Addr.add (Addr.add q3 0) 2))) ?_))))
   obtain ⟨x9,hx,h⟩:=bind_some h
   refine DA.tD 13 (some 45) (Sl3.v x9) (Abs.det_load (t:=25) (x:=.tmp 44) (a:=(Addr.add (Addr.add q3 0) 2)) (by kernel_rfl) (by kernel_rfl) (by kernel_rfl) (by kernel_rfl) (z1 hx z6)) (DA.tK 14 (some 46) (Value.int .i64 x5) ?_)
   obtain ⟨p10,hx,h⟩:=bind_some h
   refine DA.tD 15 (some 47) (Value.pointer (some p10)) (Abs.det_idx (s:=x9) (k:=.i64) (t:=25) (e:=84) (x:=.tmp 45) (y:=.tmp 46) (by kernel_rfl) (by kernel_rfl) (by kernel_rfl) (by kernel_rfl) (by kernel_rfl) hx) (DA.tK 16 (some 48) (Value.pointer (some (Addr.add p10 2))) ?_)
   obtain ⟨x11_0,hx0,h⟩:=bind_some h
   obtain ⟨x11_1,hx1,h⟩:=bind_some h
   obtain ⟨x11_2,hx2,h⟩:=bind_some h
   obtain ⟨x11_3,hx3,h⟩:=bind_some h
   refine DA.tD 17 (some 49) (Value.agg #[(Value.int .i64 x11_0),(Value.int .i64 x11_1),(Value.string x11_2),(Sl3.v x11_3)]) (Abs.det_loadA (t:=68) (x:=.tmp 48) (a:=(Addr.add p10 2)) (k:=4) (by kernel_rfl) (by kernel_rfl) (by kernel_rfl) (by kernel_rfl) (z3 (z1 hx0 z8) (z3 (z1 hx1 z8) (z3 (z1 hx2 zl) (z3 (z1 hx3 z6) z30))))) (DA.tP 18 (some 6) (Sl3.v x8) (DA.on 19 (DA.aL 19 none (.val undef) ([some (68,[(Value.int .i64 x11_0),(Value.int .i64 x11_1),(Value.string x11_2),(Sl3.v x11_3)])]) false (DA.tP 20 (some 8) (Value.bool true) (DA.dn (WS.nxt (WS.rt ?_)))))))
   cases h
   exact fun a w hs=>sqR (rtR (rS hs))
 ·refine WS.fx 21 false (decide_eq_false hp) (WS.cF ?_)
  cases h
noncomputable def B148:Code:=(Tryz.f148.body).getD .skip
def zl9:Int→Value
 | r0=>(Value.int .i64 r0)
def zmi (H:AH):Int→AH:=fun _=>H
noncomputable def zg8 (_L:LC) (_H:AH) (a0_0:Int) (_a0_1:ByteArray) (_a0_2:Bool) (_a0_3:Sl3) (_a0_4:Int) (_a0_5:Sl3) (_a0_6 _a0_7:Int) (_a0_8:ByteArray) (_a0_9 _a0_10 _a0_11:Sl3):Option Int :=
 if a0_0=20 then
  none
 else
  if a0_0=40 then
   none
  else
   some 0
theorem zmp {L:LC} {m:Nat} {H:AH} {a0_0:Int} {a0_1:ByteArray} {a0_2:Bool} {a0_3:Sl3} {a0_4:Int} {a0_5:Sl3} {a0_6 a0_7:Int} {a0_8:ByteArray} {a0_9 a0_10 a0_11:Sl3} {r:Int} (h:zg8 L H a0_0 a0_1 a0_2 a0_3 a0_4 a0_5 a0_6 a0_7 a0_8 a0_9 a0_10 a0_11=some r) :
  CallS Tryz.prog (NE.plain 202) m 148 #[(Value.agg #[(Value.int .i64 a0_0),(Value.string a0_1),(Value.bool a0_2),(Sl3.v a0_3),(Value.int .i64 a0_4),(Sl3.v a0_5),(Value.int .i64 a0_6),(Value.int .i64 a0_7),(Value.string a0_8),(Sl3.v a0_9),(Sl3.v a0_10),(Sl3.v a0_11)])] H (zl9 r) (zmi H r):=by
 refine CallS.mk (args:=[(Value.agg #[(Value.int .i64 a0_0),(Value.string a0_1),(Value.bool a0_2),(Sl3.v a0_3),(Value.int .i64 a0_4),(Sl3.v a0_5),(Value.int .i64 a0_6),(Value.int .i64 a0_7),(Value.string a0_8),(Sl3.v a0_9),(Sl3.v a0_10),(Sl3.v a0_11)])]) Tryz.func148 (B:=B148) (by kernel_rfl) (fun E _=>?_)
 unfold zg8 at h
 refine WS.sq (WS.rg (RS.mL 2 [kI 2 0,kL 1 0 0] ([some (70,[(Value.int .i64 a0_0),(Value.string a0_1),(Value.bool a0_2),(Sl3.v a0_3),(Value.int .i64 a0_4),(Sl3.v a0_5),(Value.int .i64 a0_6),(Value.int .i64 a0_7),(Value.string a0_8),(Sl3.v a0_9),(Sl3.v a0_10),(Sl3.v a0_11)])]) (RS.dn (WS.nxt (WS.sq (WS.sq (WS.rg (RS.mS 2 [kI 4 a0_0,kL 3 0 0] (RS.dn ?_)))))))))
 refine WS.nxt (WS.bk 0 (WS.sq (WS.rg (RS.mS 2 [kB 5 (decide (a0_0=20)),kB 6 (decide (a0_0=20))] (RS.dn (WS.nxt ?_))))))
 rcases z0 h with ⟨hp,h⟩ | ⟨hp,h⟩
 ·refine WS.fx 5 true (decide_eq_true hp) (WS.cT ?_)
  cases h
 ·refine WS.fx 5 false (decide_eq_false hp) (WS.cF (WS.sq (WS.rg (RS.mS 2 [kB 12 (decide (a0_0=40)),kB 13 (decide (a0_0=40))] (RS.dn (WS.nxt ?_))))))
  rcases z0 h with ⟨hp,h⟩ | ⟨hp,h⟩
  ·refine WS.fx 12 true (decide_eq_true hp) (WS.cT ?_)
   cases h
  ·refine WS.fx 12 false (decide_eq_false hp) (WS.cF (WS.sk ?_))
   refine fun a w hs=>bkN ((WS.nxt ?_ a w hs))
   refine WS.sq (WS.rg (RS.mS 1 [kI 2 0] (RS.dn (WS.nxt (WS.rt ?_)))))
   cases h
   exact fun a w hs=>rtR (rS hs)
noncomputable def B56:Code:=(Tryz.f56.body).getD .skip
def z3l:(Int×Int×ByteArray×Sl3×AH)→Value
 | (r0,r1,r2,r3,_)=>(Value.agg #[(Value.int .i64 r0),(Value.int .i64 r1),(Value.string r2),(Sl3.v r3)])
def z4h (_:AH):(Int×Int×ByteArray×Sl3×AH)→AH:=fun r=>r.2.2.2.2
noncomputable def z7k (_L:LC) (_a0_0 _a0_1:Int) (_a0_2:ByteArray) (a0_3:Sl3):(AH×Sl3×Int)→Option (Lp (AH×Sl3×Int) (Int×Int×ByteArray×Sl3×AH)):=fun (H1,v3_2,v9_3) =>
 if v9_3<(a0_3.n:Int) then
  none
 else
  some (.brk (H1,v3_2,v9_3))
def zhb (_L:LC) (a0_0 a0_1:Int) (a0_2:ByteArray) (a0_3:Sl3):(AH×Sl3×Int)→KN×Lcs:=fun (_,v3_2,v9_3)=>([kS 3 v3_2,kI 9 v9_3,kL 1 0 0,kL 2 1 0,kS 7 a0_3,kI 8 (a0_3.n:Int)],[some (68,[(Value.int .i64 a0_0),(Value.int .i64 a0_1),(Value.string a0_2),(Sl3.v a0_3)]),some (68,[(Value.int .i64 0),(Value.int .i64 0),(Value.string (⟨#[]⟩:ByteArray)),(Sl3.v Sl3.nil)])])
noncomputable def z5w (L:LC) (_m:Nat) (H:AH) (a0_0 a0_1:Int) (a0_2:ByteArray) (a0_3:Sl3):Option (Int×Int×ByteArray×Sl3×AH) :=
 Option.bind (L.run (z7k L a0_0 a0_1 a0_2 a0_3) (H,Sl3.nil,0)) fun o=>match o with
 | .inl (H4,v3_5,_) =>
  some (a0_0,a0_1,a0_2,v3_5,H4)
 | .inr r=>some r
noncomputable def zbf (L:LC) (n:Nat):(Nat→AH→Int→Int→ByteArray→Sl3→Option (Int×Int×ByteArray×Sl3×AH)):=Nat.rec (motive:=fun _=>(Nat→AH→Int→Int→ByteArray→Sl3→Option (Int×Int×ByteArray×Sl3×AH))) (fun _ _ _ _ _ _=>none) (fun _ _=>z5w L) n
noncomputable def zau (L:LC) (m:Nat) (H:AH) (a0_0 a0_1:Int) (a0_2:ByteArray) (a0_3:Sl3):Option (Int×Int×ByteArray×Sl3×AH):=(zbf L L.fuel) m H a0_0 a0_1 a0_2 a0_3
theorem z9e {E m H L a0_0 a0_1 a0_2 a0_3} :LoopF Tryz.prog (NE.plain 202) m E Tryz.f56 ((cfst (csnd (cfst (csnd (csnd B56)))))) (zhb L a0_0 a0_1 a0_2 a0_3) (fun s=>s.1) 0 z3l (z4h H) (z7k L a0_0 a0_1 a0_2 a0_3):=by
 rintro ⟨H1,v3_2,v9_3⟩ o h
 unfold z7k at h
 try dsimp only at h
 refine WS.sq (WS.rg (RS.mS 1 [kB 10 (decide (v9_3<(a0_3.n:Int)))] (RS.dn (WS.nxt (WS.sq ?_)))))
 rcases z0 h with ⟨hp,h⟩ | ⟨hp,h⟩
 ·refine WS.fx 10 true (decide_eq_true hp) (WS.cT ?_)
  cases h
 ·refine WS.fx 10 false (decide_eq_false hp) (WS.cF (WS.ex 0 ?_))
  cases h
  exact fun a w hs=>sqE (lsB rfl (hs.sb 2))
theorem zf5 {L:LC} {m:Nat} {H:AH} {a0_0 a0_1:Int} {a0_2:ByteArray} {a0_3:Sl3} {r:(Int×Int×ByteArray×Sl3×AH)} (h:z5w L m H a0_0 a0_1 a0_2 a0_3=some r) :
  CallS Tryz.prog (NE.plain 202) m 56 #[(Value.agg #[(Value.int .i64 a0_0),(Value.int .i64 a0_1),(Value.string a0_2),(Sl3.v a0_3)])] H (z3l r) (z4h H r):=by
 refine CallS.mk (args:=[(Value.agg #[(Value.int .i64 a0_0),(Value.int .i64 a0_1),(Value.string a0_2),(Sl3.v a0_3)])]) Tryz.func56 (B:=B56) (by kernel_rfl) (fun E _=>?_)
 unfold z5w at h
 refine WS.sq (WS.rg (RS.mL 2 [kL 2 1 0,kL 1 0 0] ([some (68,[(Value.int .i64 a0_0),(Value.int .i64 a0_1),(Value.string a0_2),(Sl3.v a0_3)]),some (68,[(Value.int .i64 0),(Value.int .i64 0),(Value.string (⟨#[]⟩:ByteArray)),(Sl3.v Sl3.nil)])]) (RS.dn (WS.nxt (WS.sq (WS.rg (RS.mS 1 [kS 3 Sl3.nil] (RS.dn (WS.nxt ?_)))))))))
 refine WS.sq (WS.sq (WS.rg (RS.mS 4 [kI 9 0,kI 8 (a0_3.n:Int),kS 7 a0_3,kL 6 0 3] (RS.dn (WS.nxt (WS.bk 0 ?_))))))
 obtain ⟨o,hl,h⟩:=bind_some h
 rcases o with ⟨H4,v3_5,v9_6⟩ | r
 ·try dsimp only at h
  refine WS.lI (z9e (L:=L) (E:=E) (m:=m) (H:=H)) (L.ok hl) 2 ?_
  clear hl
  refine fun a w hs=>bkE ((WS.nxt ?_ a w hs))
  refine WS.sq (WS.rg (RS.mL 3 [kL 20 0 3,kS 19 v3_5] ([some (68,[(Value.int .i64 a0_0),(Value.int .i64 a0_1),(Value.string a0_2),(Sl3.v v3_5)]),some (68,[(Value.int .i64 0),(Value.int .i64 0),(Value.string (⟨#[]⟩:ByteArray)),(Sl3.v Sl3.nil)])]) (RS.dn (WS.nxt (WS.sq (WS.rg (RS.mL 2 [kA 21 #[(Value.int .i64 a0_0),(Value.int .i64 a0_1),(Value.string a0_2),(Sl3.v v3_5)]] ([some (68,[(Value.int .i64 a0_0),(Value.int .i64 a0_1),(Value.string a0_2),(Sl3.v v3_5)]),some (68,[(Value.int .i64 a0_0),(Value.int .i64 a0_1),(Value.string a0_2),(Sl3.v v3_5)])]) (RS.dn (WS.nxt ?_)))))))))
  refine WS.rt ?_
  cases h
  exact fun a w hs=>rtR (rS hs)
 ·try dsimp only at h
  refine WS.lR (z9e (L:=L) (E:=E) (m:=m) (H:=H)) (L.ok hl) 2 ?_
  cases h
  exact fun a w hq=>bkR (sqR (rtR hq))
theorem zfh {L:LC}:∀n,(∀(m:Nat) (H:AH) (a0_0 a0_1:Int) (a0_2:ByteArray) (a0_3:Sl3) (r:(Int×Int×ByteArray×Sl3×AH)),((zbf L n)) m H a0_0 a0_1 a0_2 a0_3=some r→CallS Tryz.prog (NE.plain 202) m 56 #[(Value.agg #[(Value.int .i64 a0_0),(Value.int .i64 a0_1),(Value.string a0_2),(Sl3.v a0_3)])] H (z3l r) (z4h H r)):=by
 intro n
 induction n with
 | zero=>exact (fun _ _ _ _ _ _ _ h=>(Option.some_ne_none _ h.symm).elim)
 | succ n ih=>exact (fun _ _ _ _ _ _ _ h=>zf5 (L:=L)  h)
theorem z1b {L:LC} {m:Nat} {H:AH} {a0_0 a0_1:Int} {a0_2:ByteArray} {a0_3:Sl3} {r:(Int×Int×ByteArray×Sl3×AH)} (h:zau L m H a0_0 a0_1 a0_2 a0_3=some r) :
  CallS Tryz.prog (NE.plain 202) m 56 #[(Value.agg #[(Value.int .i64 a0_0),(Value.int .i64 a0_1),(Value.string a0_2),(Sl3.v a0_3)])] H (z3l r) (z4h H r) :=
 (zfh _) _ _ _ _ _ _ _ h
noncomputable def B70:Code:=(Tryz.f70.body).getD .skip
def zcu:(Bool×AH)→Value
 | (r0,_)=>(Value.bool r0)
def zcx (_:AH):(Bool×AH)→AH:=fun r=>r.2
noncomputable def z4c (L:LC) (m:Nat) (H:AH) (a0:Option Addr) (a1:Int):Option (Bool×AH) :=
 Option.bind (z15 L m H a0 a1) fun (x1_0,_,_,_,_,_,_,_,_,_,_,_,H2) =>
 if x1_0=1 then
  none
 else
  if x1_0=2 then
   none
  else
   if x1_0=20 then
    none
   else
    if x1_0=40 then
     none
    else
     some (false,H2)
theorem zd6 {L:LC} {m:Nat} {H:AH} {a0:Option Addr} {a1:Int} {r:(Bool×AH)} (h:z4c L m H a0 a1=some r) :
  CallS Tryz.prog (NE.plain 202) m 70 #[(Value.pointer a0),(Value.int .i64 a1)] H (zcu r) (zcx H r):=by
 refine CallS.mk (args:=[(Value.pointer a0),(Value.int .i64 a1)]) Tryz.func70 (B:=B70) (by kernel_rfl) (fun E _=>?_)
 unfold z4c at h
 refine WS.sq (WS.rg (RS.mS 1 [kB 4 false] (RS.dn (WS.nxt (WS.sq (WS.sq (WS.rg (RS.mS 2 [kI 6 a1,(5,.val (Value.pointer a0))] ?_))))))))
 obtain ⟨⟨x1_0,x1_1,x1_2,x1_3,x1_4,x1_5,x1_6,x1_7,x1_8,x1_9,x1_10,x1_11,H2⟩,hx,h⟩:=bind_some h
 try dsimp only at h
 refine RS.cl (some 7) (v:=(Value.agg #[(Value.int .i64 x1_0),(Value.string x1_1),(Value.bool x1_2),(Sl3.v x1_3),(Value.int .i64 x1_4),(Sl3.v x1_5),(Value.int .i64 x1_6),(Value.int .i64 x1_7),(Value.string x1_8),(Sl3.v x1_9),(Sl3.v x1_10),(Sl3.v x1_11)])) 20 #[(Value.pointer a0),(Value.int .i64 a1)] (z10 hx) (RS.mS 1 [kI 8 x1_0] (RS.dn (WS.nxt (WS.bk 0 (WS.sq (WS.sq (WS.rg (RS.mS 2 [kB 9 (decide (x1_0=1)),kB 10 (decide (x1_0=1))] (RS.dn ?_)))))))))
 refine WS.nxt ?_
 rcases z0 h with ⟨hp,h⟩ | ⟨hp,h⟩
 ·refine WS.fx 9 true (decide_eq_true hp) (WS.cT ?_)
  cases h
 ·refine WS.fx 9 false (decide_eq_false hp) (WS.cF (WS.sq (WS.rg (RS.mS 2 [kB 9 (decide (x1_0=2)),kB 11 (decide (x1_0=2))] (RS.dn (WS.nxt ?_))))))
  rcases z0 h with ⟨hp,h⟩ | ⟨hp,h⟩
  ·refine WS.fx 9 true (decide_eq_true hp) (WS.cT ?_)
   cases h
  ·refine WS.fx 9 false (decide_eq_false hp) (WS.cF (WS.sq (WS.rg (RS.mS 2 [kB 9 (decide (x1_0=20)),kB 12 (decide (x1_0=20))] (RS.dn (WS.nxt ?_))))))
   rcases z0 h with ⟨hp,h⟩ | ⟨hp,h⟩
   ·refine WS.fx 9 true (decide_eq_true hp) (WS.cT ?_)
    cases h
   ·refine WS.fx 9 false (decide_eq_false hp) (WS.cF (WS.rg (RS.mS 2 [kB 9 (decide (x1_0=40)),kB 13 (decide (x1_0=40))] (RS.dn (WS.nxt ?_)))))
    rcases z0 h with ⟨hp,h⟩ | ⟨hp,h⟩
    ·refine WS.fx 9 true (decide_eq_true hp) (WS.cT ?_)
     cases h
    ·refine WS.fx 9 false (decide_eq_false hp) (WS.cF (WS.sk ?_))
     refine fun a w hs=>bkN ((WS.nxt ?_ a w hs))
     refine WS.sq (WS.rg (RS.mS 1 [kB 4 false] (RS.dn (WS.nxt (WS.rt ?_)))))
     cases h
     exact fun a w hs=>rtR (rS hs)
noncomputable def B69:Code:=(Tryz.f69.body).getD .skip
def za8:(Bool×AH)→Value
 | (r0,_)=>(Value.bool r0)
def zat (_:AH):(Bool×AH)→AH:=fun r=>r.2
noncomputable def z2x (L:LC) (m:Nat) (H:AH) (a0:Int) (a1:Option Addr):Option (Bool×AH) :=
 Option.bind a1 fun q1 =>
 Option.bind (rd deP H q1) fun x2 =>
 Option.bind (z4c L m H x2 a0) fun (x3,H4) =>
 some ((!x3),H4)
theorem zb2 {L:LC} {m:Nat} {H:AH} {a0:Int} {a1:Option Addr} {r:(Bool×AH)} (h:z2x L m H a0 a1=some r) :
  CallS Tryz.prog (NE.plain 202) m 69 #[(Value.int .i64 a0),(Value.pointer a1)] H (za8 r) (zat H r):=by
 refine CallS.mk (args:=[(Value.int .i64 a0),(Value.pointer a1)]) Tryz.func69 (B:=B69) (by kernel_rfl) (fun E _=>?_)
 unfold z2x at h
 refine WS.sq (WS.rg (RS.mS 1 [kB 3 false] (RS.dn (WS.nxt (WS.sq (WS.rg ?_))))))
 obtain ⟨q1,hx,hq1⟩:=bind_some h
 subst hx
 have h:=hq1
 obtain ⟨x2,hx,h⟩:=bind_some h
 refine RS.ld 4 44 (.tmp 1) (z1 hx z31) (RS.mS 1 [kI 5 a0] ?_)
 obtain ⟨⟨x3,H4⟩,hx,h⟩:=bind_some h
 try dsimp only at h
 refine RS.cl (some 6) (v:=(Value.bool x3)) 70 #[(Value.pointer x2),(Value.int .i64 a0)] (zd6 hx) (RS.mS 2 [kB 3 (!x3),kB 7 (!x3)] (RS.dn (WS.nxt (WS.rt ?_))))
 cases h
 exact fun a w hs=>rtR (rS hs)
end Go.Proofs.YtfbinmgldpnjhaaGreatDoor
namespace Go.Proofs.YtfbinmgldpnjhaaGreatDoor
open Go Go.Abs
set_option maxRecDepth 100000
noncomputable def B103:Code:=(Tryz.f103.body).getD .skip
noncomputable def B116:Code:=(Tryz.f116.body).getD .skip
noncomputable def B147:Code:=(Tryz.f147.body).getD .skip
noncomputable def B21:Code:=(Tryz.f21.body).getD .skip
noncomputable def B28:Code:=(Tryz.f28.body).getD .skip
noncomputable def B49:Code:=(Tryz.f49.body).getD .skip
noncomputable def B61:Code:=(Tryz.f61.body).getD .skip
noncomputable def B63:Code:=(Tryz.f63.body).getD .skip
noncomputable def B68:Code:=(Tryz.f68.body).getD .skip
def z33:(Sl3×Int×Int×ByteArray×Sl3×Int×AH)→Value
 | (r0,r1,r2,r3,r4,r5,_)=>(Value.tuple #[(Sl3.v r0),(Value.agg #[(Value.int .i64 r1),(Value.int .i64 r2),(Value.string r3),(Sl3.v r4)]),(Value.int .i64 r5)])
def z3m (_:AH):(Sl3×Int×Int×ByteArray×Sl3×Int×AH)→AH:=fun r=>r.2.2.2.2.2.2
def z11:(Int×AH)→Value
 | (r0,_)=>(Value.int .i64 r0)
def z17 (_:AH):(Int×AH)→AH:=fun r=>r.2
def z41:(Bool×AH)→Value
 | (r0,_)=>(Value.bool r0)
def z4b (_:AH):(Bool×AH)→AH:=fun r=>r.2
def z1i:(Int×AH)→Value
 | (r0,_)=>(Value.int .i64 r0)
def z1o (_:AH):(Int×AH)→AH:=fun r=>r.2
def z38:(Int×Int×AH)→Value
 | (r0,r1,_)=>(Value.tuple #[(Value.int .i64 r0),(Value.int .i64 r1)])
def z3k (_:AH):(Int×Int×AH)→AH:=fun r=>r.2.2
def z3p:(Int×AH)→Value
 | (r0,_)=>(Value.int .i64 r0)
def z49 (_:AH):(Int×AH)→AH:=fun r=>r.2
def z1e:(Int×Int×ByteArray×Sl3×Int×AH)→Value
 | (r0,r1,r2,r3,r4,_)=>(Value.tuple #[(Value.agg #[(Value.int .i64 r0),(Value.int .i64 r1),(Value.string r2),(Sl3.v r3)]),(Value.int .i64 r4)])
def z1n (_:AH):(Int×Int×ByteArray×Sl3×Int×AH)→AH:=fun r=>r.2.2.2.2.2
def z5n:(ByteArray×AH)→Value
 | (r0,_)=>(Value.string r0)
def z6t (_:AH):(ByteArray×AH)→AH:=fun r=>r.2
def z22:(Bool×AH)→Value
 | (r0,_)=>(Value.bool r0)
def z2a (_:AH):(Bool×AH)→AH:=fun r=>r.2
noncomputable def z6f (_L:LC) (a0:Option Addr) (_a1_0:Int) (_a1_1:ByteArray) (_a1_2:Bool) (_a1_3:Sl3) (_a1_4:Int) (_a1_5:Sl3) (_a1_6 _a1_7:Int) (_a1_8:ByteArray) (_a1_9 _a1_10 a1_11:Sl3) (_x3:Int) (H5:AH) (_v11_8:Sl3) (_w2_13 _w2_14:Int) (_w2_15:ByteArray) (_w2_16:Sl3):(Int×Int×Int×ByteArray×Sl3)→Option (Lp (Int×Int×Int×ByteArray×Sl3) (Sl3×Int×Int×ByteArray×Sl3×Int×AH)):=fun (v67_22,w1_23,w1_24,w1_25,w1_26) =>
 if v67_22<(a1_11.n:Int) then
  Option.bind (idxA 1 a1_11 v67_22) fun p27 =>
  Option.bind (rd (deI .i64) H5 p27) fun x28 =>
  if x28<0 then
   none
  else
   Option.bind a0 fun q29 =>
   Option.bind (rd deSl H5 (Addr.add q29 3)) fun x30 =>
   if x28≥(x30.n:Int) then
    none
   else
    some (.next ((IntKind.i64.wrap (v67_22+1)),w1_23,w1_24,w1_25,w1_26))
 else
  some (.brk (v67_22,w1_23,w1_24,w1_25,w1_26))
def zg0 (_L:LC) (a0:Option Addr) (a1_0:Int) (a1_1:ByteArray) (a1_2:Bool) (a1_3:Sl3) (a1_4:Int) (a1_5:Sl3) (a1_6 a1_7:Int) (a1_8:ByteArray) (a1_9 a1_10 a1_11:Sl3) (x3:Int) (_H5:AH) (v11_8:Sl3) (w2_13 w2_14:Int) (w2_15:ByteArray) (w2_16:Sl3):(Int×Int×Int×ByteArray×Sl3)→KN×Lcs:=fun (v67_22,w1_23,w1_24,w1_25,w1_26)=>([kI 67 v67_22,(0,.val (Value.pointer a0)),kL 3 0 0,kL 5 1 0,kI 9 x3,kS 11 v11_8,kL 12 2 0,kS 65 a1_11,kI 66 (a1_11.n:Int)],[some (70,[(Value.int .i64 a1_0),(Value.string a1_1),(Value.bool a1_2),(Sl3.v a1_3),(Value.int .i64 a1_4),(Sl3.v a1_5),(Value.int .i64 a1_6),(Value.int .i64 a1_7),(Value.string a1_8),(Sl3.v a1_9),(Sl3.v a1_10),(Sl3.v a1_11)]),some (68,[(Value.int .i64 w1_23),(Value.int .i64 w1_24),(Value.string w1_25),(Sl3.v w1_26)]),some (68,[(Value.int .i64 w2_13),(Value.int .i64 w2_14),(Value.string w2_15),(Sl3.v w2_16)])])
noncomputable def z53 (L:LC) (rec_term_Table_params:Nat→AH→(Option Addr)→Int→ByteArray→Bool→Sl3→Int→Sl3→Int→Int→ByteArray→Sl3→Sl3→Sl3→Int→Option (Bool×AH)) (m:Nat) (H:AH) (a0:Option Addr) (a1_0:Int) (a1_1:ByteArray) (a1_2:Bool) (a1_3:Sl3) (a1_4:Int) (a1_5:Sl3) (a1_6 a1_7:Int) (a1_8:ByteArray) (a1_9 a1_10 a1_11:Sl3):Option (Sl3×Int×Int×ByteArray×Sl3×Int×AH) :=
 Option.bind (zdi L a1_0) fun (x1,x2,x3,x4) =>
 if x4=true then
  Option.bind (α:=(AH×Int×Int×Sl3×Int×Int×ByteArray×Sl3×Int×Int×ByteArray×Sl3)⊕(Sl3×Int×Int×ByteArray×Sl3×Int×AH)) (
   Option.bind (α:=Bool) (
    if a1_0≥11 then
     some (decide (a1_0≤14))
    else
     some false) fun v33_17 =>
   if v33_17=true then
    Option.bind (z6r L m H a0 a1_0 a1_1) fun (x18,x19_0,x19_1,x19_2,x19_3,x20,H21) =>
    if x20=true then
     some (.inl (H21,(x18.n:Int),(x18.n:Int),x18,0,0,(⟨#[]⟩:ByteArray),Sl3.nil,x19_0,x19_1,x19_2,x19_3))
    else
     none
   else
    some (.inl (H,x1,x2,Sl3.nil,0,0,(⟨#[]⟩:ByteArray),Sl3.nil,0,0,(⟨#[]⟩:ByteArray),Sl3.nil))) fun o=>match o with
  | .inl (H5,v7_6,v8_7,v11_8,w1_9,w1_10,w1_11,w1_12,w2_13,w2_14,w2_15,w2_16) =>
   if (a1_11.n:Int)<v7_6 then
    none
   else
    if (a1_11.n:Int) > v8_7 then
     none
    else
     Option.bind (L.run (z6f L a0 a1_0 a1_1 a1_2 a1_3 a1_4 a1_5 a1_6 a1_7 a1_8 a1_9 a1_10 a1_11 x3 H5 v11_8 w2_13 w2_14 w2_15 w2_16) (0,w1_9,w1_10,w1_11,w1_12)) fun o=>match o with
     | .inl (_,_,_,_,_) =>
      Option.bind (rec_term_Table_params m H5 a0 a1_0 a1_1 a1_2 a1_3 a1_4 a1_5 a1_6 a1_7 a1_8 a1_9 a1_10 a1_11 x3) fun (x36,H37) =>
      if x36=true then
       Option.bind (zg8 L H37 a1_0 a1_1 a1_2 a1_3 a1_4 a1_5 a1_6 a1_7 a1_8 a1_9 a1_10 a1_11) fun x38 =>
       some (v11_8,w2_13,w2_14,w2_15,w2_16,x38,H37)
      else
       none
     | .inr r=>some r
  | .inr r=>some r
 else
  none
noncomputable def z20 (L:LC) (m:Nat) (a0:Sl3) (a1_0:Option Addr):(AH×Int)→Option (Lp (AH×Int) (Int×AH)):=fun (H1,v8_2) =>
 if v8_2<(a0.n:Int) then
  Option.bind (idxA 1 a0 v8_2) fun p3 =>
  Option.bind (rd (deI .i64) H1 p3) fun x4 =>
  Option.bind (z2x L m H1 x4 a1_0) fun (x5,H6) =>
  if x5=true then
   some (.ret (v8_2,H6))
  else
   none
 else
  none
def z8p (_L:LC) (_m:Nat) (a0:Sl3) (a1_0:Option Addr):(AH×Int)→KN×Lcs:=fun (_,v8_2)=>([kI 8 v8_2,kS 0 a0,(1,.val (Value.func (.func 69) #[] #[(Value.pointer a1_0)])),kI 7 (a0.n:Int)],[])
noncomputable def z1k (L:LC) (m:Nat) (H:AH) (a0:Sl3) (a1_0:Option Addr):Option (Int×AH) :=
 Option.bind (L.run (z20 L m a0 a1_0) (H,0)) fun o=>match o with
 | .inl (H7,_) =>
  some ((-1),H7)
 | .inr r=>some r
noncomputable def z3g (_L:LC) (_m:Nat) (H:AH) (_a0:Option Addr) (a1_0:Int) (_a1_1:ByteArray) (_a1_2:Bool) (_a1_3:Sl3) (_a1_4:Int) (_a1_5:Sl3) (_a1_6 _a1_7:Int) (_a1_8:ByteArray) (_a1_9 _a1_10 _a1_11:Sl3) (a2:Int):Option (Bool×AH) :=
 if a1_0=34 then
  none
 else
  if a2=0 then
   some (true,H)
  else
   none
noncomputable def z42 (_L:LC) (rec_term_Table_Add:Nat→AH→(Option Addr)→Int→ByteArray→Bool→Sl3→Int→Sl3→Int→Int→ByteArray→Sl3→Sl3→Sl3→Option (Int×Int×AH)) (m:Nat) (H:AH) (a0:Option Addr) (a1_0:Int) (a1_1:ByteArray) (a1_2:Bool) (a1_3:Sl3) (a1_4:Int) (a1_5:Sl3) (a1_6 a1_7:Int) (a1_8:ByteArray) (a1_9 a1_10 a1_11:Sl3):Option (Int×AH) :=
 Option.bind a0 fun q1 =>
 Option.bind (rd deP H (Addr.add q1 0)) fun x2 =>
 Option.bind (rec_term_Table_Add m H x2 a1_0 a1_1 a1_2 a1_3 a1_4 a1_5 a1_6 a1_7 a1_8 a1_9 a1_10 a1_11) fun (x3,x4,H5) =>
 if x4=0 then
  some (x3,H5)
 else
  none
noncomputable def z4n (L:LC) (rec_term_Table_check:Nat→AH→(Option Addr)→Int→ByteArray→Bool→Sl3→Int→Sl3→Int→Int→ByteArray→Sl3→Sl3→Sl3→Option (Int×Int×ByteArray×Sl3×Int×AH)) (rec_term_key:Nat→AH→Int→ByteArray→Bool→Sl3→Int→Sl3→Int→Int→ByteArray→Sl3→Sl3→Sl3→Option (ByteArray×AH)) (m:Nat) (H:AH) (a0:Option Addr) (a1_0:Int) (a1_1:ByteArray) (a1_2:Bool) (a1_3:Sl3) (a1_4:Int) (a1_5:Sl3) (a1_6 a1_7:Int) (a1_8:ByteArray) (a1_9 a1_10 a1_11:Sl3):Option (Int×Int×AH) :=
 Option.bind (z27 L H a0) fun x1 =>
 if x1=true then
  Option.bind (rec_term_Table_check m H a0 a1_0 a1_1 a1_2 a1_3 a1_4 a1_5 a1_6 a1_7 a1_8 a1_9 a1_10 a1_11) fun (x2_0,x2_1,x2_2,x2_3,x3,H4) =>
  if x3=0 then
   Option.bind (zbo L m H4 a1_0 a1_1 a1_2 a1_3 a1_4 a1_5 a1_6 a1_7 a1_8 a1_9 a1_10 a1_11) fun (x5_0,x5_1,x5_2,x5_3,x5_4,x5_5,x5_6,x5_7,x5_8,x5_9,x5_10,x5_11,H6) =>
   Option.bind (rec_term_key m H6 x5_0 x5_1 x5_2 x5_3 x5_4 x5_5 x5_6 x5_7 x5_8 x5_9 x5_10 x5_11) fun (x7,H8) =>
   Option.bind a0 fun q9 =>
   Option.bind (rd deM H8 (Addr.add q9 4)) fun x10 =>
   Option.bind (lkM Tryz.prog 29 (deI .i64) H8 x10 (Value.string x7)) fun (x11,b12) =>
   if b12=true then
    some (x11,0,H8)
   else
    Option.bind (rd deSl H8 (Addr.add q9 3)) fun x13 =>
    if (x13.n:Int)≥1048576 then
     none
    else
     Option.bind (rd deM H8 (Addr.add q9 4)) fun x14 =>
     Option.bind (rd deSl H8 (Addr.add q9 3)) fun x15 =>
     Option.bind (upM Tryz.prog m 29 H8 x14 (Value.string x7) (Value.int .i64 (x15.n:Int))) fun H16 =>
     Option.bind (rd deSl H16 (Addr.add q9 3)) fun x17 =>
     Option.bind (zau L (Nat.max m H16.next) H16 x2_0 x2_1 x2_2 x2_3) fun (x18_0,x18_1,x18_2,x18_3,H19) =>
     Option.bind (newS 99 [(Value.int .i64 x5_0),(Value.string x5_1),(Value.bool x5_2),(Sl3.v x5_3),(Value.int .i64 x5_4),(Sl3.v x5_5),(Value.int .i64 x5_6),(Value.int .i64 x5_7),(Value.string x5_8),(Sl3.v x5_9),(Sl3.v x5_10),(Sl3.v x5_11),(Value.int .i64 x18_0),(Value.int .i64 x18_1),(Value.string x18_2),(Sl3.v x18_3)] H19) fun (k20,H21) =>
     Option.bind (appS m 99 16 248 H21 x17 (⟨some ⟨k20,0,none⟩,1,1⟩:Sl3)) fun (s22,H23) =>
     Option.bind (H23.setCell m (Addr.add q9 3) (Sl3.v s22)) fun H24 =>
     Option.bind (rd deSl H24 (Addr.add q9 3)) fun x25 =>
     some ((IntKind.i64.wrap ((x25.n:Int) - 1)),0,H24)
  else
   none
 else
  none
noncomputable def z3f (_L:LC) (rec_rewrite_desk_add:Nat→AH→(Option Addr)→Int→ByteArray→Bool→Sl3→Int→Sl3→Int→Int→ByteArray→Sl3→Sl3→Sl3→Option (Int×AH)) (m:Nat) (H:AH) (a0:Option Addr) (a1:Int) (a2:Sl3):Option (Int×AH) :=
 Option.bind (rec_rewrite_desk_add m H a0 a1 (⟨#[]⟩:ByteArray) false Sl3.nil 0 Sl3.nil 0 0 (⟨#[]⟩:ByteArray) Sl3.nil Sl3.nil a2) fun (x1,H2) =>
 some (x1,H2)
noncomputable def z54 (_L:LC) (m:Nat) (a0:Option Addr) (_a1_0:Int) (_a1_1:ByteArray) (_a1_2:Bool) (_a1_3:Sl3) (_a1_4:Int) (_a1_5:Sl3) (_a1_6 _a1_7:Int) (_a1_8:ByteArray) (_a1_9 _a1_10:Sl3) (a1_11 _x1:Sl3) (_x2_0 _x2_1:Int) (_x2_2:ByteArray) (_x2_3:Sl3):(AH×Sl3×Int)→Option (Lp (AH×Sl3×Int) (Int×Int×ByteArray×Sl3×Int×AH)):=fun (H5,v9_6,v30_7) =>
 if v30_7<(a1_11.n:Int) then
  Option.bind (idxA 1 a1_11 v30_7) fun p8 =>
  Option.bind (rd (deI .i64) H5 p8) fun x9 =>
  Option.bind a0 fun q10 =>
  Option.bind (rd deSl H5 (Addr.add q10 3)) fun x11 =>
  Option.bind (idxA 16 x11 x9) fun p12 =>
  Option.bind (rd (deI .i64) H5 (Addr.add (Addr.add p12 12) 0)) fun x13_0 =>
  Option.bind (rd (deI .i64) H5 (Addr.add (Addr.add p12 12) 1)) fun x13_1 =>
  Option.bind (rd deS H5 (Addr.add (Addr.add p12 12) 2)) fun x13_2 =>
  Option.bind (rd deSl H5 (Addr.add (Addr.add p12 12) 3)) fun x13_3 =>
  Option.bind (newR 68 1 #[(Value.int .i64 x13_0),(Value.int .i64 x13_1),(Value.string x13_2),(Sl3.v x13_3)] H5) fun (s14,H15) =>
  Option.bind (appS m 68 4 56 H15 v9_6 s14) fun (s16,H17) =>
  some (.next (H17,s16,(IntKind.i64.wrap (v30_7+1))))
 else
  some (.brk (H5,v9_6,v30_7))
def ze2 (_L:LC) (_m:Nat) (a0:Option Addr) (a1_0:Int) (a1_1:ByteArray) (a1_2:Bool) (a1_3:Sl3) (a1_4:Int) (a1_5:Sl3) (a1_6 a1_7:Int) (a1_8:ByteArray) (a1_9 a1_10:Sl3) (a1_11 x1:Sl3) (x2_0 x2_1:Int) (x2_2:ByteArray) (x2_3:Sl3):(AH×Sl3×Int)→KN×Lcs:=fun (_,v9_6,v30_7)=>([kS 9 v9_6,kI 30 v30_7,(0,.val (Value.pointer a0)),kL 3 0 0,kL 4 1 0,kS 6 x1,kL 7 2 0,kS 28 a1_11,kI 29 (a1_11.n:Int)],[some (70,[(Value.int .i64 a1_0),(Value.string a1_1),(Value.bool a1_2),(Sl3.v a1_3),(Value.int .i64 a1_4),(Sl3.v a1_5),(Value.int .i64 a1_6),(Value.int .i64 a1_7),(Value.string a1_8),(Sl3.v a1_9),(Sl3.v a1_10),(Sl3.v a1_11)]),some (68,[(Value.int .i64 0),(Value.int .i64 0),(Value.string (⟨#[]⟩:ByteArray)),(Sl3.v Sl3.nil)]),some (68,[(Value.int .i64 x2_0),(Value.int .i64 x2_1),(Value.string x2_2),(Sl3.v x2_3)])])
noncomputable def z4m (_L:LC) (_a1_0:Int) (_a1_1:ByteArray) (_a1_2:Bool) (_a1_3:Sl3) (_a1_4:Int) (_a1_5:Sl3) (_a1_6 _a1_7:Int) (_a1_8:ByteArray) (_a1_9 _a1_10:Sl3) (_a1_11 _x1:Sl3) (_x2_0 _x2_1:Int) (_x2_2:ByteArray) (_x2_3:Sl3) (_H18:AH) (v9_19:Sl3):(Int×Int×Int×ByteArray×Sl3)→Option (Lp (Int×Int×Int×ByteArray×Sl3) (Int×Int×ByteArray×Sl3×Int×AH)):=fun (v56_22,w1_23,w1_24,w1_25,w1_26) =>
 if v56_22<(v9_19.n:Int) then
  none
 else
  some (.brk (v56_22,w1_23,w1_24,w1_25,w1_26))
def zea (_L:LC) (a1_0:Int) (a1_1:ByteArray) (a1_2:Bool) (a1_3:Sl3) (a1_4:Int) (a1_5:Sl3) (a1_6 a1_7:Int) (a1_8:ByteArray) (a1_9 a1_10:Sl3) (a1_11 x1:Sl3) (x2_0 x2_1:Int) (x2_2:ByteArray) (x2_3:Sl3) (_H18:AH) (v9_19:Sl3):(Int×Int×Int×ByteArray×Sl3)→KN×Lcs:=fun (v56_22,w1_23,w1_24,w1_25,w1_26)=>([kI 56 v56_22,kL 4 1 0,kS 6 x1,kL 7 2 0,kS 54 v9_19,kI 55 (v9_19.n:Int)],[some (70,[(Value.int .i64 a1_0),(Value.string a1_1),(Value.bool a1_2),(Sl3.v a1_3),(Value.int .i64 a1_4),(Sl3.v a1_5),(Value.int .i64 a1_6),(Value.int .i64 a1_7),(Value.string a1_8),(Sl3.v a1_9),(Sl3.v a1_10),(Sl3.v a1_11)]),some (68,[(Value.int .i64 w1_23),(Value.int .i64 w1_24),(Value.string w1_25),(Sl3.v w1_26)]),some (68,[(Value.int .i64 x2_0),(Value.int .i64 x2_1),(Value.string x2_2),(Sl3.v x2_3)])])
noncomputable def z3s (L:LC) (rec_term_Table_ask:Nat→AH→(Option Addr)→Int→ByteArray→Bool→Sl3→Int→Sl3→Int→Int→ByteArray→Sl3→Sl3→Sl3→Option (Sl3×Int×Int×ByteArray×Sl3×Int×AH)) (m:Nat) (H:AH) (a0:Option Addr) (a1_0:Int) (a1_1:ByteArray) (a1_2:Bool) (a1_3:Sl3) (a1_4:Int) (a1_5:Sl3) (a1_6 a1_7:Int) (a1_8:ByteArray) (a1_9 a1_10 a1_11:Sl3):Option (Int×Int×ByteArray×Sl3×Int×AH) :=
 Option.bind (rec_term_Table_ask m H a0 a1_0 a1_1 a1_2 a1_3 a1_4 a1_5 a1_6 a1_7 a1_8 a1_9 a1_10 a1_11) fun (x1,x2_0,x2_1,x2_2,x2_3,x3,H4) =>
 if x3=0 then
  Option.bind (L.run (z54 L m a0 a1_0 a1_1 a1_2 a1_3 a1_4 a1_5 a1_6 a1_7 a1_8 a1_9 a1_10 a1_11 x1 x2_0 x2_1 x2_2 x2_3) (H4,Sl3.nil,0)) fun o=>match o with
  | .inl (H18,v9_19,_) =>
   Option.bind (α:=Bool) (
    if a1_0≥11 then
     some (decide (a1_0≤14))
    else
     some false) fun v53_21 =>
   if v53_21=true then
    Option.bind (L.run (z4m L a1_0 a1_1 a1_2 a1_3 a1_4 a1_5 a1_6 a1_7 a1_8 a1_9 a1_10 a1_11 x1 x2_0 x2_1 x2_2 x2_3 H18 v9_19) (0,0,0,(⟨#[]⟩:ByteArray),Sl3.nil)) fun o=>match o with
    | .inl (_,_,_,_,_) =>
     some (x2_0,x2_1,x2_2,x2_3,0,H18)
    | .inr r=>some r
   else
    Option.bind (zel L m H18 a1_0 a1_1 a1_2 a1_3 a1_4 a1_5 a1_6 a1_7 a1_8 a1_9 a1_10 a1_11 v9_19) fun (x32_0,x32_1,x32_2,x32_3,x33,H34) =>
    if x33=true then
     if a1_0=42 then
      none
     else
      if x32_0=3 then
       none
      else
       Option.bind (z6l L H34 a0 a1_0 a1_1 a1_2 a1_3 a1_4 a1_5 a1_6 a1_7 a1_8 a1_9 a1_10 a1_11) fun x35 =>
       if x35=true then
        some (x32_0,x32_1,x32_2,x32_3,0,H34)
       else
        none
    else
     none
  | .inr r=>some r
 else
  none
noncomputable def zds (L:LC) (m:Nat) (_a0_0:Int) (_a0_1:ByteArray) (_a0_2:Bool) (_a0_3:Sl3) (_a0_4:Int) (_a0_5:Sl3) (_a0_6 _a0_7:Int) (_a0_8:ByteArray) (_a0_9 _a0_10 a0_11:Sl3) (p1:Addr):(AH×Int)→Option (Lp (AH×Int) (ByteArray×AH)):=fun (H4,v23_5) =>
 if v23_5<(a0_11.n:Int) then
  Option.bind (idxA 1 a0_11 v23_5) fun p6 =>
  Option.bind (rd (deI .i64) H4 p6) fun x7 =>
  Option.bind (zbn L m H4 x7 (some p1)) fun H8 =>
  some (.next (H8,(IntKind.i64.wrap (v23_5+1))))
 else
  some (.brk (H4,v23_5))
def zl5 (_L:LC) (_m:Nat) (a0_0:Int) (a0_1:ByteArray) (a0_2:Bool) (a0_3:Sl3) (a0_4:Int) (a0_5:Sl3) (a0_6 a0_7:Int) (a0_8:ByteArray) (a0_9 a0_10 a0_11:Sl3) (p1:Addr):(AH×Int)→KN×Lcs:=fun (_,v23_5)=>([kI 23 v23_5,kL 1 0 0,kP 3 p1,(4,.val (Value.func (.func 108) #[] #[(Value.pointer (some p1))])),kS 21 a0_11,kI 22 (a0_11.n:Int)],[some (70,[(Value.int .i64 a0_0),(Value.string a0_1),(Value.bool a0_2),(Sl3.v a0_3),(Value.int .i64 a0_4),(Sl3.v a0_5),(Value.int .i64 a0_6),(Value.int .i64 a0_7),(Value.string a0_8),(Sl3.v a0_9),(Sl3.v a0_10),(Sl3.v a0_11)])])
noncomputable def zeb (_L:LC) (_a0_0:Int) (_a0_1:ByteArray) (_a0_2:Bool) (_a0_3:Sl3) (_a0_4:Int) (_a0_5:Sl3) (_a0_6 _a0_7:Int) (_a0_8:ByteArray) (_a0_9 a0_10 _a0_11:Sl3) (_p1:Addr):(AH×Int)→Option (Lp (AH×Int) (ByteArray×AH)):=fun (H11,v34_12) =>
 if v34_12<(a0_10.n:Int) then
  none
 else
  some (.brk (H11,v34_12))
def zlm (_L:LC) (a0_0:Int) (a0_1:ByteArray) (a0_2:Bool) (a0_3:Sl3) (a0_4:Int) (a0_5:Sl3) (a0_6 a0_7:Int) (a0_8:ByteArray) (a0_9 a0_10 a0_11:Sl3) (p1:Addr):(AH×Int)→KN×Lcs:=fun (_,v34_12)=>([kI 34 v34_12,kL 1 0 0,kP 3 p1,(4,.val (Value.func (.func 108) #[] #[(Value.pointer (some p1))])),kS 32 a0_10,kI 33 (a0_10.n:Int)],[some (70,[(Value.int .i64 a0_0),(Value.string a0_1),(Value.bool a0_2),(Sl3.v a0_3),(Value.int .i64 a0_4),(Sl3.v a0_5),(Value.int .i64 a0_6),(Value.int .i64 a0_7),(Value.string a0_8),(Sl3.v a0_9),(Sl3.v a0_10),(Sl3.v a0_11)])])
noncomputable def zaq (L:LC) (m:Nat) (H:AH) (a0_0:Int) (a0_1:ByteArray) (a0_2:Bool) (a0_3:Sl3) (a0_4:Int) (a0_5:Sl3) (a0_6 a0_7:Int) (a0_8:ByteArray) (a0_9 a0_10 a0_11:Sl3):Option (ByteArray×AH) :=
 Option.bind (newB 121 [(Value.pointer none),(Sl3.v Sl3.nil)] H) fun (p1,H2) =>
 Option.bind (zbn L m H2 a0_0 (some p1)) fun H3 =>
 Option.bind (L.run (zds L m a0_0 a0_1 a0_2 a0_3 a0_4 a0_5 a0_6 a0_7 a0_8 a0_9 a0_10 a0_11 p1) (H3,0)) fun o=>match o with
 | .inl (H9,_) =>
  Option.bind (L.run (zeb L a0_0 a0_1 a0_2 a0_3 a0_4 a0_5 a0_6 a0_7 a0_8 a0_9 a0_10 a0_11 p1) (H9,0)) fun o=>match o with
  | .inl (H13,_) =>
   if a0_0=20 then
    none
   else
    if a0_0=40 then
     none
    else
     if a0_0=34 then
      none
     else
      Option.bind (z1x L m H13 (some p1)) fun (x15,H16) =>
      Option.bind (strcat x15 a0_1) fun s17 =>
      some (s17,H16)
  | .inr r=>some r
 | .inr r=>some r
noncomputable def z1v (_L:LC) (rec_slices_IndexFunc_116__69:Nat→AH→Sl3→(Option Addr)→Option (Int×AH)) (m:Nat) (H:AH) (a0:Sl3) (a1_0:Option Addr):Option (Bool×AH) :=
 Option.bind (rec_slices_IndexFunc_116__69 m H a0 a1_0) fun (x1,H2) =>
 some ((decide (x1≥0)),H2)
noncomputable def za (L:LC) (n:Nat):(Nat→AH→(Option Addr)→Int→ByteArray→Bool→Sl3→Int→Sl3→Int→Int→ByteArray→Sl3→Sl3→Sl3→Option (Sl3×Int×Int×ByteArray×Sl3×Int×AH))×(Nat→AH→Sl3→(Option Addr)→Option (Int×AH))×(Nat→AH→(Option Addr)→Int→ByteArray→Bool→Sl3→Int→Sl3→Int→Int→ByteArray→Sl3→Sl3→Sl3→Int→Option (Bool×AH))×(Nat→AH→(Option Addr)→Int→ByteArray→Bool→Sl3→Int→Sl3→Int→Int→ByteArray→Sl3→Sl3→Sl3→Option (Int×AH))×(Nat→AH→(Option Addr)→Int→ByteArray→Bool→Sl3→Int→Sl3→Int→Int→ByteArray→Sl3→Sl3→Sl3→Option (Int×Int×AH))×(Nat→AH→(Option Addr)→Int→Sl3→Option (Int×AH))×(Nat→AH→(Option Addr)→Int→ByteArray→Bool→Sl3→Int→Sl3→Int→Int→ByteArray→Sl3→Sl3→Sl3→Option (Int×Int×ByteArray×Sl3×Int×AH))×(Nat→AH→Int→ByteArray→Bool→Sl3→Int→Sl3→Int→Int→ByteArray→Sl3→Sl3→Sl3→Option (ByteArray×AH))×(Nat→AH→Sl3→(Option Addr)→Option (Bool×AH)):=Nat.rec (motive:=fun _=>(Nat→AH→(Option Addr)→Int→ByteArray→Bool→Sl3→Int→Sl3→Int→Int→ByteArray→Sl3→Sl3→Sl3→Option (Sl3×Int×Int×ByteArray×Sl3×Int×AH))×(Nat→AH→Sl3→(Option Addr)→Option (Int×AH))×(Nat→AH→(Option Addr)→Int→ByteArray→Bool→Sl3→Int→Sl3→Int→Int→ByteArray→Sl3→Sl3→Sl3→Int→Option (Bool×AH))×(Nat→AH→(Option Addr)→Int→ByteArray→Bool→Sl3→Int→Sl3→Int→Int→ByteArray→Sl3→Sl3→Sl3→Option (Int×AH))×(Nat→AH→(Option Addr)→Int→ByteArray→Bool→Sl3→Int→Sl3→Int→Int→ByteArray→Sl3→Sl3→Sl3→Option (Int×Int×AH))×(Nat→AH→(Option Addr)→Int→Sl3→Option (Int×AH))×(Nat→AH→(Option Addr)→Int→ByteArray→Bool→Sl3→Int→Sl3→Int→Int→ByteArray→Sl3→Sl3→Sl3→Option (Int×Int×ByteArray×Sl3×Int×AH))×(Nat→AH→Int→ByteArray→Bool→Sl3→Int→Sl3→Int→Int→ByteArray→Sl3→Sl3→Sl3→Option (ByteArray×AH))×(Nat→AH→Sl3→(Option Addr)→Option (Bool×AH))) ((fun _ _ _ _ _ _ _ _ _ _ _ _ _ _ _=>none),(fun _ _ _ _=>none),(fun _ _ _ _ _ _ _ _ _ _ _ _ _ _ _ _=>none),(fun _ _ _ _ _ _ _ _ _ _ _ _ _ _ _=>none),(fun _ _ _ _ _ _ _ _ _ _ _ _ _ _ _=>none),(fun _ _ _ _ _=>none),(fun _ _ _ _ _ _ _ _ _ _ _ _ _ _ _=>none),(fun _ _ _ _ _ _ _ _ _ _ _ _ _ _=>none),(fun _ _ _ _=>none)) (fun _ p=>(z53 L p.2.2.1,z1k L,z3g L,z42 L p.2.2.2.2.1,z4n L p.2.2.2.2.2.2.1 p.2.2.2.2.2.2.2.1,z3f L p.2.2.2.1,z3s L p.1,zaq L,z1v L p.2.1)) n
noncomputable def zca (L:LC) (m:Nat) (H:AH) (a0:Option Addr) (a1_0:Int) (a1_1:ByteArray) (a1_2:Bool) (a1_3:Sl3) (a1_4:Int) (a1_5:Sl3) (a1_6 a1_7:Int) (a1_8:ByteArray) (a1_9 a1_10 a1_11:Sl3):Option (Int×AH):=((za L L.fuel).2.2.2.1) m H a0 a1_0 a1_1 a1_2 a1_3 a1_4 a1_5 a1_6 a1_7 a1_8 a1_9 a1_10 a1_11
noncomputable def z5y (L:LC) (m:Nat) (H:AH) (a0:Option Addr) (a1_0:Int) (a1_1:ByteArray) (a1_2:Bool) (a1_3:Sl3) (a1_4:Int) (a1_5:Sl3) (a1_6 a1_7:Int) (a1_8:ByteArray) (a1_9 a1_10 a1_11:Sl3):Option (Int×Int×AH):=((za L L.fuel).2.2.2.2.1) m H a0 a1_0 a1_1 a1_2 a1_3 a1_4 a1_5 a1_6 a1_7 a1_8 a1_9 a1_10 a1_11
noncomputable def zbd (L:LC) (m:Nat) (H:AH) (a0:Option Addr) (a1:Int) (a2:Sl3):Option (Int×AH):=((za L L.fuel).2.2.2.2.2.1) m H a0 a1 a2
noncomputable def z6c (L:LC) (m:Nat) (H:AH) (a0:Sl3) (a1_0:Option Addr):Option (Bool×AH):=((za L L.fuel).2.2.2.2.2.2.2.2) m H a0 a1_0
theorem z90 {E m H L a0 a1_0 a1_1 a1_2 a1_3 a1_4 a1_5 a1_6 a1_7 a1_8 a1_9 a1_10 a1_11 x3 H5 v11_8 w2_13 w2_14 w2_15 w2_16} :LoopF Tryz.prog (NE.plain 202) m E Tryz.f103 ((cfst (csnd (cfst (csnd (csnd (csnd (csnd (csnd (csnd (csnd B103))))))))))) (zg0 L a0 a1_0 a1_1 a1_2 a1_3 a1_4 a1_5 a1_6 a1_7 a1_8 a1_9 a1_10 a1_11 x3 H5 v11_8 w2_13 w2_14 w2_15 w2_16) (fun _=>H5) 0 z33 (z3m H) (z6f L a0 a1_0 a1_1 a1_2 a1_3 a1_4 a1_5 a1_6 a1_7 a1_8 a1_9 a1_10 a1_11 x3 H5 v11_8 w2_13 w2_14 w2_15 w2_16):=by
 rintro ⟨v67_22,w1_23,w1_24,w1_25,w1_26⟩ o h
 unfold z6f at h
 try dsimp only at h
 refine WS.sq (WS.rg (RS.mS 1 [kB 68 (decide (v67_22<(a1_11.n:Int)))] (RS.dn (WS.nxt (WS.sq ?_)))))
 rcases z0 h with ⟨hp,h⟩ | ⟨hp,h⟩
 ·refine WS.fx 68 true (decide_eq_true hp) (WS.cT (WS.sk (WS.nxt (WS.sq (WS.bk 1 (WS.sq (WS.rg ?_)))))))
  obtain ⟨p27,hx,h⟩:=bind_some h
  refine RS.ix 69 37 3 (.tmp 65) (.tmp 67) hx ?_
  obtain ⟨x28,hx,h⟩:=bind_some h
  refine RS.ld 70 3 (.tmp 69) (z1 hx z8) (RS.mS 1 [kI 14 x28] (RS.dn (WS.nxt (WS.sq (WS.rg (RS.mS 3 [kB 73 (decide (x28<0)),kB 72 (decide (x28<0)),kI 71 x28] ?_))))))
  rcases z0 h with ⟨hp,h⟩ | ⟨hp,h⟩
  ·refine RS.fx 73 true (decide_eq_true hp) ?_
   cases h
  ·refine RS.fx 73 false (decide_eq_false hp) (RS.mS 2 [(75,.val (Value.pointer a0)),kI 74 x28] ?_)
   obtain ⟨q29,hx,hq29⟩:=bind_some h
   subst hx
   have h:=hq29
   refine RS.mS 2 [(77,.val (Value.pointer (some (Addr.add q29 3)))),kP 76 q29] ?_
   obtain ⟨x30,hx,h⟩:=bind_some h
   refine RS.ld 78 28 (.tmp 77) (z1 hx z6) (RS.mS 3 [kB 81 (decide (x28≥(x30.n:Int))),kB 80 (decide (x28≥(x30.n:Int))),kI 79 (x30.n:Int)] (RS.dn (WS.nxt ?_)))
   rcases z0 h with ⟨hp,h⟩ | ⟨hp,h⟩
   ·refine WS.fx 81 true (decide_eq_true hp) (WS.cT ?_)
    cases h
   ·refine WS.fx 81 false (decide_eq_false hp) (WS.cF (WS.sk ?_))
    refine fun a w hs=>bkN ((WS.nxt ?_ a w hs))
    refine WS.rg (RS.mS 2 [kI 67 (IntKind.i64.wrap (v67_22+1)),kI 83 (IntKind.i64.wrap (v67_22+1))] (RS.dn ?_))
    cases h
    exact fun a w hs=>lsN rfl (hs.sb 3)
 ·refine WS.fx 68 false (decide_eq_false hp) (WS.cF (WS.ex 0 ?_))
  cases h
  exact fun a w hs=>sqE (lsB rfl (hs.sb 3))
theorem zem {L:LC} {rec_term_Table_params:Nat→AH→(Option Addr)→Int→ByteArray→Bool→Sl3→Int→Sl3→Int→Int→ByteArray→Sl3→Sl3→Sl3→Int→Option (Bool×AH)} (hrec_term_Table_params:∀(m:Nat) (H:AH) (a0:Option Addr) (a1_0:Int) (a1_1:ByteArray) (a1_2:Bool) (a1_3:Sl3) (a1_4:Int) (a1_5:Sl3) (a1_6 a1_7:Int) (a1_8:ByteArray) (a1_9 a1_10 a1_11:Sl3) (a2:Int) (r:(Bool×AH)),rec_term_Table_params m H a0 a1_0 a1_1 a1_2 a1_3 a1_4 a1_5 a1_6 a1_7 a1_8 a1_9 a1_10 a1_11 a2=some r→CallS Tryz.prog (NE.plain 202) m 147 #[(Value.pointer a0),(Value.agg #[(Value.int .i64 a1_0),(Value.string a1_1),(Value.bool a1_2),(Sl3.v a1_3),(Value.int .i64 a1_4),(Sl3.v a1_5),(Value.int .i64 a1_6),(Value.int .i64 a1_7),(Value.string a1_8),(Sl3.v a1_9),(Sl3.v a1_10),(Sl3.v a1_11)]),(Value.int .i64 a2)] H (z41 r) (z4b H r)) {m:Nat} {H:AH} {a0:Option Addr} {a1_0:Int} {a1_1:ByteArray} {a1_2:Bool} {a1_3:Sl3} {a1_4:Int} {a1_5:Sl3} {a1_6 a1_7:Int} {a1_8:ByteArray} {a1_9 a1_10 a1_11:Sl3} {r:(Sl3×Int×Int×ByteArray×Sl3×Int×AH)} (h:z53 L rec_term_Table_params m H a0 a1_0 a1_1 a1_2 a1_3 a1_4 a1_5 a1_6 a1_7 a1_8 a1_9 a1_10 a1_11=some r) :
  CallS Tryz.prog (NE.plain 202) m 103 #[(Value.pointer a0),(Value.agg #[(Value.int .i64 a1_0),(Value.string a1_1),(Value.bool a1_2),(Sl3.v a1_3),(Value.int .i64 a1_4),(Sl3.v a1_5),(Value.int .i64 a1_6),(Value.int .i64 a1_7),(Value.string a1_8),(Sl3.v a1_9),(Sl3.v a1_10),(Sl3.v a1_11)])] H (z33 r) (z3m H r):=by
 refine CallS.mk (args:=[(Value.pointer a0),(Value.agg #[(Value.int .i64 a1_0),(Value.string a1_1),(Value.bool a1_2),(Sl3.v a1_3),(Value.int .i64 a1_4),(Sl3.v a1_5),(Value.int .i64 a1_6),(Value.int .i64 a1_7),(Value.string a1_8),(Sl3.v a1_9),(Sl3.v a1_10),(Sl3.v a1_11)])]) Tryz.func103 (B:=B103) (by kernel_rfl) (fun E _=>?_)
 unfold z53 at h
 refine WS.sq (WS.rg (RS.mL 4 [kI 6 0,kL 5 1 0,kS 4 Sl3.nil,kL 3 0 0] ([some (70,[(Value.int .i64 a1_0),(Value.string a1_1),(Value.bool a1_2),(Sl3.v a1_3),(Value.int .i64 a1_4),(Sl3.v a1_5),(Value.int .i64 a1_6),(Value.int .i64 a1_7),(Value.string a1_8),(Sl3.v a1_9),(Sl3.v a1_10),(Sl3.v a1_11)]),some (68,[(Value.int .i64 0),(Value.int .i64 0),(Value.string (⟨#[]⟩:ByteArray)),(Sl3.v Sl3.nil)])]) (RS.dn (WS.nxt (WS.sq (WS.rg (RS.mS 2 [kI 17 a1_0,kL 16 0 0] ?_)))))))
 obtain ⟨⟨x1,x2,x3,x4⟩,hx,h⟩:=bind_some h
 try dsimp only at h
 refine RS.cl (some 18) (v:=(Value.tuple #[(Value.int .i64 x1),(Value.int .i64 x2),(Value.int .i64 x3),(Value.bool x4)])) 107 #[(Value.int .i64 a1_0)] (zhz hx) (RS.mS 9 [kB 10 x4,kI 9 x3,kI 8 x2,kI 7 x1,kB 22 x4,kI 21 x3,kI 20 x2,kI 19 x1,(15,.val (Value.tuple #[(Value.int .i64 x1),(Value.int .i64 x2),(Value.int .i64 x3),(Value.bool x4)]))] (RS.dn (WS.nxt (WS.sq (WS.sq (WS.rg (RS.mS 2 [kB 24 (!x4),kB 23 x4] (RS.dn (WS.nxt ?_)))))))))
 rcases z0 h with ⟨hp,h⟩ | ⟨hp,h⟩
 ·refine WS.fx 24 false (nb_not hp) (WS.cF (WS.sk (WS.nxt (WS.sq (WS.rg (RS.mS 1 [kS 11 Sl3.nil] (RS.dn (WS.nxt (WS.sq ?_)))))))))
  refine WS.rg (RS.mL 1 [kL 12 2 0] ([some (70,[(Value.int .i64 a1_0),(Value.string a1_1),(Value.bool a1_2),(Sl3.v a1_3),(Value.int .i64 a1_4),(Sl3.v a1_5),(Value.int .i64 a1_6),(Value.int .i64 a1_7),(Value.string a1_8),(Sl3.v a1_9),(Sl3.v a1_10),(Sl3.v a1_11)]),some (68,[(Value.int .i64 0),(Value.int .i64 0),(Value.string (⟨#[]⟩:ByteArray)),(Sl3.v Sl3.nil)]),some (68,[(Value.int .i64 0),(Value.int .i64 0),(Value.string (⟨#[]⟩:ByteArray)),(Sl3.v Sl3.nil)])]) (RS.dn (WS.nxt ?_)))
  obtain ⟨o,hx,h⟩:=bind_some h
  rcases o with ⟨H5,v7_6,v8_7,v11_8,w1_9,w1_10,w1_11,w1_12,w2_13,w2_14,w2_15,w2_16⟩ | ro
  ·try dsimp only at h
   refine WS.sq ?_
   refine WS.join ([kI 7 v7_6,kI 8 v8_7,kS 11 v11_8,(0,.val (Value.pointer a0)),kL 3 0 0,kL 5 1 0,kI 9 x3,kL 12 2 0]) ([some (70,[(Value.int .i64 a1_0),(Value.string a1_1),(Value.bool a1_2),(Sl3.v a1_3),(Value.int .i64 a1_4),(Sl3.v a1_5),(Value.int .i64 a1_6),(Value.int .i64 a1_7),(Value.string a1_8),(Sl3.v a1_9),(Sl3.v a1_10),(Sl3.v a1_11)]),some (68,[(Value.int .i64 w1_9),(Value.int .i64 w1_10),(Value.string w1_11),(Sl3.v w1_12)]),some (68,[(Value.int .i64 w2_13),(Value.int .i64 w2_14),(Value.string w2_15),(Sl3.v w2_16)])]) H5 ?_ (fun a w hs=>WS.nxt ?_ a w hs)
   ·clear h; rename _=>h
    obtain ⟨v33_17,hx,h⟩:=bind_some h
    refine WS.sq ?_
    refine WS.join ([kB 33 v33_17,(0,.val (Value.pointer a0)),kL 3 0 0,kL 5 1 0,kI 7 x1,kI 8 x2,kI 9 x3,kS 11 Sl3.nil,kL 12 2 0]) ([some (70,[(Value.int .i64 a1_0),(Value.string a1_1),(Value.bool a1_2),(Sl3.v a1_3),(Value.int .i64 a1_4),(Sl3.v a1_5),(Value.int .i64 a1_6),(Value.int .i64 a1_7),(Value.string a1_8),(Sl3.v a1_9),(Sl3.v a1_10),(Sl3.v a1_11)]),some (68,[(Value.int .i64 0),(Value.int .i64 0),(Value.string (⟨#[]⟩:ByteArray)),(Sl3.v Sl3.nil)]),some (68,[(Value.int .i64 0),(Value.int .i64 0),(Value.string (⟨#[]⟩:ByteArray)),(Sl3.v Sl3.nil)])]) H ?_ (fun a w hs=>WS.nxt ?_ a w hs)
    ·clear h; rename _=>h
     refine WS.rg (RS.mS 4 [kB 29 (decide (a1_0≥11)),kB 28 (decide (a1_0≥11)),kI 27 a1_0,kL 26 0 0] ?_)
     rcases z0 h with ⟨hp,h⟩ | ⟨hp,h⟩
     ·refine RS.fx 29 true (decide_eq_true hp) (RS.mS 4 [kB 33 (decide (a1_0≤14)),kB 32 (decide (a1_0≤14)),kI 31 a1_0,kL 30 0 0] (RS.dn ?_))
      cases h
      exact fun a w hs=>(jsN (hs.sb 3))
     ·refine RS.fx 29 false (decide_eq_false hp) (RS.mS 4 [kB 33 false,kU 32,kU 31,kU 30] (RS.dn ?_))
      cases h
      exact fun a w hs=>(jsN (hs.sb 3))
    ·clear hx
     rcases z0 h with ⟨hp,h⟩ | ⟨hp,h⟩
     ·refine WS.fx 33 true hp (WS.cT (WS.sq (WS.rg (RS.mS 5 [kT 39 a1_1,kL 38 0 1,kI 37 a1_0,kL 36 0 0,(35,.val (Value.pointer a0))] ?_))))
      obtain ⟨⟨x18,x19_0,x19_1,x19_2,x19_3,x20,H21⟩,hx,h⟩:=bind_some h
      try dsimp only at h
      refine RS.cl (some 40) (v:=(Value.tuple #[(Sl3.v x18),(Value.agg #[(Value.int .i64 x19_0),(Value.int .i64 x19_1),(Value.string x19_2),(Sl3.v x19_3)]),(Value.bool x20)])) 146 #[(Value.pointer a0),(Value.int .i64 a1_0),(Value.string a1_1)] (z86 hx) (RS.mL 7 [kB 10 x20,kS 11 x18,kB 43 x20,kA 42 #[(Value.int .i64 x19_0),(Value.int .i64 x19_1),(Value.string x19_2),(Sl3.v x19_3)],kS 41 x18,(34,.val (Value.tuple #[(Sl3.v x18),(Value.agg #[(Value.int .i64 x19_0),(Value.int .i64 x19_1),(Value.string x19_2),(Sl3.v x19_3)]),(Value.bool x20)]))] ([some (70,[(Value.int .i64 a1_0),(Value.string a1_1),(Value.bool a1_2),(Sl3.v a1_3),(Value.int .i64 a1_4),(Sl3.v a1_5),(Value.int .i64 a1_6),(Value.int .i64 a1_7),(Value.string a1_8),(Sl3.v a1_9),(Sl3.v a1_10),(Sl3.v a1_11)]),some (68,[(Value.int .i64 0),(Value.int .i64 0),(Value.string (⟨#[]⟩:ByteArray)),(Sl3.v Sl3.nil)]),some (68,[(Value.int .i64 x19_0),(Value.int .i64 x19_1),(Value.string x19_2),(Sl3.v x19_3)])]) (RS.dn (WS.nxt (WS.sq (WS.sq (WS.rg (RS.mS 2 [kB 45 (!x20),kB 44 x20] (RS.dn (WS.nxt ?_)))))))))
      rcases z0 h with ⟨hp,h⟩ | ⟨hp,h⟩
      ·refine WS.fx 45 false (nb_not hp) (WS.cF (WS.sk (WS.nxt (WS.rg (RS.mS 6 [kI 8 (x18.n:Int),kI 7 (x18.n:Int),kI 50 (x18.n:Int),kS 49 x18,kI 48 (x18.n:Int),kS 47 x18] (RS.dn ?_))))))
       cases h
       exact fun a w hs=>(jsN (hs.sb 3))
      ·refine WS.fx 45 true (z19 hp) (WS.cT ?_)
       cases h
     ·refine WS.fx 33 false (b_not hp) (WS.cF (WS.sk ?_))
      cases h
      exact fun a w hs=>(jsN (hs.sb 3))
   ·clear hx
    refine WS.sq (WS.sq (WS.rg (RS.mS 6 [kB 56 (decide ((a1_11.n:Int)<v7_6)),kB 55 (decide ((a1_11.n:Int)<v7_6)),kI 54 v7_6,kI 53 (a1_11.n:Int),kS 52 a1_11,kL 51 0 11] ?_)))
    rcases z0 h with ⟨hp,h⟩ | ⟨hp,h⟩
    ·refine RS.fx 56 true (decide_eq_true hp) ?_
     cases h
    ·refine RS.fx 56 false (decide_eq_false hp) (RS.mS 6 [kB 62 (decide ((a1_11.n:Int) > v8_7)),kB 61 (decide ((a1_11.n:Int) > v8_7)),kI 60 v8_7,kI 59 (a1_11.n:Int),kS 58 a1_11,kL 57 0 11] (RS.dn (WS.nxt ?_)))
     rcases z0 h with ⟨hp,h⟩ | ⟨hp,h⟩
     ·refine WS.fx 62 true (decide_eq_true hp) (WS.cT ?_)
      cases h
     ·refine WS.fx 62 false (decide_eq_false hp) (WS.cF (WS.sk (WS.nxt (WS.sq (WS.sq (WS.rg (RS.mS 4 [kI 67 0,kI 66 (a1_11.n:Int),kS 65 a1_11,kL 64 0 11] (RS.dn (WS.nxt ?_)))))))))
      refine WS.bk 0 ?_
      obtain ⟨o,hl,h⟩:=bind_some h
      rcases o with ⟨v67_31,w1_32,w1_33,w1_34,w1_35⟩ | r
      ·try dsimp only at h
       refine WS.lI (z90 (L:=L) (E:=E) (m:=m) (H:=H)) (L.ok hl) 3 ?_
       clear hl
       refine fun a w hs=>bkE ((WS.nxt ?_ a w hs))
       refine WS.sq (WS.sq (WS.rg (RS.mS 3 [kI 86 x3,kA 85 #[(Value.int .i64 a1_0),(Value.string a1_1),(Value.bool a1_2),(Sl3.v a1_3),(Value.int .i64 a1_4),(Sl3.v a1_5),(Value.int .i64 a1_6),(Value.int .i64 a1_7),(Value.string a1_8),(Sl3.v a1_9),(Sl3.v a1_10),(Sl3.v a1_11)],(84,.val (Value.pointer a0))] ?_)))
       obtain ⟨⟨x36,H37⟩,hx,h⟩:=bind_some h
       try dsimp only at h
       refine RS.cl (some 87) (v:=(Value.bool x36)) 147 #[(Value.pointer a0),(Value.agg #[(Value.int .i64 a1_0),(Value.string a1_1),(Value.bool a1_2),(Sl3.v a1_3),(Value.int .i64 a1_4),(Sl3.v a1_5),(Value.int .i64 a1_6),(Value.int .i64 a1_7),(Value.string a1_8),(Sl3.v a1_9),(Sl3.v a1_10),(Sl3.v a1_11)]),(Value.int .i64 x3)] (hrec_term_Table_params _ _ _ _ _ _ _ _ _ _ _ _ _ _ _ _ _ hx) (RS.mS 1 [kB 88 (!x36)] (RS.dn (WS.nxt ?_)))
       rcases z0 h with ⟨hp,h⟩ | ⟨hp,h⟩
       ·refine WS.fx 88 false (nb_not hp) (WS.cF (WS.sk (WS.nxt (WS.sq ?_))))
        refine WS.dr [1,2] [0,0,0,4,13,31,63] 7 (fun hcl=>?_)
        refine DA.tL 1 (some 91) (.val (Value.agg #[(Value.int .i64 w2_13),(Value.int .i64 w2_14),(Value.string w2_15),(Sl3.v w2_16)])) (DA.tL 2 (some 92) (.val (Value.agg #[(Value.int .i64 a1_0),(Value.string a1_1),(Value.bool a1_2),(Sl3.v a1_3),(Value.int .i64 a1_4),(Sl3.v a1_5),(Value.int .i64 a1_6),(Value.int .i64 a1_7),(Value.string a1_8),(Sl3.v a1_9),(Sl3.v a1_10),(Sl3.v a1_11)])) (DA.tP 0 (some 90) (Sl3.v v11_8) ?_))
        obtain ⟨x38,hx,h⟩:=bind_some h
        refine DA.on 3 (DA.aCj 3 (some 93) false (v:=(Value.int .i64 x38)) 148 #[(Value.agg #[(Value.int .i64 a1_0),(Value.string a1_1),(Value.bool a1_2),(Sl3.v a1_3),(Value.int .i64 a1_4),(Sl3.v a1_5),(Value.int .i64 a1_6),(Value.int .i64 a1_7),(Value.string a1_8),(Sl3.v a1_9),(Sl3.v a1_10),(Sl3.v a1_11)])] (zmp hx) (DA.tP 4 (some 4) (Sl3.v v11_8) (DA.on 5 (DA.aL 5 none (.val undef) ([some (70,[(Value.int .i64 a1_0),(Value.string a1_1),(Value.bool a1_2),(Sl3.v a1_3),(Value.int .i64 a1_4),(Sl3.v a1_5),(Value.int .i64 a1_6),(Value.int .i64 a1_7),(Value.string a1_8),(Sl3.v a1_9),(Sl3.v a1_10),(Sl3.v a1_11)]),some (68,[(Value.int .i64 w2_13),(Value.int .i64 w2_14),(Value.string w2_15),(Sl3.v w2_16)]),some (68,[(Value.int .i64 w2_13),(Value.int .i64 w2_14),(Value.string w2_15),(Sl3.v w2_16)])]) false (DA.tP 6 (some 6) (Value.int .i64 x38) (DA.dn (WS.nxt (WS.rt ?_))))))))
        cases h
        exact fun a w hs=>rtR (rS hs)
       ·refine WS.fx 88 true (z19 hp) (WS.cT ?_)
        cases h
      ·try dsimp only at h
       refine WS.lR (z90 (L:=L) (E:=E) (m:=m) (H:=H)) (L.ok hl) 3 ?_
       cases h
       exact fun a w hq=>bkR (sqR (rtR hq))
  ·cases h; rename _=>h
   refine WS.sq ?_
   obtain ⟨v33_17,hx,h⟩:=bind_some h
   refine WS.sq ?_
   refine WS.join ([kB 33 v33_17,(0,.val (Value.pointer a0)),kL 3 0 0,kL 5 1 0,kI 7 x1,kI 8 x2,kI 9 x3,kS 11 Sl3.nil,kL 12 2 0]) ([some (70,[(Value.int .i64 a1_0),(Value.string a1_1),(Value.bool a1_2),(Sl3.v a1_3),(Value.int .i64 a1_4),(Sl3.v a1_5),(Value.int .i64 a1_6),(Value.int .i64 a1_7),(Value.string a1_8),(Sl3.v a1_9),(Sl3.v a1_10),(Sl3.v a1_11)]),some (68,[(Value.int .i64 0),(Value.int .i64 0),(Value.string (⟨#[]⟩:ByteArray)),(Sl3.v Sl3.nil)]),some (68,[(Value.int .i64 0),(Value.int .i64 0),(Value.string (⟨#[]⟩:ByteArray)),(Sl3.v Sl3.nil)])]) H ?_ (fun a w hs=>WS.nxt ?_ a w hs)
   ·clear h; rename _=>h
    refine WS.rg (RS.mS 4 [kB 29 (decide (a1_0≥11)),kB 28 (decide (a1_0≥11)),kI 27 a1_0,kL 26 0 0] ?_)
    rcases z0 h with ⟨hp,h⟩ | ⟨hp,h⟩
    ·refine RS.fx 29 true (decide_eq_true hp) (RS.mS 4 [kB 33 (decide (a1_0≤14)),kB 32 (decide (a1_0≤14)),kI 31 a1_0,kL 30 0 0] (RS.dn ?_))
     cases h
     exact fun a w hs=>(jsN (hs.sb 3))
    ·refine RS.fx 29 false (decide_eq_false hp) (RS.mS 4 [kB 33 false,kU 32,kU 31,kU 30] (RS.dn ?_))
     cases h
     exact fun a w hs=>(jsN (hs.sb 3))
   ·clear hx
    rcases z0 h with ⟨hp,h⟩ | ⟨hp,h⟩
    ·refine WS.fx 33 true hp (WS.cT (WS.sq (WS.rg (RS.mS 5 [kT 39 a1_1,kL 38 0 1,kI 37 a1_0,kL 36 0 0,(35,.val (Value.pointer a0))] ?_))))
     obtain ⟨⟨x18,x19_0,x19_1,x19_2,x19_3,x20,H21⟩,hx,h⟩:=bind_some h
     try dsimp only at h
     refine RS.cl (some 40) (v:=(Value.tuple #[(Sl3.v x18),(Value.agg #[(Value.int .i64 x19_0),(Value.int .i64 x19_1),(Value.string x19_2),(Sl3.v x19_3)]),(Value.bool x20)])) 146 #[(Value.pointer a0),(Value.int .i64 a1_0),(Value.string a1_1)] (z86 hx) (RS.mL 7 [kB 10 x20,kS 11 x18,kB 43 x20,kA 42 #[(Value.int .i64 x19_0),(Value.int .i64 x19_1),(Value.string x19_2),(Sl3.v x19_3)],kS 41 x18,(34,.val (Value.tuple #[(Sl3.v x18),(Value.agg #[(Value.int .i64 x19_0),(Value.int .i64 x19_1),(Value.string x19_2),(Sl3.v x19_3)]),(Value.bool x20)]))] ([some (70,[(Value.int .i64 a1_0),(Value.string a1_1),(Value.bool a1_2),(Sl3.v a1_3),(Value.int .i64 a1_4),(Sl3.v a1_5),(Value.int .i64 a1_6),(Value.int .i64 a1_7),(Value.string a1_8),(Sl3.v a1_9),(Sl3.v a1_10),(Sl3.v a1_11)]),some (68,[(Value.int .i64 0),(Value.int .i64 0),(Value.string (⟨#[]⟩:ByteArray)),(Sl3.v Sl3.nil)]),some (68,[(Value.int .i64 x19_0),(Value.int .i64 x19_1),(Value.string x19_2),(Sl3.v x19_3)])]) (RS.dn (WS.nxt (WS.sq (WS.sq (WS.rg (RS.mS 2 [kB 45 (!x20),kB 44 x20] (RS.dn (WS.nxt ?_)))))))))
     rcases z0 h with ⟨hp,h⟩ | ⟨hp,h⟩
     ·refine WS.fx 45 false (nb_not hp) (WS.cF (WS.sk (WS.nxt (WS.rg (RS.mS 6 [kI 8 (x18.n:Int),kI 7 (x18.n:Int),kI 50 (x18.n:Int),kS 49 x18,kI 48 (x18.n:Int),kS 47 x18] (RS.dn ?_))))))
      cases h
     ·refine WS.fx 45 true (z19 hp) (WS.cT ?_)
      cases h
    ·refine WS.fx 33 false (b_not hp) (WS.cF (WS.sk ?_))
     cases h
 ·refine WS.fx 24 true (z19 hp) (WS.cT ?_)
  cases h
theorem z37 {E H L m a0 a1_0} :LoopF Tryz.prog (NE.plain 202) m E Tryz.f116 ((cfst (csnd (cfst (csnd B116))))) (z8p L m a0 a1_0) (fun s=>s.1) 0 z11 (z17 H) (z20 L m a0 a1_0):=by
 rintro ⟨H1,v8_2⟩ o h
 unfold z20 at h
 try dsimp only at h
 refine WS.sq (WS.rg (RS.mS 1 [kB 9 (decide (v8_2<(a0.n:Int)))] (RS.dn (WS.nxt (WS.sq ?_)))))
 rcases z0 h with ⟨hp,h⟩ | ⟨hp,h⟩
 ·refine WS.fx 9 true (decide_eq_true hp) (WS.cT (WS.sk (WS.nxt (WS.sq (WS.bk 1 (WS.sq (WS.rg (RS.mS 2 [kI 5 v8_2,kI 10 v8_2] (RS.dn ?_)))))))))
  refine WS.nxt (WS.sq (WS.rg (RS.mS 3 [kI 13 v8_2,kS 12 a0,(11,.val (Value.func (.func 69) #[] #[(Value.pointer a1_0)]))] ?_)))
  obtain ⟨p3,hx,h⟩:=bind_some h
  refine RS.ix 14 37 3 (.tmp 12) (.tmp 13) hx ?_
  obtain ⟨x4,hx,h⟩:=bind_some h
  refine RS.ld 15 3 (.tmp 14) (z1 hx z8) ?_
  obtain ⟨⟨x5,H6⟩,hx,h⟩:=bind_some h
  try dsimp only at h
  refine RS.cl (some 16) (v:=(Value.bool x5)) 69 #[(Value.int .i64 x4),(Value.pointer a1_0)] (zb2 hx) (RS.dn (WS.nxt ?_))
  rcases z0 h with ⟨hp,h⟩ | ⟨hp,h⟩
  ·refine WS.fx 16 true hp (WS.cT (WS.sq (WS.rg (RS.mS 2 [kI 4 v8_2,kI 17 v8_2] (RS.dn (WS.nxt (WS.rt ?_)))))))
   cases h
   exact fun a w hs=>bkR (sqR (lsR rfl (rS hs)))
  ·refine WS.fx 16 false (b_not hp) (WS.cF ?_)
   cases h
 ·refine WS.fx 9 false (decide_eq_false hp) (WS.cF ?_)
  cases h
theorem z7o {L:LC} {m:Nat} {H:AH} {a0:Sl3} {a1_0:Option Addr} {r:(Int×AH)} (h:z1k L m H a0 a1_0=some r) :
  CallS Tryz.prog (NE.plain 202) m 116 #[(Sl3.v a0),(Value.func (.func 69) #[] #[(Value.pointer a1_0)])] H (z11 r) (z17 H r):=by
 refine CallS.mk (args:=[(Sl3.v a0),(Value.func (.func 69) #[] #[(Value.pointer a1_0)])]) Tryz.func116 (B:=B116) (by kernel_rfl) (fun E _=>?_)
 unfold z1k at h
 refine WS.sq (WS.rg (RS.mS 1 [kI 4 0] (RS.dn (WS.nxt (WS.sq (WS.sq (WS.rg (RS.mS 3 [kI 8 0,kI 7 (a0.n:Int),kS 6 a0] (RS.dn ?_)))))))))
 refine WS.nxt (WS.bk 0 ?_)
 obtain ⟨o,hl,h⟩:=bind_some h
 rcases o with ⟨H7,v8_8⟩ | r
 ·try dsimp only at h
  refine WS.lI (z37 (L:=L) (E:=E) (m:=m) (H:=H)) (L.ok hl) 0 ?_
  clear hl
  refine fun a w hs=>bkE ((WS.nxt ?_ a w hs))
  refine WS.sq (WS.rg (RS.mS 1 [kI 4 (-1)] (RS.dn (WS.nxt (WS.rt ?_)))))
  cases h
  exact fun a w hs=>rtR (rS hs)
 ·try dsimp only at h
  refine WS.lR (z37 (L:=L) (E:=E) (m:=m) (H:=H)) (L.ok hl) 0 ?_
  cases h
  exact fun a w hq=>bkR (sqR (rtR hq))
theorem zbm {L:LC} {m:Nat} {H:AH} {a0:Option Addr} {a1_0:Int} {a1_1:ByteArray} {a1_2:Bool} {a1_3:Sl3} {a1_4:Int} {a1_5:Sl3} {a1_6 a1_7:Int} {a1_8:ByteArray} {a1_9 a1_10 a1_11:Sl3} {a2:Int} {r:(Bool×AH)} (h:z3g L m H a0 a1_0 a1_1 a1_2 a1_3 a1_4 a1_5 a1_6 a1_7 a1_8 a1_9 a1_10 a1_11 a2=some r) :
  CallS Tryz.prog (NE.plain 202) m 147 #[(Value.pointer a0),(Value.agg #[(Value.int .i64 a1_0),(Value.string a1_1),(Value.bool a1_2),(Sl3.v a1_3),(Value.int .i64 a1_4),(Sl3.v a1_5),(Value.int .i64 a1_6),(Value.int .i64 a1_7),(Value.string a1_8),(Sl3.v a1_9),(Sl3.v a1_10),(Sl3.v a1_11)]),(Value.int .i64 a2)] H (z41 r) (z4b H r):=by
 refine CallS.mk (args:=[(Value.pointer a0),(Value.agg #[(Value.int .i64 a1_0),(Value.string a1_1),(Value.bool a1_2),(Sl3.v a1_3),(Value.int .i64 a1_4),(Sl3.v a1_5),(Value.int .i64 a1_6),(Value.int .i64 a1_7),(Value.string a1_8),(Sl3.v a1_9),(Sl3.v a1_10),(Sl3.v a1_11)]),(Value.int .i64 a2)]) Tryz.func147 (B:=B147) (by kernel_rfl) (fun E _=>?_)
 unfold z3g at h
 refine WS.sq (WS.rg (RS.mL 2 [kB 6 false,kL 4 0 0] ([some (70,[(Value.int .i64 a1_0),(Value.string a1_1),(Value.bool a1_2),(Sl3.v a1_3),(Value.int .i64 a1_4),(Sl3.v a1_5),(Value.int .i64 a1_6),(Value.int .i64 a1_7),(Value.string a1_8),(Sl3.v a1_9),(Sl3.v a1_10),(Sl3.v a1_11)])]) (RS.dn (WS.nxt (WS.sq (WS.sq (WS.rg (RS.mS 3 [kB 9 (decide (a1_0=34)),kI 8 a1_0,kL 7 0 0] (RS.dn ?_)))))))))
 refine WS.nxt ?_
 rcases z0 h with ⟨hp,h⟩ | ⟨hp,h⟩
 ·refine WS.fx 9 true (decide_eq_true hp) (WS.cT ?_)
  cases h
 ·refine WS.fx 9 false (decide_eq_false hp) (WS.cF (WS.sk (WS.nxt (WS.sq (WS.sq (WS.rg (RS.mS 2 [kB 25 (decide (a2=0)),kI 24 a2] (RS.dn (WS.nxt ?_)))))))))
  rcases z0 h with ⟨hp,h⟩ | ⟨hp,h⟩
  ·refine WS.fx 25 true (decide_eq_true hp) (WS.cT (WS.sq (WS.rg (RS.mS 1 [kB 6 true] (RS.dn (WS.nxt (WS.rt ?_)))))))
   cases h
   exact fun a w hs=>sqR (rtR (rS hs))
  ·refine WS.fx 25 false (decide_eq_false hp) (WS.cF ?_)
   cases h
theorem zbz {L:LC} {rec_term_Table_Add:Nat→AH→(Option Addr)→Int→ByteArray→Bool→Sl3→Int→Sl3→Int→Int→ByteArray→Sl3→Sl3→Sl3→Option (Int×Int×AH)} (hrec_term_Table_Add:∀(m:Nat) (H:AH) (a0:Option Addr) (a1_0:Int) (a1_1:ByteArray) (a1_2:Bool) (a1_3:Sl3) (a1_4:Int) (a1_5:Sl3) (a1_6 a1_7:Int) (a1_8:ByteArray) (a1_9 a1_10 a1_11:Sl3) (r:(Int×Int×AH)),rec_term_Table_Add m H a0 a1_0 a1_1 a1_2 a1_3 a1_4 a1_5 a1_6 a1_7 a1_8 a1_9 a1_10 a1_11=some r→CallS Tryz.prog (NE.plain 202) m 28 #[(Value.pointer a0),(Value.agg #[(Value.int .i64 a1_0),(Value.string a1_1),(Value.bool a1_2),(Sl3.v a1_3),(Value.int .i64 a1_4),(Sl3.v a1_5),(Value.int .i64 a1_6),(Value.int .i64 a1_7),(Value.string a1_8),(Sl3.v a1_9),(Sl3.v a1_10),(Sl3.v a1_11)])] H (z38 r) (z3k H r)) {m:Nat} {H:AH} {a0:Option Addr} {a1_0:Int} {a1_1:ByteArray} {a1_2:Bool} {a1_3:Sl3} {a1_4:Int} {a1_5:Sl3} {a1_6 a1_7:Int} {a1_8:ByteArray} {a1_9 a1_10 a1_11:Sl3} {r:(Int×AH)} (h:z42 L rec_term_Table_Add m H a0 a1_0 a1_1 a1_2 a1_3 a1_4 a1_5 a1_6 a1_7 a1_8 a1_9 a1_10 a1_11=some r) :
  CallS Tryz.prog (NE.plain 202) m 21 #[(Value.pointer a0),(Value.agg #[(Value.int .i64 a1_0),(Value.string a1_1),(Value.bool a1_2),(Sl3.v a1_3),(Value.int .i64 a1_4),(Sl3.v a1_5),(Value.int .i64 a1_6),(Value.int .i64 a1_7),(Value.string a1_8),(Sl3.v a1_9),(Sl3.v a1_10),(Sl3.v a1_11)])] H (z1i r) (z1o H r):=by
 refine CallS.mk (args:=[(Value.pointer a0),(Value.agg #[(Value.int .i64 a1_0),(Value.string a1_1),(Value.bool a1_2),(Sl3.v a1_3),(Value.int .i64 a1_4),(Sl3.v a1_5),(Value.int .i64 a1_6),(Value.int .i64 a1_7),(Value.string a1_8),(Sl3.v a1_9),(Sl3.v a1_10),(Sl3.v a1_11)])]) Tryz.func21 (B:=B21) (by kernel_rfl) (fun E _=>?_)
 unfold z42 at h
 refine WS.sq (WS.rg (RS.mL 2 [kI 4 0,kL 3 0 0] ([some (70,[(Value.int .i64 a1_0),(Value.string a1_1),(Value.bool a1_2),(Sl3.v a1_3),(Value.int .i64 a1_4),(Sl3.v a1_5),(Value.int .i64 a1_6),(Value.int .i64 a1_7),(Value.string a1_8),(Sl3.v a1_9),(Sl3.v a1_10),(Sl3.v a1_11)])]) (RS.dn (WS.nxt (WS.sq ?_)))))
 refine WS.dr [0,1,2,3,4] [0,1,3,7,0,31,63,127,127,255,1023] 11 (fun hcl=>?_)
 refine DA.tK 0 (some 8) (Value.pointer a0) ?_
 obtain ⟨q1,hx,hq1⟩:=bind_some h
 subst hx
 have h:=hq1
 refine DA.tK 1 (some 9) (Value.pointer (some q1)) (DA.tK 2 (some 10) (Value.pointer (some (Addr.add q1 0))) ?_)
 obtain ⟨x2,hx,h⟩:=bind_some h
 refine DA.tD 3 (some 11) (Value.pointer x2) (Abs.det_load (t:=22) (x:=.tmp 10) (a:=(Addr.add q1 0)) (by kernel_rfl) (by kernel_rfl) (by kernel_rfl) (by kernel_rfl) (z1 hx z31)) (DA.tL 4 (some 12) (.val (Value.agg #[(Value.int .i64 a1_0),(Value.string a1_1),(Value.bool a1_2),(Sl3.v a1_3),(Value.int .i64 a1_4),(Sl3.v a1_5),(Value.int .i64 a1_6),(Value.int .i64 a1_7),(Value.string a1_8),(Sl3.v a1_9),(Sl3.v a1_10),(Sl3.v a1_11)])) ?_)
 obtain ⟨⟨x3,x4,H5⟩,hx,h⟩:=bind_some h
 try dsimp only at h
 refine DA.on 5 (DA.aC 5 (some 13) (v:=(Value.tuple #[(Value.int .i64 x3),(Value.int .i64 x4)])) 28 #[(Value.pointer x2),(Value.agg #[(Value.int .i64 a1_0),(Value.string a1_1),(Value.bool a1_2),(Sl3.v a1_3),(Value.int .i64 a1_4),(Sl3.v a1_5),(Value.int .i64 a1_6),(Value.int .i64 a1_7),(Value.string a1_8),(Sl3.v a1_9),(Sl3.v a1_10),(Sl3.v a1_11)])] (hrec_term_Table_Add _ _ _ _ _ _ _ _ _ _ _ _ _ _ _ _ hx) (DA.tP 6 (some 7) (Value.tuple #[(Value.int .i64 x3),(Value.int .i64 x4)]) (DA.tP 7 (some 14) (Value.int .i64 x3) (DA.tP 8 (some 15) (Value.int .i64 x4) (DA.tP 9 (some 5) (Value.int .i64 x3) (DA.tP 10 (some 6) (Value.int .i64 x4) (DA.dn (WS.nxt (WS.sq ?_)))))))))
 refine WS.sq (WS.rg (RS.mS 2 [kB 17 (!decide (x4=0)),kI 16 x4] (RS.dn (WS.nxt ?_))))
 rcases z0 h with ⟨hp,h⟩ | ⟨hp,h⟩
 ·refine WS.fx 17 false (zh hp) (WS.cF (WS.sk (WS.nxt (WS.sq (WS.rg (RS.mS 2 [kI 4 x3,kI 21 x3] (RS.dn (WS.nxt (WS.rt ?_)))))))))
  cases h
  exact fun a w hs=>rtR (rS hs)
 ·refine WS.fx 17 true (ze hp) (WS.cT ?_)
  cases h
theorem zdr {L:LC} {rec_term_Table_check:Nat→AH→(Option Addr)→Int→ByteArray→Bool→Sl3→Int→Sl3→Int→Int→ByteArray→Sl3→Sl3→Sl3→Option (Int×Int×ByteArray×Sl3×Int×AH)} {rec_term_key:Nat→AH→Int→ByteArray→Bool→Sl3→Int→Sl3→Int→Int→ByteArray→Sl3→Sl3→Sl3→Option (ByteArray×AH)} (hrec_term_Table_check:∀(m:Nat) (H:AH) (a0:Option Addr) (a1_0:Int) (a1_1:ByteArray) (a1_2:Bool) (a1_3:Sl3) (a1_4:Int) (a1_5:Sl3) (a1_6 a1_7:Int) (a1_8:ByteArray) (a1_9 a1_10 a1_11:Sl3) (r:(Int×Int×ByteArray×Sl3×Int×AH)),rec_term_Table_check m H a0 a1_0 a1_1 a1_2 a1_3 a1_4 a1_5 a1_6 a1_7 a1_8 a1_9 a1_10 a1_11=some r→CallS Tryz.prog (NE.plain 202) m 61 #[(Value.pointer a0),(Value.agg #[(Value.int .i64 a1_0),(Value.string a1_1),(Value.bool a1_2),(Sl3.v a1_3),(Value.int .i64 a1_4),(Sl3.v a1_5),(Value.int .i64 a1_6),(Value.int .i64 a1_7),(Value.string a1_8),(Sl3.v a1_9),(Sl3.v a1_10),(Sl3.v a1_11)])] H (z1e r) (z1n H r)) (hrec_term_key:∀(m:Nat) (H:AH) (a0_0:Int) (a0_1:ByteArray) (a0_2:Bool) (a0_3:Sl3) (a0_4:Int) (a0_5:Sl3) (a0_6 a0_7:Int) (a0_8:ByteArray) (a0_9 a0_10 a0_11:Sl3) (r:(ByteArray×AH)),rec_term_key m H a0_0 a0_1 a0_2 a0_3 a0_4 a0_5 a0_6 a0_7 a0_8 a0_9 a0_10 a0_11=some r→CallS Tryz.prog (NE.plain 202) m 63 #[(Value.agg #[(Value.int .i64 a0_0),(Value.string a0_1),(Value.bool a0_2),(Sl3.v a0_3),(Value.int .i64 a0_4),(Sl3.v a0_5),(Value.int .i64 a0_6),(Value.int .i64 a0_7),(Value.string a0_8),(Sl3.v a0_9),(Sl3.v a0_10),(Sl3.v a0_11)])] H (z5n r) (z6t H r)) {m:Nat} {H:AH} {a0:Option Addr} {a1_0:Int} {a1_1:ByteArray} {a1_2:Bool} {a1_3:Sl3} {a1_4:Int} {a1_5:Sl3} {a1_6 a1_7:Int} {a1_8:ByteArray} {a1_9 a1_10 a1_11:Sl3} {r:(Int×Int×AH)} (h:z4n L rec_term_Table_check rec_term_key m H a0 a1_0 a1_1 a1_2 a1_3 a1_4 a1_5 a1_6 a1_7 a1_8 a1_9 a1_10 a1_11=some r) :
  CallS Tryz.prog (NE.plain 202) m 28 #[(Value.pointer a0),(Value.agg #[(Value.int .i64 a1_0),(Value.string a1_1),(Value.bool a1_2),(Sl3.v a1_3),(Value.int .i64 a1_4),(Sl3.v a1_5),(Value.int .i64 a1_6),(Value.int .i64 a1_7),(Value.string a1_8),(Sl3.v a1_9),(Sl3.v a1_10),(Sl3.v a1_11)])] H (z38 r) (z3k H r):=by
 refine CallS.mk (args:=[(Value.pointer a0),(Value.agg #[(Value.int .i64 a1_0),(Value.string a1_1),(Value.bool a1_2),(Sl3.v a1_3),(Value.int .i64 a1_4),(Sl3.v a1_5),(Value.int .i64 a1_6),(Value.int .i64 a1_7),(Value.string a1_8),(Sl3.v a1_9),(Sl3.v a1_10),(Sl3.v a1_11)])]) Tryz.func28 (B:=B28) (by kernel_rfl) (fun E _=>?_)
 unfold z4n at h
 refine WS.sq (WS.rg (RS.mL 3 [kI 5 0,kI 4 0,kL 3 0 0] ([some (70,[(Value.int .i64 a1_0),(Value.string a1_1),(Value.bool a1_2),(Sl3.v a1_3),(Value.int .i64 a1_4),(Sl3.v a1_5),(Value.int .i64 a1_6),(Value.int .i64 a1_7),(Value.string a1_8),(Sl3.v a1_9),(Sl3.v a1_10),(Sl3.v a1_11)])]) (RS.dn (WS.nxt (WS.sq (WS.sq (WS.rg (RS.mS 1 [(12,.val (Value.pointer a0))] ?_))))))))
 obtain ⟨x1,hx,h⟩:=bind_some h
 refine RS.cl (some 13) (v:=(Value.bool x1)) 45 #[(Value.pointer a0)] (z34 hx) (RS.mS 1 [kB 14 (!x1)] (RS.dn (WS.nxt ?_)))
 rcases z0 h with ⟨hp,h⟩ | ⟨hp,h⟩
 ·refine WS.fx 14 false (nb_not hp) (WS.cF (WS.sk (WS.nxt (WS.sq (WS.rg (RS.mS 2 [kA 17 #[(Value.int .i64 a1_0),(Value.string a1_1),(Value.bool a1_2),(Sl3.v a1_3),(Value.int .i64 a1_4),(Sl3.v a1_5),(Value.int .i64 a1_6),(Value.int .i64 a1_7),(Value.string a1_8),(Sl3.v a1_9),(Sl3.v a1_10),(Sl3.v a1_11)],(16,.val (Value.pointer a0))] ?_))))))
  obtain ⟨⟨x2_0,x2_1,x2_2,x2_3,x3,H4⟩,hx,h⟩:=bind_some h
  try dsimp only at h
  refine RS.cl (some 18) (v:=(Value.tuple #[(Value.agg #[(Value.int .i64 x2_0),(Value.int .i64 x2_1),(Value.string x2_2),(Sl3.v x2_3)]),(Value.int .i64 x3)])) 61 #[(Value.pointer a0),(Value.agg #[(Value.int .i64 a1_0),(Value.string a1_1),(Value.bool a1_2),(Sl3.v a1_3),(Value.int .i64 a1_4),(Sl3.v a1_5),(Value.int .i64 a1_6),(Value.int .i64 a1_7),(Value.string a1_8),(Sl3.v a1_9),(Sl3.v a1_10),(Sl3.v a1_11)])] (hrec_term_Table_check _ _ _ _ _ _ _ _ _ _ _ _ _ _ _ _ hx) (RS.mL 6 [kI 7 x3,kL 6 1 0,kI 20 x3,kA 19 #[(Value.int .i64 x2_0),(Value.int .i64 x2_1),(Value.string x2_2),(Sl3.v x2_3)],(15,.val (Value.tuple #[(Value.agg #[(Value.int .i64 x2_0),(Value.int .i64 x2_1),(Value.string x2_2),(Sl3.v x2_3)]),(Value.int .i64 x3)]))] ([some (70,[(Value.int .i64 a1_0),(Value.string a1_1),(Value.bool a1_2),(Sl3.v a1_3),(Value.int .i64 a1_4),(Sl3.v a1_5),(Value.int .i64 a1_6),(Value.int .i64 a1_7),(Value.string a1_8),(Sl3.v a1_9),(Sl3.v a1_10),(Sl3.v a1_11)]),some (68,[(Value.int .i64 x2_0),(Value.int .i64 x2_1),(Value.string x2_2),(Sl3.v x2_3)])]) (RS.dn (WS.nxt (WS.sq (WS.sq (WS.rg (RS.mS 2 [kB 22 (!decide (x3=0)),kI 21 x3] (RS.dn (WS.nxt ?_)))))))))
  rcases z0 h with ⟨hp,h⟩ | ⟨hp,h⟩
  ·refine WS.fx 22 false (zh hp) (WS.cF (WS.sk (WS.nxt (WS.sq (WS.rg (RS.mS 1 [kA 24 #[(Value.int .i64 a1_0),(Value.string a1_1),(Value.bool a1_2),(Sl3.v a1_3),(Value.int .i64 a1_4),(Sl3.v a1_5),(Value.int .i64 a1_6),(Value.int .i64 a1_7),(Value.string a1_8),(Sl3.v a1_9),(Sl3.v a1_10),(Sl3.v a1_11)]] ?_))))))
   obtain ⟨⟨x5_0,x5_1,x5_2,x5_3,x5_4,x5_5,x5_6,x5_7,x5_8,x5_9,x5_10,x5_11,H6⟩,hx,h⟩:=bind_some h
   try dsimp only at h
   refine RS.cl (some 25) (v:=(Value.agg #[(Value.int .i64 x5_0),(Value.string x5_1),(Value.bool x5_2),(Sl3.v x5_3),(Value.int .i64 x5_4),(Sl3.v x5_5),(Value.int .i64 x5_6),(Value.int .i64 x5_7),(Value.string x5_8),(Sl3.v x5_9),(Sl3.v x5_10),(Sl3.v x5_11)])) 62 #[(Value.agg #[(Value.int .i64 a1_0),(Value.string a1_1),(Value.bool a1_2),(Sl3.v a1_3),(Value.int .i64 a1_4),(Sl3.v a1_5),(Value.int .i64 a1_6),(Value.int .i64 a1_7),(Value.string a1_8),(Sl3.v a1_9),(Sl3.v a1_10),(Sl3.v a1_11)])] (zgq hx) (RS.mL 2 [kL 8 2 0] ([some (70,[(Value.int .i64 a1_0),(Value.string a1_1),(Value.bool a1_2),(Sl3.v a1_3),(Value.int .i64 a1_4),(Sl3.v a1_5),(Value.int .i64 a1_6),(Value.int .i64 a1_7),(Value.string a1_8),(Sl3.v a1_9),(Sl3.v a1_10),(Sl3.v a1_11)]),some (68,[(Value.int .i64 x2_0),(Value.int .i64 x2_1),(Value.string x2_2),(Sl3.v x2_3)]),some (70,[(Value.int .i64 x5_0),(Value.string x5_1),(Value.bool x5_2),(Sl3.v x5_3),(Value.int .i64 x5_4),(Sl3.v x5_5),(Value.int .i64 x5_6),(Value.int .i64 x5_7),(Value.string x5_8),(Sl3.v x5_9),(Sl3.v x5_10),(Sl3.v x5_11)])]) (RS.dn (WS.nxt (WS.sq (WS.rg (RS.mS 1 [kA 26 #[(Value.int .i64 x5_0),(Value.string x5_1),(Value.bool x5_2),(Sl3.v x5_3),(Value.int .i64 x5_4),(Sl3.v x5_5),(Value.int .i64 x5_6),(Value.int .i64 x5_7),(Value.string x5_8),(Sl3.v x5_9),(Sl3.v x5_10),(Sl3.v x5_11)]] ?_))))))
   obtain ⟨⟨x7,H8⟩,hx,h⟩:=bind_some h
   try dsimp only at h
   refine RS.cl (some 27) (v:=(Value.string x7)) 63 #[(Value.agg #[(Value.int .i64 x5_0),(Value.string x5_1),(Value.bool x5_2),(Sl3.v x5_3),(Value.int .i64 x5_4),(Sl3.v x5_5),(Value.int .i64 x5_6),(Value.int .i64 x5_7),(Value.string x5_8),(Sl3.v x5_9),(Sl3.v x5_10),(Sl3.v x5_11)])] (hrec_term_key _ _ _ _ _ _ _ _ _ _ _ _ _ _ _ hx) (RS.mS 1 [kT 9 x7] (RS.dn (WS.nxt (WS.sq (WS.sq (WS.rg (RS.mS 1 [(29,.val (Value.pointer a0))] ?_)))))))
   obtain ⟨q9,hx,hq9⟩:=bind_some h
   subst hx
   have h:=hq9
   refine RS.mS 2 [(31,.val (Value.pointer (some (Addr.add q9 4)))),kP 30 q9] ?_
   obtain ⟨x10,hx,h⟩:=bind_some h
   refine RS.ld 32 29 (.tmp 31) (z1 hx zlg) (RS.mS 1 [kT 33 x7] ?_)
   obtain ⟨⟨x11,b12⟩,hx,h⟩:=bind_some h
   try dsimp only at h
   refine RS.o (H':=H8) (some 34) (Value.tuple #[(Value.int .i64 x11),(Value.bool b12)]) (Abs.run_look (t:=29) (x:=.tmp 32) (y:=.tmp 33) (mm:=x10) (k:=(Value.string x7)) (by kernel_rfl) (by kernel_rfl) (by kernel_rfl) (by kernel_rfl) (lkM_eq hx z8)) (RS.mS 5 [kB 11 b12,kI 10 x11,kB 36 b12,kI 35 x11,(28,.val (Value.tuple #[(Value.int .i64 x11),(Value.bool b12)]))] (RS.dn (WS.nxt (WS.sq (WS.rg (RS.mS 1 [kB 37 b12] (RS.dn (WS.nxt ?_))))))))
   rcases z0 h with ⟨hp,h⟩ | ⟨hp,h⟩
   ·refine WS.fx 37 true hp (WS.cT (WS.sq (WS.rg (RS.mS 3 [kI 5 0,kI 4 x11,kI 38 x11] (RS.dn (WS.nxt (WS.rt ?_)))))))
    cases h
    exact fun a w hs=>sqR (rtR (rS hs))
   ·refine WS.fx 37 false (b_not hp) (WS.cF (WS.sk (WS.nxt (WS.sq (WS.sq (WS.rg (RS.mS 3 [(41,.val (Value.pointer (some (Addr.add q9 3)))),kP 40 q9,kP 39 q9] ?_)))))))
    obtain ⟨x13,hx,h⟩:=bind_some h
    refine RS.ld 42 28 (.tmp 41) (z1 hx z6) (RS.mS 2 [kB 44 (decide ((x13.n:Int)≥1048576)),kI 43 (x13.n:Int)] (RS.dn (WS.nxt ?_)))
    rcases z0 h with ⟨hp,h⟩ | ⟨hp,h⟩
    ·refine WS.fx 44 true (decide_eq_true hp) (WS.cT ?_)
     cases h
    ·refine WS.fx 44 false (decide_eq_false hp) (WS.cF (WS.sk (WS.nxt (WS.sq ?_))))
     refine WS.dr [0,1,2,3,5,6,7,8] [0,1,3,7,0,0,32,96,224,480,1023] 11 (fun hcl=>?_)
     refine DA.tK 0 (some 45) (Value.pointer (some q9)) (DA.tK 1 (some 46) (Value.pointer (some q9)) (DA.tK 2 (some 47) (Value.pointer (some (Addr.add q9 4))) ?_))
     obtain ⟨x14,hx,h⟩:=bind_some h
     refine DA.tD 3 (some 48) (Value.map x14) (Abs.det_load (t:=29) (x:=.tmp 47) (a:=(Addr.add q9 4)) (by kernel_rfl) (by kernel_rfl) (by kernel_rfl) (by kernel_rfl) (z1 hx zlg)) (DA.tK 5 (some 50) (Value.pointer (some q9)) (DA.tK 6 (some 51) (Value.pointer (some q9)) (DA.tK 7 (some 52) (Value.pointer (some (Addr.add q9 3))) ?_)))
     obtain ⟨x15,hx,h⟩:=bind_some h
     refine DA.tD 8 (some 53) (Sl3.v x15) (Abs.det_load (t:=28) (x:=.tmp 52) (a:=(Addr.add q9 3)) (by kernel_rfl) (by kernel_rfl) (by kernel_rfl) (by kernel_rfl) (z1 hx z6)) (DA.tP 4 (some 49) (Value.string x7) (DA.on 9 (DA.aHj (H':=H8) 9 (some 54) false (Value.int .i64 (x15.n:Int)) (by kernel_rfl) ?_)))
     obtain ⟨H16,hx,h⟩:=bind_some h
     refine DA.on 10 (DA.aH (H':=H16) 10 none undef (Abs.run_upM (t:=29) (x:=.tmp 48) (y:=.tmp 49) (z:=.tmp 54) (mm:=x14) (k:=(Value.string x7)) (v:=(Value.int .i64 (x15.n:Int))) (by kernel_rfl) (by kernel_rfl) (by kernel_rfl) (by kernel_rfl) (by kernel_rfl) hx) (DA.dn (WS.nxt (WS.sq ?_))))
     obtain ⟨x17,hx_4,h⟩:=bind_some h
     obtain ⟨⟨x18_0,x18_1,x18_2,x18_3,H19⟩,hx_7,h⟩:=bind_some h
     try dsimp only at h
     obtain ⟨⟨k20,H21⟩,hx_k20,h⟩:=bind_some h
     try dsimp only at h
     obtain ⟨⟨s22,H23⟩,hx_10,h⟩:=bind_some h
     try dsimp only at h
     obtain ⟨H24,hx_13,h⟩:=bind_some h
     refine WS.toone ([kP 0 q9]) ([some (70,[(Value.int .i64 a1_0),(Value.string a1_1),(Value.bool a1_2),(Sl3.v a1_3),(Value.int .i64 a1_4),(Sl3.v a1_5),(Value.int .i64 a1_6),(Value.int .i64 a1_7),(Value.string a1_8),(Sl3.v a1_9),(Sl3.v a1_10),(Sl3.v a1_11)]),some (68,[(Value.int .i64 x2_0),(Value.int .i64 x2_1),(Value.string x2_2),(Sl3.v x2_3)]),some (70,[(Value.int .i64 x5_0),(Value.string x5_1),(Value.bool x5_2),(Sl3.v x5_3),(Value.int .i64 x5_4),(Sl3.v x5_5),(Value.int .i64 x5_6),(Value.int .i64 x5_7),(Value.string x5_8),(Sl3.v x5_9),(Sl3.v x5_10),(Sl3.v x5_11)]),none]) H24 ?_ ?_
     ·clear h
      refine WS.dr [1,2,3,4,6] [0,0,2,6,14,0,0,64,224,480,1022,2047,4095,8191] 14 (fun hcl=>?_)
      refine DA.tK 1 (some 56) (Value.pointer (some q9)) (DA.tK 2 (some 57) (Value.pointer (some q9)) (DA.tK 3 (some 58) (Value.pointer (some (Addr.add q9 3))) (DA.tD 4 (some 59) (Sl3.v x17) (Abs.det_load (t:=28) (x:=.tmp 58) (a:=(Addr.add q9 3)) (by kernel_rfl) (by kernel_rfl) (by kernel_rfl) (by kernel_rfl) (z1 hx_4 z6)) (DA.tL 6 (some 61) (.val (Value.agg #[(Value.int .i64 x2_0),(Value.int .i64 x2_1),(Value.string x2_2),(Sl3.v x2_3)])) (DA.tP 0 (some 55) (Value.pointer (some q9)) ?_)))))
      refine DA.two 5 7 (by kernel_rfl) ?_ ?_
      ·refine DA.aL 5 (some 60) (.val (Value.agg #[(Value.int .i64 x5_0),(Value.string x5_1),(Value.bool x5_2),(Sl3.v x5_3),(Value.int .i64 x5_4),(Sl3.v x5_5),(Value.int .i64 x5_6),(Value.int .i64 x5_7),(Value.string x5_8),(Sl3.v x5_9),(Sl3.v x5_10),(Sl3.v x5_11)])) ([some (70,[(Value.int .i64 a1_0),(Value.string a1_1),(Value.bool a1_2),(Sl3.v a1_3),(Value.int .i64 a1_4),(Sl3.v a1_5),(Value.int .i64 a1_6),(Value.int .i64 a1_7),(Value.string a1_8),(Sl3.v a1_9),(Sl3.v a1_10),(Sl3.v a1_11)]),some (68,[(Value.int .i64 x2_0),(Value.int .i64 x2_1),(Value.string x2_2),(Sl3.v x2_3)]),some (70,[(Value.int .i64 x5_0),(Value.string x5_1),(Value.bool x5_2),(Sl3.v x5_3),(Value.int .i64 x5_4),(Sl3.v x5_5),(Value.int .i64 x5_6),(Value.int .i64 x5_7),(Value.string x5_8),(Sl3.v x5_9),(Sl3.v x5_10),(Sl3.v x5_11)])]) true (DA.on 7 (DA.aCj 7 (some 62) true (v:=(Value.agg #[(Value.int .i64 x18_0),(Value.int .i64 x18_1),(Value.string x18_2),(Sl3.v x18_3)])) 56 #[(Value.agg #[(Value.int .i64 x2_0),(Value.int .i64 x2_1),(Value.string x2_2),(Sl3.v x2_3)])] (z1b hx_7) (DA.on 8 (DA.aHj (H':=H19) 8 (some 63) true (Value.agg #[(Value.int .i64 x5_0),(Value.string x5_1),(Value.bool x5_2),(Sl3.v x5_3),(Value.int .i64 x5_4),(Sl3.v x5_5),(Value.int .i64 x5_6),(Value.int .i64 x5_7),(Value.string x5_8),(Sl3.v x5_9),(Sl3.v x5_10),(Sl3.v x5_11),(Value.int .i64 x18_0),(Value.int .i64 x18_1),(Value.string x18_2),(Sl3.v x18_3)]) (by kernel_rfl) (DA.on 9 (DA.actS 9 (some 64) (.sli 3 1) ([some (70,[(Value.int .i64 a1_0),(Value.string a1_1),(Value.bool a1_2),(Sl3.v a1_3),(Value.int .i64 a1_4),(Sl3.v a1_5),(Value.int .i64 a1_6),(Value.int .i64 a1_7),(Value.string a1_8),(Sl3.v a1_9),(Sl3.v a1_10),(Sl3.v a1_11)]),some (68,[(Value.int .i64 x2_0),(Value.int .i64 x2_1),(Value.string x2_2),(Sl3.v x2_3)]),some (70,[(Value.int .i64 x5_0),(Value.string x5_1),(Value.bool x5_2),(Sl3.v x5_3),(Value.int .i64 x5_4),(Sl3.v x5_5),(Value.int .i64 x5_6),(Value.int .i64 x5_7),(Value.string x5_8),(Sl3.v x5_9),(Sl3.v x5_10),(Sl3.v x5_11)]),some (99,[(Value.int .i64 x5_0),(Value.string x5_1),(Value.bool x5_2),(Sl3.v x5_3),(Value.int .i64 x5_4),(Sl3.v x5_5),(Value.int .i64 x5_6),(Value.int .i64 x5_7),(Value.string x5_8),(Sl3.v x5_9),(Sl3.v x5_10),(Sl3.v x5_11),(Value.int .i64 x18_0),(Value.int .i64 x18_1),(Value.string x18_2),(Sl3.v x18_3)])]) (by kernel_rfl) (by kernel_rfl) (by kernel_rfl) hcl (by kernel_rfl) (by kernel_rfl) (by kernel_rfl) (DA.on 10 (DA.pubK 3 _ _ hx_k20 (by kernel_rfl) rfl rfl (DA.aH (H':=H23) 10 (some 65) (Sl3.v s22) (Abs.run_app (x:=.tmp 59) (y:=.tmp 64) (ts:=#[28,28]) (s:=x17) (z:=(⟨some ⟨k20,0,none⟩,1,1⟩:Sl3)) (by kernel_rfl) (by kernel_rfl) (by kernel_rfl) (by kernel_rfl) hx_10) ?_)))))))))
       refine DA.tP 11 (some 66) (Value.pointer (some q9)) (DA.tP 12 (some 67) (Value.pointer (some (Addr.add q9 3))) (DA.on 13 (DA.aH (H':=H24) 13 none undef (Abs.run_store1 (t:=28) (x:=.tmp 67) (y:=.tmp 65) (a:=(Addr.add q9 3)) (v:=(Sl3.v s22)) (by kernel_rfl) (by kernel_rfl) (by kernel_rfl) (by kernel_rfl) (by kernel_rfl) hx_13) (DA.dn ?_))))
       exact fun a w hs=>jsN (hs.sb 4)
      ·refine DA.aCj 7 (some 62) true (v:=(Value.agg #[(Value.int .i64 x18_0),(Value.int .i64 x18_1),(Value.string x18_2),(Sl3.v x18_3)])) 56 #[(Value.agg #[(Value.int .i64 x2_0),(Value.int .i64 x2_1),(Value.string x2_2),(Sl3.v x2_3)])] (z1b hx_7) (DA.on 5 (DA.aL 5 (some 60) (.val (Value.agg #[(Value.int .i64 x5_0),(Value.string x5_1),(Value.bool x5_2),(Sl3.v x5_3),(Value.int .i64 x5_4),(Sl3.v x5_5),(Value.int .i64 x5_6),(Value.int .i64 x5_7),(Value.string x5_8),(Sl3.v x5_9),(Sl3.v x5_10),(Sl3.v x5_11)])) ([some (70,[(Value.int .i64 a1_0),(Value.string a1_1),(Value.bool a1_2),(Sl3.v a1_3),(Value.int .i64 a1_4),(Sl3.v a1_5),(Value.int .i64 a1_6),(Value.int .i64 a1_7),(Value.string a1_8),(Sl3.v a1_9),(Sl3.v a1_10),(Sl3.v a1_11)]),some (68,[(Value.int .i64 x2_0),(Value.int .i64 x2_1),(Value.string x2_2),(Sl3.v x2_3)]),some (70,[(Value.int .i64 x5_0),(Value.string x5_1),(Value.bool x5_2),(Sl3.v x5_3),(Value.int .i64 x5_4),(Sl3.v x5_5),(Value.int .i64 x5_6),(Value.int .i64 x5_7),(Value.string x5_8),(Sl3.v x5_9),(Sl3.v x5_10),(Sl3.v x5_11)])]) true (DA.on 8 (DA.aHj (H':=H19) 8 (some 63) true (Value.agg #[(Value.int .i64 x5_0),(Value.string x5_1),(Value.bool x5_2),(Sl3.v x5_3),(Value.int .i64 x5_4),(Sl3.v x5_5),(Value.int .i64 x5_6),(Value.int .i64 x5_7),(Value.string x5_8),(Sl3.v x5_9),(Sl3.v x5_10),(Sl3.v x5_11),(Value.int .i64 x18_0),(Value.int .i64 x18_1),(Value.string x18_2),(Sl3.v x18_3)]) (by kernel_rfl) (DA.on 9 (DA.actS 9 (some 64) (.sli 3 1) ([some (70,[(Value.int .i64 a1_0),(Value.string a1_1),(Value.bool a1_2),(Sl3.v a1_3),(Value.int .i64 a1_4),(Sl3.v a1_5),(Value.int .i64 a1_6),(Value.int .i64 a1_7),(Value.string a1_8),(Sl3.v a1_9),(Sl3.v a1_10),(Sl3.v a1_11)]),some (68,[(Value.int .i64 x2_0),(Value.int .i64 x2_1),(Value.string x2_2),(Sl3.v x2_3)]),some (70,[(Value.int .i64 x5_0),(Value.string x5_1),(Value.bool x5_2),(Sl3.v x5_3),(Value.int .i64 x5_4),(Sl3.v x5_5),(Value.int .i64 x5_6),(Value.int .i64 x5_7),(Value.string x5_8),(Sl3.v x5_9),(Sl3.v x5_10),(Sl3.v x5_11)]),some (99,[(Value.int .i64 x5_0),(Value.string x5_1),(Value.bool x5_2),(Sl3.v x5_3),(Value.int .i64 x5_4),(Sl3.v x5_5),(Value.int .i64 x5_6),(Value.int .i64 x5_7),(Value.string x5_8),(Sl3.v x5_9),(Sl3.v x5_10),(Sl3.v x5_11),(Value.int .i64 x18_0),(Value.int .i64 x18_1),(Value.string x18_2),(Sl3.v x18_3)])]) (by kernel_rfl) (by kernel_rfl) (by kernel_rfl) hcl (by kernel_rfl) (by kernel_rfl) (by kernel_rfl) (DA.on 10 (DA.pubK 3 _ _ hx_k20 (by kernel_rfl) rfl rfl (DA.aH (H':=H23) 10 (some 65) (Sl3.v s22) (Abs.run_app (x:=.tmp 59) (y:=.tmp 64) (ts:=#[28,28]) (s:=x17) (z:=(⟨some ⟨k20,0,none⟩,1,1⟩:Sl3)) (by kernel_rfl) (by kernel_rfl) (by kernel_rfl) (by kernel_rfl) hx_10) ?_)))))))))
       refine DA.tP 11 (some 66) (Value.pointer (some q9)) (DA.tP 12 (some 67) (Value.pointer (some (Addr.add q9 3))) (DA.on 13 (DA.aH (H':=H24) 13 none undef (Abs.run_store1 (t:=28) (x:=.tmp 67) (y:=.tmp 65) (a:=(Addr.add q9 3)) (v:=(Sl3.v s22)) (by kernel_rfl) (by kernel_rfl) (by kernel_rfl) (by kernel_rfl) (by kernel_rfl) hx_13) (DA.dn ?_))))
       exact fun a w hs=>jsN (hs.sb 4)
     ·refine WS.nxt (WS.sq (WS.rg (RS.mS 3 [(70,.val (Value.pointer (some (Addr.add q9 3)))),kP 69 q9,kP 68 q9] ?_)))
      obtain ⟨x25,hx,h⟩:=bind_some h
      refine RS.ld 71 28 (.tmp 70) (z1 hx z6) (RS.mS 4 [kI 5 0,kI 4 (IntKind.i64.wrap ((x25.n:Int) - 1)),kI 73 (IntKind.i64.wrap ((x25.n:Int) - 1)),kI 72 (x25.n:Int)] (RS.dn (WS.nxt (WS.rt ?_))))
      cases h
      exact fun a w hs=>rtR (rS hs)
  ·refine WS.fx 22 true (ze hp) (WS.cT ?_)
   cases h
 ·refine WS.fx 14 true (z19 hp) (WS.cT ?_)
  cases h
theorem zbp {L:LC} {rec_rewrite_desk_add:Nat→AH→(Option Addr)→Int→ByteArray→Bool→Sl3→Int→Sl3→Int→Int→ByteArray→Sl3→Sl3→Sl3→Option (Int×AH)} (hrec_rewrite_desk_add:∀(m:Nat) (H:AH) (a0:Option Addr) (a1_0:Int) (a1_1:ByteArray) (a1_2:Bool) (a1_3:Sl3) (a1_4:Int) (a1_5:Sl3) (a1_6 a1_7:Int) (a1_8:ByteArray) (a1_9 a1_10 a1_11:Sl3) (r:(Int×AH)),rec_rewrite_desk_add m H a0 a1_0 a1_1 a1_2 a1_3 a1_4 a1_5 a1_6 a1_7 a1_8 a1_9 a1_10 a1_11=some r→CallS Tryz.prog (NE.plain 202) m 21 #[(Value.pointer a0),(Value.agg #[(Value.int .i64 a1_0),(Value.string a1_1),(Value.bool a1_2),(Sl3.v a1_3),(Value.int .i64 a1_4),(Sl3.v a1_5),(Value.int .i64 a1_6),(Value.int .i64 a1_7),(Value.string a1_8),(Sl3.v a1_9),(Sl3.v a1_10),(Sl3.v a1_11)])] H (z1i r) (z1o H r)) {m:Nat} {H:AH} {a0:Option Addr} {a1:Int} {a2:Sl3} {r:(Int×AH)} (h:z3f L rec_rewrite_desk_add m H a0 a1 a2=some r) :
  CallS Tryz.prog (NE.plain 202) m 49 #[(Value.pointer a0),(Value.int .i64 a1),(Sl3.v a2)] H (z3p r) (z49 H r):=by
 refine CallS.mk (args:=[(Value.pointer a0),(Value.int .i64 a1),(Sl3.v a2)]) Tryz.func49 (B:=B49) (by kernel_rfl) (fun E _=>?_)
 unfold z3f at h
 refine WS.sq (WS.rg (RS.mS 1 [kI 6 0] (RS.dn (WS.nxt (WS.sq (WS.rg (RS.mS 4 [kA 10 #[(Value.int .i64 a1),(Value.string (⟨#[]⟩:ByteArray)),(Value.bool false),(Sl3.v Sl3.nil),(Value.int .i64 0),(Sl3.v Sl3.nil),(Value.int .i64 0),(Value.int .i64 0),(Value.string (⟨#[]⟩:ByteArray)),(Sl3.v Sl3.nil),(Sl3.v Sl3.nil),(Sl3.v a2)],kS 9 a2,kI 8 a1,(7,.val (Value.pointer a0))] ?_)))))))
 obtain ⟨⟨x1,H2⟩,hx,h⟩:=bind_some h
 try dsimp only at h
 refine RS.cl (some 11) (v:=(Value.int .i64 x1)) 21 #[(Value.pointer a0),(Value.agg #[(Value.int .i64 a1),(Value.string (⟨#[]⟩:ByteArray)),(Value.bool false),(Sl3.v Sl3.nil),(Value.int .i64 0),(Sl3.v Sl3.nil),(Value.int .i64 0),(Value.int .i64 0),(Value.string (⟨#[]⟩:ByteArray)),(Sl3.v Sl3.nil),(Sl3.v Sl3.nil),(Sl3.v a2)])] (hrec_rewrite_desk_add _ _ _ _ _ _ _ _ _ _ _ _ _ _ _ _ hx) (RS.mS 1 [kI 6 x1] (RS.dn (WS.nxt (WS.rt ?_))))
 cases h
 exact fun a w hs=>rtR (rS hs)
theorem z6w {E H L m a0 a1_0 a1_1 a1_2 a1_3 a1_4 a1_5 a1_6 a1_7 a1_8 a1_9 a1_10 a1_11 x1 x2_0 x2_1 x2_2 x2_3} :LoopF Tryz.prog (NE.plain 202) m E Tryz.f61 ((cfst (csnd (cfst (csnd (csnd (csnd (csnd B61)))))))) (ze2 L m a0 a1_0 a1_1 a1_2 a1_3 a1_4 a1_5 a1_6 a1_7 a1_8 a1_9 a1_10 a1_11 x1 x2_0 x2_1 x2_2 x2_3) (fun s=>s.1) 0 z1e (z1n H) (z54 L m a0 a1_0 a1_1 a1_2 a1_3 a1_4 a1_5 a1_6 a1_7 a1_8 a1_9 a1_10 a1_11 x1 x2_0 x2_1 x2_2 x2_3):=by
 rintro ⟨H5,v9_6,v30_7⟩ o h
 unfold z54 at h
 try dsimp only at h
 refine WS.sq (WS.rg (RS.mS 1 [kB 31 (decide (v30_7<(a1_11.n:Int)))] (RS.dn (WS.nxt (WS.sq ?_)))))
 rcases z0 h with ⟨hp,h⟩ | ⟨hp,h⟩
 ·refine WS.fx 31 true (decide_eq_true hp) (WS.cT (WS.sk (WS.nxt (WS.sq (WS.bk 1 (WS.sq (WS.rg ?_)))))))
  obtain ⟨p8,hx,h⟩:=bind_some h
  refine RS.ix 32 37 3 (.tmp 28) (.tmp 30) hx ?_
  obtain ⟨x9,hx,h⟩:=bind_some h
  refine RS.ld 33 3 (.tmp 32) (z1 hx z8) (RS.mS 1 [kI 11 x9] (RS.dn (WS.nxt (WS.rg (RS.mS 2 [(35,.val (Value.pointer a0)),kS 34 v9_6] ?_)))))
  obtain ⟨q10,hx,hq10⟩:=bind_some h
  subst hx
  have h:=hq10
  refine RS.mS 2 [(37,.val (Value.pointer (some (Addr.add q10 3)))),kP 36 q10] ?_
  obtain ⟨x11,hx,h⟩:=bind_some h
  refine RS.ld 38 28 (.tmp 37) (z1 hx z6) (RS.mS 1 [kI 39 x9] ?_)
  obtain ⟨p12,hx,h⟩:=bind_some h
  refine RS.ix 40 28 99 (.tmp 38) (.tmp 39) hx (RS.mS 1 [(41,.val (Value.pointer (some (Addr.add p12 12))))] ?_)
  obtain ⟨x13_0,hx0,h⟩:=bind_some h
  obtain ⟨x13_1,hx1,h⟩:=bind_some h
  obtain ⟨x13_2,hx2,h⟩:=bind_some h
  obtain ⟨x13_3,hx3,h⟩:=bind_some h
  refine RS.la 42 68 (.tmp 41) 4 (z3 (z1 hx0 z8) (z3 (z1 hx1 z8) (z3 (z1 hx2 zl) (z3 (z1 hx3 z6) z30)))) ?_
  obtain ⟨⟨s14,H15⟩,hx,h⟩:=bind_some h
  try dsimp only at h
  refine RS.o (H':=H15) (some 43) (Sl3.v s14) (Abs.run_newR (by kernel_rfl) (by kernel_rfl) hx) ?_
  obtain ⟨⟨s16,H17⟩,hx,h⟩:=bind_some h
  try dsimp only at h
  refine RS.o (H':=H17) (some 44) (Sl3.v s16) (Abs.run_app (x:=.tmp 34) (y:=.tmp 43) (ts:=#[66,66]) (s:=v9_6) (z:=s14) (by kernel_rfl) (by kernel_rfl) (by kernel_rfl) (by kernel_rfl) hx) (RS.mS 1 [kS 9 s16] (RS.dn ?_))
  refine fun a w hs=>bkN ((WS.nxt ?_ a w hs))
  refine WS.rg (RS.mS 2 [kI 30 (IntKind.i64.wrap (v30_7+1)),kI 45 (IntKind.i64.wrap (v30_7+1))] (RS.dn ?_))
  cases h
  exact fun a w hs=>lsN rfl (hs.sb 3)
 ·refine WS.fx 31 false (decide_eq_false hp) (WS.cF (WS.ex 0 ?_))
  cases h
  exact fun a w hs=>sqE (lsB rfl (hs.sb 3))
theorem z6y {E m H L a1_0 a1_1 a1_2 a1_3 a1_4 a1_5 a1_6 a1_7 a1_8 a1_9 a1_10 a1_11 x1 x2_0 x2_1 x2_2 x2_3 H18 v9_19} :LoopF Tryz.prog (NE.plain 202) m E Tryz.f61 ((cfst (csnd (cfst (cfst (csnd (cfst (csnd (csnd (csnd (csnd (csnd B61)))))))))))) (zea L a1_0 a1_1 a1_2 a1_3 a1_4 a1_5 a1_6 a1_7 a1_8 a1_9 a1_10 a1_11 x1 x2_0 x2_1 x2_2 x2_3 H18 v9_19) (fun _=>H18) 2 z1e (z1n H) (z4m L a1_0 a1_1 a1_2 a1_3 a1_4 a1_5 a1_6 a1_7 a1_8 a1_9 a1_10 a1_11 x1 x2_0 x2_1 x2_2 x2_3 H18 v9_19):=by
 rintro ⟨v56_22,w1_23,w1_24,w1_25,w1_26⟩ o h
 unfold z4m at h
 try dsimp only at h
 refine WS.sq (WS.rg (RS.mS 1 [kB 57 (decide (v56_22<(v9_19.n:Int)))] (RS.dn (WS.nxt (WS.sq ?_)))))
 rcases z0 h with ⟨hp,h⟩ | ⟨hp,h⟩
 ·refine WS.fx 57 true (decide_eq_true hp) (WS.cT ?_)
  cases h
 ·refine WS.fx 57 false (decide_eq_false hp) (WS.cF (WS.ex 2 ?_))
  cases h
  exact fun a w hs=>sqE (lsB rfl (hs.sb 3))
theorem zcs {L:LC} {rec_term_Table_ask:Nat→AH→(Option Addr)→Int→ByteArray→Bool→Sl3→Int→Sl3→Int→Int→ByteArray→Sl3→Sl3→Sl3→Option (Sl3×Int×Int×ByteArray×Sl3×Int×AH)} (hrec_term_Table_ask:∀(m:Nat) (H:AH) (a0:Option Addr) (a1_0:Int) (a1_1:ByteArray) (a1_2:Bool) (a1_3:Sl3) (a1_4:Int) (a1_5:Sl3) (a1_6 a1_7:Int) (a1_8:ByteArray) (a1_9 a1_10 a1_11:Sl3) (r:(Sl3×Int×Int×ByteArray×Sl3×Int×AH)),rec_term_Table_ask m H a0 a1_0 a1_1 a1_2 a1_3 a1_4 a1_5 a1_6 a1_7 a1_8 a1_9 a1_10 a1_11=some r→CallS Tryz.prog (NE.plain 202) m 103 #[(Value.pointer a0),(Value.agg #[(Value.int .i64 a1_0),(Value.string a1_1),(Value.bool a1_2),(Sl3.v a1_3),(Value.int .i64 a1_4),(Sl3.v a1_5),(Value.int .i64 a1_6),(Value.int .i64 a1_7),(Value.string a1_8),(Sl3.v a1_9),(Sl3.v a1_10),(Sl3.v a1_11)])] H (z33 r) (z3m H r)) {m:Nat} {H:AH} {a0:Option Addr} {a1_0:Int} {a1_1:ByteArray} {a1_2:Bool} {a1_3:Sl3} {a1_4:Int} {a1_5:Sl3} {a1_6 a1_7:Int} {a1_8:ByteArray} {a1_9 a1_10 a1_11:Sl3} {r:(Int×Int×ByteArray×Sl3×Int×AH)} (h:z3s L rec_term_Table_ask m H a0 a1_0 a1_1 a1_2 a1_3 a1_4 a1_5 a1_6 a1_7 a1_8 a1_9 a1_10 a1_11=some r) :
  CallS Tryz.prog (NE.plain 202) m 61 #[(Value.pointer a0),(Value.agg #[(Value.int .i64 a1_0),(Value.string a1_1),(Value.bool a1_2),(Sl3.v a1_3),(Value.int .i64 a1_4),(Sl3.v a1_5),(Value.int .i64 a1_6),(Value.int .i64 a1_7),(Value.string a1_8),(Sl3.v a1_9),(Sl3.v a1_10),(Sl3.v a1_11)])] H (z1e r) (z1n H r):=by
 refine CallS.mk (args:=[(Value.pointer a0),(Value.agg #[(Value.int .i64 a1_0),(Value.string a1_1),(Value.bool a1_2),(Sl3.v a1_3),(Value.int .i64 a1_4),(Sl3.v a1_5),(Value.int .i64 a1_6),(Value.int .i64 a1_7),(Value.string a1_8),(Sl3.v a1_9),(Sl3.v a1_10),(Sl3.v a1_11)])]) Tryz.func61 (B:=B61) (by kernel_rfl) (fun E _=>?_)
 unfold z3s at h
 refine WS.sq (WS.rg (RS.mL 3 [kI 5 0,kL 4 1 0,kL 3 0 0] ([some (70,[(Value.int .i64 a1_0),(Value.string a1_1),(Value.bool a1_2),(Sl3.v a1_3),(Value.int .i64 a1_4),(Sl3.v a1_5),(Value.int .i64 a1_6),(Value.int .i64 a1_7),(Value.string a1_8),(Sl3.v a1_9),(Sl3.v a1_10),(Sl3.v a1_11)]),some (68,[(Value.int .i64 0),(Value.int .i64 0),(Value.string (⟨#[]⟩:ByteArray)),(Sl3.v Sl3.nil)])]) (RS.dn (WS.nxt (WS.sq (WS.rg (RS.mS 2 [kA 18 #[(Value.int .i64 a1_0),(Value.string a1_1),(Value.bool a1_2),(Sl3.v a1_3),(Value.int .i64 a1_4),(Sl3.v a1_5),(Value.int .i64 a1_6),(Value.int .i64 a1_7),(Value.string a1_8),(Sl3.v a1_9),(Sl3.v a1_10),(Sl3.v a1_11)],(17,.val (Value.pointer a0))] ?_)))))))
 obtain ⟨⟨x1,x2_0,x2_1,x2_2,x2_3,x3,H4⟩,hx,h⟩:=bind_some h
 try dsimp only at h
 refine RS.cl (some 19) (v:=(Value.tuple #[(Sl3.v x1),(Value.agg #[(Value.int .i64 x2_0),(Value.int .i64 x2_1),(Value.string x2_2),(Sl3.v x2_3)]),(Value.int .i64 x3)])) 103 #[(Value.pointer a0),(Value.agg #[(Value.int .i64 a1_0),(Value.string a1_1),(Value.bool a1_2),(Sl3.v a1_3),(Value.int .i64 a1_4),(Sl3.v a1_5),(Value.int .i64 a1_6),(Value.int .i64 a1_7),(Value.string a1_8),(Sl3.v a1_9),(Sl3.v a1_10),(Sl3.v a1_11)])] (hrec_term_Table_ask _ _ _ _ _ _ _ _ _ _ _ _ _ _ _ _ hx) (RS.mL 8 [kI 8 x3,kS 6 x1,kL 7 2 0,kI 22 x3,kA 21 #[(Value.int .i64 x2_0),(Value.int .i64 x2_1),(Value.string x2_2),(Sl3.v x2_3)],kS 20 x1,(16,.val (Value.tuple #[(Sl3.v x1),(Value.agg #[(Value.int .i64 x2_0),(Value.int .i64 x2_1),(Value.string x2_2),(Sl3.v x2_3)]),(Value.int .i64 x3)]))] ([some (70,[(Value.int .i64 a1_0),(Value.string a1_1),(Value.bool a1_2),(Sl3.v a1_3),(Value.int .i64 a1_4),(Sl3.v a1_5),(Value.int .i64 a1_6),(Value.int .i64 a1_7),(Value.string a1_8),(Sl3.v a1_9),(Sl3.v a1_10),(Sl3.v a1_11)]),some (68,[(Value.int .i64 0),(Value.int .i64 0),(Value.string (⟨#[]⟩:ByteArray)),(Sl3.v Sl3.nil)]),some (68,[(Value.int .i64 x2_0),(Value.int .i64 x2_1),(Value.string x2_2),(Sl3.v x2_3)])]) (RS.dn (WS.nxt (WS.sq (WS.sq (WS.rg (RS.mS 2 [kB 24 (!decide (x3=0)),kI 23 x3] (RS.dn (WS.nxt ?_)))))))))
 rcases z0 h with ⟨hp,h⟩ | ⟨hp,h⟩
 ·refine WS.fx 24 false (zh hp) (WS.cF (WS.sk (WS.nxt (WS.sq (WS.rg (RS.mS 1 [kS 9 Sl3.nil] (RS.dn (WS.nxt (WS.sq ?_)))))))))
  refine WS.sq (WS.rg (RS.mS 4 [kI 30 0,kI 29 (a1_11.n:Int),kS 28 a1_11,kL 27 0 11] (RS.dn (WS.nxt (WS.bk 0 ?_)))))
  obtain ⟨o,hl,h⟩:=bind_some h
  rcases o with ⟨H18,v9_19,v30_20⟩ | r
  ·try dsimp only at h
   refine WS.lI (z6w (L:=L) (E:=E) (m:=m) (H:=H)) (L.ok hl) 3 ?_
   clear hl
   refine fun a w hs=>bkE ((WS.nxt ?_ a w hs))
   refine WS.sq ?_
   obtain ⟨v53_21,hx,h⟩:=bind_some h
   refine WS.sq ?_
   refine WS.join ([kB 53 v53_21,(0,.val (Value.pointer a0)),kL 3 0 0,kL 4 1 0,kS 6 x1,kL 7 2 0,kS 9 v9_19]) ([some (70,[(Value.int .i64 a1_0),(Value.string a1_1),(Value.bool a1_2),(Sl3.v a1_3),(Value.int .i64 a1_4),(Sl3.v a1_5),(Value.int .i64 a1_6),(Value.int .i64 a1_7),(Value.string a1_8),(Sl3.v a1_9),(Sl3.v a1_10),(Sl3.v a1_11)]),some (68,[(Value.int .i64 0),(Value.int .i64 0),(Value.string (⟨#[]⟩:ByteArray)),(Sl3.v Sl3.nil)]),some (68,[(Value.int .i64 x2_0),(Value.int .i64 x2_1),(Value.string x2_2),(Sl3.v x2_3)])]) H18 ?_ (fun a w hs=>WS.nxt ?_ a w hs)
   ·clear h; rename _=>h
    refine WS.rg (RS.mS 4 [kB 49 (decide (a1_0≥11)),kB 48 (decide (a1_0≥11)),kI 47 a1_0,kL 46 0 0] ?_)
    rcases z0 h with ⟨hp,h⟩ | ⟨hp,h⟩
    ·refine RS.fx 49 true (decide_eq_true hp) (RS.mS 4 [kB 53 (decide (a1_0≤14)),kB 52 (decide (a1_0≤14)),kI 51 a1_0,kL 50 0 0] (RS.dn ?_))
     cases h
     exact fun a w hs=>(jsN (hs.sb 3))
    ·refine RS.fx 49 false (decide_eq_false hp) (RS.mS 4 [kB 53 false,kU 52,kU 51,kU 50] (RS.dn ?_))
     cases h
     exact fun a w hs=>(jsN (hs.sb 3))
   ·clear hx
    rcases z0 h with ⟨hp,h⟩ | ⟨hp,h⟩
    ·refine WS.fx 53 true hp (WS.cT (WS.sq (WS.sq (WS.rg (RS.mS 3 [kI 56 0,kI 55 (v9_19.n:Int),kS 54 v9_19] (RS.dn (WS.nxt (WS.bk 2 ?_))))))))
     obtain ⟨o,hl,h⟩:=bind_some h
     rcases o with ⟨v56_27,w1_28,w1_29,w1_30,w1_31⟩ | r
     ·try dsimp only at h
      refine WS.lI (z6y (L:=L) (E:=E) (m:=m) (H:=H)) (L.ok hl) 3 ?_
      clear hl
      refine fun a w hs=>bkE ((WS.nxt ?_ a w hs))
      refine WS.sq (WS.rg (RS.mL 3 [kI 5 0,kA 70 #[(Value.int .i64 x2_0),(Value.int .i64 x2_1),(Value.string x2_2),(Sl3.v x2_3)]] ([some (70,[(Value.int .i64 a1_0),(Value.string a1_1),(Value.bool a1_2),(Sl3.v a1_3),(Value.int .i64 a1_4),(Sl3.v a1_5),(Value.int .i64 a1_6),(Value.int .i64 a1_7),(Value.string a1_8),(Sl3.v a1_9),(Sl3.v a1_10),(Sl3.v a1_11)]),some (68,[(Value.int .i64 x2_0),(Value.int .i64 x2_1),(Value.string x2_2),(Sl3.v x2_3)]),some (68,[(Value.int .i64 x2_0),(Value.int .i64 x2_1),(Value.string x2_2),(Sl3.v x2_3)])]) (RS.dn (WS.nxt (WS.rt ?_)))))
      cases h
      exact fun a w hs=>sqR (rtR (rS hs))
     ·try dsimp only at h
      refine WS.lR (z6y (L:=L) (E:=E) (m:=m) (H:=H)) (L.ok hl) 3 ?_
      cases h
      exact fun a w hq=>bkR (sqR (sqR (rtR hq)))
    ·refine WS.fx 53 false (b_not hp) (WS.cF (WS.sk (WS.nxt (WS.sq (WS.rg (RS.mS 2 [kS 73 v9_19,kA 72 #[(Value.int .i64 a1_0),(Value.string a1_1),(Value.bool a1_2),(Sl3.v a1_3),(Value.int .i64 a1_4),(Sl3.v a1_5),(Value.int .i64 a1_6),(Value.int .i64 a1_7),(Value.string a1_8),(Sl3.v a1_9),(Sl3.v a1_10),(Sl3.v a1_11)]] ?_))))))
     obtain ⟨⟨x32_0,x32_1,x32_2,x32_3,x33,H34⟩,hx,h⟩:=bind_some h
     try dsimp only at h
     refine RS.cl (some 74) (v:=(Value.tuple #[(Value.agg #[(Value.int .i64 x32_0),(Value.int .i64 x32_1),(Value.string x32_2),(Sl3.v x32_3)]),(Value.bool x33)])) 104 #[(Value.agg #[(Value.int .i64 a1_0),(Value.string a1_1),(Value.bool a1_2),(Sl3.v a1_3),(Value.int .i64 a1_4),(Sl3.v a1_5),(Value.int .i64 a1_6),(Value.int .i64 a1_7),(Value.string a1_8),(Sl3.v a1_9),(Sl3.v a1_10),(Sl3.v a1_11)]),(Sl3.v v9_19)] (zli hx) (RS.mL 6 [kB 15 x33,kL 14 3 0,kB 76 x33,kA 75 #[(Value.int .i64 x32_0),(Value.int .i64 x32_1),(Value.string x32_2),(Sl3.v x32_3)],(71,.val (Value.tuple #[(Value.agg #[(Value.int .i64 x32_0),(Value.int .i64 x32_1),(Value.string x32_2),(Sl3.v x32_3)]),(Value.bool x33)]))] ([some (70,[(Value.int .i64 a1_0),(Value.string a1_1),(Value.bool a1_2),(Sl3.v a1_3),(Value.int .i64 a1_4),(Sl3.v a1_5),(Value.int .i64 a1_6),(Value.int .i64 a1_7),(Value.string a1_8),(Sl3.v a1_9),(Sl3.v a1_10),(Sl3.v a1_11)]),some (68,[(Value.int .i64 0),(Value.int .i64 0),(Value.string (⟨#[]⟩:ByteArray)),(Sl3.v Sl3.nil)]),some (68,[(Value.int .i64 x2_0),(Value.int .i64 x2_1),(Value.string x2_2),(Sl3.v x2_3)]),some (68,[(Value.int .i64 x32_0),(Value.int .i64 x32_1),(Value.string x32_2),(Sl3.v x32_3)])]) (RS.dn (WS.nxt (WS.sq (WS.bk 4 (WS.sq (WS.rg (RS.mS 3 [kB 77 (!x33),kB 79 (!x33),kB 78 x33] (RS.dn ?_)))))))))
     refine WS.nxt ?_
     rcases z0 h with ⟨hp,h⟩ | ⟨hp,h⟩
     ·refine WS.fx 77 false (nb_not hp) (WS.cF (WS.sq ?_))
      refine WS.dr [0,1,2,3,4,5,6,7,8,9,10,11,12,13,14,15,16,17,18,19,20] [0,1,3,7,15,31,63,127,15,271,783,1807,4095,8191,16383,32767,65535,131071,262143,524287,1048575,2097151,4194303,8388607,16777215] 25 (fun hcl=>?_)
      refine DA.tL 0 (some 82) (.loc 0 0) (DA.tL 1 (some 83) (.val (Value.int .i64 a1_0)) (DA.tK 2 (some 84) (Value.bool (decide (a1_0=42))) (DA.tK 3 (some 85) (Value.bool (decide (a1_0=42))) ?_)))
      rcases z0 h with ⟨hp,h⟩ | ⟨hp,h⟩
      ·refine DA.fx 85 true (decide_eq_true hp) ?_
       cases h
      ·refine DA.fx 85 false (decide_eq_false hp) ?_
       refine DA.tskipD 4 (some 86) (by kernel_rfl) (by kernel_rfl) (by kernel_rfl) hcl (fun _ _ _ h=>h) (by kernel_rfl) ?_
       refine DA.tskipD 5 (some 87) (by kernel_rfl) (by kernel_rfl) (by kernel_rfl) hcl (fun _ _ _ h=>h) (by kernel_rfl) ?_
       refine DA.tskipD 6 (some 88) (by kernel_rfl) (by kernel_rfl) (by kernel_rfl) hcl (fun _ _ _ h=>h) (by kernel_rfl) ?_
       refine DA.tskipD 7 (some 89) (by kernel_rfl) (by kernel_rfl) (by kernel_rfl) hcl (fun _ _ _ h=>h) (by kernel_rfl) ?_
       refine DA.tskipD 8 (some 90) (by kernel_rfl) (by kernel_rfl) (by kernel_rfl) hcl (fun _ _ _ h=>h) (by kernel_rfl) ?_
       refine DA.tskipD 9 (some 91) (by kernel_rfl) (by kernel_rfl) (by kernel_rfl) hcl (fun _ _ _ h=>h) (by kernel_rfl) ?_
       refine DA.tskipD 10 (some 92) (by kernel_rfl) (by kernel_rfl) (by kernel_rfl) hcl (fun _ _ _ h=>h) (by kernel_rfl) ?_
       refine DA.tskipD 11 (some 93) (by kernel_rfl) (by kernel_rfl) (by kernel_rfl) hcl (fun _ _ _ h=>h) (by kernel_rfl) ?_
       refine DA.tskipD 12 (some 94) (by kernel_rfl) (by kernel_rfl) (by kernel_rfl) hcl (fun _ _ _ h=>h) (by kernel_rfl) ?_
       refine DA.tK 13 (some 95) (Value.bool false) (DA.tK 14 (some 96) (Value.bool false) (DA.tL 15 (some 97) (.loc 3 0) (DA.tL 16 (some 98) (.val (Value.int .i64 x32_0)) (DA.tK 17 (some 99) (Value.bool (decide (x32_0=3))) (DA.tK 18 (some 100) (Value.bool (decide (x32_0=3))) ?_)))))
       rcases z0 h with ⟨hp,h⟩ | ⟨hp,h⟩
       ·refine DA.fx 100 true (decide_eq_true hp) ?_
        cases h
       ·refine DA.fx 100 false (decide_eq_false hp) ?_
        refine DA.tskipD 19 (some 101) (by kernel_rfl) (by kernel_rfl) (by kernel_rfl) hcl (fun _ _ _ h=>h) (by kernel_rfl) ?_
        refine DA.tskipD 20 (some 102) (by kernel_rfl) (by kernel_rfl) (by kernel_rfl) hcl (fun _ _ _ h=>h) (by kernel_rfl) ?_
        refine DA.tskipP 21 (some 103) (by kernel_rfl) (by kernel_rfl) (by kernel_rfl) hcl (fun _ _ _ h=>h) (by kernel_rfl) ?_
        refine DA.tP 22 (some 104) (Value.bool false) (DA.tP 23 (some 105) (Value.bool false) (DA.tP 24 (some 81) (Value.bool false) (DA.dn (WS.nxt (WS.cF (WS.sq (WS.rg (RS.mS 2 [kA 109 #[(Value.int .i64 a1_0),(Value.string a1_1),(Value.bool a1_2),(Sl3.v a1_3),(Value.int .i64 a1_4),(Sl3.v a1_5),(Value.int .i64 a1_6),(Value.int .i64 a1_7),(Value.string a1_8),(Sl3.v a1_9),(Sl3.v a1_10),(Sl3.v a1_11)],(108,.val (Value.pointer a0))] ?_))))))))
        obtain ⟨x35,hx,h⟩:=bind_some h
        refine RS.cl (some 110) (v:=(Value.bool x35)) 105 #[(Value.pointer a0),(Value.agg #[(Value.int .i64 a1_0),(Value.string a1_1),(Value.bool a1_2),(Sl3.v a1_3),(Value.int .i64 a1_4),(Sl3.v a1_5),(Value.int .i64 a1_6),(Value.int .i64 a1_7),(Value.string a1_8),(Sl3.v a1_9),(Sl3.v a1_10),(Sl3.v a1_11)])] (zgc hx) (RS.mS 2 [kB 107 (!x35),kB 111 (!x35)] (RS.dn (WS.nxt ?_)))
        rcases z0 h with ⟨hp,h⟩ | ⟨hp,h⟩
        ·refine WS.fx 107 false (nb_not hp) (WS.cF (WS.sk ?_))
         refine fun a w hs=>bkN ((WS.nxt ?_ a w hs))
         refine WS.sq (WS.rg (RS.mL 3 [kI 5 0,kA 113 #[(Value.int .i64 x32_0),(Value.int .i64 x32_1),(Value.string x32_2),(Sl3.v x32_3)]] ([some (70,[(Value.int .i64 a1_0),(Value.string a1_1),(Value.bool a1_2),(Sl3.v a1_3),(Value.int .i64 a1_4),(Sl3.v a1_5),(Value.int .i64 a1_6),(Value.int .i64 a1_7),(Value.string a1_8),(Sl3.v a1_9),(Sl3.v a1_10),(Sl3.v a1_11)]),some (68,[(Value.int .i64 x32_0),(Value.int .i64 x32_1),(Value.string x32_2),(Sl3.v x32_3)]),some (68,[(Value.int .i64 x2_0),(Value.int .i64 x2_1),(Value.string x2_2),(Sl3.v x2_3)]),some (68,[(Value.int .i64 x32_0),(Value.int .i64 x32_1),(Value.string x32_2),(Sl3.v x32_3)])]) (RS.dn (WS.nxt (WS.rt ?_)))))
         cases h
         exact fun a w hs=>rtR (rS hs)
        ·refine WS.fx 107 true (z19 hp) (WS.cT ?_)
         cases h
     ·refine WS.fx 77 true (z19 hp) (WS.cT ?_)
      cases h
  ·try dsimp only at h
   refine WS.lR (z6w (L:=L) (E:=E) (m:=m) (H:=H)) (L.ok hl) 3 ?_
   cases h
   exact fun a w hq=>bkR (sqR (rtR hq))
 ·refine WS.fx 24 true (ze hp) (WS.cT ?_)
  cases h
theorem zfb {E H L m a0_0 a0_1 a0_2 a0_3 a0_4 a0_5 a0_6 a0_7 a0_8 a0_9 a0_10 a0_11 p1} :LoopF Tryz.prog (NE.plain 202) m E Tryz.f63 ((cfst (csnd (cfst (csnd (csnd (csnd (csnd B63)))))))) (zl5 L m a0_0 a0_1 a0_2 a0_3 a0_4 a0_5 a0_6 a0_7 a0_8 a0_9 a0_10 a0_11 p1) (fun s=>s.1) 0 z5n (z6t H) (zds L m a0_0 a0_1 a0_2 a0_3 a0_4 a0_5 a0_6 a0_7 a0_8 a0_9 a0_10 a0_11 p1):=by
 rintro ⟨H4,v23_5⟩ o h
 unfold zds at h
 try dsimp only at h
 refine WS.sq (WS.rg (RS.mS 1 [kB 24 (decide (v23_5<(a0_11.n:Int)))] (RS.dn (WS.nxt (WS.sq ?_)))))
 rcases z0 h with ⟨hp,h⟩ | ⟨hp,h⟩
 ·refine WS.fx 24 true (decide_eq_true hp) (WS.cT (WS.sk (WS.nxt (WS.sq (WS.bk 1 (WS.sq (WS.rg ?_)))))))
  obtain ⟨p6,hx,h⟩:=bind_some h
  refine RS.ix 25 37 3 (.tmp 21) (.tmp 23) hx ?_
  obtain ⟨x7,hx,h⟩:=bind_some h
  refine RS.ld 26 3 (.tmp 25) (z1 hx z8) (RS.mS 1 [kI 6 x7] (RS.dn (WS.nxt (WS.rg (RS.mS 2 [kI 28 x7,(27,.val (Value.func (.func 108) #[] #[(Value.pointer (some p1))]))] ?_)))))
  obtain ⟨H8,hx,h⟩:=bind_some h
  refine RS.cl (some 29) (v:=(Value.tuple #[])) 108 #[(Value.int .i64 x7),(Value.pointer (some p1))] (zgl hx) (RS.dn ?_)
  refine fun a w hs=>bkN ((WS.nxt ?_ a w hs))
  refine WS.rg (RS.mS 2 [kI 23 (IntKind.i64.wrap (v23_5+1)),kI 30 (IntKind.i64.wrap (v23_5+1))] (RS.dn ?_))
  cases h
  exact fun a w hs=>lsN rfl (hs.sb 1)
 ·refine WS.fx 24 false (decide_eq_false hp) (WS.cF (WS.ex 0 ?_))
  cases h
  exact fun a w hs=>sqE (lsB rfl (hs.sb 1))
theorem zev {E m H L a0_0 a0_1 a0_2 a0_3 a0_4 a0_5 a0_6 a0_7 a0_8 a0_9 a0_10 a0_11 p1} :LoopF Tryz.prog (NE.plain 202) m E Tryz.f63 ((cfst (csnd (cfst (csnd (csnd (csnd (csnd (csnd B63))))))))) (zlm L a0_0 a0_1 a0_2 a0_3 a0_4 a0_5 a0_6 a0_7 a0_8 a0_9 a0_10 a0_11 p1) (fun s=>s.1) 2 z5n (z6t H) (zeb L a0_0 a0_1 a0_2 a0_3 a0_4 a0_5 a0_6 a0_7 a0_8 a0_9 a0_10 a0_11 p1):=by
 rintro ⟨H11,v34_12⟩ o h
 unfold zeb at h
 try dsimp only at h
 refine WS.sq (WS.rg (RS.mS 1 [kB 35 (decide (v34_12<(a0_10.n:Int)))] (RS.dn (WS.nxt (WS.sq ?_)))))
 rcases z0 h with ⟨hp,h⟩ | ⟨hp,h⟩
 ·refine WS.fx 35 true (decide_eq_true hp) (WS.cT ?_)
  cases h
 ·refine WS.fx 35 false (decide_eq_false hp) (WS.cF (WS.ex 2 ?_))
  cases h
  exact fun a w hs=>sqE (lsB rfl (hs.sb 1))
theorem zjk {L:LC} {m:Nat} {H:AH} {a0_0:Int} {a0_1:ByteArray} {a0_2:Bool} {a0_3:Sl3} {a0_4:Int} {a0_5:Sl3} {a0_6 a0_7:Int} {a0_8:ByteArray} {a0_9 a0_10 a0_11:Sl3} {r:(ByteArray×AH)} (h:zaq L m H a0_0 a0_1 a0_2 a0_3 a0_4 a0_5 a0_6 a0_7 a0_8 a0_9 a0_10 a0_11=some r) :
  CallS Tryz.prog (NE.plain 202) m 63 #[(Value.agg #[(Value.int .i64 a0_0),(Value.string a0_1),(Value.bool a0_2),(Sl3.v a0_3),(Value.int .i64 a0_4),(Sl3.v a0_5),(Value.int .i64 a0_6),(Value.int .i64 a0_7),(Value.string a0_8),(Sl3.v a0_9),(Sl3.v a0_10),(Sl3.v a0_11)])] H (z5n r) (z6t H r):=by
 refine CallS.mk (args:=[(Value.agg #[(Value.int .i64 a0_0),(Value.string a0_1),(Value.bool a0_2),(Sl3.v a0_3),(Value.int .i64 a0_4),(Sl3.v a0_5),(Value.int .i64 a0_6),(Value.int .i64 a0_7),(Value.string a0_8),(Sl3.v a0_9),(Sl3.v a0_10),(Sl3.v a0_11)])]) Tryz.func63 (B:=B63) (by kernel_rfl) (fun E _=>?_)
 unfold zaq at h
 refine WS.sq (WS.rg (RS.mL 2 [kT 2 (⟨#[]⟩:ByteArray),kL 1 0 0] ([some (70,[(Value.int .i64 a0_0),(Value.string a0_1),(Value.bool a0_2),(Sl3.v a0_3),(Value.int .i64 a0_4),(Sl3.v a0_5),(Value.int .i64 a0_6),(Value.int .i64 a0_7),(Value.string a0_8),(Sl3.v a0_9),(Sl3.v a0_10),(Sl3.v a0_11)])]) (RS.dn (WS.nxt (WS.sq (WS.rg ?_))))))
 obtain ⟨⟨p1,H2⟩,hx,h⟩:=bind_some h
 try dsimp only at h
 refine RS.o (H':=H2) (some 3) (Value.pointer (some p1)) (Abs.run_newB (by kernel_rfl) hx) (RS.dn (WS.nxt (WS.sq (WS.rg (RS.mS 2 [(4,.val (Value.func (.func 108) #[] #[(Value.pointer (some p1))])),(15,.val (Value.func (.func 108) #[] #[(Value.pointer (some p1))]))] (RS.dn (WS.nxt (WS.sq (WS.rg ?_)))))))))
 refine RS.mS 3 [kI 18 a0_0,kL 17 0 0,(16,.val (Value.func (.func 108) #[] #[(Value.pointer (some p1))]))] ?_
 obtain ⟨H3,hx,h⟩:=bind_some h
 refine RS.cl (some 19) (v:=(Value.tuple #[])) 108 #[(Value.int .i64 a0_0),(Value.pointer (some p1))] (zgl hx) (RS.dn (WS.nxt (WS.sq (WS.sq (WS.rg (RS.mS 4 [kI 23 0,kI 22 (a0_11.n:Int),kS 21 a0_11,kL 20 0 11] (RS.dn (WS.nxt (WS.bk 0 ?_)))))))))
 obtain ⟨o,hl,h⟩:=bind_some h
 rcases o with ⟨H9,v23_10⟩ | r
 ·try dsimp only at h
  refine WS.lI (zfb (L:=L) (E:=E) (m:=m) (H:=H)) (L.ok hl) 1 ?_
  clear hl
  refine fun a w hs=>bkE ((WS.nxt ?_ a w hs))
  refine WS.sq (WS.sq (WS.rg (RS.mS 4 [kI 34 0,kI 33 (a0_10.n:Int),kS 32 a0_10,kL 31 0 10] (RS.dn (WS.nxt (WS.bk 2 ?_))))))
  obtain ⟨o,hl,h⟩:=bind_some h
  rcases o with ⟨H13,v34_14⟩ | r
  ·try dsimp only at h
   refine WS.lI (zev (L:=L) (E:=E) (m:=m) (H:=H)) (L.ok hl) 1 ?_
   clear hl
   refine fun a w hs=>bkE ((WS.nxt ?_ a w hs))
   refine WS.sq (WS.sq (WS.rg (RS.mS 2 [kI 43 a0_0,kL 42 0 0] (RS.dn (WS.nxt (WS.bk 4 (WS.sq (WS.rg (RS.mS 2 [kB 44 (decide (a0_0=20)),kB 45 (decide (a0_0=20))] ?_)))))))))
   refine RS.dn (WS.nxt ?_)
   rcases z0 h with ⟨hp,h⟩ | ⟨hp,h⟩
   ·refine WS.fx 44 true (decide_eq_true hp) (WS.cT ?_)
    cases h
   ·refine WS.fx 44 false (decide_eq_false hp) (WS.cF (WS.sq (WS.rg (RS.mS 2 [kB 64 (decide (a0_0=40)),kB 65 (decide (a0_0=40))] (RS.dn (WS.nxt ?_))))))
    rcases z0 h with ⟨hp,h⟩ | ⟨hp,h⟩
    ·refine WS.fx 64 true (decide_eq_true hp) (WS.cT ?_)
     cases h
    ·refine WS.fx 64 false (decide_eq_false hp) (WS.cF (WS.sq (WS.rg (RS.mS 2 [kB 84 (decide (a0_0=34)),kB 85 (decide (a0_0=34))] (RS.dn (WS.nxt ?_))))))
     rcases z0 h with ⟨hp,h⟩ | ⟨hp,h⟩
     ·refine WS.fx 84 true (decide_eq_true hp) (WS.cT ?_)
      cases h
     ·refine WS.fx 84 false (decide_eq_false hp) (WS.cF (WS.sk ?_))
      refine fun a w hs=>bkN ((WS.nxt ?_ a w hs))
      refine WS.sq ?_
      obtain ⟨⟨x15,H16⟩,hx_0,h⟩:=bind_some h
      try dsimp only at h
      obtain ⟨s17,hx_3,h⟩:=bind_some h
      refine WS.toone ([kT 2 s17]) ([some (70,[(Value.int .i64 a0_0),(Value.string a0_1),(Value.bool a0_2),(Sl3.v a0_3),(Value.int .i64 a0_4),(Sl3.v a0_5),(Value.int .i64 a0_6),(Value.int .i64 a0_7),(Value.string a0_8),(Sl3.v a0_9),(Sl3.v a0_10),(Sl3.v a0_11)])]) H16 ?_ ?_
      ·clear h
       refine WS.dr [] [0,0,2,7,15] 5 (fun hcl=>?_)
       refine DA.tPL 1 (some 95) (.loc 0 1) ?_
       refine DA.two 0 2 (by kernel_rfl) ?_ ?_
       ·refine DA.aC 0 (some 94) (v:=(Value.string x15)) 66 #[(Value.pointer (some p1))] (z2f hx_0) (DA.on 2 (DA.aL 2 (some 96) (.val (Value.string a0_1)) ([some (70,[(Value.int .i64 a0_0),(Value.string a0_1),(Value.bool a0_2),(Sl3.v a0_3),(Value.int .i64 a0_4),(Sl3.v a0_5),(Value.int .i64 a0_6),(Value.int .i64 a0_7),(Value.string a0_8),(Sl3.v a0_9),(Sl3.v a0_10),(Sl3.v a0_11)])]) false (DA.tPx 3 (some 97) (Value.string s17) (Abs.det_strcat (t:=9) (u:=9) (x:=.tmp 94) (y:=.tmp 96) (a:=x15) (b:=a0_1) (by kernel_rfl) (by kernel_rfl) (by kernel_rfl) hx_3) (DA.tP 4 (some 2) (Value.string s17) (DA.dn ?_)))))
        exact fun a w hs=>jsN (hs.sb 1)
       ·refine DA.aL 2 (some 96) (.val (Value.string a0_1)) ([some (70,[(Value.int .i64 a0_0),(Value.string a0_1),(Value.bool a0_2),(Sl3.v a0_3),(Value.int .i64 a0_4),(Sl3.v a0_5),(Value.int .i64 a0_6),(Value.int .i64 a0_7),(Value.string a0_8),(Sl3.v a0_9),(Sl3.v a0_10),(Sl3.v a0_11)])]) false (DA.on 0 (DA.aC 0 (some 94) (v:=(Value.string x15)) 66 #[(Value.pointer (some p1))] (z2f hx_0) (DA.tPx 3 (some 97) (Value.string s17) (Abs.det_strcat (t:=9) (u:=9) (x:=.tmp 94) (y:=.tmp 96) (a:=x15) (b:=a0_1) (by kernel_rfl) (by kernel_rfl) (by kernel_rfl) hx_3) (DA.tP 4 (some 2) (Value.string s17) (DA.dn ?_)))))
        exact fun a w hs=>jsN (hs.sb 1)
      ·refine WS.nxt (WS.rt ?_)
       cases h
       exact fun a w hs=>rtR (rS hs)
  ·try dsimp only at h
   refine WS.lR (zev (L:=L) (E:=E) (m:=m) (H:=H)) (L.ok hl) 1 ?_
   cases h
   exact fun a w hq=>bkR (sqR (rtR hq))
 ·try dsimp only at h
  refine WS.lR (zfb (L:=L) (E:=E) (m:=m) (H:=H)) (L.ok hl) 1 ?_
  cases h
  exact fun a w hq=>bkR (sqR (rtR hq))
theorem z83 {L:LC} {rec_slices_IndexFunc_116__69:Nat→AH→Sl3→(Option Addr)→Option (Int×AH)} (hrec_slices_IndexFunc_116__69:∀(m:Nat) (H:AH) (a0:Sl3) (a1_0:Option Addr) (r:(Int×AH)),rec_slices_IndexFunc_116__69 m H a0 a1_0=some r→CallS Tryz.prog (NE.plain 202) m 116 #[(Sl3.v a0),(Value.func (.func 69) #[] #[(Value.pointer a1_0)])] H (z11 r) (z17 H r)) {m:Nat} {H:AH} {a0:Sl3} {a1_0:Option Addr} {r:(Bool×AH)} (h:z1v L rec_slices_IndexFunc_116__69 m H a0 a1_0=some r) :
  CallS Tryz.prog (NE.plain 202) m 68 #[(Sl3.v a0),(Value.func (.func 69) #[] #[(Value.pointer a1_0)])] H (z22 r) (z2a H r):=by
 refine CallS.mk (args:=[(Sl3.v a0),(Value.func (.func 69) #[] #[(Value.pointer a1_0)])]) Tryz.func68 (B:=B68) (by kernel_rfl) (fun E _=>?_)
 unfold z1v at h
 refine WS.sq (WS.rg (RS.mS 1 [kB 4 false] (RS.dn (WS.nxt (WS.sq (WS.rg (RS.mS 2 [(6,.val (Value.func (.func 69) #[] #[(Value.pointer a1_0)])),kS 5 a0] ?_)))))))
 obtain ⟨⟨x1,H2⟩,hx,h⟩:=bind_some h
 try dsimp only at h
 refine RS.cl (some 7) (v:=(Value.int .i64 x1)) 116 #[(Sl3.v a0),(Value.func (.func 69) #[] #[(Value.pointer a1_0)])] (hrec_slices_IndexFunc_116__69 _ _ _ _ _ hx) (RS.mS 2 [kB 4 (decide (x1≥0)),kB 8 (decide (x1≥0))] (RS.dn (WS.nxt (WS.rt ?_))))
 cases h
 exact fun a w hs=>rtR (rS hs)
theorem z24 {L:LC}:∀n,(∀(m:Nat) (H:AH) (a0:Option Addr) (a1_0:Int) (a1_1:ByteArray) (a1_2:Bool) (a1_3:Sl3) (a1_4:Int) (a1_5:Sl3) (a1_6 a1_7:Int) (a1_8:ByteArray) (a1_9 a1_10 a1_11:Sl3) (r:(Sl3×Int×Int×ByteArray×Sl3×Int×AH)),((za L n).1) m H a0 a1_0 a1_1 a1_2 a1_3 a1_4 a1_5 a1_6 a1_7 a1_8 a1_9 a1_10 a1_11=some r→CallS Tryz.prog (NE.plain 202) m 103 #[(Value.pointer a0),(Value.agg #[(Value.int .i64 a1_0),(Value.string a1_1),(Value.bool a1_2),(Sl3.v a1_3),(Value.int .i64 a1_4),(Sl3.v a1_5),(Value.int .i64 a1_6),(Value.int .i64 a1_7),(Value.string a1_8),(Sl3.v a1_9),(Sl3.v a1_10),(Sl3.v a1_11)])] H (z33 r) (z3m H r))∧(∀(m:Nat) (H:AH) (a0:Sl3) (a1_0:Option Addr) (r:(Int×AH)),((za L n).2.1) m H a0 a1_0=some r→CallS Tryz.prog (NE.plain 202) m 116 #[(Sl3.v a0),(Value.func (.func 69) #[] #[(Value.pointer a1_0)])] H (z11 r) (z17 H r))∧(∀(m:Nat) (H:AH) (a0:Option Addr) (a1_0:Int) (a1_1:ByteArray) (a1_2:Bool) (a1_3:Sl3) (a1_4:Int) (a1_5:Sl3) (a1_6 a1_7:Int) (a1_8:ByteArray) (a1_9 a1_10 a1_11:Sl3) (a2:Int) (r:(Bool×AH)),((za L n).2.2.1) m H a0 a1_0 a1_1 a1_2 a1_3 a1_4 a1_5 a1_6 a1_7 a1_8 a1_9 a1_10 a1_11 a2=some r→CallS Tryz.prog (NE.plain 202) m 147 #[(Value.pointer a0),(Value.agg #[(Value.int .i64 a1_0),(Value.string a1_1),(Value.bool a1_2),(Sl3.v a1_3),(Value.int .i64 a1_4),(Sl3.v a1_5),(Value.int .i64 a1_6),(Value.int .i64 a1_7),(Value.string a1_8),(Sl3.v a1_9),(Sl3.v a1_10),(Sl3.v a1_11)]),(Value.int .i64 a2)] H (z41 r) (z4b H r))∧(∀(m:Nat) (H:AH) (a0:Option Addr) (a1_0:Int) (a1_1:ByteArray) (a1_2:Bool) (a1_3:Sl3) (a1_4:Int) (a1_5:Sl3) (a1_6 a1_7:Int) (a1_8:ByteArray) (a1_9 a1_10 a1_11:Sl3) (r:(Int×AH)),((za L n).2.2.2.1) m H a0 a1_0 a1_1 a1_2 a1_3 a1_4 a1_5 a1_6 a1_7 a1_8 a1_9 a1_10 a1_11=some r→CallS Tryz.prog (NE.plain 202) m 21 #[(Value.pointer a0),(Value.agg #[(Value.int .i64 a1_0),(Value.string a1_1),(Value.bool a1_2),(Sl3.v a1_3),(Value.int .i64 a1_4),(Sl3.v a1_5),(Value.int .i64 a1_6),(Value.int .i64 a1_7),(Value.string a1_8),(Sl3.v a1_9),(Sl3.v a1_10),(Sl3.v a1_11)])] H (z1i r) (z1o H r))∧(∀(m:Nat) (H:AH) (a0:Option Addr) (a1_0:Int) (a1_1:ByteArray) (a1_2:Bool) (a1_3:Sl3) (a1_4:Int) (a1_5:Sl3) (a1_6 a1_7:Int) (a1_8:ByteArray) (a1_9 a1_10 a1_11:Sl3) (r:(Int×Int×AH)),((za L n).2.2.2.2.1) m H a0 a1_0 a1_1 a1_2 a1_3 a1_4 a1_5 a1_6 a1_7 a1_8 a1_9 a1_10 a1_11=some r→CallS Tryz.prog (NE.plain 202) m 28 #[(Value.pointer a0),(Value.agg #[(Value.int .i64 a1_0),(Value.string a1_1),(Value.bool a1_2),(Sl3.v a1_3),(Value.int .i64 a1_4),(Sl3.v a1_5),(Value.int .i64 a1_6),(Value.int .i64 a1_7),(Value.string a1_8),(Sl3.v a1_9),(Sl3.v a1_10),(Sl3.v a1_11)])] H (z38 r) (z3k H r))∧(∀(m:Nat) (H:AH) (a0:Option Addr) (a1:Int) (a2:Sl3) (r:(Int×AH)),((za L n).2.2.2.2.2.1) m H a0 a1 a2=some r→CallS Tryz.prog (NE.plain 202) m 49 #[(Value.pointer a0),(Value.int .i64 a1),(Sl3.v a2)] H (z3p r) (z49 H r))∧(∀(m:Nat) (H:AH) (a0:Option Addr) (a1_0:Int) (a1_1:ByteArray) (a1_2:Bool) (a1_3:Sl3) (a1_4:Int) (a1_5:Sl3) (a1_6 a1_7:Int) (a1_8:ByteArray) (a1_9 a1_10 a1_11:Sl3) (r:(Int×Int×ByteArray×Sl3×Int×AH)),((za L n).2.2.2.2.2.2.1) m H a0 a1_0 a1_1 a1_2 a1_3 a1_4 a1_5 a1_6 a1_7 a1_8 a1_9 a1_10 a1_11=some r→CallS Tryz.prog (NE.plain 202) m 61 #[(Value.pointer a0),(Value.agg #[(Value.int .i64 a1_0),(Value.string a1_1),(Value.bool a1_2),(Sl3.v a1_3),(Value.int .i64 a1_4),(Sl3.v a1_5),(Value.int .i64 a1_6),(Value.int .i64 a1_7),(Value.string a1_8),(Sl3.v a1_9),(Sl3.v a1_10),(Sl3.v a1_11)])] H (z1e r) (z1n H r))∧(∀(m:Nat) (H:AH) (a0_0:Int) (a0_1:ByteArray) (a0_2:Bool) (a0_3:Sl3) (a0_4:Int) (a0_5:Sl3) (a0_6 a0_7:Int) (a0_8:ByteArray) (a0_9 a0_10 a0_11:Sl3) (r:(ByteArray×AH)),((za L n).2.2.2.2.2.2.2.1) m H a0_0 a0_1 a0_2 a0_3 a0_4 a0_5 a0_6 a0_7 a0_8 a0_9 a0_10 a0_11=some r→CallS Tryz.prog (NE.plain 202) m 63 #[(Value.agg #[(Value.int .i64 a0_0),(Value.string a0_1),(Value.bool a0_2),(Sl3.v a0_3),(Value.int .i64 a0_4),(Sl3.v a0_5),(Value.int .i64 a0_6),(Value.int .i64 a0_7),(Value.string a0_8),(Sl3.v a0_9),(Sl3.v a0_10),(Sl3.v a0_11)])] H (z5n r) (z6t H r))∧(∀(m:Nat) (H:AH) (a0:Sl3) (a1_0:Option Addr) (r:(Bool×AH)),((za L n).2.2.2.2.2.2.2.2) m H a0 a1_0=some r→CallS Tryz.prog (NE.plain 202) m 68 #[(Sl3.v a0),(Value.func (.func 69) #[] #[(Value.pointer a1_0)])] H (z22 r) (z2a H r)):=by
 intro n
 induction n with
 | zero=>exact ⟨(fun _ _ _ _ _ _ _ _ _ _ _ _ _ _ _ _ h=>(Option.some_ne_none _ h.symm).elim),(fun _ _ _ _ _ h=>(Option.some_ne_none _ h.symm).elim),(fun _ _ _ _ _ _ _ _ _ _ _ _ _ _ _ _ _ h=>(Option.some_ne_none _ h.symm).elim),(fun _ _ _ _ _ _ _ _ _ _ _ _ _ _ _ _ h=>(Option.some_ne_none _ h.symm).elim),(fun _ _ _ _ _ _ _ _ _ _ _ _ _ _ _ _ h=>(Option.some_ne_none _ h.symm).elim),(fun _ _ _ _ _ _ h=>(Option.some_ne_none _ h.symm).elim),(fun _ _ _ _ _ _ _ _ _ _ _ _ _ _ _ _ h=>(Option.some_ne_none _ h.symm).elim),(fun _ _ _ _ _ _ _ _ _ _ _ _ _ _ _ h=>(Option.some_ne_none _ h.symm).elim),(fun _ _ _ _ _ h=>(Option.some_ne_none _ h.symm).elim)⟩
 | succ n ih=>exact ⟨(fun _ _ _ _ _ _ _ _ _ _ _ _ _ _ _ _ h=>zem (L:=L) ih.2.2.1 h),(fun _ _ _ _ _ h=>z7o (L:=L)  h),(fun _ _ _ _ _ _ _ _ _ _ _ _ _ _ _ _ _ h=>zbm (L:=L)  h),(fun _ _ _ _ _ _ _ _ _ _ _ _ _ _ _ _ h=>zbz (L:=L) ih.2.2.2.2.1 h),(fun _ _ _ _ _ _ _ _ _ _ _ _ _ _ _ _ h=>zdr (L:=L) ih.2.2.2.2.2.2.1 ih.2.2.2.2.2.2.2.1 h),(fun _ _ _ _ _ _ h=>zbp (L:=L) ih.2.2.2.1 h),(fun _ _ _ _ _ _ _ _ _ _ _ _ _ _ _ _ h=>zcs (L:=L) ih.1 h),(fun _ _ _ _ _ _ _ _ _ _ _ _ _ _ _ h=>zjk (L:=L)  h),(fun _ _ _ _ _ h=>z83 (L:=L) ih.2.1 h)⟩
theorem zh8 {L:LC} {m:Nat} {H:AH} {a0:Option Addr} {a1_0:Int} {a1_1:ByteArray} {a1_2:Bool} {a1_3:Sl3} {a1_4:Int} {a1_5:Sl3} {a1_6 a1_7:Int} {a1_8:ByteArray} {a1_9 a1_10 a1_11:Sl3} {r:(Int×AH)} (h:zca L m H a0 a1_0 a1_1 a1_2 a1_3 a1_4 a1_5 a1_6 a1_7 a1_8 a1_9 a1_10 a1_11=some r) :
  CallS Tryz.prog (NE.plain 202) m 21 #[(Value.pointer a0),(Value.agg #[(Value.int .i64 a1_0),(Value.string a1_1),(Value.bool a1_2),(Sl3.v a1_3),(Value.int .i64 a1_4),(Sl3.v a1_5),(Value.int .i64 a1_6),(Value.int .i64 a1_7),(Value.string a1_8),(Sl3.v a1_9),(Sl3.v a1_10),(Sl3.v a1_11)])] H (z1i r) (z1o H r) :=
 ((z24 _).2.2.2.1) _ _ _ _ _ _ _ _ _ _ _ _ _ _ _ _ h
theorem z6k {L:LC} {m:Nat} {H:AH} {a0:Option Addr} {a1_0:Int} {a1_1:ByteArray} {a1_2:Bool} {a1_3:Sl3} {a1_4:Int} {a1_5:Sl3} {a1_6 a1_7:Int} {a1_8:ByteArray} {a1_9 a1_10 a1_11:Sl3} {r:(Int×Int×AH)} (h:z5y L m H a0 a1_0 a1_1 a1_2 a1_3 a1_4 a1_5 a1_6 a1_7 a1_8 a1_9 a1_10 a1_11=some r) :
  CallS Tryz.prog (NE.plain 202) m 28 #[(Value.pointer a0),(Value.agg #[(Value.int .i64 a1_0),(Value.string a1_1),(Value.bool a1_2),(Sl3.v a1_3),(Value.int .i64 a1_4),(Sl3.v a1_5),(Value.int .i64 a1_6),(Value.int .i64 a1_7),(Value.string a1_8),(Sl3.v a1_9),(Sl3.v a1_10),(Sl3.v a1_11)])] H (z38 r) (z3k H r) :=
 ((z24 _).2.2.2.2.1) _ _ _ _ _ _ _ _ _ _ _ _ _ _ _ _ h
theorem zg1 {L:LC} {m:Nat} {H:AH} {a0:Option Addr} {a1:Int} {a2:Sl3} {r:(Int×AH)} (h:zbd L m H a0 a1 a2=some r) :
  CallS Tryz.prog (NE.plain 202) m 49 #[(Value.pointer a0),(Value.int .i64 a1),(Sl3.v a2)] H (z3p r) (z49 H r) :=
 ((z24 _).2.2.2.2.2.1) _ _ _ _ _ _ h
theorem zax {L:LC} {m:Nat} {H:AH} {a0:Sl3} {a1_0:Option Addr} {r:(Bool×AH)} (h:z6c L m H a0 a1_0=some r) :
  CallS Tryz.prog (NE.plain 202) m 68 #[(Sl3.v a0),(Value.func (.func 69) #[] #[(Value.pointer a1_0)])] H (z22 r) (z2a H r) :=
 ((z24 _).2.2.2.2.2.2.2.2) _ _ _ _ _ h
end Go.Proofs.YtfbinmgldpnjhaaGreatDoor
namespace Go.Proofs.YtfbinmgldpnjhaaGreatDoor
open Go Go.Abs
set_option maxRecDepth 100000
noncomputable def B32:Code:=(Tryz.f32.body).getD .skip
def z59:(Int×AH)→Value
 | (r0,_)=>(Value.int .i64 r0)
def z5q (_:AH):(Int×AH)→AH:=fun r=>r.2
noncomputable def z43 (L:LC) (m:Nat) (H:AH) (a0:Option Addr) (_a1 _a2_0:Int) (_a2_1:ByteArray) (_a2_2:Bool) (_a2_3:Sl3) (_a2_4:Int) (_a2_5:Sl3) (_a2_6 _a2_7:Int) (_a2_8:ByteArray) (_a2_9 _a2_10 a2_11:Sl3):Option (Int×AH) :=
 Option.bind (newB 44 [(Value.pointer a0)] H) fun (p1,H2) =>
 Option.bind (α:=(AH×Bool)) (
  if (a2_11.n:Int)=0 then
   some (H2,true)
  else
   Option.bind (z6c L m H2 a2_11 (some p1)) fun (x5,H6) =>
   some (H6,x5)) fun (H3,v17_4) =>
 if v17_4=true then
  some ((-1),H3)
 else
  none
theorem zcw {L:LC} {m:Nat} {H:AH} {a0:Option Addr} {a1 a2_0:Int} {a2_1:ByteArray} {a2_2:Bool} {a2_3:Sl3} {a2_4:Int} {a2_5:Sl3} {a2_6 a2_7:Int} {a2_8:ByteArray} {a2_9 a2_10 a2_11:Sl3} {r:(Int×AH)} (h:z43 L m H a0 a1 a2_0 a2_1 a2_2 a2_3 a2_4 a2_5 a2_6 a2_7 a2_8 a2_9 a2_10 a2_11=some r) :
  CallS Tryz.prog (NE.plain 202) m 32 #[(Value.pointer a0),(Value.int .i64 a1),(Value.agg #[(Value.int .i64 a2_0),(Value.string a2_1),(Value.bool a2_2),(Sl3.v a2_3),(Value.int .i64 a2_4),(Sl3.v a2_5),(Value.int .i64 a2_6),(Value.int .i64 a2_7),(Value.string a2_8),(Sl3.v a2_9),(Sl3.v a2_10),(Sl3.v a2_11)])] H (z59 r) (z5q H r):=by
 refine CallS.mk (args:=[(Value.pointer a0),(Value.int .i64 a1),(Value.agg #[(Value.int .i64 a2_0),(Value.string a2_1),(Value.bool a2_2),(Sl3.v a2_3),(Value.int .i64 a2_4),(Sl3.v a2_5),(Value.int .i64 a2_6),(Value.int .i64 a2_7),(Value.string a2_8),(Sl3.v a2_9),(Sl3.v a2_10),(Sl3.v a2_11)])]) Tryz.func32 (B:=B32) (by kernel_rfl) (fun E _=>?_)
 unfold z43 at h
 refine WS.sq (WS.rg ?_)
 obtain ⟨⟨p1,H2⟩,hx,h⟩:=bind_some h
 try dsimp only at h
 refine RS.o (H':=H2) (some 3) (Value.pointer (some p1)) (Abs.run_newB (by kernel_rfl) hx) (RS.mL 2 [kI 6 0,kL 5 0 0] ([some (70,[(Value.int .i64 a2_0),(Value.string a2_1),(Value.bool a2_2),(Sl3.v a2_3),(Value.int .i64 a2_4),(Sl3.v a2_5),(Value.int .i64 a2_6),(Value.int .i64 a2_7),(Value.string a2_8),(Sl3.v a2_9),(Sl3.v a2_10),(Sl3.v a2_11)])]) (RS.dn (WS.nxt (WS.sq ?_))))
 obtain ⟨⟨H3,v17_4⟩,hx,h⟩:=bind_some h
 try dsimp only at h
 refine WS.sq ?_
 refine WS.join ([kB 17 v17_4,kP 3 p1,kL 5 0 0]) ([some (70,[(Value.int .i64 a2_0),(Value.string a2_1),(Value.bool a2_2),(Sl3.v a2_3),(Value.int .i64 a2_4),(Sl3.v a2_5),(Value.int .i64 a2_6),(Value.int .i64 a2_7),(Value.string a2_8),(Sl3.v a2_9),(Sl3.v a2_10),(Sl3.v a2_11)])]) H3 ?_ (fun a w hs=>WS.nxt ?_ a w hs)
 ·clear h; rename _=>h
  refine WS.rg (RS.mS 5 [kB 12 (decide ((a2_11.n:Int)=0)),kB 11 (decide ((a2_11.n:Int)=0)),kI 10 (a2_11.n:Int),kS 9 a2_11,kL 8 0 11] ?_)
  rcases z0 h with ⟨hp,h⟩ | ⟨hp,h⟩
  ·refine RS.fx 12 true (decide_eq_true hp) (RS.mS 5 [kB 17 true,kU 16,kU 15,kU 14,kU 13] (RS.dn ?_))
   cases h
   exact fun a w hs=>(jsN (hs.sb 1))
  ·refine RS.fx 12 false (decide_eq_false hp) (RS.mS 3 [(15,.val (Value.func (.func 69) #[] #[(Value.pointer (some p1))])),kS 14 a2_11,kL 13 0 11] ?_)
   obtain ⟨⟨x5,H6⟩,hx,h⟩:=bind_some h
   try dsimp only at h
   refine RS.cl (some 16) (v:=(Value.bool x5)) 68 #[(Sl3.v a2_11),(Value.func (.func 69) #[] #[(Value.pointer (some p1))])] (zax hx) (RS.mS 1 [kB 17 x5] (RS.dn ?_))
   cases h
   exact fun a w hs=>(jsN (hs.sb 1))
 ·clear hx
  rcases z0 h with ⟨hp,h⟩ | ⟨hp,h⟩
  ·refine WS.fx 17 true hp (WS.cT (WS.sq (WS.rg (RS.mS 1 [kI 6 (-1)] (RS.dn (WS.nxt (WS.rt ?_)))))))
   cases h
   exact fun a w hs=>sqR (rtR (rS hs))
  ·refine WS.fx 17 false (b_not hp) (WS.cF ?_)
   cases h
noncomputable def B33:Code:=(Tryz.f33.body).getD .skip
def z4l:(Int×AH)→Value
 | (r0,_)=>(Value.int .i64 r0)
def z5f (_:AH):(Int×AH)→AH:=fun r=>r.2
noncomputable def z3d (_L:LC) (_m:Nat) (H:AH) (_a0:Option Addr) (_a1 a2_0:Int) (_a2_1:ByteArray) (_a2_2:Bool) (_a2_3:Sl3) (_a2_4:Int) (_a2_5:Sl3) (_a2_6 _a2_7:Int) (_a2_8:ByteArray) (_a2_9 _a2_10 _a2_11:Sl3):Option (Int×AH) :=
 if a2_0=3 then
  none
 else
  some ((-1),H)
theorem zbq {L:LC} {m:Nat} {H:AH} {a0:Option Addr} {a1 a2_0:Int} {a2_1:ByteArray} {a2_2:Bool} {a2_3:Sl3} {a2_4:Int} {a2_5:Sl3} {a2_6 a2_7:Int} {a2_8:ByteArray} {a2_9 a2_10 a2_11:Sl3} {r:(Int×AH)} (h:z3d L m H a0 a1 a2_0 a2_1 a2_2 a2_3 a2_4 a2_5 a2_6 a2_7 a2_8 a2_9 a2_10 a2_11=some r) :
  CallS Tryz.prog (NE.plain 202) m 33 #[(Value.pointer a0),(Value.int .i64 a1),(Value.agg #[(Value.int .i64 a2_0),(Value.string a2_1),(Value.bool a2_2),(Sl3.v a2_3),(Value.int .i64 a2_4),(Sl3.v a2_5),(Value.int .i64 a2_6),(Value.int .i64 a2_7),(Value.string a2_8),(Sl3.v a2_9),(Sl3.v a2_10),(Sl3.v a2_11)])] H (z4l r) (z5f H r):=by
 refine CallS.mk (args:=[(Value.pointer a0),(Value.int .i64 a1),(Value.agg #[(Value.int .i64 a2_0),(Value.string a2_1),(Value.bool a2_2),(Sl3.v a2_3),(Value.int .i64 a2_4),(Sl3.v a2_5),(Value.int .i64 a2_6),(Value.int .i64 a2_7),(Value.string a2_8),(Sl3.v a2_9),(Sl3.v a2_10),(Sl3.v a2_11)])]) Tryz.func33 (B:=B33) (by kernel_rfl) (fun E _=>?_)
 unfold z3d at h
 refine WS.sq (WS.rg (RS.mL 2 [kI 6 0,kL 5 0 0] ([some (70,[(Value.int .i64 a2_0),(Value.string a2_1),(Value.bool a2_2),(Sl3.v a2_3),(Value.int .i64 a2_4),(Sl3.v a2_5),(Value.int .i64 a2_6),(Value.int .i64 a2_7),(Value.string a2_8),(Sl3.v a2_9),(Sl3.v a2_10),(Sl3.v a2_11)])]) (RS.dn (WS.nxt (WS.sq (WS.sq (WS.rg (RS.mS 3 [kB 10 (decide (a2_0=3)),kI 9 a2_0,kL 8 0 0] (RS.dn ?_)))))))))
 refine WS.nxt ?_
 rcases z0 h with ⟨hp,h⟩ | ⟨hp,h⟩
 ·refine WS.fx 10 true (decide_eq_true hp) (WS.cT ?_)
  cases h
 ·refine WS.fx 10 false (decide_eq_false hp) (WS.cF (WS.sk (WS.nxt (WS.sq (WS.rg (RS.mS 1 [kI 6 (-1)] (RS.dn (WS.nxt (WS.rt ?_)))))))))
  cases h
  exact fun a w hs=>rtR (rS hs)
noncomputable def B58:Code:=(Tryz.f58.body).getD .skip
def zce:Int→Value
 | r0=>(Value.int .i64 r0)
def zde (H:AH):Int→AH:=fun _=>H
noncomputable def z85 (_L:LC) (H:AH) (a0:Sl3) (a1:Int):Int→Option (Lp Int Int):=fun v8_1 =>
 if v8_1<(a0.n:Int) then
  Option.bind (idxA 1 a0 v8_1) fun p2 =>
  Option.bind (rd (deI .i64) H p2) fun x3 =>
  if a1=x3 then
   some (.ret v8_1)
  else
   some (.next (IntKind.i64.wrap (v8_1+1)))
 else
  some (.brk v8_1)
def zi7 (_L:LC) (_H:AH) (a0:Sl3) (a1:Int):Int→KN×Lcs:=fun v8_1=>([kI 8 v8_1,kS 0 a0,kI 1 a1,kI 7 (a0.n:Int)],[])
noncomputable def zch (L:LC) (H:AH) (a0:Sl3) (a1:Int):Option Int :=
 Option.bind (L.run (z85 L H a0 a1) 0) fun o=>match o with
 | .inl _ =>
  some (-1)
 | .inr r=>some r
theorem zae {E m L H a0 a1} :LoopF Tryz.prog (NE.plain 202) m E Tryz.f58 ((cfst (csnd (cfst (csnd B58))))) (zi7 L H a0 a1) (fun _=>H) 0 zce (zde H) (z85 L H a0 a1):=by
 rintro v8_1 o h
 unfold z85 at h
 try dsimp only at h
 refine WS.sq (WS.rg (RS.mS 1 [kB 9 (decide (v8_1<(a0.n:Int)))] (RS.dn (WS.nxt (WS.sq ?_)))))
 rcases z0 h with ⟨hp,h⟩ | ⟨hp,h⟩
 ·refine WS.fx 9 true (decide_eq_true hp) (WS.cT (WS.sk (WS.nxt (WS.sq (WS.bk 1 (WS.sq (WS.rg (RS.mS 2 [kI 5 v8_1,kI 10 v8_1] (RS.dn ?_)))))))))
  refine WS.nxt (WS.sq (WS.rg (RS.mS 3 [kI 13 v8_1,kS 12 a0,kI 11 a1] ?_)))
  obtain ⟨p2,hx,h⟩:=bind_some h
  refine RS.ix 14 37 3 (.tmp 12) (.tmp 13) hx ?_
  obtain ⟨x3,hx,h⟩:=bind_some h
  refine RS.ld 15 3 (.tmp 14) (z1 hx z8) (RS.mS 1 [kB 16 (decide (a1=x3))] (RS.dn (WS.nxt ?_)))
  rcases z0 h with ⟨hp,h⟩ | ⟨hp,h⟩
  ·refine WS.fx 16 true (decide_eq_true hp) (WS.cT (WS.sq (WS.rg (RS.mS 2 [kI 4 v8_1,kI 17 v8_1] (RS.dn (WS.nxt (WS.rt ?_)))))))
   cases h
   exact fun a w hs=>bkR (sqR (lsR rfl (rS hs)))
  ·refine WS.fx 16 false (decide_eq_false hp) (WS.cF (WS.sk ?_))
   refine fun a w hs=>bkN ((WS.nxt ?_ a w hs))
   refine WS.rg (RS.mS 2 [kI 8 (IntKind.i64.wrap (v8_1+1)),kI 18 (IntKind.i64.wrap (v8_1+1))] (RS.dn ?_))
   cases h
   exact fun a w hs=>lsN rfl (hs.sb 0)
 ·refine WS.fx 9 false (decide_eq_false hp) (WS.cF (WS.ex 0 ?_))
  cases h
  exact fun a w hs=>sqE (lsB rfl (hs.sb 0))
theorem zkv {L:LC} {m:Nat} {H:AH} {a0:Sl3} {a1 r:Int} (h:zch L H a0 a1=some r) :
  CallS Tryz.prog (NE.plain 202) m 58 #[(Sl3.v a0),(Value.int .i64 a1)] H (zce r) (zde H r):=by
 refine CallS.mk (args:=[(Sl3.v a0),(Value.int .i64 a1)]) Tryz.func58 (B:=B58) (by kernel_rfl) (fun E _=>?_)
 unfold zch at h
 refine WS.sq (WS.rg (RS.mS 1 [kI 4 0] (RS.dn (WS.nxt (WS.sq (WS.sq (WS.rg (RS.mS 3 [kI 8 0,kI 7 (a0.n:Int),kS 6 a0] (RS.dn ?_)))))))))
 refine WS.nxt (WS.bk 0 ?_)
 obtain ⟨o,hl,h⟩:=bind_some h
 rcases o with v8_4 | r
 ·try dsimp only at h
  refine WS.lI (zae (L:=L) (E:=E) (m:=m) (H:=H)) (L.ok hl) 0 ?_
  clear hl
  refine fun a w hs=>bkE ((WS.nxt ?_ a w hs))
  refine WS.sq (WS.rg (RS.mS 1 [kI 4 (-1)] (RS.dn (WS.nxt (WS.rt ?_)))))
  cases h
  exact fun a w hs=>rtR (rS hs)
 ·try dsimp only at h
  refine WS.lR (zae (L:=L) (E:=E) (m:=m) (H:=H)) (L.ok hl) 0 ?_
  cases h
  exact fun a w hq=>bkR (sqR (rtR hq))
noncomputable def B24:Code:=(Tryz.f24.body).getD .skip
def zgt:Bool→Value
 | r0=>(Value.bool r0)
def zim (H:AH):Bool→AH:=fun _=>H
noncomputable def z8o (L:LC) (H:AH) (a0:Sl3) (a1:Int):Option Bool :=
 Option.bind (zch L H a0 a1) fun x1 =>
 some (decide (x1≥0))
theorem zai {L:LC} {m:Nat} {H:AH} {a0:Sl3} {a1:Int} {r:Bool} (h:z8o L H a0 a1=some r) :
  CallS Tryz.prog (NE.plain 202) m 24 #[(Sl3.v a0),(Value.int .i64 a1)] H (zgt r) (zim H r):=by
 refine CallS.mk (args:=[(Sl3.v a0),(Value.int .i64 a1)]) Tryz.func24 (B:=B24) (by kernel_rfl) (fun E _=>?_)
 unfold z8o at h
 refine WS.sq (WS.rg (RS.mS 1 [kB 4 false] (RS.dn (WS.nxt (WS.sq (WS.rg (RS.mS 2 [kI 6 a1,kS 5 a0] ?_)))))))
 obtain ⟨x1,hx,h⟩:=bind_some h
 refine RS.cl (some 7) (v:=(Value.int .i64 x1)) 58 #[(Sl3.v a0),(Value.int .i64 a1)] (zkv hx) (RS.mS 2 [kB 4 (decide (x1≥0)),kB 8 (decide (x1≥0))] (RS.dn (WS.nxt (WS.rt ?_))))
 cases h
 exact fun a w hs=>rtR (rS hs)
noncomputable def B34:Code:=(Tryz.f34.body).getD .skip
def zr:(Int×AH)→Value
 | (r0,_)=>(Value.int .i64 r0)
def zw (_:AH):(Int×AH)→AH:=fun r=>r.2
noncomputable def z2k (L:LC) (m:Nat) (a0:Option Addr) (a2_0:Int) (_a2_1:ByteArray) (_a2_2:Bool) (_a2_3:Sl3) (_a2_4:Int) (_a2_5:Sl3) (_a2_6 _a2_7:Int) (_a2_8:ByteArray) (_a2_9 _a2_10 a2_11:Sl3):(AH×Sl3×Int)→Option (Lp (AH×Sl3×Int) (Int×AH)):=fun (H2,v7_3,v31_4) =>
 if v31_4<(a2_11.n:Int) then
  Option.bind (α:=(AH×Sl3)) (
   Option.bind (idxA 1 a2_11 v31_4) fun p7 =>
   Option.bind (rd (deI .i64) H2 p7) fun x8 =>
   Option.bind (z15 L m H2 a0 x8) fun (x9_0,_,_,_,_,_,_,_,_,_,_,x9_11,H10) =>
   if x9_0=a2_0 then
    Option.bind (appS m 3 1 8 H10 v7_3 x9_11) fun (s11,H12) =>
    some (H12,s11)
   else
    Option.bind (newR 3 1 #[(Value.int .i64 x8)] H10) fun (s13,H14) =>
    Option.bind (appS m 3 1 8 H14 v7_3 s13) fun (s15,H16) =>
    some (H16,s15)) fun (H5,v7_6) =>
  some (.next (H5,v7_6,(IntKind.i64.wrap (v31_4+1))))
 else
  some (.brk (H2,v7_3,v31_4))
def z9x (_L:LC) (_m:Nat) (a0:Option Addr) (a2_0:Int) (a2_1:ByteArray) (a2_2:Bool) (a2_3:Sl3) (a2_4:Int) (a2_5:Sl3) (a2_6 a2_7:Int) (a2_8:ByteArray) (a2_9 a2_10 a2_11:Sl3):(AH×Sl3×Int)→KN×Lcs:=fun (_,v7_3,v31_4)=>([kS 7 v7_3,kI 31 v31_4,(0,.val (Value.pointer a0)),kL 5 0 0,kS 29 a2_11,kI 30 (a2_11.n:Int)],[some (70,[(Value.int .i64 a2_0),(Value.string a2_1),(Value.bool a2_2),(Sl3.v a2_3),(Value.int .i64 a2_4),(Sl3.v a2_5),(Value.int .i64 a2_6),(Value.int .i64 a2_7),(Value.string a2_8),(Sl3.v a2_9),(Sl3.v a2_10),(Sl3.v a2_11)])])
noncomputable def z2h (L:LC) (m:Nat) (a0:Option Addr) (_a2_0:Int) (_a2_1:ByteArray) (_a2_2:Bool) (_a2_3:Sl3) (_a2_4:Int) (_a2_5:Sl3) (_a2_6 _a2_7:Int) (_a2_8:ByteArray) (_a2_9 _a2_10:Sl3) (_a2_11 v7_18:Sl3):(AH×Sl3×Int)→Option (Lp (AH×Sl3×Int) (Int×AH)):=fun (H20,v13_21,v64_22) =>
 if v64_22<(v7_18.n:Int) then
  Option.bind (α:=(AH×Sl3)⊕(Lp (AH×Sl3×Int) (Int×AH))) (
   Option.bind (idxA 1 v7_18 v64_22) fun p25 =>
   Option.bind (rd (deI .i64) H20 p25) fun x26 =>
   Option.bind (z15 L m H20 a0 x26) fun (x27_0,_,_,_,_,_,_,_,_,_,_,_,H28) =>
   if x27_0=2 then
    none
   else
    Option.bind (α:=Bool) (
     if x27_0=1 then
      some false
     else
      Option.bind (z8o L H28 v13_21 x26) fun x30 =>
      some (!x30)) fun v84_29 =>
    if v84_29=true then
     Option.bind (newR 3 1 #[(Value.int .i64 x26)] H28) fun (s31,H32) =>
     Option.bind (appS m 3 1 8 H32 v13_21 s31) fun (s33,H34) =>
     some (.inl (H34,s33))
    else
     some (.inl (H28,v13_21))) fun o=>match o with
  | .inl (H23,v13_24) =>
   some (.next (H23,v13_24,(IntKind.i64.wrap (v64_22+1))))
  | .inr r=>some r
 else
  some (.brk (H20,v13_21,v64_22))
def z9l (_L:LC) (_m:Nat) (a0:Option Addr) (a2_0:Int) (a2_1:ByteArray) (a2_2:Bool) (a2_3:Sl3) (a2_4:Int) (a2_5:Sl3) (a2_6 a2_7:Int) (a2_8:ByteArray) (a2_9 a2_10:Sl3) (a2_11 v7_18:Sl3):(AH×Sl3×Int)→KN×Lcs:=fun (_,v13_21,v64_22)=>([kS 13 v13_21,kI 64 v64_22,(0,.val (Value.pointer a0)),kL 5 0 0,kI 11 1,kI 12 2,kS 62 v7_18,kI 63 (v7_18.n:Int)],[some (70,[(Value.int .i64 a2_0),(Value.string a2_1),(Value.bool a2_2),(Sl3.v a2_3),(Value.int .i64 a2_4),(Sl3.v a2_5),(Value.int .i64 a2_6),(Value.int .i64 a2_7),(Value.string a2_8),(Sl3.v a2_9),(Sl3.v a2_10),(Sl3.v a2_11)])])
noncomputable def z2d (L:LC) (m:Nat) (a0:Option Addr) (_a2_0:Int) (_a2_1:ByteArray) (_a2_2:Bool) (_a2_3:Sl3) (_a2_4:Int) (_a2_5:Sl3) (_a2_6 _a2_7:Int) (_a2_8:ByteArray) (_a2_9 _a2_10:Sl3) (_a2_11 v13_36:Sl3):(AH×Int)→Option (Lp (AH×Int) (Int×AH)):=fun (H38,v92_39) =>
 if v92_39<(v13_36.n:Int) then
  Option.bind (idxA 1 v13_36 v92_39) fun p40 =>
  Option.bind (rd (deI .i64) H38 p40) fun x41 =>
  Option.bind (z15 L m H38 a0 x41) fun (x42_0,_,_,_,_,_,_,_,_,_,_,_,H43) =>
  if x42_0=3 then
   none
  else
   some (.next (H43,(IntKind.i64.wrap (v92_39+1))))
 else
  some (.brk (H38,v92_39))
def z9w (_L:LC) (_m:Nat) (a0:Option Addr) (a2_0:Int) (a2_1:ByteArray) (a2_2:Bool) (a2_3:Sl3) (a2_4:Int) (a2_5:Sl3) (a2_6 a2_7:Int) (a2_8:ByteArray) (a2_9 a2_10:Sl3) (a2_11 v13_36:Sl3):(AH×Int)→KN×Lcs:=fun (_,v92_39)=>([kI 92 v92_39,(0,.val (Value.pointer a0)),kL 5 0 0,kI 11 1,kI 12 2,kS 13 v13_36,kS 90 v13_36,kI 91 (v13_36.n:Int)],[some (70,[(Value.int .i64 a2_0),(Value.string a2_1),(Value.bool a2_2),(Sl3.v a2_3),(Value.int .i64 a2_4),(Sl3.v a2_5),(Value.int .i64 a2_6),(Value.int .i64 a2_7),(Value.string a2_8),(Sl3.v a2_9),(Sl3.v a2_10),(Sl3.v a2_11)])])
noncomputable def z3h (L:LC) (m:Nat) (H:AH) (a0:Option Addr) (_a1 a2_0:Int) (a2_1:ByteArray) (a2_2:Bool) (a2_3:Sl3) (a2_4:Int) (a2_5:Sl3) (a2_6 a2_7:Int) (a2_8:ByteArray) (a2_9 a2_10 a2_11:Sl3):Option (Int×AH) :=
 Option.bind (α:=Bool) (
  if a2_0=4 then
   some false
  else
   some (!decide (a2_0=5))) fun v27_1 =>
 if v27_1=true then
  some ((-1),H)
 else
  Option.bind (L.run (z2k L m a0 a2_0 a2_1 a2_2 a2_3 a2_4 a2_5 a2_6 a2_7 a2_8 a2_9 a2_10 a2_11) (H,Sl3.nil,0)) fun o=>match o with
  | .inl (H17,v7_18,_) =>
   if (v7_18.n:Int) > 64 then
    none
   else
    if a2_0=5 then
     none
    else
     Option.bind (L.run (z2h L m a0 a2_0 a2_1 a2_2 a2_3 a2_4 a2_5 a2_6 a2_7 a2_8 a2_9 a2_10 a2_11 v7_18) (H17,Sl3.nil,0)) fun o=>match o with
     | .inl (H35,v13_36,_) =>
      Option.bind (L.run (z2d L m a0 a2_0 a2_1 a2_2 a2_3 a2_4 a2_5 a2_6 a2_7 a2_8 a2_9 a2_10 a2_11 v13_36) (H35,0)) fun o=>match o with
      | .inl (H44,_) =>
       if (v13_36.n:Int)=0 then
        none
       else
        if (v13_36.n:Int)=1 then
         none
        else
         Option.bind (zbd L m H44 a0 a2_0 v13_36) fun (x46,H47) =>
         some (x46,H47)
      | .inr r=>some r
     | .inr r=>some r
  | .inr r=>some r
theorem z3r {E H L m a0 a2_0 a2_1 a2_2 a2_3 a2_4 a2_5 a2_6 a2_7 a2_8 a2_9 a2_10 a2_11} :LoopF Tryz.prog (NE.plain 202) m E Tryz.f34 ((cfst (csnd (cfst (csnd (csnd (csnd B34))))))) (z9x L m a0 a2_0 a2_1 a2_2 a2_3 a2_4 a2_5 a2_6 a2_7 a2_8 a2_9 a2_10 a2_11) (fun s=>s.1) 0 zr (zw H) (z2k L m a0 a2_0 a2_1 a2_2 a2_3 a2_4 a2_5 a2_6 a2_7 a2_8 a2_9 a2_10 a2_11):=by
 rintro ⟨H2,v7_3,v31_4⟩ o h
 unfold z2k at h
 try dsimp only at h
 refine WS.sq (WS.rg (RS.mS 1 [kB 32 (decide (v31_4<(a2_11.n:Int)))] (RS.dn (WS.nxt (WS.sq ?_)))))
 rcases z0 h with ⟨hp,h⟩ | ⟨hp,h⟩
 ·refine WS.fx 32 true (decide_eq_true hp) (WS.cT (WS.sk (WS.nxt ?_)))
  obtain ⟨⟨H5,v7_6⟩,hx,h⟩:=bind_some h
  try dsimp only at h
  refine WS.sq ?_
  refine WS.join ([kS 7 v7_6,(0,.val (Value.pointer a0)),kL 5 0 0,kS 29 a2_11,kI 30 (a2_11.n:Int),kI 31 v31_4]) ([some (70,[(Value.int .i64 a2_0),(Value.string a2_1),(Value.bool a2_2),(Sl3.v a2_3),(Value.int .i64 a2_4),(Sl3.v a2_5),(Value.int .i64 a2_6),(Value.int .i64 a2_7),(Value.string a2_8),(Sl3.v a2_9),(Sl3.v a2_10),(Sl3.v a2_11)])]) H5 ?_ (fun a w hs=>WS.nxt ?_ a w hs)
  ·clear h; rename _=>h
   refine WS.bk 1 (WS.sq (WS.rg ?_))
   obtain ⟨p7,hx,h⟩:=bind_some h
   refine RS.ix 33 37 3 (.tmp 29) (.tmp 31) hx ?_
   obtain ⟨x8,hx,h⟩:=bind_some h
   refine RS.ld 34 3 (.tmp 33) (z1 hx z8) (RS.mS 1 [kI 9 x8] (RS.dn (WS.nxt (WS.sq (WS.rg (RS.mS 2 [kI 36 x8,(35,.val (Value.pointer a0))] ?_))))))
   obtain ⟨⟨x9_0,x9_1,x9_2,x9_3,x9_4,x9_5,x9_6,x9_7,x9_8,x9_9,x9_10,x9_11,H10⟩,hx,h⟩:=bind_some h
   try dsimp only at h
   refine RS.cl (some 37) (v:=(Value.agg #[(Value.int .i64 x9_0),(Value.string x9_1),(Value.bool x9_2),(Sl3.v x9_3),(Value.int .i64 x9_4),(Sl3.v x9_5),(Value.int .i64 x9_6),(Value.int .i64 x9_7),(Value.string x9_8),(Sl3.v x9_9),(Sl3.v x9_10),(Sl3.v x9_11)])) 20 #[(Value.pointer a0),(Value.int .i64 x8)] (z10 hx) (RS.mL 2 [kL 10 1 0] ([some (70,[(Value.int .i64 a2_0),(Value.string a2_1),(Value.bool a2_2),(Sl3.v a2_3),(Value.int .i64 a2_4),(Sl3.v a2_5),(Value.int .i64 a2_6),(Value.int .i64 a2_7),(Value.string a2_8),(Sl3.v a2_9),(Sl3.v a2_10),(Sl3.v a2_11)]),some (70,[(Value.int .i64 x9_0),(Value.string x9_1),(Value.bool x9_2),(Sl3.v x9_3),(Value.int .i64 x9_4),(Sl3.v x9_5),(Value.int .i64 x9_6),(Value.int .i64 x9_7),(Value.string x9_8),(Sl3.v x9_9),(Sl3.v x9_10),(Sl3.v x9_11)])]) (RS.dn (WS.nxt (WS.sq (WS.rg (RS.mS 5 [kB 42 (decide (x9_0=a2_0)),kI 41 a2_0,kL 40 0 0,kI 39 x9_0,kL 38 1 0] (RS.dn (WS.nxt ?_))))))))
   rcases z0 h with ⟨hp,h⟩ | ⟨hp,h⟩
   ·refine WS.fx 42 true (decide_eq_true hp) (WS.cT (WS.rg (RS.mS 3 [kS 45 x9_11,kL 44 1 11,kS 43 v7_3] ?_)))
    obtain ⟨⟨s11,H12⟩,hx,h⟩:=bind_some h
    try dsimp only at h
    refine RS.o (H':=H12) (some 46) (Sl3.v s11) (Abs.run_app (x:=.tmp 43) (y:=.tmp 45) (ts:=#[37,37]) (s:=v7_3) (z:=x9_11) (by kernel_rfl) (by kernel_rfl) (by kernel_rfl) (by kernel_rfl) hx) (RS.mS 1 [kS 7 s11] (RS.dn ?_))
    cases h
    exact fun a w hs=>bkN ((jsN (hs.sb 1)))
   ·refine WS.fx 42 false (decide_eq_false hp) (WS.cF (WS.rg (RS.mS 2 [kI 48 x8,kS 47 v7_3] ?_)))
    obtain ⟨⟨s13,H14⟩,hx,h⟩:=bind_some h
    try dsimp only at h
    refine RS.o (H':=H14) (some 49) (Sl3.v s13) (Abs.run_newR (by kernel_rfl) (by kernel_rfl) hx) ?_
    obtain ⟨⟨s15,H16⟩,hx,h⟩:=bind_some h
    try dsimp only at h
    refine RS.o (H':=H16) (some 50) (Sl3.v s15) (Abs.run_app (x:=.tmp 47) (y:=.tmp 49) (ts:=#[37,37]) (s:=v7_3) (z:=s13) (by kernel_rfl) (by kernel_rfl) (by kernel_rfl) (by kernel_rfl) hx) (RS.mS 1 [kS 7 s15] (RS.dn ?_))
    cases h
    exact fun a w hs=>bkN ((jsN (hs.sb 1)))
  ·clear hx
   refine WS.rg (RS.mS 2 [kI 31 (IntKind.i64.wrap (v31_4+1)),kI 51 (IntKind.i64.wrap (v31_4+1))] (RS.dn ?_))
   cases h
   exact fun a w hs=>lsN rfl (hs.sb 1)
 ·refine WS.fx 32 false (decide_eq_false hp) (WS.cF (WS.ex 0 ?_))
  cases h
  exact fun a w hs=>sqE (lsB rfl (hs.sb 1))
theorem z3z {E H L m a0 a2_0 a2_1 a2_2 a2_3 a2_4 a2_5 a2_6 a2_7 a2_8 a2_9 a2_10 a2_11 v7_18} :LoopF Tryz.prog (NE.plain 202) m E Tryz.f34 ((cfst (csnd (cfst (csnd (csnd (csnd (csnd (csnd (csnd (csnd (csnd B34)))))))))))) (z9l L m a0 a2_0 a2_1 a2_2 a2_3 a2_4 a2_5 a2_6 a2_7 a2_8 a2_9 a2_10 a2_11 v7_18) (fun s=>s.1) 2 zr (zw H) (z2h L m a0 a2_0 a2_1 a2_2 a2_3 a2_4 a2_5 a2_6 a2_7 a2_8 a2_9 a2_10 a2_11 v7_18):=by
 rintro ⟨H20,v13_21,v64_22⟩ o h
 unfold z2h at h
 try dsimp only at h
 refine WS.sq (WS.rg (RS.mS 1 [kB 65 (decide (v64_22<(v7_18.n:Int)))] (RS.dn (WS.nxt (WS.sq ?_)))))
 rcases z0 h with ⟨hp,h⟩ | ⟨hp,h⟩
 ·refine WS.fx 65 true (decide_eq_true hp) (WS.cT (WS.sk (WS.nxt ?_)))
  obtain ⟨o,hx,h⟩:=bind_some h
  rcases o with ⟨H23,v13_24⟩ | ro
  ·try dsimp only at h
   refine WS.sq ?_
   refine WS.join ([kS 13 v13_24,(0,.val (Value.pointer a0)),kL 5 0 0,kI 11 1,kI 12 2,kS 62 v7_18,kI 63 (v7_18.n:Int),kI 64 v64_22]) ([some (70,[(Value.int .i64 a2_0),(Value.string a2_1),(Value.bool a2_2),(Sl3.v a2_3),(Value.int .i64 a2_4),(Sl3.v a2_5),(Value.int .i64 a2_6),(Value.int .i64 a2_7),(Value.string a2_8),(Sl3.v a2_9),(Sl3.v a2_10),(Sl3.v a2_11)])]) H23 ?_ (fun a w hs=>WS.nxt ?_ a w hs)
   ·clear h; rename _=>h
    refine WS.bk 3 (WS.sq (WS.rg ?_))
    obtain ⟨p25,hx,h⟩:=bind_some h
    refine RS.ix 66 37 3 (.tmp 62) (.tmp 64) hx ?_
    obtain ⟨x26,hx,h⟩:=bind_some h
    refine RS.ld 67 3 (.tmp 66) (z1 hx z8) (RS.mS 1 [kI 15 x26] (RS.dn (WS.nxt (WS.sq (WS.rg (RS.mS 2 [kI 69 x26,(68,.val (Value.pointer a0))] ?_))))))
    obtain ⟨⟨x27_0,x27_1,x27_2,x27_3,x27_4,x27_5,x27_6,x27_7,x27_8,x27_9,x27_10,x27_11,H28⟩,hx,h⟩:=bind_some h
    try dsimp only at h
    refine RS.cl (some 70) (v:=(Value.agg #[(Value.int .i64 x27_0),(Value.string x27_1),(Value.bool x27_2),(Sl3.v x27_3),(Value.int .i64 x27_4),(Sl3.v x27_5),(Value.int .i64 x27_6),(Value.int .i64 x27_7),(Value.string x27_8),(Sl3.v x27_9),(Sl3.v x27_10),(Sl3.v x27_11)])) 20 #[(Value.pointer a0),(Value.int .i64 x26)] (z10 hx) (RS.mS 2 [kI 16 x27_0,kI 71 x27_0] (RS.dn (WS.nxt (WS.sq (WS.sq (WS.rg (RS.mS 3 [kB 74 (decide (x27_0=2)),kI 73 2,kI 72 x27_0] (RS.dn (WS.nxt ?_)))))))))
    rcases z0 h with ⟨hp,h⟩ | ⟨hp,h⟩
    ·refine WS.fx 74 true (decide_eq_true hp) (WS.cT ?_)
     cases h
    ·refine WS.fx 74 false (decide_eq_false hp) (WS.cF (WS.sk (WS.nxt ?_)))
     obtain ⟨v84_29,hx,h⟩:=bind_some h
     refine WS.sq ?_
     refine WS.join ([kB 84 v84_29,(0,.val (Value.pointer a0)),kL 5 0 0,kI 11 1,kI 12 2,kS 13 v13_21,kI 15 x26,kS 62 v7_18,kI 63 (v7_18.n:Int),kI 64 v64_22]) ([some (70,[(Value.int .i64 a2_0),(Value.string a2_1),(Value.bool a2_2),(Sl3.v a2_3),(Value.int .i64 a2_4),(Sl3.v a2_5),(Value.int .i64 a2_6),(Value.int .i64 a2_7),(Value.string a2_8),(Sl3.v a2_9),(Sl3.v a2_10),(Sl3.v a2_11)])]) H28 ?_ (fun a w hs=>WS.nxt ?_ a w hs)
     ·clear h; rename _=>h
      refine WS.rg (RS.mS 4 [kB 79 (!decide (x27_0=1)),kB 78 (!decide (x27_0=1)),kI 77 1,kI 76 x27_0] ?_)
      rcases z0 h with ⟨hp,h⟩ | ⟨hp,h⟩
      ·refine RS.fx 79 false (zh hp) (RS.mS 5 [kB 84 false,kU 83,kU 82,kU 81,kU 80] (RS.dn ?_))
       cases h
       exact fun a w hs=>(jsN (hs.sb 1))
      ·refine RS.fx 79 true (ze hp) (RS.mS 2 [kI 81 x26,kS 80 v13_21] ?_)
       obtain ⟨x30,hx,h⟩:=bind_some h
       refine RS.cl (some 82) (v:=(Value.bool x30)) 24 #[(Sl3.v v13_21),(Value.int .i64 x26)] (zai hx) (RS.mS 2 [kB 84 (!x30),kB 83 (!x30)] (RS.dn ?_))
       cases h
       exact fun a w hs=>(jsN (hs.sb 1))
     ·clear hx
      rcases z0 h with ⟨hp,h⟩ | ⟨hp,h⟩
      ·refine WS.fx 84 true hp (WS.cT (WS.rg (RS.mS 2 [kI 86 x26,kS 85 v13_21] ?_)))
       obtain ⟨⟨s31,H32⟩,hx,h⟩:=bind_some h
       try dsimp only at h
       refine RS.o (H':=H32) (some 87) (Sl3.v s31) (Abs.run_newR (by kernel_rfl) (by kernel_rfl) hx) ?_
       obtain ⟨⟨s33,H34⟩,hx,h⟩:=bind_some h
       try dsimp only at h
       refine RS.o (H':=H34) (some 88) (Sl3.v s33) (Abs.run_app (x:=.tmp 85) (y:=.tmp 87) (ts:=#[37,37]) (s:=v13_21) (z:=s31) (by kernel_rfl) (by kernel_rfl) (by kernel_rfl) (by kernel_rfl) hx) (RS.mS 1 [kS 13 s33] (RS.dn ?_))
       cases h
       exact fun a w hs=>bkN ((jsN (hs.sb 1)))
      ·refine WS.fx 84 false (b_not hp) (WS.cF (WS.sk ?_))
       cases h
       exact fun a w hs=>bkN ((jsN (hs.sb 1)))
   ·clear hx
    refine WS.rg (RS.mS 2 [kI 64 (IntKind.i64.wrap (v64_22+1)),kI 89 (IntKind.i64.wrap (v64_22+1))] (RS.dn ?_))
    cases h
    exact fun a w hs=>lsN rfl (hs.sb 1)
  ·cases h; rename _=>h
   refine WS.sq (WS.bk 3 (WS.sq (WS.rg ?_)))
   obtain ⟨p25,hx,h⟩:=bind_some h
   refine RS.ix 66 37 3 (.tmp 62) (.tmp 64) hx ?_
   obtain ⟨x26,hx,h⟩:=bind_some h
   refine RS.ld 67 3 (.tmp 66) (z1 hx z8) (RS.mS 1 [kI 15 x26] (RS.dn (WS.nxt (WS.sq (WS.rg (RS.mS 2 [kI 69 x26,(68,.val (Value.pointer a0))] ?_))))))
   obtain ⟨⟨x27_0,x27_1,x27_2,x27_3,x27_4,x27_5,x27_6,x27_7,x27_8,x27_9,x27_10,x27_11,H28⟩,hx,h⟩:=bind_some h
   try dsimp only at h
   refine RS.cl (some 70) (v:=(Value.agg #[(Value.int .i64 x27_0),(Value.string x27_1),(Value.bool x27_2),(Sl3.v x27_3),(Value.int .i64 x27_4),(Sl3.v x27_5),(Value.int .i64 x27_6),(Value.int .i64 x27_7),(Value.string x27_8),(Sl3.v x27_9),(Sl3.v x27_10),(Sl3.v x27_11)])) 20 #[(Value.pointer a0),(Value.int .i64 x26)] (z10 hx) (RS.mS 2 [kI 16 x27_0,kI 71 x27_0] (RS.dn (WS.nxt (WS.sq (WS.sq (WS.rg (RS.mS 3 [kB 74 (decide (x27_0=2)),kI 73 2,kI 72 x27_0] (RS.dn (WS.nxt ?_)))))))))
   rcases z0 h with ⟨hp,h⟩ | ⟨hp,h⟩
   ·refine WS.fx 74 true (decide_eq_true hp) (WS.cT ?_)
    cases h
   ·refine WS.fx 74 false (decide_eq_false hp) (WS.cF (WS.sk (WS.nxt ?_)))
    obtain ⟨v84_29,hx,h⟩:=bind_some h
    refine WS.sq ?_
    refine WS.join ([kB 84 v84_29,(0,.val (Value.pointer a0)),kL 5 0 0,kI 11 1,kI 12 2,kS 13 v13_21,kI 15 x26,kS 62 v7_18,kI 63 (v7_18.n:Int),kI 64 v64_22]) ([some (70,[(Value.int .i64 a2_0),(Value.string a2_1),(Value.bool a2_2),(Sl3.v a2_3),(Value.int .i64 a2_4),(Sl3.v a2_5),(Value.int .i64 a2_6),(Value.int .i64 a2_7),(Value.string a2_8),(Sl3.v a2_9),(Sl3.v a2_10),(Sl3.v a2_11)])]) H28 ?_ (fun a w hs=>WS.nxt ?_ a w hs)
    ·clear h; rename _=>h
     refine WS.rg (RS.mS 4 [kB 79 (!decide (x27_0=1)),kB 78 (!decide (x27_0=1)),kI 77 1,kI 76 x27_0] ?_)
     rcases z0 h with ⟨hp,h⟩ | ⟨hp,h⟩
     ·refine RS.fx 79 false (zh hp) (RS.mS 5 [kB 84 false,kU 83,kU 82,kU 81,kU 80] (RS.dn ?_))
      cases h
      exact fun a w hs=>(jsN (hs.sb 1))
     ·refine RS.fx 79 true (ze hp) (RS.mS 2 [kI 81 x26,kS 80 v13_21] ?_)
      obtain ⟨x30,hx,h⟩:=bind_some h
      refine RS.cl (some 82) (v:=(Value.bool x30)) 24 #[(Sl3.v v13_21),(Value.int .i64 x26)] (zai hx) (RS.mS 2 [kB 84 (!x30),kB 83 (!x30)] (RS.dn ?_))
      cases h
      exact fun a w hs=>(jsN (hs.sb 1))
    ·clear hx
     rcases z0 h with ⟨hp,h⟩ | ⟨hp,h⟩
     ·refine WS.fx 84 true hp (WS.cT (WS.rg (RS.mS 2 [kI 86 x26,kS 85 v13_21] ?_)))
      obtain ⟨⟨s31,H32⟩,hx,h⟩:=bind_some h
      try dsimp only at h
      refine RS.o (H':=H32) (some 87) (Sl3.v s31) (Abs.run_newR (by kernel_rfl) (by kernel_rfl) hx) ?_
      obtain ⟨⟨s33,H34⟩,hx,h⟩:=bind_some h
      try dsimp only at h
      refine RS.o (H':=H34) (some 88) (Sl3.v s33) (Abs.run_app (x:=.tmp 85) (y:=.tmp 87) (ts:=#[37,37]) (s:=v13_21) (z:=s31) (by kernel_rfl) (by kernel_rfl) (by kernel_rfl) (by kernel_rfl) hx) (RS.mS 1 [kS 13 s33] (RS.dn ?_))
      cases h
     ·refine WS.fx 84 false (b_not hp) (WS.cF (WS.sk ?_))
      cases h
 ·refine WS.fx 65 false (decide_eq_false hp) (WS.cF (WS.ex 2 ?_))
  cases h
  exact fun a w hs=>sqE (lsB rfl (hs.sb 1))
theorem z3x {E H L m a0 a2_0 a2_1 a2_2 a2_3 a2_4 a2_5 a2_6 a2_7 a2_8 a2_9 a2_10 a2_11 v13_36} :LoopF Tryz.prog (NE.plain 202) m E Tryz.f34 ((cfst (csnd (cfst (csnd (csnd (csnd (csnd (csnd (csnd (csnd (csnd (csnd B34))))))))))))) (z9w L m a0 a2_0 a2_1 a2_2 a2_3 a2_4 a2_5 a2_6 a2_7 a2_8 a2_9 a2_10 a2_11 v13_36) (fun s=>s.1) 4 zr (zw H) (z2d L m a0 a2_0 a2_1 a2_2 a2_3 a2_4 a2_5 a2_6 a2_7 a2_8 a2_9 a2_10 a2_11 v13_36):=by
 rintro ⟨H38,v92_39⟩ o h
 unfold z2d at h
 try dsimp only at h
 refine WS.sq (WS.rg (RS.mS 1 [kB 93 (decide (v92_39<(v13_36.n:Int)))] (RS.dn (WS.nxt (WS.sq ?_)))))
 rcases z0 h with ⟨hp,h⟩ | ⟨hp,h⟩
 ·refine WS.fx 93 true (decide_eq_true hp) (WS.cT (WS.sk (WS.nxt (WS.sq (WS.bk 5 (WS.sq (WS.rg ?_)))))))
  obtain ⟨p40,hx,h⟩:=bind_some h
  refine RS.ix 94 37 3 (.tmp 90) (.tmp 92) hx ?_
  obtain ⟨x41,hx,h⟩:=bind_some h
  refine RS.ld 95 3 (.tmp 94) (z1 hx z8) (RS.mS 1 [kI 18 x41] (RS.dn (WS.nxt (WS.sq (WS.rg (RS.mS 2 [kI 97 x41,(96,.val (Value.pointer a0))] ?_))))))
  obtain ⟨⟨x42_0,x42_1,x42_2,x42_3,x42_4,x42_5,x42_6,x42_7,x42_8,x42_9,x42_10,x42_11,H43⟩,hx,h⟩:=bind_some h
  try dsimp only at h
  refine RS.cl (some 98) (v:=(Value.agg #[(Value.int .i64 x42_0),(Value.string x42_1),(Value.bool x42_2),(Sl3.v x42_3),(Value.int .i64 x42_4),(Sl3.v x42_5),(Value.int .i64 x42_6),(Value.int .i64 x42_7),(Value.string x42_8),(Sl3.v x42_9),(Sl3.v x42_10),(Sl3.v x42_11)])) 20 #[(Value.pointer a0),(Value.int .i64 x41)] (z10 hx) (RS.mL 2 [kL 19 1 0] ([some (70,[(Value.int .i64 a2_0),(Value.string a2_1),(Value.bool a2_2),(Sl3.v a2_3),(Value.int .i64 a2_4),(Sl3.v a2_5),(Value.int .i64 a2_6),(Value.int .i64 a2_7),(Value.string a2_8),(Sl3.v a2_9),(Sl3.v a2_10),(Sl3.v a2_11)]),some (70,[(Value.int .i64 x42_0),(Value.string x42_1),(Value.bool x42_2),(Sl3.v x42_3),(Value.int .i64 x42_4),(Sl3.v x42_5),(Value.int .i64 x42_6),(Value.int .i64 x42_7),(Value.string x42_8),(Sl3.v x42_9),(Sl3.v x42_10),(Sl3.v x42_11)])]) (RS.dn (WS.nxt (WS.sq (WS.rg (RS.mS 4 [kB 102 (decide (x42_0=3)),kB 101 (decide (x42_0=3)),kI 100 x42_0,kL 99 1 0] ?_))))))
  rcases z0 h with ⟨hp,h⟩ | ⟨hp,h⟩
  ·refine RS.fx 102 true (decide_eq_true hp) ?_
   cases h
  ·refine RS.fx 102 false (decide_eq_false hp) (RS.mS 7 [kB 109 false,kU 108,kU 107,kU 106,kU 105,kU 104,kU 103] (RS.dn (WS.nxt (WS.cF (WS.sk ?_)))))
   refine fun a w hs=>bkN ((WS.nxt ?_ a w hs))
   refine WS.rg (RS.mS 2 [kI 92 (IntKind.i64.wrap (v92_39+1)),kI 113 (IntKind.i64.wrap (v92_39+1))] (RS.dn ?_))
   cases h
   exact fun a w hs=>lsN rfl (hs.sb 1)
 ·refine WS.fx 93 false (decide_eq_false hp) (WS.cF (WS.ex 4 ?_))
  cases h
  exact fun a w hs=>sqE (lsB rfl (hs.sb 1))
theorem zbr {L:LC} {m:Nat} {H:AH} {a0:Option Addr} {a1 a2_0:Int} {a2_1:ByteArray} {a2_2:Bool} {a2_3:Sl3} {a2_4:Int} {a2_5:Sl3} {a2_6 a2_7:Int} {a2_8:ByteArray} {a2_9 a2_10 a2_11:Sl3} {r:(Int×AH)} (h:z3h L m H a0 a1 a2_0 a2_1 a2_2 a2_3 a2_4 a2_5 a2_6 a2_7 a2_8 a2_9 a2_10 a2_11=some r) :
  CallS Tryz.prog (NE.plain 202) m 34 #[(Value.pointer a0),(Value.int .i64 a1),(Value.agg #[(Value.int .i64 a2_0),(Value.string a2_1),(Value.bool a2_2),(Sl3.v a2_3),(Value.int .i64 a2_4),(Sl3.v a2_5),(Value.int .i64 a2_6),(Value.int .i64 a2_7),(Value.string a2_8),(Sl3.v a2_9),(Sl3.v a2_10),(Sl3.v a2_11)])] H (zr r) (zw H r):=by
 refine CallS.mk (args:=[(Value.pointer a0),(Value.int .i64 a1),(Value.agg #[(Value.int .i64 a2_0),(Value.string a2_1),(Value.bool a2_2),(Sl3.v a2_3),(Value.int .i64 a2_4),(Sl3.v a2_5),(Value.int .i64 a2_6),(Value.int .i64 a2_7),(Value.string a2_8),(Sl3.v a2_9),(Sl3.v a2_10),(Sl3.v a2_11)])]) Tryz.func34 (B:=B34) (by kernel_rfl) (fun E _=>?_)
 unfold z3h at h
 refine WS.sq (WS.rg (RS.mL 2 [kI 6 0,kL 5 0 0] ([some (70,[(Value.int .i64 a2_0),(Value.string a2_1),(Value.bool a2_2),(Sl3.v a2_3),(Value.int .i64 a2_4),(Sl3.v a2_5),(Value.int .i64 a2_6),(Value.int .i64 a2_7),(Value.string a2_8),(Sl3.v a2_9),(Sl3.v a2_10),(Sl3.v a2_11)])]) (RS.dn (WS.nxt (WS.sq ?_)))))
 obtain ⟨v27_1,hx,h⟩:=bind_some h
 refine WS.sq ?_
 refine WS.join ([kB 27 v27_1,(0,.val (Value.pointer a0)),kL 5 0 0]) ([some (70,[(Value.int .i64 a2_0),(Value.string a2_1),(Value.bool a2_2),(Sl3.v a2_3),(Value.int .i64 a2_4),(Sl3.v a2_5),(Value.int .i64 a2_6),(Value.int .i64 a2_7),(Value.string a2_8),(Sl3.v a2_9),(Sl3.v a2_10),(Sl3.v a2_11)])]) H ?_ (fun a w hs=>WS.nxt ?_ a w hs)
 ·clear h; rename _=>h
  refine WS.rg (RS.mS 4 [kB 23 (!decide (a2_0=4)),kB 22 (!decide (a2_0=4)),kI 21 a2_0,kL 20 0 0] ?_)
  rcases z0 h with ⟨hp,h⟩ | ⟨hp,h⟩
  ·refine RS.fx 23 false (zh hp) (RS.mS 4 [kB 27 false,kU 26,kU 25,kU 24] (RS.dn ?_))
   cases h
   exact fun a w hs=>(jsN (hs.sb 1))
  ·refine RS.fx 23 true (ze hp) (RS.mS 4 [kB 27 (!decide (a2_0=5)),kB 26 (!decide (a2_0=5)),kI 25 a2_0,kL 24 0 0] (RS.dn ?_))
   cases h
   exact fun a w hs=>(jsN (hs.sb 1))
 ·clear hx
  rcases z0 h with ⟨hp,h⟩ | ⟨hp,h⟩
  ·refine WS.fx 27 true hp (WS.cT (WS.sq (WS.rg (RS.mS 1 [kI 6 (-1)] (RS.dn (WS.nxt (WS.rt ?_)))))))
   cases h
   exact fun a w hs=>sqR (rtR (rS hs))
  ·refine WS.fx 27 false (b_not hp) (WS.cF (WS.sk (WS.nxt (WS.sq (WS.rg (RS.mS 1 [kS 7 Sl3.nil] (RS.dn (WS.nxt (WS.sq ?_)))))))))
   refine WS.sq (WS.rg (RS.mS 4 [kI 31 0,kI 30 (a2_11.n:Int),kS 29 a2_11,kL 28 0 11] (RS.dn (WS.nxt (WS.bk 0 ?_)))))
   obtain ⟨o,hl,h⟩:=bind_some h
   rcases o with ⟨H17,v7_18,v31_19⟩ | r
   ·try dsimp only at h
    refine WS.lI (z3r (L:=L) (E:=E) (m:=m) (H:=H)) (L.ok hl) 1 ?_
    clear hl
    refine fun a w hs=>bkE ((WS.nxt ?_ a w hs))
    refine WS.sq (WS.sq (WS.rg (RS.mS 3 [kB 54 (decide ((v7_18.n:Int) > 64)),kI 53 (v7_18.n:Int),kS 52 v7_18] (RS.dn (WS.nxt ?_)))))
    rcases z0 h with ⟨hp,h⟩ | ⟨hp,h⟩
    ·refine WS.fx 54 true (decide_eq_true hp) (WS.cT ?_)
     cases h
    ·refine WS.fx 54 false (decide_eq_false hp) (WS.cF (WS.sk (WS.nxt (WS.sq (WS.rg (RS.mS 2 [kI 12 2,kI 11 1] (RS.dn (WS.nxt (WS.sq ?_)))))))))
     refine WS.sq (WS.rg (RS.mS 3 [kB 59 (decide (a2_0=5)),kI 58 a2_0,kL 57 0 0] (RS.dn (WS.nxt ?_))))
     rcases z0 h with ⟨hp,h⟩ | ⟨hp,h⟩
     ·refine WS.fx 59 true (decide_eq_true hp) (WS.cT ?_)
      cases h
     ·refine WS.fx 59 false (decide_eq_false hp) (WS.cF (WS.sk (WS.nxt (WS.sq (WS.rg (RS.mS 1 [kS 13 Sl3.nil] (RS.dn (WS.nxt (WS.sq ?_)))))))))
      refine WS.sq (WS.rg (RS.mS 3 [kI 64 0,kI 63 (v7_18.n:Int),kS 62 v7_18] (RS.dn (WS.nxt (WS.bk 2 ?_)))))
      obtain ⟨o,hl,h⟩:=bind_some h
      rcases o with ⟨H35,v13_36,v64_37⟩ | r
      ·try dsimp only at h
       refine WS.lI (z3z (L:=L) (E:=E) (m:=m) (H:=H)) (L.ok hl) 1 ?_
       clear hl
       refine fun a w hs=>bkE ((WS.nxt ?_ a w hs))
       refine WS.sq (WS.sq (WS.rg (RS.mS 3 [kI 92 0,kI 91 (v13_36.n:Int),kS 90 v13_36] (RS.dn (WS.nxt (WS.bk 4 ?_))))))
       obtain ⟨o,hl,h⟩:=bind_some h
       rcases o with ⟨H44,v92_45⟩ | r
       ·try dsimp only at h
        refine WS.lI (z3x (L:=L) (E:=E) (m:=m) (H:=H)) (L.ok hl) 1 ?_
        clear hl
        refine fun a w hs=>bkE ((WS.nxt ?_ a w hs))
        refine WS.sq (WS.sq (WS.rg (RS.mS 2 [kI 115 (v13_36.n:Int),kS 114 v13_36] (RS.dn (WS.nxt (WS.bk 6 (WS.sq (WS.rg (RS.mS 2 [kB 116 (decide ((v13_36.n:Int)=0)),kB 117 (decide ((v13_36.n:Int)=0))] ?_)))))))))
        refine RS.dn (WS.nxt ?_)
        rcases z0 h with ⟨hp,h⟩ | ⟨hp,h⟩
        ·refine WS.fx 116 true (decide_eq_true hp) (WS.cT ?_)
         cases h
        ·refine WS.fx 116 false (decide_eq_false hp) (WS.cF (WS.sq (WS.rg (RS.mS 2 [kB 121 (decide ((v13_36.n:Int)=1)),kB 122 (decide ((v13_36.n:Int)=1))] (RS.dn (WS.nxt ?_))))))
         rcases z0 h with ⟨hp,h⟩ | ⟨hp,h⟩
         ·refine WS.fx 121 true (decide_eq_true hp) (WS.cT ?_)
          cases h
         ·refine WS.fx 121 false (decide_eq_false hp) (WS.cF (WS.sk ?_))
          refine fun a w hs=>bkN ((WS.nxt ?_ a w hs))
          refine WS.sq (WS.rg (RS.mS 4 [kS 129 v13_36,kI 128 a2_0,kL 127 0 0,(126,.val (Value.pointer a0))] ?_))
          obtain ⟨⟨x46,H47⟩,hx,h⟩:=bind_some h
          try dsimp only at h
          refine RS.cl (some 130) (v:=(Value.int .i64 x46)) 49 #[(Value.pointer a0),(Value.int .i64 a2_0),(Sl3.v v13_36)] (zg1 hx) (RS.mS 1 [kI 6 x46] (RS.dn (WS.nxt (WS.rt ?_))))
          cases h
          exact fun a w hs=>rtR (rS hs)
       ·try dsimp only at h
        refine WS.lR (z3x (L:=L) (E:=E) (m:=m) (H:=H)) (L.ok hl) 1 ?_
        cases h
        exact fun a w hq=>bkR (sqR (rtR hq))
      ·try dsimp only at h
       refine WS.lR (z3z (L:=L) (E:=E) (m:=m) (H:=H)) (L.ok hl) 1 ?_
       cases h
       exact fun a w hq=>bkR (sqR (rtR hq))
   ·try dsimp only at h
    refine WS.lR (z3r (L:=L) (E:=E) (m:=m) (H:=H)) (L.ok hl) 1 ?_
    cases h
    exact fun a w hq=>bkR (sqR (rtR hq))
noncomputable def B35:Code:=(Tryz.f35.body).getD .skip
def z46:(Int×AH)→Value
 | (r0,_)=>(Value.int .i64 r0)
def z4k (_:AH):(Int×AH)→AH:=fun r=>r.2
noncomputable def z2u (_L:LC) (_m:Nat) (H:AH) (_a0:Option Addr) (_a1 a2_0:Int) (_a2_1:ByteArray) (_a2_2:Bool) (_a2_3:Sl3) (_a2_4:Int) (_a2_5:Sl3) (_a2_6 _a2_7:Int) (_a2_8:ByteArray) (_a2_9 _a2_10 _a2_11:Sl3):Option (Int×AH) :=
 if a2_0=7 then
  none
 else
  if a2_0=6 then
   none
  else
   some ((-1),H)
theorem zb5 {L:LC} {m:Nat} {H:AH} {a0:Option Addr} {a1 a2_0:Int} {a2_1:ByteArray} {a2_2:Bool} {a2_3:Sl3} {a2_4:Int} {a2_5:Sl3} {a2_6 a2_7:Int} {a2_8:ByteArray} {a2_9 a2_10 a2_11:Sl3} {r:(Int×AH)} (h:z2u L m H a0 a1 a2_0 a2_1 a2_2 a2_3 a2_4 a2_5 a2_6 a2_7 a2_8 a2_9 a2_10 a2_11=some r) :
  CallS Tryz.prog (NE.plain 202) m 35 #[(Value.pointer a0),(Value.int .i64 a1),(Value.agg #[(Value.int .i64 a2_0),(Value.string a2_1),(Value.bool a2_2),(Sl3.v a2_3),(Value.int .i64 a2_4),(Sl3.v a2_5),(Value.int .i64 a2_6),(Value.int .i64 a2_7),(Value.string a2_8),(Sl3.v a2_9),(Sl3.v a2_10),(Sl3.v a2_11)])] H (z46 r) (z4k H r):=by
 refine CallS.mk (args:=[(Value.pointer a0),(Value.int .i64 a1),(Value.agg #[(Value.int .i64 a2_0),(Value.string a2_1),(Value.bool a2_2),(Sl3.v a2_3),(Value.int .i64 a2_4),(Sl3.v a2_5),(Value.int .i64 a2_6),(Value.int .i64 a2_7),(Value.string a2_8),(Sl3.v a2_9),(Sl3.v a2_10),(Sl3.v a2_11)])]) Tryz.func35 (B:=B35) (by kernel_rfl) (fun E _=>?_)
 unfold z2u at h
 refine WS.sq (WS.rg (RS.mL 2 [kI 6 0,kL 5 0 0] ([some (70,[(Value.int .i64 a2_0),(Value.string a2_1),(Value.bool a2_2),(Sl3.v a2_3),(Value.int .i64 a2_4),(Sl3.v a2_5),(Value.int .i64 a2_6),(Value.int .i64 a2_7),(Value.string a2_8),(Sl3.v a2_9),(Sl3.v a2_10),(Sl3.v a2_11)])]) (RS.dn (WS.nxt (WS.sq (WS.sq (WS.rg (RS.mS 2 [kI 12 a2_0,kL 11 0 0] (RS.dn ?_)))))))))
 refine WS.nxt (WS.bk 0 (WS.sq (WS.rg (RS.mS 2 [kB 13 (decide (a2_0=7)),kB 14 (decide (a2_0=7))] (RS.dn (WS.nxt ?_))))))
 rcases z0 h with ⟨hp,h⟩ | ⟨hp,h⟩
 ·refine WS.fx 13 true (decide_eq_true hp) (WS.cT ?_)
  cases h
 ·refine WS.fx 13 false (decide_eq_false hp) (WS.cF (WS.sq (WS.rg (RS.mS 2 [kB 28 (decide (a2_0=6)),kB 29 (decide (a2_0=6))] (RS.dn (WS.nxt ?_))))))
  rcases z0 h with ⟨hp,h⟩ | ⟨hp,h⟩
  ·refine WS.fx 28 true (decide_eq_true hp) (WS.cT ?_)
   cases h
  ·refine WS.fx 28 false (decide_eq_false hp) (WS.cF (WS.sq (WS.rg (RS.mS 1 [kI 6 (-1)] (RS.dn (WS.nxt (WS.rt ?_)))))))
   cases h
   exact fun a w hs=>bkR (sqR (rtR (rS hs)))
noncomputable def B36:Code:=(Tryz.f36.body).getD .skip
def z5s:(Int×AH)→Value
 | (r0,_)=>(Value.int .i64 r0)
def z6e (_:AH):(Int×AH)→AH:=fun r=>r.2
noncomputable def z4g (_L:LC) (_m:Nat) (H:AH) (_a0:Option Addr) (_a1 a2_0:Int) (_a2_1:ByteArray) (_a2_2:Bool) (_a2_3:Sl3) (_a2_4:Int) (_a2_5:Sl3) (_a2_6 _a2_7:Int) (_a2_8:ByteArray) (_a2_9 _a2_10 _a2_11:Sl3):Option (Int×AH) :=
 if a2_0=10 then
  none
 else
  some ((-1),H)
theorem zd0 {L:LC} {m:Nat} {H:AH} {a0:Option Addr} {a1 a2_0:Int} {a2_1:ByteArray} {a2_2:Bool} {a2_3:Sl3} {a2_4:Int} {a2_5:Sl3} {a2_6 a2_7:Int} {a2_8:ByteArray} {a2_9 a2_10 a2_11:Sl3} {r:(Int×AH)} (h:z4g L m H a0 a1 a2_0 a2_1 a2_2 a2_3 a2_4 a2_5 a2_6 a2_7 a2_8 a2_9 a2_10 a2_11=some r) :
  CallS Tryz.prog (NE.plain 202) m 36 #[(Value.pointer a0),(Value.int .i64 a1),(Value.agg #[(Value.int .i64 a2_0),(Value.string a2_1),(Value.bool a2_2),(Sl3.v a2_3),(Value.int .i64 a2_4),(Sl3.v a2_5),(Value.int .i64 a2_6),(Value.int .i64 a2_7),(Value.string a2_8),(Sl3.v a2_9),(Sl3.v a2_10),(Sl3.v a2_11)])] H (z5s r) (z6e H r):=by
 refine CallS.mk (args:=[(Value.pointer a0),(Value.int .i64 a1),(Value.agg #[(Value.int .i64 a2_0),(Value.string a2_1),(Value.bool a2_2),(Sl3.v a2_3),(Value.int .i64 a2_4),(Sl3.v a2_5),(Value.int .i64 a2_6),(Value.int .i64 a2_7),(Value.string a2_8),(Sl3.v a2_9),(Sl3.v a2_10),(Sl3.v a2_11)])]) Tryz.func36 (B:=B36) (by kernel_rfl) (fun E _=>?_)
 unfold z4g at h
 refine WS.sq (WS.rg (RS.mL 2 [kI 6 0,kL 5 0 0] ([some (70,[(Value.int .i64 a2_0),(Value.string a2_1),(Value.bool a2_2),(Sl3.v a2_3),(Value.int .i64 a2_4),(Sl3.v a2_5),(Value.int .i64 a2_6),(Value.int .i64 a2_7),(Value.string a2_8),(Sl3.v a2_9),(Sl3.v a2_10),(Sl3.v a2_11)])]) (RS.dn (WS.nxt (WS.sq (WS.sq (WS.rg (RS.mS 3 [kB 15 (!decide (a2_0=10)),kI 14 a2_0,kL 13 0 0] (RS.dn ?_)))))))))
 refine WS.nxt ?_
 rcases z0 h with ⟨hp,h⟩ | ⟨hp,h⟩
 ·refine WS.fx 15 false (zh hp) (WS.cF ?_)
  cases h
 ·refine WS.fx 15 true (ze hp) (WS.cT (WS.sq (WS.rg (RS.mS 1 [kI 6 (-1)] (RS.dn (WS.nxt (WS.rt ?_)))))))
  cases h
  exact fun a w hs=>sqR (rtR (rS hs))
noncomputable def B37:Code:=(Tryz.f37.body).getD .skip
def z48:(Int×AH)→Value
 | (r0,_)=>(Value.int .i64 r0)
def z4j (_:AH):(Int×AH)→AH:=fun r=>r.2
noncomputable def z2v (_L:LC) (_m:Nat) (H:AH) (_a0:Option Addr) (_a1 a2_0:Int) (_a2_1:ByteArray) (_a2_2:Bool) (_a2_3:Sl3) (_a2_4:Int) (_a2_5:Sl3) (_a2_6 _a2_7:Int) (_a2_8:ByteArray) (_a2_9 _a2_10 _a2_11:Sl3):Option (Int×AH) :=
 if a2_0=8 then
  none
 else
  some ((-1),H)
theorem zb6 {L:LC} {m:Nat} {H:AH} {a0:Option Addr} {a1 a2_0:Int} {a2_1:ByteArray} {a2_2:Bool} {a2_3:Sl3} {a2_4:Int} {a2_5:Sl3} {a2_6 a2_7:Int} {a2_8:ByteArray} {a2_9 a2_10 a2_11:Sl3} {r:(Int×AH)} (h:z2v L m H a0 a1 a2_0 a2_1 a2_2 a2_3 a2_4 a2_5 a2_6 a2_7 a2_8 a2_9 a2_10 a2_11=some r) :
  CallS Tryz.prog (NE.plain 202) m 37 #[(Value.pointer a0),(Value.int .i64 a1),(Value.agg #[(Value.int .i64 a2_0),(Value.string a2_1),(Value.bool a2_2),(Sl3.v a2_3),(Value.int .i64 a2_4),(Sl3.v a2_5),(Value.int .i64 a2_6),(Value.int .i64 a2_7),(Value.string a2_8),(Sl3.v a2_9),(Sl3.v a2_10),(Sl3.v a2_11)])] H (z48 r) (z4j H r):=by
 refine CallS.mk (args:=[(Value.pointer a0),(Value.int .i64 a1),(Value.agg #[(Value.int .i64 a2_0),(Value.string a2_1),(Value.bool a2_2),(Sl3.v a2_3),(Value.int .i64 a2_4),(Sl3.v a2_5),(Value.int .i64 a2_6),(Value.int .i64 a2_7),(Value.string a2_8),(Sl3.v a2_9),(Sl3.v a2_10),(Sl3.v a2_11)])]) Tryz.func37 (B:=B37) (by kernel_rfl) (fun E _=>?_)
 unfold z2v at h
 refine WS.sq (WS.rg (RS.mL 2 [kI 6 0,kL 5 0 0] ([some (70,[(Value.int .i64 a2_0),(Value.string a2_1),(Value.bool a2_2),(Sl3.v a2_3),(Value.int .i64 a2_4),(Sl3.v a2_5),(Value.int .i64 a2_6),(Value.int .i64 a2_7),(Value.string a2_8),(Sl3.v a2_9),(Sl3.v a2_10),(Sl3.v a2_11)])]) (RS.dn (WS.nxt (WS.sq (WS.sq (WS.rg (RS.mS 3 [kB 15 (!decide (a2_0=8)),kI 14 a2_0,kL 13 0 0] (RS.dn ?_)))))))))
 refine WS.nxt ?_
 rcases z0 h with ⟨hp,h⟩ | ⟨hp,h⟩
 ·refine WS.fx 15 false (zh hp) (WS.cF ?_)
  cases h
 ·refine WS.fx 15 true (ze hp) (WS.cT (WS.sq (WS.rg (RS.mS 1 [kI 6 (-1)] (RS.dn (WS.nxt (WS.rt ?_)))))))
  cases h
  exact fun a w hs=>sqR (rtR (rS hs))
noncomputable def B38:Code:=(Tryz.f38.body).getD .skip
def z3v:(Int×AH)→Value
 | (r0,_)=>(Value.int .i64 r0)
def z45 (_:AH):(Int×AH)→AH:=fun r=>r.2
noncomputable def z2p (_L:LC) (_m:Nat) (H:AH) (_a0:Option Addr) (_a1 a2_0:Int) (_a2_1:ByteArray) (_a2_2:Bool) (_a2_3:Sl3) (_a2_4:Int) (_a2_5:Sl3) (_a2_6 _a2_7:Int) (_a2_8:ByteArray) (_a2_9 _a2_10 _a2_11:Sl3):Option (Int×AH) :=
 if a2_0=9 then
  none
 else
  some ((-1),H)
theorem zaf {L:LC} {m:Nat} {H:AH} {a0:Option Addr} {a1 a2_0:Int} {a2_1:ByteArray} {a2_2:Bool} {a2_3:Sl3} {a2_4:Int} {a2_5:Sl3} {a2_6 a2_7:Int} {a2_8:ByteArray} {a2_9 a2_10 a2_11:Sl3} {r:(Int×AH)} (h:z2p L m H a0 a1 a2_0 a2_1 a2_2 a2_3 a2_4 a2_5 a2_6 a2_7 a2_8 a2_9 a2_10 a2_11=some r) :
  CallS Tryz.prog (NE.plain 202) m 38 #[(Value.pointer a0),(Value.int .i64 a1),(Value.agg #[(Value.int .i64 a2_0),(Value.string a2_1),(Value.bool a2_2),(Sl3.v a2_3),(Value.int .i64 a2_4),(Sl3.v a2_5),(Value.int .i64 a2_6),(Value.int .i64 a2_7),(Value.string a2_8),(Sl3.v a2_9),(Sl3.v a2_10),(Sl3.v a2_11)])] H (z3v r) (z45 H r):=by
 refine CallS.mk (args:=[(Value.pointer a0),(Value.int .i64 a1),(Value.agg #[(Value.int .i64 a2_0),(Value.string a2_1),(Value.bool a2_2),(Sl3.v a2_3),(Value.int .i64 a2_4),(Sl3.v a2_5),(Value.int .i64 a2_6),(Value.int .i64 a2_7),(Value.string a2_8),(Sl3.v a2_9),(Sl3.v a2_10),(Sl3.v a2_11)])]) Tryz.func38 (B:=B38) (by kernel_rfl) (fun E _=>?_)
 unfold z2p at h
 refine WS.sq (WS.rg (RS.mL 2 [kI 6 0,kL 5 0 0] ([some (70,[(Value.int .i64 a2_0),(Value.string a2_1),(Value.bool a2_2),(Sl3.v a2_3),(Value.int .i64 a2_4),(Sl3.v a2_5),(Value.int .i64 a2_6),(Value.int .i64 a2_7),(Value.string a2_8),(Sl3.v a2_9),(Sl3.v a2_10),(Sl3.v a2_11)])]) (RS.dn (WS.nxt (WS.sq (WS.sq (WS.rg (RS.mS 3 [kB 15 (!decide (a2_0=9)),kI 14 a2_0,kL 13 0 0] (RS.dn ?_)))))))))
 refine WS.nxt ?_
 rcases z0 h with ⟨hp,h⟩ | ⟨hp,h⟩
 ·refine WS.fx 15 false (zh hp) (WS.cF ?_)
  cases h
 ·refine WS.fx 15 true (ze hp) (WS.cT (WS.sq (WS.rg (RS.mS 1 [kI 6 (-1)] (RS.dn (WS.nxt (WS.rt ?_)))))))
  cases h
  exact fun a w hs=>sqR (rtR (rS hs))
noncomputable def B125:Code:=(Tryz.f125.body).getD .skip
def zjz:(Sl3×Bool)→Value
 | (r0,r1)=>(Value.agg #[(Sl3.v r0),(Value.bool r1)])
def zk6 (H:AH):(Sl3×Bool)→AH:=fun _=>H
noncomputable def zc7 (_L:LC) (a0:Sl3) (a1:Bool):Option (Sl3×Bool) :=
 if a1=true then
  none
 else
  some (a0,false)
theorem zkr {L:LC} {m:Nat} {H:AH} {a0:Sl3} {a1:Bool} {r:(Sl3×Bool)} (h:zc7 L a0 a1=some r) :
  CallS Tryz.prog (NE.plain 202) m 125 #[(Sl3.v a0),(Value.bool a1)] H (zjz r) (zk6 H r):=by
 refine CallS.mk (args:=[(Sl3.v a0),(Value.bool a1)]) Tryz.func125 (B:=B125) (by kernel_rfl) (fun E _=>?_)
 unfold zc7 at h
 refine WS.sq (WS.rg (RS.mL 1 [kL 4 0 0] ([some (206,[(Sl3.v Sl3.nil),(Value.bool false)])]) (RS.dn (WS.nxt (WS.sq (WS.rg (RS.mS 3 [kB 7 a1,kB 6 a1,kS 5 a0] ?_)))))))
 rcases z0 h with ⟨hp,h⟩ | ⟨hp,h⟩
 ·refine RS.fx 7 true hp ?_
  cases h
 ·refine RS.fx 7 false (b_not hp) (RS.mL 6 [kA 12 #[(Sl3.v a0),(Value.bool false)],kB 11 false,kU 10,kU 9,kU 8] ([some (206,[(Sl3.v a0),(Value.bool false)])]) (RS.dn (WS.nxt (WS.rt ?_))))
  cases h
  exact fun a w hs=>rtR (rS hs)
end Go.Proofs.YtfbinmgldpnjhaaGreatDoor
namespace Go.Proofs.YtfbinmgldpnjhaaGreatDoor
open Go Go.Abs
set_option maxRecDepth 100000
noncomputable def B126:Code:=(Tryz.f126.body).getD .skip
def zbi:Sl3→Value
 | r0=>(Sl3.v r0)
def zc1 (H:AH):Sl3→AH:=fun _=>H
noncomputable def z7d (_L:LC) (H:AH) (a0:Sl3):Int→Option (Lp Int Sl3):=fun v3_1 =>
 if v3_1 > 0 then
  Option.bind (idxA 1 a0 (IntKind.i64.wrap (v3_1 - 1))) fun p2 =>
  Option.bind (rd (deI .u64) H p2) fun x3 =>
  if x3=0 then
   none
  else
   some (.brk v3_1)
 else
  none
def zgz (_L:LC) (_H:AH) (a0:Sl3):Int→KN×Lcs:=fun v3_1=>([kI 3 v3_1,kS 0 a0],[])
noncomputable def zb9 (L:LC) (H:AH) (a0:Sl3):Option Sl3 :=
 Option.bind (L.run (z7d L H a0) (a0.n:Int)) fun o=>match o with
 | .inl v3_4 =>
  Option.bind (slc 1 H a0 none (some v3_4) none) fun s5 =>
  some s5
 | .inr r=>some r
theorem z9d {E m L H a0} :LoopF Tryz.prog (NE.plain 202) m E Tryz.f126 ((cfst (cfst (csnd (csnd B126))))) (zgz L H a0) (fun _=>H) 0 zbi (zc1 H) (z7d L H a0):=by
 rintro v3_1 o h
 unfold z7d at h
 try dsimp only at h
 refine WS.sq (WS.sq (WS.rg (RS.mS 3 [kB 8 (decide (v3_1 > 0)),kB 7 (decide (v3_1 > 0)),kI 6 v3_1] ?_)))
 rcases z0 h with ⟨hp,h⟩ | ⟨hp,h⟩
 ·refine RS.fx 8 true (decide_eq_true hp) (RS.mS 3 [kI 11 (IntKind.i64.wrap (v3_1 - 1)),kI 10 v3_1,kS 9 a0] ?_)
  obtain ⟨p2,hx,h⟩:=bind_some h
  refine RS.ix 12 59 126 (.tmp 9) (.tmp 11) hx ?_
  obtain ⟨x3,hx,h⟩:=bind_some h
  refine RS.ld 13 126 (.tmp 12) (z1 hx z8) (RS.mS 2 [kB 15 (decide (x3=0)),kB 14 (decide (x3=0))] (RS.dn (WS.nxt ?_)))
  rcases z0 h with ⟨hp,h⟩ | ⟨hp,h⟩
  ·refine WS.fx 15 true (decide_eq_true hp) (WS.cT ?_)
   cases h
  ·refine WS.fx 15 false (decide_eq_false hp) (WS.cF (WS.ex 0 ?_))
   cases h
   exact fun a w hs=>sqE (lsB rfl (hs.sb 0))
 ·refine RS.fx 8 false (decide_eq_false hp) ?_
  cases h
theorem zk5 {L:LC} {m:Nat} {H:AH} {a0 r:Sl3} (h:zb9 L H a0=some r) :
  CallS Tryz.prog (NE.plain 202) m 126 #[(Sl3.v a0)] H (zbi r) (zc1 H r):=by
 refine CallS.mk (args:=[(Sl3.v a0)]) Tryz.func126 (B:=B126) (by kernel_rfl) (fun E _=>?_)
 unfold zb9 at h
 refine WS.sq (WS.rg (RS.mS 1 [kS 2 Sl3.nil] (RS.dn (WS.nxt (WS.sq (WS.rg (RS.mS 3 [kI 3 (a0.n:Int),kI 5 (a0.n:Int),kS 4 a0] (RS.dn (WS.nxt ?_)))))))))
 refine WS.sq (WS.bk 0 ?_)
 obtain ⟨o,hl,h⟩:=bind_some h
 rcases o with v3_4 | r
 ·try dsimp only at h
  refine WS.lI (z9d (L:=L) (E:=E) (m:=m) (H:=H)) (L.ok hl) 0 ?_
  clear hl
  refine fun a w hs=>bkE ((WS.nxt ?_ a w hs))
  refine WS.sq (WS.rg (RS.mS 2 [kI 19 v3_4,kS 18 a0] ?_))
  obtain ⟨s5,hx,h⟩:=bind_some h
  refine RS.o (H':=H) (some 20) (Sl3.v s5) (Abs.run_slice (t:=59) (e:=126) (x:=.tmp 18) (lo:=none) (hi:=(some (.tmp 19))) (mx:=none) (s:=a0) (k1:=.i64) (k2:=.i64) (k3:=.i64) (by kernel_rfl) (by kernel_rfl) (by kernel_rfl) (by kernel_rfl) (by kernel_rfl) (by kernel_rfl) (by kernel_rfl) hx) (RS.mS 1 [kS 2 s5] (RS.dn (WS.nxt (WS.rt ?_))))
  cases h
  exact fun a w hs=>rtR (rS hs)
 ·try dsimp only at h
  refine WS.lR (z9d (L:=L) (E:=E) (m:=m) (H:=H)) (L.ok hl) 0 ?_
  cases h
  exact fun a w hq=>bkR (sqR (rtR hq))
noncomputable def B127:Code:=(Tryz.f127.body).getD .skip
def zgj:(Bool×Sl3×AH)→Value
 | (r0,r1,_)=>(Value.agg #[(Value.bool r0),(Sl3.v r1)])
def zhf (_:AH):(Bool×Sl3×AH)→AH:=fun r=>r.2.2
noncomputable def z7m (L:LC) (m:Nat) (H:AH) (a0_0:Sl3) (a0_1:Bool):Option (Bool×Sl3×AH) :=
 Option.bind (z8g L (Nat.max m H.next) H a0_0) fun (x1,H2) =>
 some (a0_1,x1,H2)
theorem zhj {L:LC} {m:Nat} {H:AH} {a0_0:Sl3} {a0_1:Bool} {r:(Bool×Sl3×AH)} (h:z7m L m H a0_0 a0_1=some r) :
  CallS Tryz.prog (NE.plain 202) m 127 #[(Value.agg #[(Sl3.v a0_0),(Value.bool a0_1)])] H (zgj r) (zhf H r):=by
 refine CallS.mk (args:=[(Value.agg #[(Sl3.v a0_0),(Value.bool a0_1)])]) Tryz.func127 (B:=B127) (by kernel_rfl) (fun E _=>?_)
 unfold z7m at h
 refine WS.sq (WS.rg (RS.mL 2 [kL 2 1 0,kL 1 0 0] ([some (206,[(Sl3.v a0_0),(Value.bool a0_1)]),some (62,[(Value.bool false),(Sl3.v Sl3.nil)])]) (RS.dn (WS.nxt (WS.sq ?_)))))
 obtain ⟨⟨x1,H2⟩,hx_4,h⟩:=bind_some h
 try dsimp only at h
 refine WS.toone ([kL 2 1 0]) ([some (206,[(Sl3.v a0_0),(Value.bool a0_1)]),some (62,[(Value.bool a0_1),(Sl3.v x1)])]) H2 ?_ ?_
 ·clear h
  refine WS.dr [2,3] [0,1,0,4,12,31,63] 7 (fun hcl=>?_)
  refine DA.tL 2 (some 5) (.loc 0 0) (DA.tL 3 (some 6) (.val (Sl3.v a0_0)) (DA.restart [0,2,3] (by kernel_rfl) (DA.tL 0 (some 3) (.loc 0 1) ?_)))
  refine DA.two 1 4 (by kernel_rfl) ?_ ?_
  ·refine DA.aL 1 (some 4) (.val (Value.bool a0_1)) ([some (206,[(Sl3.v a0_0),(Value.bool a0_1)]),some (62,[(Value.bool false),(Sl3.v Sl3.nil)])]) true (DA.on 4 (DA.aCj 4 (some 7) false (v:=(Sl3.v x1)) 67 #[(Sl3.v a0_0)] (z8n hx_4) (DA.on 5 (DA.aH (H':=H2) 5 (some 8) (Value.agg #[(Value.bool a0_1),(Sl3.v x1)]) (by kernel_rfl) (DA.on 6 (DA.aL 6 none (.val undef) ([some (206,[(Sl3.v a0_0),(Value.bool a0_1)]),some (62,[(Value.bool a0_1),(Sl3.v x1)])]) false (DA.dn ?_)))))))
   exact fun a w hs=>jsN (hs.sb 2)
  ·refine DA.aCj 4 (some 7) true (v:=(Sl3.v x1)) 67 #[(Sl3.v a0_0)] (z8n hx_4) (DA.on 1 (DA.aL 1 (some 4) (.val (Value.bool a0_1)) ([some (206,[(Sl3.v a0_0),(Value.bool a0_1)]),some (62,[(Value.bool false),(Sl3.v Sl3.nil)])]) false (DA.on 5 (DA.aH (H':=H2) 5 (some 8) (Value.agg #[(Value.bool a0_1),(Sl3.v x1)]) (by kernel_rfl) (DA.on 6 (DA.aL 6 none (.val undef) ([some (206,[(Sl3.v a0_0),(Value.bool a0_1)]),some (62,[(Value.bool a0_1),(Sl3.v x1)])]) false (DA.dn ?_)))))))
   exact fun a w hs=>jsN (hs.sb 2)
 ·refine WS.nxt (WS.rt ?_)
  cases h
  exact fun a w hs=>rtR (rS hs)
noncomputable def B76:Code:=(Tryz.f76.body).getD .skip
def znt:(Bool×Sl3×AH)→Value
 | (r0,r1,_)=>(Value.agg #[(Value.bool r0),(Sl3.v r1)])
def zor (_:AH):(Bool×Sl3×AH)→AH:=fun r=>r.2.2
noncomputable def zjo (L:LC) (m:Nat) (H:AH) (a0:Int):Option (Bool×Sl3×AH) :=
 if a0<0 then
  none
 else
  Option.bind (newR 126 1 #[(Value.int .u64 (IntKind.u64.wrap a0))] H) fun (s1,H2) =>
  Option.bind (zb9 L H2 s1) fun x3 =>
  Option.bind (zc7 L x3 (decide (a0<0))) fun (x4_0,x4_1) =>
  Option.bind (z7m L m H2 x4_0 x4_1) fun (x5_0,x5_1,H6) =>
  some (x5_0,x5_1,H6)
theorem znw {L:LC} {m:Nat} {H:AH} {a0:Int} {r:(Bool×Sl3×AH)} (h:zjo L m H a0=some r) :
  CallS Tryz.prog (NE.plain 202) m 76 #[(Value.int .i64 a0)] H (znt r) (zor H r):=by
 refine CallS.mk (args:=[(Value.int .i64 a0)]) Tryz.func76 (B:=B76) (by kernel_rfl) (fun E _=>?_)
 unfold zjo at h
 refine WS.sq (WS.rg (RS.mL 1 [kL 2 0 0] ([some (62,[(Value.bool false),(Sl3.v Sl3.nil)])]) (RS.dn (WS.nxt (WS.sq (WS.rg (RS.mS 3 [(3,.val (Value.int .u64 (IntKind.u64.wrap a0))),(5,.val (Value.int .u64 (IntKind.u64.wrap a0))),kI 4 a0] (RS.dn (WS.nxt ?_)))))))))
 refine WS.sq (WS.sq (WS.rg (RS.mS 2 [kB 7 (decide (a0<0)),kI 6 a0] (RS.dn (WS.nxt ?_)))))
 rcases z0 h with ⟨hp,h⟩ | ⟨hp,h⟩
 ·refine WS.fx 7 true (decide_eq_true hp) (WS.cT ?_)
  cases h
 ·refine WS.fx 7 false (decide_eq_false hp) (WS.cF (WS.sk (WS.nxt (WS.sq (WS.rg (RS.mS 1 [(10,.val (Value.int .u64 (IntKind.u64.wrap a0)))] ?_))))))
  obtain ⟨⟨s1,H2⟩,hx,h⟩:=bind_some h
  try dsimp only at h
  refine RS.o (H':=H2) (some 11) (Sl3.v s1) (Abs.run_newR (by kernel_rfl) (by kernel_rfl) hx) ?_
  obtain ⟨x3,hx,h⟩:=bind_some h
  refine RS.cl (some 12) (v:=(Sl3.v x3)) 126 #[(Sl3.v s1)] (zk5 hx) (RS.mS 2 [kB 14 (decide (a0<0)),kI 13 a0] ?_)
  obtain ⟨⟨x4_0,x4_1⟩,hx,h⟩:=bind_some h
  try dsimp only at h
  refine RS.cl (some 15) (v:=(Value.agg #[(Sl3.v x4_0),(Value.bool x4_1)])) 125 #[(Sl3.v x3),(Value.bool (decide (a0<0)))] (zkr hx) ?_
  obtain ⟨⟨x5_0,x5_1,H6⟩,hx,h⟩:=bind_some h
  try dsimp only at h
  refine RS.cl (some 16) (v:=(Value.agg #[(Value.bool x5_0),(Sl3.v x5_1)])) 127 #[(Value.agg #[(Sl3.v x4_0),(Value.bool x4_1)])] (zhj hx) (RS.mL 1 [] ([some (62,[(Value.bool x5_0),(Sl3.v x5_1)])]) (RS.dn (WS.nxt (WS.rt ?_))))
  cases h
  exact fun a w hs=>rtR (rS hs)
noncomputable def B39:Code:=(Tryz.f39.body).getD .skip
def z7q:(Int×AH)→Value
 | (r0,_)=>(Value.int .i64 r0)
def z8a (_:AH):(Int×AH)→AH:=fun r=>r.2
noncomputable def z6m (L:LC) (m:Nat) (H:AH) (_a0:Option Addr) (_a1 a2_0:Int) (_a2_1:ByteArray) (_a2_2:Bool) (_a2_3:Sl3) (_a2_4:Int) (_a2_5:Sl3) (_a2_6 _a2_7:Int) (_a2_8:ByteArray) (_a2_9 _a2_10 _a2_11:Sl3):Option (Int×AH) :=
 Option.bind (newB 133 [(Sl3.v Sl3.nil),(Value.bool false),(Sl3.v Sl3.nil),(Value.bool false)] H) fun (_,H2) =>
 Option.bind (zjo L m H2 1) fun (_,_,H4) =>
 if a2_0=21 then
  none
 else
  if a2_0=22 then
   none
  else
   if a2_0=23 then
    none
   else
    if a2_0=24 then
     none
    else
     some ((-1),H4)
theorem zfs {L:LC} {m:Nat} {H:AH} {a0:Option Addr} {a1 a2_0:Int} {a2_1:ByteArray} {a2_2:Bool} {a2_3:Sl3} {a2_4:Int} {a2_5:Sl3} {a2_6 a2_7:Int} {a2_8:ByteArray} {a2_9 a2_10 a2_11:Sl3} {r:(Int×AH)} (h:z6m L m H a0 a1 a2_0 a2_1 a2_2 a2_3 a2_4 a2_5 a2_6 a2_7 a2_8 a2_9 a2_10 a2_11=some r) :
  CallS Tryz.prog (NE.plain 202) m 39 #[(Value.pointer a0),(Value.int .i64 a1),(Value.agg #[(Value.int .i64 a2_0),(Value.string a2_1),(Value.bool a2_2),(Sl3.v a2_3),(Value.int .i64 a2_4),(Sl3.v a2_5),(Value.int .i64 a2_6),(Value.int .i64 a2_7),(Value.string a2_8),(Sl3.v a2_9),(Sl3.v a2_10),(Sl3.v a2_11)])] H (z7q r) (z8a H r):=by
 refine CallS.mk (args:=[(Value.pointer a0),(Value.int .i64 a1),(Value.agg #[(Value.int .i64 a2_0),(Value.string a2_1),(Value.bool a2_2),(Sl3.v a2_3),(Value.int .i64 a2_4),(Sl3.v a2_5),(Value.int .i64 a2_6),(Value.int .i64 a2_7),(Value.string a2_8),(Sl3.v a2_9),(Sl3.v a2_10),(Sl3.v a2_11)])]) Tryz.func39 (B:=B39) (by kernel_rfl) (fun E _=>?_)
 unfold z6m at h
 refine WS.sq (WS.rg (RS.mL 2 [kI 6 0,kL 5 0 0] ([some (70,[(Value.int .i64 a2_0),(Value.string a2_1),(Value.bool a2_2),(Sl3.v a2_3),(Value.int .i64 a2_4),(Sl3.v a2_5),(Value.int .i64 a2_6),(Value.int .i64 a2_7),(Value.string a2_8),(Sl3.v a2_9),(Sl3.v a2_10),(Sl3.v a2_11)])]) (RS.dn (WS.nxt (WS.sq (WS.rg (RS.mS 1 [kA 16 #[(Sl3.v Sl3.nil),(Value.bool false),(Sl3.v Sl3.nil),(Value.bool false)]] ?_)))))))
 obtain ⟨⟨p1,H2⟩,hx,h⟩:=bind_some h
 try dsimp only at h
 refine RS.o (H':=H2) (some 17) (Value.pointer (some p1)) (Abs.run_newB (by kernel_rfl) hx) (RS.mS 1 [kP 7 p1] (RS.dn (WS.nxt (WS.sq (WS.rg ?_)))))
 obtain ⟨⟨x3_0,x3_1,H4⟩,hx,h⟩:=bind_some h
 try dsimp only at h
 refine RS.cl (some 18) (v:=(Value.agg #[(Value.bool x3_0),(Sl3.v x3_1)])) 76 #[(Value.int .i64 1)] (znw hx) (RS.mL 2 [kL 8 1 0] ([some (70,[(Value.int .i64 a2_0),(Value.string a2_1),(Value.bool a2_2),(Sl3.v a2_3),(Value.int .i64 a2_4),(Sl3.v a2_5),(Value.int .i64 a2_6),(Value.int .i64 a2_7),(Value.string a2_8),(Sl3.v a2_9),(Sl3.v a2_10),(Sl3.v a2_11)]),some (62,[(Value.bool x3_0),(Sl3.v x3_1)])]) (RS.dn (WS.nxt (WS.sq (WS.sq (WS.rg (RS.mS 2 [kI 20 a2_0,kL 19 0 0] (RS.dn (WS.nxt ?_)))))))))
 refine WS.bk 0 (WS.sq (WS.rg (RS.mS 2 [kB 21 (decide (a2_0=21)),kB 22 (decide (a2_0=21))] (RS.dn (WS.nxt ?_)))))
 rcases z0 h with ⟨hp,h⟩ | ⟨hp,h⟩
 ·refine WS.fx 21 true (decide_eq_true hp) (WS.cT ?_)
  cases h
 ·refine WS.fx 21 false (decide_eq_false hp) (WS.cF (WS.sq (WS.rg (RS.mS 2 [kB 32 (decide (a2_0=22)),kB 33 (decide (a2_0=22))] (RS.dn (WS.nxt ?_))))))
  rcases z0 h with ⟨hp,h⟩ | ⟨hp,h⟩
  ·refine WS.fx 32 true (decide_eq_true hp) (WS.cT ?_)
   cases h
  ·refine WS.fx 32 false (decide_eq_false hp) (WS.cF (WS.sq (WS.rg (RS.mS 2 [kB 48 (decide (a2_0=23)),kB 49 (decide (a2_0=23))] (RS.dn (WS.nxt ?_))))))
   rcases z0 h with ⟨hp,h⟩ | ⟨hp,h⟩
   ·refine WS.fx 48 true (decide_eq_true hp) (WS.cT ?_)
    cases h
   ·refine WS.fx 48 false (decide_eq_false hp) (WS.cF (WS.sq (WS.rg (RS.mS 2 [kB 68 (decide (a2_0=24)),kB 69 (decide (a2_0=24))] (RS.dn (WS.nxt ?_))))))
    rcases z0 h with ⟨hp,h⟩ | ⟨hp,h⟩
    ·refine WS.fx 68 true (decide_eq_true hp) (WS.cT ?_)
     cases h
    ·refine WS.fx 68 false (decide_eq_false hp) (WS.cF (WS.sq (WS.rg (RS.mS 1 [kI 6 (-1)] (RS.dn (WS.nxt (WS.rt ?_)))))))
     cases h
     exact fun a w hs=>bkR (sqR (rtR (rS hs)))
noncomputable def B40:Code:=(Tryz.f40.body).getD .skip
def z69:(Int×AH)→Value
 | (r0,_)=>(Value.int .i64 r0)
def z6x (_:AH):(Int×AH)→AH:=fun r=>r.2
noncomputable def z4x (_L:LC) (_m:Nat) (H:AH) (_a0:Option Addr) (_a1 a2_0:Int) (_a2_1:ByteArray) (_a2_2:Bool) (_a2_3:Sl3) (_a2_4:Int) (_a2_5:Sl3) (_a2_6 _a2_7:Int) (_a2_8:ByteArray) (_a2_9 _a2_10 _a2_11:Sl3):Option (Int×AH) :=
 if a2_0=28 then
  none
 else
  if a2_0=29 then
   none
  else
   if a2_0=30 then
    none
   else
    if a2_0=31 then
     none
    else
     if a2_0=25 then
      none
     else
      if a2_0=26 then
       none
      else
       if a2_0=27 then
        none
       else
        some ((-1),H)
theorem ze8 {L:LC} {m:Nat} {H:AH} {a0:Option Addr} {a1 a2_0:Int} {a2_1:ByteArray} {a2_2:Bool} {a2_3:Sl3} {a2_4:Int} {a2_5:Sl3} {a2_6 a2_7:Int} {a2_8:ByteArray} {a2_9 a2_10 a2_11:Sl3} {r:(Int×AH)} (h:z4x L m H a0 a1 a2_0 a2_1 a2_2 a2_3 a2_4 a2_5 a2_6 a2_7 a2_8 a2_9 a2_10 a2_11=some r) :
  CallS Tryz.prog (NE.plain 202) m 40 #[(Value.pointer a0),(Value.int .i64 a1),(Value.agg #[(Value.int .i64 a2_0),(Value.string a2_1),(Value.bool a2_2),(Sl3.v a2_3),(Value.int .i64 a2_4),(Sl3.v a2_5),(Value.int .i64 a2_6),(Value.int .i64 a2_7),(Value.string a2_8),(Sl3.v a2_9),(Sl3.v a2_10),(Sl3.v a2_11)])] H (z69 r) (z6x H r):=by
 refine CallS.mk (args:=[(Value.pointer a0),(Value.int .i64 a1),(Value.agg #[(Value.int .i64 a2_0),(Value.string a2_1),(Value.bool a2_2),(Sl3.v a2_3),(Value.int .i64 a2_4),(Sl3.v a2_5),(Value.int .i64 a2_6),(Value.int .i64 a2_7),(Value.string a2_8),(Sl3.v a2_9),(Sl3.v a2_10),(Sl3.v a2_11)])]) Tryz.func40 (B:=B40) (by kernel_rfl) (fun E _=>?_)
 unfold z4x at h
 refine WS.sq (WS.rg (RS.mL 2 [kI 6 0,kL 5 0 0] ([some (70,[(Value.int .i64 a2_0),(Value.string a2_1),(Value.bool a2_2),(Sl3.v a2_3),(Value.int .i64 a2_4),(Sl3.v a2_5),(Value.int .i64 a2_6),(Value.int .i64 a2_7),(Value.string a2_8),(Sl3.v a2_9),(Sl3.v a2_10),(Sl3.v a2_11)])]) (RS.dn (WS.nxt (WS.sq (WS.sq (WS.rg (RS.mS 2 [kI 10 a2_0,kL 9 0 0] (RS.dn ?_)))))))))
 refine WS.nxt (WS.bk 0 (WS.sq (WS.bk 6 (WS.sq (WS.bk 5 (WS.sq (WS.bk 4 (WS.bk 3 (WS.bk 2 ?_)))))))))
 refine WS.sq (WS.bk 1 (WS.sq (WS.sq (WS.sq (WS.rg (RS.mS 2 [kB 11 (decide (a2_0=28)),kB 12 (decide (a2_0=28))] (RS.dn (WS.nxt ?_))))))))
 rcases z0 h with ⟨hp,h⟩ | ⟨hp,h⟩
 ·refine WS.fx 11 true (decide_eq_true hp) (WS.cT ?_)
  cases h
 ·refine WS.fx 11 false (decide_eq_false hp) (WS.cF (WS.sk (WS.nxt (WS.sq (WS.sq (WS.rg (RS.mS 2 [kB 13 (decide (a2_0=29)),kB 14 (decide (a2_0=29))] (RS.dn (WS.nxt ?_)))))))))
  rcases z0 h with ⟨hp,h⟩ | ⟨hp,h⟩
  ·refine WS.fx 13 true (decide_eq_true hp) (WS.cT ?_)
   cases h
  ·refine WS.fx 13 false (decide_eq_false hp) (WS.cF (WS.sk (WS.nxt (WS.sq (WS.sq (WS.rg (RS.mS 2 [kB 15 (decide (a2_0=30)),kB 16 (decide (a2_0=30))] (RS.dn (WS.nxt ?_)))))))))
   rcases z0 h with ⟨hp,h⟩ | ⟨hp,h⟩
   ·refine WS.fx 15 true (decide_eq_true hp) (WS.cT ?_)
    cases h
   ·refine WS.fx 15 false (decide_eq_false hp) (WS.cF (WS.sk (WS.nxt (WS.sq (WS.sq (WS.rg (RS.mS 2 [kB 17 (decide (a2_0=31)),kB 18 (decide (a2_0=31))] (RS.dn (WS.nxt ?_)))))))))
    rcases z0 h with ⟨hp,h⟩ | ⟨hp,h⟩
    ·refine WS.fx 17 true (decide_eq_true hp) (WS.cT ?_)
     cases h
    ·refine WS.fx 17 false (decide_eq_false hp) (WS.cF (WS.sk (WS.nxt (WS.sq (WS.sq (WS.sq (WS.rg (RS.mS 2 [kB 19 (decide (a2_0=25)),kB 20 (decide (a2_0=25))] (RS.dn ?_)))))))))
     refine WS.nxt ?_
     rcases z0 h with ⟨hp,h⟩ | ⟨hp,h⟩
     ·refine WS.fx 19 true (decide_eq_true hp) (WS.cT ?_)
      cases h
     ·refine WS.fx 19 false (decide_eq_false hp) (WS.cF (WS.rg (RS.mS 2 [kB 19 (decide (a2_0=26)),kB 21 (decide (a2_0=26))] (RS.dn (WS.nxt ?_)))))
      rcases z0 h with ⟨hp,h⟩ | ⟨hp,h⟩
      ·refine WS.fx 19 true (decide_eq_true hp) (WS.cT ?_)
       cases h
      ·refine WS.fx 19 false (decide_eq_false hp) (WS.cF (WS.sk (WS.nxt (WS.sq (WS.rg (RS.mS 2 [kB 22 (decide (a2_0=27)),kB 23 (decide (a2_0=27))] (RS.dn (WS.nxt ?_))))))))
       rcases z0 h with ⟨hp,h⟩ | ⟨hp,h⟩
       ·refine WS.fx 22 true (decide_eq_true hp) (WS.cT ?_)
        cases h
       ·refine WS.fx 22 false (decide_eq_false hp) (WS.cF (WS.sk (WS.nxt (WS.ex 0 ?_))))
        refine fun a w hs=>bkX (by kernel_rfl) (sqE (bkX (by kernel_rfl) (bkX (by kernel_rfl) (bkX (by kernel_rfl) (sqE (bkX (by kernel_rfl) (sqE (bkX (by kernel_rfl) (sqE (bkE ((WS.nxt ?_ a w hs))))))))))))
        refine WS.sq (WS.rg (RS.mS 1 [kI 6 (-1)] (RS.dn (WS.nxt (WS.rt ?_)))))
        cases h
        exact fun a w hs=>rtR (rS hs)
noncomputable def B41:Code:=(Tryz.f41.body).getD .skip
def z6b:(Int×AH)→Value
 | (r0,_)=>(Value.int .i64 r0)
def z77 (_:AH):(Int×AH)→AH:=fun r=>r.2
noncomputable def z4y (_L:LC) (_m:Nat) (H:AH) (_a0:Option Addr) (_a1 a2_0:Int) (_a2_1:ByteArray) (_a2_2:Bool) (_a2_3:Sl3) (_a2_4:Int) (_a2_5:Sl3) (_a2_6 _a2_7:Int) (_a2_8:ByteArray) (_a2_9 _a2_10 _a2_11:Sl3):Option (Int×AH) :=
 if a2_0=32 then
  none
 else
  if a2_0=33 then
   none
  else
   some ((-1),H)
theorem zdz {L:LC} {m:Nat} {H:AH} {a0:Option Addr} {a1 a2_0:Int} {a2_1:ByteArray} {a2_2:Bool} {a2_3:Sl3} {a2_4:Int} {a2_5:Sl3} {a2_6 a2_7:Int} {a2_8:ByteArray} {a2_9 a2_10 a2_11:Sl3} {r:(Int×AH)} (h:z4y L m H a0 a1 a2_0 a2_1 a2_2 a2_3 a2_4 a2_5 a2_6 a2_7 a2_8 a2_9 a2_10 a2_11=some r) :
  CallS Tryz.prog (NE.plain 202) m 41 #[(Value.pointer a0),(Value.int .i64 a1),(Value.agg #[(Value.int .i64 a2_0),(Value.string a2_1),(Value.bool a2_2),(Sl3.v a2_3),(Value.int .i64 a2_4),(Sl3.v a2_5),(Value.int .i64 a2_6),(Value.int .i64 a2_7),(Value.string a2_8),(Sl3.v a2_9),(Sl3.v a2_10),(Sl3.v a2_11)])] H (z6b r) (z77 H r):=by
 refine CallS.mk (args:=[(Value.pointer a0),(Value.int .i64 a1),(Value.agg #[(Value.int .i64 a2_0),(Value.string a2_1),(Value.bool a2_2),(Sl3.v a2_3),(Value.int .i64 a2_4),(Sl3.v a2_5),(Value.int .i64 a2_6),(Value.int .i64 a2_7),(Value.string a2_8),(Sl3.v a2_9),(Sl3.v a2_10),(Sl3.v a2_11)])]) Tryz.func41 (B:=B41) (by kernel_rfl) (fun E _=>?_)
 unfold z4y at h
 refine WS.sq (WS.rg (RS.mL 2 [kI 6 0,kL 5 0 0] ([some (70,[(Value.int .i64 a2_0),(Value.string a2_1),(Value.bool a2_2),(Sl3.v a2_3),(Value.int .i64 a2_4),(Sl3.v a2_5),(Value.int .i64 a2_6),(Value.int .i64 a2_7),(Value.string a2_8),(Sl3.v a2_9),(Sl3.v a2_10),(Sl3.v a2_11)])]) (RS.dn (WS.nxt (WS.sq (WS.sq (WS.rg (RS.mS 4 [kB 13 (!decide (a2_0=32)),kB 12 (!decide (a2_0=32)),kI 11 a2_0,kL 10 0 0] ?_))))))))
 rcases z0 h with ⟨hp,h⟩ | ⟨hp,h⟩
 ·refine RS.fx 13 false (zh hp) ?_
  cases h
 ·refine RS.fx 13 true (ze hp) (RS.mS 4 [kB 17 (!decide (a2_0=33)),kB 16 (!decide (a2_0=33)),kI 15 a2_0,kL 14 0 0] (RS.dn (WS.nxt ?_)))
  rcases z0 h with ⟨hp,h⟩ | ⟨hp,h⟩
  ·refine WS.fx 17 false (zh hp) (WS.cF ?_)
   cases h
  ·refine WS.fx 17 true (ze hp) (WS.cT (WS.sq (WS.rg (RS.mS 1 [kI 6 (-1)] (RS.dn (WS.nxt (WS.rt ?_)))))))
   cases h
   exact fun a w hs=>sqR (rtR (rS hs))
noncomputable def B42:Code:=(Tryz.f42.body).getD .skip
def z75:(Int×AH)→Value
 | (r0,_)=>(Value.int .i64 r0)
def z7x (_:AH):(Int×AH)→AH:=fun r=>r.2
noncomputable def z5j (_L:LC) (_m:Nat) (H:AH) (_a0:Option Addr) (_a1 a2_0:Int) (a2_1:ByteArray) (a2_2:Bool) (a2_3:Sl3) (a2_4:Int) (a2_5:Sl3) (a2_6 a2_7:Int) (a2_8:ByteArray) (a2_9 a2_10 a2_11:Sl3):Option (Int×AH) :=
 Option.bind (newB 70 [(Value.int .i64 a2_0),(Value.string a2_1),(Value.bool a2_2),(Sl3.v a2_3),(Value.int .i64 a2_4),(Sl3.v a2_5),(Value.int .i64 a2_6),(Value.int .i64 a2_7),(Value.string a2_8),(Sl3.v a2_9),(Sl3.v a2_10),(Sl3.v a2_11)] H) fun (p1,H2) =>
 Option.bind (rd (deI .i64) H2 (Addr.add p1 0)) fun x3 =>
 if x3=13 then
  none
 else
  Option.bind (rd (deI .i64) H2 (Addr.add p1 0)) fun x4 =>
  if x4=14 then
   none
  else
   some ((-1),H2)
theorem zf0 {L:LC} {m:Nat} {H:AH} {a0:Option Addr} {a1 a2_0:Int} {a2_1:ByteArray} {a2_2:Bool} {a2_3:Sl3} {a2_4:Int} {a2_5:Sl3} {a2_6 a2_7:Int} {a2_8:ByteArray} {a2_9 a2_10 a2_11:Sl3} {r:(Int×AH)} (h:z5j L m H a0 a1 a2_0 a2_1 a2_2 a2_3 a2_4 a2_5 a2_6 a2_7 a2_8 a2_9 a2_10 a2_11=some r) :
  CallS Tryz.prog (NE.plain 202) m 42 #[(Value.pointer a0),(Value.int .i64 a1),(Value.agg #[(Value.int .i64 a2_0),(Value.string a2_1),(Value.bool a2_2),(Sl3.v a2_3),(Value.int .i64 a2_4),(Sl3.v a2_5),(Value.int .i64 a2_6),(Value.int .i64 a2_7),(Value.string a2_8),(Sl3.v a2_9),(Sl3.v a2_10),(Sl3.v a2_11)])] H (z75 r) (z7x H r):=by
 refine CallS.mk (args:=[(Value.pointer a0),(Value.int .i64 a1),(Value.agg #[(Value.int .i64 a2_0),(Value.string a2_1),(Value.bool a2_2),(Sl3.v a2_3),(Value.int .i64 a2_4),(Sl3.v a2_5),(Value.int .i64 a2_6),(Value.int .i64 a2_7),(Value.string a2_8),(Sl3.v a2_9),(Sl3.v a2_10),(Sl3.v a2_11)])]) Tryz.func42 (B:=B42) (by kernel_rfl) (fun E _=>?_)
 unfold z5j at h
 refine WS.sq (WS.rg ?_)
 obtain ⟨⟨p1,H2⟩,hx,h⟩:=bind_some h
 try dsimp only at h
 refine RS.o (H':=H2) (some 5) (Value.pointer (some p1)) (Abs.run_newB (by kernel_rfl) hx) (RS.mS 1 [kI 6 0] (RS.dn (WS.nxt (WS.sq (WS.sq (WS.rg (RS.mS 1 [(15,.val (Value.pointer (some (Addr.add p1 0))))] ?_)))))))
 obtain ⟨x3,hx,h⟩:=bind_some h
 refine RS.ld 16 58 (.tmp 15) (z1 hx z8) (RS.mS 2 [kB 18 (!decide (x3=13)),kB 17 (!decide (x3=13))] ?_)
 rcases z0 h with ⟨hp,h⟩ | ⟨hp,h⟩
 ·refine RS.fx 18 false (zh hp) ?_
  cases h
 ·refine RS.fx 18 true (ze hp) (RS.mS 1 [(19,.val (Value.pointer (some (Addr.add p1 0))))] ?_)
  obtain ⟨x4,hx,h⟩:=bind_some h
  refine RS.ld 20 58 (.tmp 19) (z1 hx z8) (RS.mS 2 [kB 22 (!decide (x4=14)),kB 21 (!decide (x4=14))] (RS.dn (WS.nxt ?_)))
  rcases z0 h with ⟨hp,h⟩ | ⟨hp,h⟩
  ·refine WS.fx 22 false (zh hp) (WS.cF ?_)
   cases h
  ·refine WS.fx 22 true (ze hp) (WS.cT (WS.sq (WS.rg (RS.mS 1 [kI 6 (-1)] (RS.dn (WS.nxt (WS.rt ?_)))))))
   cases h
   exact fun a w hs=>sqR (rtR (rS hs))
noncomputable def B43:Code:=(Tryz.f43.body).getD .skip
def z5h:(Int×AH)→Value
 | (r0,_)=>(Value.int .i64 r0)
def z6d (_:AH):(Int×AH)→AH:=fun r=>r.2
noncomputable def z4a (_L:LC) (_m:Nat) (H:AH) (_a0:Option Addr) (_a1 a2_0:Int) (_a2_1:ByteArray) (_a2_2:Bool) (_a2_3:Sl3) (_a2_4:Int) (_a2_5:Sl3) (_a2_6 _a2_7:Int) (_a2_8:ByteArray) (_a2_9 _a2_10 _a2_11:Sl3):Option (Int×AH) :=
 if a2_0<41 then
  some ((-1),H)
 else
  none
theorem zcz {L:LC} {m:Nat} {H:AH} {a0:Option Addr} {a1 a2_0:Int} {a2_1:ByteArray} {a2_2:Bool} {a2_3:Sl3} {a2_4:Int} {a2_5:Sl3} {a2_6 a2_7:Int} {a2_8:ByteArray} {a2_9 a2_10 a2_11:Sl3} {r:(Int×AH)} (h:z4a L m H a0 a1 a2_0 a2_1 a2_2 a2_3 a2_4 a2_5 a2_6 a2_7 a2_8 a2_9 a2_10 a2_11=some r) :
  CallS Tryz.prog (NE.plain 202) m 43 #[(Value.pointer a0),(Value.int .i64 a1),(Value.agg #[(Value.int .i64 a2_0),(Value.string a2_1),(Value.bool a2_2),(Sl3.v a2_3),(Value.int .i64 a2_4),(Sl3.v a2_5),(Value.int .i64 a2_6),(Value.int .i64 a2_7),(Value.string a2_8),(Sl3.v a2_9),(Sl3.v a2_10),(Sl3.v a2_11)])] H (z5h r) (z6d H r):=by
 refine CallS.mk (args:=[(Value.pointer a0),(Value.int .i64 a1),(Value.agg #[(Value.int .i64 a2_0),(Value.string a2_1),(Value.bool a2_2),(Sl3.v a2_3),(Value.int .i64 a2_4),(Sl3.v a2_5),(Value.int .i64 a2_6),(Value.int .i64 a2_7),(Value.string a2_8),(Sl3.v a2_9),(Sl3.v a2_10),(Sl3.v a2_11)])]) Tryz.func43 (B:=B43) (by kernel_rfl) (fun E _=>?_)
 unfold z4a at h
 refine WS.sq (WS.rg (RS.mL 2 [kI 6 0,kL 5 0 0] ([some (70,[(Value.int .i64 a2_0),(Value.string a2_1),(Value.bool a2_2),(Sl3.v a2_3),(Value.int .i64 a2_4),(Sl3.v a2_5),(Value.int .i64 a2_6),(Value.int .i64 a2_7),(Value.string a2_8),(Sl3.v a2_9),(Sl3.v a2_10),(Sl3.v a2_11)])]) (RS.dn (WS.nxt (WS.sq (WS.sq (WS.rg (RS.mS 4 [kB 14 (decide (a2_0<41)),kB 13 (decide (a2_0<41)),kI 12 a2_0,kL 11 0 0] ?_))))))))
 rcases z0 h with ⟨hp,h⟩ | ⟨hp,h⟩
 ·refine RS.fx 14 true (decide_eq_true hp) (RS.mS 14 [kB 28 true,kU 27,kU 26,kU 25,kB 24 true,kB 23 true,kU 22,kU 21,kU 20,kB 19 true,kB 18 true,kU 17,kU 16,kU 15] (RS.dn (WS.nxt (WS.cT (WS.sq (WS.rg (RS.mS 1 [kI 6 (-1)] (RS.dn (WS.nxt ?_)))))))))
  refine WS.rt ?_
  cases h
  exact fun a w hs=>sqR (rtR (rS hs))
 ·refine RS.fx 14 false (decide_eq_false hp) ?_
  cases h
noncomputable def B44:Code:=(Tryz.f44.body).getD .skip
def z6a:(Int×AH)→Value
 | (r0,_)=>(Value.int .i64 r0)
def z6u (_:AH):(Int×AH)→AH:=fun r=>r.2
noncomputable def z55 (_L:LC) (_m:Nat) (H:AH) (_a0:Option Addr) (_a1 a2_0:Int) (_a2_1:ByteArray) (_a2_2:Bool) (_a2_3:Sl3) (_a2_4:Int) (_a2_5:Sl3) (_a2_6 _a2_7:Int) (_a2_8:ByteArray) (_a2_9 _a2_10 _a2_11:Sl3):Option (Int×AH) :=
 if a2_0<48 then
  some ((-1),H)
 else
  none
theorem zej {L:LC} {m:Nat} {H:AH} {a0:Option Addr} {a1 a2_0:Int} {a2_1:ByteArray} {a2_2:Bool} {a2_3:Sl3} {a2_4:Int} {a2_5:Sl3} {a2_6 a2_7:Int} {a2_8:ByteArray} {a2_9 a2_10 a2_11:Sl3} {r:(Int×AH)} (h:z55 L m H a0 a1 a2_0 a2_1 a2_2 a2_3 a2_4 a2_5 a2_6 a2_7 a2_8 a2_9 a2_10 a2_11=some r) :
  CallS Tryz.prog (NE.plain 202) m 44 #[(Value.pointer a0),(Value.int .i64 a1),(Value.agg #[(Value.int .i64 a2_0),(Value.string a2_1),(Value.bool a2_2),(Sl3.v a2_3),(Value.int .i64 a2_4),(Sl3.v a2_5),(Value.int .i64 a2_6),(Value.int .i64 a2_7),(Value.string a2_8),(Sl3.v a2_9),(Sl3.v a2_10),(Sl3.v a2_11)])] H (z6a r) (z6u H r):=by
 refine CallS.mk (args:=[(Value.pointer a0),(Value.int .i64 a1),(Value.agg #[(Value.int .i64 a2_0),(Value.string a2_1),(Value.bool a2_2),(Sl3.v a2_3),(Value.int .i64 a2_4),(Sl3.v a2_5),(Value.int .i64 a2_6),(Value.int .i64 a2_7),(Value.string a2_8),(Sl3.v a2_9),(Sl3.v a2_10),(Sl3.v a2_11)])]) Tryz.func44 (B:=B44) (by kernel_rfl) (fun E _=>?_)
 unfold z55 at h
 refine WS.sq (WS.rg (RS.mL 2 [kI 6 0,kL 5 0 0] ([some (70,[(Value.int .i64 a2_0),(Value.string a2_1),(Value.bool a2_2),(Sl3.v a2_3),(Value.int .i64 a2_4),(Sl3.v a2_5),(Value.int .i64 a2_6),(Value.int .i64 a2_7),(Value.string a2_8),(Sl3.v a2_9),(Sl3.v a2_10),(Sl3.v a2_11)])]) (RS.dn (WS.nxt (WS.sq (WS.sq (WS.rg (RS.mS 3 [kB 9 (decide (a2_0<48)),kI 8 a2_0,kL 7 0 0] (RS.dn ?_)))))))))
 refine WS.nxt ?_
 rcases z0 h with ⟨hp,h⟩ | ⟨hp,h⟩
 ·refine WS.fx 9 true (decide_eq_true hp) (WS.cT (WS.sq (WS.rg (RS.mS 1 [kI 6 (-1)] (RS.dn (WS.nxt (WS.rt ?_)))))))
  cases h
  exact fun a w hs=>sqR (rtR (rS hs))
 ·refine WS.fx 9 false (decide_eq_false hp) (WS.cF ?_)
  cases h
noncomputable def B4:Code:=(Tryz.f4.body).getD .skip
def zee:(Int×Int×AH)→Value
 | (r0,r1,_)=>(Value.tuple #[(Value.int .i64 r0),(Value.int .i64 r1)])
def zf3 (_:AH):(Int×Int×AH)→AH:=fun r=>r.2.2
noncomputable def z2j (L:LC):Nat→FuncId→Array Value→AH→Option (Value×AH) :=
 (orO (orF 10 (dcC dcP (dcC dcSl dcN)) fun m H (a0,(a1,_))=>(z2q L m H a0 a1).map fun r=>(z1t r,z28 H r))
  (orO (orF 11 dcN fun m H _=>(zb1 L m H).map fun r=>(zbg r,zci H r))
  (orO (orF 13 (dcC dcP (dcC dcSl dcN)) fun m H (a0,(a1,_))=>(z7h L m H a0 a1).map fun r=>(z1d r,z1p H r))
  (orO (orF 20 (dcC dcP (dcC (dcI .i64) dcN)) fun m H (a0,(a1,_))=>(z15 L m H a0 a1).map fun r=>(z7u r,z8x H r))
  (orO (orF 21 (dcC dcP (dcC (dcG (dcC (dcI .i64) (dcC dcS (dcC dcB (dcC dcSl (dcC (dcI .i64) (dcC dcSl (dcC (dcI .i64) (dcC (dcI .i64) (dcC dcS (dcC dcSl (dcC dcSl (dcC dcSl dcN))))))))))))) dcN)) fun m H (a0,((a1_0,(a1_1,(a1_2,(a1_3,(a1_4,(a1_5,(a1_6,(a1_7,(a1_8,(a1_9,(a1_10,(a1_11,_)))))))))))),_))=>(zca L m H a0 a1_0 a1_1 a1_2 a1_3 a1_4 a1_5 a1_6 a1_7 a1_8 a1_9 a1_10 a1_11).map fun r=>(z1i r,z1o H r))
  (orO (orF 32 (dcC dcP (dcC (dcI .i64) (dcC (dcG (dcC (dcI .i64) (dcC dcS (dcC dcB (dcC dcSl (dcC (dcI .i64) (dcC dcSl (dcC (dcI .i64) (dcC (dcI .i64) (dcC dcS (dcC dcSl (dcC dcSl (dcC dcSl dcN))))))))))))) dcN))) fun m H (a0,(a1,((a2_0,(a2_1,(a2_2,(a2_3,(a2_4,(a2_5,(a2_6,(a2_7,(a2_8,(a2_9,(a2_10,(a2_11,_)))))))))))),_)))=>(z43 L m H a0 a1 a2_0 a2_1 a2_2 a2_3 a2_4 a2_5 a2_6 a2_7 a2_8 a2_9 a2_10 a2_11).map fun r=>(z59 r,z5q H r))
  (orO (orF 33 (dcC dcP (dcC (dcI .i64) (dcC (dcG (dcC (dcI .i64) (dcC dcS (dcC dcB (dcC dcSl (dcC (dcI .i64) (dcC dcSl (dcC (dcI .i64) (dcC (dcI .i64) (dcC dcS (dcC dcSl (dcC dcSl (dcC dcSl dcN))))))))))))) dcN))) fun m H (a0,(a1,((a2_0,(a2_1,(a2_2,(a2_3,(a2_4,(a2_5,(a2_6,(a2_7,(a2_8,(a2_9,(a2_10,(a2_11,_)))))))))))),_)))=>(z3d L m H a0 a1 a2_0 a2_1 a2_2 a2_3 a2_4 a2_5 a2_6 a2_7 a2_8 a2_9 a2_10 a2_11).map fun r=>(z4l r,z5f H r))
  (orO (orF 34 (dcC dcP (dcC (dcI .i64) (dcC (dcG (dcC (dcI .i64) (dcC dcS (dcC dcB (dcC dcSl (dcC (dcI .i64) (dcC dcSl (dcC (dcI .i64) (dcC (dcI .i64) (dcC dcS (dcC dcSl (dcC dcSl (dcC dcSl dcN))))))))))))) dcN))) fun m H (a0,(a1,((a2_0,(a2_1,(a2_2,(a2_3,(a2_4,(a2_5,(a2_6,(a2_7,(a2_8,(a2_9,(a2_10,(a2_11,_)))))))))))),_)))=>(z3h L m H a0 a1 a2_0 a2_1 a2_2 a2_3 a2_4 a2_5 a2_6 a2_7 a2_8 a2_9 a2_10 a2_11).map fun r=>(zr r,zw H r))
  (orO (orF 35 (dcC dcP (dcC (dcI .i64) (dcC (dcG (dcC (dcI .i64) (dcC dcS (dcC dcB (dcC dcSl (dcC (dcI .i64) (dcC dcSl (dcC (dcI .i64) (dcC (dcI .i64) (dcC dcS (dcC dcSl (dcC dcSl (dcC dcSl dcN))))))))))))) dcN))) fun m H (a0,(a1,((a2_0,(a2_1,(a2_2,(a2_3,(a2_4,(a2_5,(a2_6,(a2_7,(a2_8,(a2_9,(a2_10,(a2_11,_)))))))))))),_)))=>(z2u L m H a0 a1 a2_0 a2_1 a2_2 a2_3 a2_4 a2_5 a2_6 a2_7 a2_8 a2_9 a2_10 a2_11).map fun r=>(z46 r,z4k H r))
  (orO (orF 36 (dcC dcP (dcC (dcI .i64) (dcC (dcG (dcC (dcI .i64) (dcC dcS (dcC dcB (dcC dcSl (dcC (dcI .i64) (dcC dcSl (dcC (dcI .i64) (dcC (dcI .i64) (dcC dcS (dcC dcSl (dcC dcSl (dcC dcSl dcN))))))))))))) dcN))) fun m H (a0,(a1,((a2_0,(a2_1,(a2_2,(a2_3,(a2_4,(a2_5,(a2_6,(a2_7,(a2_8,(a2_9,(a2_10,(a2_11,_)))))))))))),_)))=>(z4g L m H a0 a1 a2_0 a2_1 a2_2 a2_3 a2_4 a2_5 a2_6 a2_7 a2_8 a2_9 a2_10 a2_11).map fun r=>(z5s r,z6e H r))
  (orO (orF 37 (dcC dcP (dcC (dcI .i64) (dcC (dcG (dcC (dcI .i64) (dcC dcS (dcC dcB (dcC dcSl (dcC (dcI .i64) (dcC dcSl (dcC (dcI .i64) (dcC (dcI .i64) (dcC dcS (dcC dcSl (dcC dcSl (dcC dcSl dcN))))))))))))) dcN))) fun m H (a0,(a1,((a2_0,(a2_1,(a2_2,(a2_3,(a2_4,(a2_5,(a2_6,(a2_7,(a2_8,(a2_9,(a2_10,(a2_11,_)))))))))))),_)))=>(z2v L m H a0 a1 a2_0 a2_1 a2_2 a2_3 a2_4 a2_5 a2_6 a2_7 a2_8 a2_9 a2_10 a2_11).map fun r=>(z48 r,z4j H r))
  (orO (orF 38 (dcC dcP (dcC (dcI .i64) (dcC (dcG (dcC (dcI .i64) (dcC dcS (dcC dcB (dcC dcSl (dcC (dcI .i64) (dcC dcSl (dcC (dcI .i64) (dcC (dcI .i64) (dcC dcS (dcC dcSl (dcC dcSl (dcC dcSl dcN))))))))))))) dcN))) fun m H (a0,(a1,((a2_0,(a2_1,(a2_2,(a2_3,(a2_4,(a2_5,(a2_6,(a2_7,(a2_8,(a2_9,(a2_10,(a2_11,_)))))))))))),_)))=>(z2p L m H a0 a1 a2_0 a2_1 a2_2 a2_3 a2_4 a2_5 a2_6 a2_7 a2_8 a2_9 a2_10 a2_11).map fun r=>(z3v r,z45 H r))
  (orO (orF 39 (dcC dcP (dcC (dcI .i64) (dcC (dcG (dcC (dcI .i64) (dcC dcS (dcC dcB (dcC dcSl (dcC (dcI .i64) (dcC dcSl (dcC (dcI .i64) (dcC (dcI .i64) (dcC dcS (dcC dcSl (dcC dcSl (dcC dcSl dcN))))))))))))) dcN))) fun m H (a0,(a1,((a2_0,(a2_1,(a2_2,(a2_3,(a2_4,(a2_5,(a2_6,(a2_7,(a2_8,(a2_9,(a2_10,(a2_11,_)))))))))))),_)))=>(z6m L m H a0 a1 a2_0 a2_1 a2_2 a2_3 a2_4 a2_5 a2_6 a2_7 a2_8 a2_9 a2_10 a2_11).map fun r=>(z7q r,z8a H r))
  (orO (orF 40 (dcC dcP (dcC (dcI .i64) (dcC (dcG (dcC (dcI .i64) (dcC dcS (dcC dcB (dcC dcSl (dcC (dcI .i64) (dcC dcSl (dcC (dcI .i64) (dcC (dcI .i64) (dcC dcS (dcC dcSl (dcC dcSl (dcC dcSl dcN))))))))))))) dcN))) fun m H (a0,(a1,((a2_0,(a2_1,(a2_2,(a2_3,(a2_4,(a2_5,(a2_6,(a2_7,(a2_8,(a2_9,(a2_10,(a2_11,_)))))))))))),_)))=>(z4x L m H a0 a1 a2_0 a2_1 a2_2 a2_3 a2_4 a2_5 a2_6 a2_7 a2_8 a2_9 a2_10 a2_11).map fun r=>(z69 r,z6x H r))
  (orO (orF 41 (dcC dcP (dcC (dcI .i64) (dcC (dcG (dcC (dcI .i64) (dcC dcS (dcC dcB (dcC dcSl (dcC (dcI .i64) (dcC dcSl (dcC (dcI .i64) (dcC (dcI .i64) (dcC dcS (dcC dcSl (dcC dcSl (dcC dcSl dcN))))))))))))) dcN))) fun m H (a0,(a1,((a2_0,(a2_1,(a2_2,(a2_3,(a2_4,(a2_5,(a2_6,(a2_7,(a2_8,(a2_9,(a2_10,(a2_11,_)))))))))))),_)))=>(z4y L m H a0 a1 a2_0 a2_1 a2_2 a2_3 a2_4 a2_5 a2_6 a2_7 a2_8 a2_9 a2_10 a2_11).map fun r=>(z6b r,z77 H r))
  (orO (orF 42 (dcC dcP (dcC (dcI .i64) (dcC (dcG (dcC (dcI .i64) (dcC dcS (dcC dcB (dcC dcSl (dcC (dcI .i64) (dcC dcSl (dcC (dcI .i64) (dcC (dcI .i64) (dcC dcS (dcC dcSl (dcC dcSl (dcC dcSl dcN))))))))))))) dcN))) fun m H (a0,(a1,((a2_0,(a2_1,(a2_2,(a2_3,(a2_4,(a2_5,(a2_6,(a2_7,(a2_8,(a2_9,(a2_10,(a2_11,_)))))))))))),_)))=>(z5j L m H a0 a1 a2_0 a2_1 a2_2 a2_3 a2_4 a2_5 a2_6 a2_7 a2_8 a2_9 a2_10 a2_11).map fun r=>(z75 r,z7x H r))
  (orO (orF 43 (dcC dcP (dcC (dcI .i64) (dcC (dcG (dcC (dcI .i64) (dcC dcS (dcC dcB (dcC dcSl (dcC (dcI .i64) (dcC dcSl (dcC (dcI .i64) (dcC (dcI .i64) (dcC dcS (dcC dcSl (dcC dcSl (dcC dcSl dcN))))))))))))) dcN))) fun m H (a0,(a1,((a2_0,(a2_1,(a2_2,(a2_3,(a2_4,(a2_5,(a2_6,(a2_7,(a2_8,(a2_9,(a2_10,(a2_11,_)))))))))))),_)))=>(z4a L m H a0 a1 a2_0 a2_1 a2_2 a2_3 a2_4 a2_5 a2_6 a2_7 a2_8 a2_9 a2_10 a2_11).map fun r=>(z5h r,z6d H r))
  (orO (orF 44 (dcC dcP (dcC (dcI .i64) (dcC (dcG (dcC (dcI .i64) (dcC dcS (dcC dcB (dcC dcSl (dcC (dcI .i64) (dcC dcSl (dcC (dcI .i64) (dcC (dcI .i64) (dcC dcS (dcC dcSl (dcC dcSl (dcC dcSl dcN))))))))))))) dcN))) fun m H (a0,(a1,((a2_0,(a2_1,(a2_2,(a2_3,(a2_4,(a2_5,(a2_6,(a2_7,(a2_8,(a2_9,(a2_10,(a2_11,_)))))))))))),_)))=>(z55 L m H a0 a1 a2_0 a2_1 a2_2 a2_3 a2_4 a2_5 a2_6 a2_7 a2_8 a2_9 a2_10 a2_11).map fun r=>(z6a r,z6u H r))
  orN))))))))))))))))))
noncomputable def zah (L:LC) (m:Nat) (H:AH) (a0:Option Addr):Option (Int×Int×AH) :=
 byRun Tryz.prog 202 (z2j L) m 4 #[(Value.pointer a0),anyV] H (dcT (dcC (dcI .i64) (dcC (dcI .i64) dcN))) fun (r_0,(r_1,_)) H2=>(r_0,r_1,H2)
theorem z68 {L:LC}:OrOK Tryz.prog (NE.plain 202) (z2j L):=by
 unfold z2j
 refine orO_ok (orF_ok fun m H ⟨a0,⟨a1,_⟩⟩ v H' h=>by
  obtain ⟨r,h1,rfl,rfl⟩:=zm h
  exact z3a h1) ?_
 refine orO_ok (orF_ok fun m H _ v H' h=>by
  obtain ⟨r,h1,rfl,rfl⟩:=zm h
  exact zk0 h1) ?_
 refine orO_ok (orF_ok fun m H ⟨a0,⟨a1,_⟩⟩ v H' h=>by
  obtain ⟨r,h1,rfl,rfl⟩:=zm h
  exact zhk h1) ?_
 refine orO_ok (orF_ok fun m H ⟨a0,⟨a1,_⟩⟩ v H' h=>by
  obtain ⟨r,h1,rfl,rfl⟩:=zm h
  exact z10 h1) ?_
 refine orO_ok (orF_ok fun m H ⟨a0,⟨⟨a1_0,⟨a1_1,⟨a1_2,⟨a1_3,⟨a1_4,⟨a1_5,⟨a1_6,⟨a1_7,⟨a1_8,⟨a1_9,⟨a1_10,⟨a1_11,_⟩⟩⟩⟩⟩⟩⟩⟩⟩⟩⟩⟩,_⟩⟩ v H' h=>by
  obtain ⟨r,h1,rfl,rfl⟩:=zm h
  exact zh8 h1) ?_
 refine orO_ok (orF_ok fun m H ⟨a0,⟨a1,⟨⟨a2_0,⟨a2_1,⟨a2_2,⟨a2_3,⟨a2_4,⟨a2_5,⟨a2_6,⟨a2_7,⟨a2_8,⟨a2_9,⟨a2_10,⟨a2_11,_⟩⟩⟩⟩⟩⟩⟩⟩⟩⟩⟩⟩,_⟩⟩⟩ v H' h=>by
  obtain ⟨r,h1,rfl,rfl⟩:=zm h
  exact zcw h1) ?_
 refine orO_ok (orF_ok fun m H ⟨a0,⟨a1,⟨⟨a2_0,⟨a2_1,⟨a2_2,⟨a2_3,⟨a2_4,⟨a2_5,⟨a2_6,⟨a2_7,⟨a2_8,⟨a2_9,⟨a2_10,⟨a2_11,_⟩⟩⟩⟩⟩⟩⟩⟩⟩⟩⟩⟩,_⟩⟩⟩ v H' h=>by
  obtain ⟨r,h1,rfl,rfl⟩:=zm h
  exact zbq h1) ?_
 refine orO_ok (orF_ok fun m H ⟨a0,⟨a1,⟨⟨a2_0,⟨a2_1,⟨a2_2,⟨a2_3,⟨a2_4,⟨a2_5,⟨a2_6,⟨a2_7,⟨a2_8,⟨a2_9,⟨a2_10,⟨a2_11,_⟩⟩⟩⟩⟩⟩⟩⟩⟩⟩⟩⟩,_⟩⟩⟩ v H' h=>by
  obtain ⟨r,h1,rfl,rfl⟩:=zm h
  exact zbr h1) ?_
 refine orO_ok (orF_ok fun m H ⟨a0,⟨a1,⟨⟨a2_0,⟨a2_1,⟨a2_2,⟨a2_3,⟨a2_4,⟨a2_5,⟨a2_6,⟨a2_7,⟨a2_8,⟨a2_9,⟨a2_10,⟨a2_11,_⟩⟩⟩⟩⟩⟩⟩⟩⟩⟩⟩⟩,_⟩⟩⟩ v H' h=>by
  obtain ⟨r,h1,rfl,rfl⟩:=zm h
  exact zb5 h1) ?_
 refine orO_ok (orF_ok fun m H ⟨a0,⟨a1,⟨⟨a2_0,⟨a2_1,⟨a2_2,⟨a2_3,⟨a2_4,⟨a2_5,⟨a2_6,⟨a2_7,⟨a2_8,⟨a2_9,⟨a2_10,⟨a2_11,_⟩⟩⟩⟩⟩⟩⟩⟩⟩⟩⟩⟩,_⟩⟩⟩ v H' h=>by
  obtain ⟨r,h1,rfl,rfl⟩:=zm h
  exact zd0 h1) ?_
 refine orO_ok (orF_ok fun m H ⟨a0,⟨a1,⟨⟨a2_0,⟨a2_1,⟨a2_2,⟨a2_3,⟨a2_4,⟨a2_5,⟨a2_6,⟨a2_7,⟨a2_8,⟨a2_9,⟨a2_10,⟨a2_11,_⟩⟩⟩⟩⟩⟩⟩⟩⟩⟩⟩⟩,_⟩⟩⟩ v H' h=>by
  obtain ⟨r,h1,rfl,rfl⟩:=zm h
  exact zb6 h1) ?_
 refine orO_ok (orF_ok fun m H ⟨a0,⟨a1,⟨⟨a2_0,⟨a2_1,⟨a2_2,⟨a2_3,⟨a2_4,⟨a2_5,⟨a2_6,⟨a2_7,⟨a2_8,⟨a2_9,⟨a2_10,⟨a2_11,_⟩⟩⟩⟩⟩⟩⟩⟩⟩⟩⟩⟩,_⟩⟩⟩ v H' h=>by
  obtain ⟨r,h1,rfl,rfl⟩:=zm h
  exact zaf h1) ?_
 refine orO_ok (orF_ok fun m H ⟨a0,⟨a1,⟨⟨a2_0,⟨a2_1,⟨a2_2,⟨a2_3,⟨a2_4,⟨a2_5,⟨a2_6,⟨a2_7,⟨a2_8,⟨a2_9,⟨a2_10,⟨a2_11,_⟩⟩⟩⟩⟩⟩⟩⟩⟩⟩⟩⟩,_⟩⟩⟩ v H' h=>by
  obtain ⟨r,h1,rfl,rfl⟩:=zm h
  exact zfs h1) ?_
 refine orO_ok (orF_ok fun m H ⟨a0,⟨a1,⟨⟨a2_0,⟨a2_1,⟨a2_2,⟨a2_3,⟨a2_4,⟨a2_5,⟨a2_6,⟨a2_7,⟨a2_8,⟨a2_9,⟨a2_10,⟨a2_11,_⟩⟩⟩⟩⟩⟩⟩⟩⟩⟩⟩⟩,_⟩⟩⟩ v H' h=>by
  obtain ⟨r,h1,rfl,rfl⟩:=zm h
  exact ze8 h1) ?_
 refine orO_ok (orF_ok fun m H ⟨a0,⟨a1,⟨⟨a2_0,⟨a2_1,⟨a2_2,⟨a2_3,⟨a2_4,⟨a2_5,⟨a2_6,⟨a2_7,⟨a2_8,⟨a2_9,⟨a2_10,⟨a2_11,_⟩⟩⟩⟩⟩⟩⟩⟩⟩⟩⟩⟩,_⟩⟩⟩ v H' h=>by
  obtain ⟨r,h1,rfl,rfl⟩:=zm h
  exact zdz h1) ?_
 refine orO_ok (orF_ok fun m H ⟨a0,⟨a1,⟨⟨a2_0,⟨a2_1,⟨a2_2,⟨a2_3,⟨a2_4,⟨a2_5,⟨a2_6,⟨a2_7,⟨a2_8,⟨a2_9,⟨a2_10,⟨a2_11,_⟩⟩⟩⟩⟩⟩⟩⟩⟩⟩⟩⟩,_⟩⟩⟩ v H' h=>by
  obtain ⟨r,h1,rfl,rfl⟩:=zm h
  exact zf0 h1) ?_
 refine orO_ok (orF_ok fun m H ⟨a0,⟨a1,⟨⟨a2_0,⟨a2_1,⟨a2_2,⟨a2_3,⟨a2_4,⟨a2_5,⟨a2_6,⟨a2_7,⟨a2_8,⟨a2_9,⟨a2_10,⟨a2_11,_⟩⟩⟩⟩⟩⟩⟩⟩⟩⟩⟩⟩,_⟩⟩⟩ v H' h=>by
  obtain ⟨r,h1,rfl,rfl⟩:=zm h
  exact zcz h1) ?_
 refine orO_ok (orF_ok fun m H ⟨a0,⟨a1,⟨⟨a2_0,⟨a2_1,⟨a2_2,⟨a2_3,⟨a2_4,⟨a2_5,⟨a2_6,⟨a2_7,⟨a2_8,⟨a2_9,⟨a2_10,⟨a2_11,_⟩⟩⟩⟩⟩⟩⟩⟩⟩⟩⟩⟩,_⟩⟩⟩ v H' h=>by
  obtain ⟨r,h1,rfl,rfl⟩:=zm h
  exact zej h1) ?_
 exact orN_ok
theorem zfa {L:LC} {m:Nat} {H:AH} {a0:Option Addr} {r:(Int×Int×AH)} (h:zah L m H a0=some r) :
  CallS Tryz.prog (NE.plain 202) m 4 #[(Value.pointer a0),anyV] H (zee r) (zf3 H r):=by
 obtain ⟨⟨r_0,⟨r_1,_⟩⟩,H2,rfl,hc⟩:=zc6 z68 Tryz.func4 (show Tryz.f4.body=some B4 by kernel_rfl) h
 exact hc
noncomputable def B5:Code:=(Tryz.f5.body).getD .skip
def zh7:(Int×Int×AH)→Value
 | (r0,r1,_)=>(Value.tuple #[(Value.int .i64 r0),(Value.int .i64 r1)])
def zie (_:AH):(Int×Int×AH)→AH:=fun r=>r.2.2
noncomputable def z6i (L:LC):Nat→FuncId→Array Value→AH→Option (Value×AH) :=
 (orO (orF 10 (dcC dcP (dcC dcSl dcN)) fun m H (a0,(a1,_))=>(z2q L m H a0 a1).map fun r=>(z1t r,z28 H r))
  orN)
noncomputable def zdd (L:LC) (m:Nat) (H:AH) (a0:Option Addr):Option (Int×Int×AH) :=
 byRun Tryz.prog 202 (z6i L) m 5 #[(Value.pointer a0),anyV] H (dcT (dcC (dcI .i64) (dcC (dcI .i64) dcN))) fun (r_0,(r_1,_)) H2=>(r_0,r_1,H2)
theorem zga {L:LC}:OrOK Tryz.prog (NE.plain 202) (z6i L):=by
 unfold z6i
 refine orO_ok (orF_ok fun m H ⟨a0,⟨a1,_⟩⟩ v H' h=>by
  obtain ⟨r,h1,rfl,rfl⟩:=zm h
  exact z3a h1) ?_
 exact orN_ok
theorem zhm {L:LC} {m:Nat} {H:AH} {a0:Option Addr} {r:(Int×Int×AH)} (h:zdd L m H a0=some r) :
  CallS Tryz.prog (NE.plain 202) m 5 #[(Value.pointer a0),anyV] H (zh7 r) (zie H r):=by
 obtain ⟨⟨r_0,⟨r_1,_⟩⟩,H2,rfl,hc⟩:=zc6 zga Tryz.func5 (show Tryz.f5.body=some B5 by kernel_rfl) h
 exact hc
noncomputable def B6:Code:=(Tryz.f6.body).getD .skip
def zf8:(Int×Int×AH)→Value
 | (r0,r1,_)=>(Value.tuple #[(Value.int .i64 r0),(Value.int .i64 r1)])
def zfz (_:AH):(Int×Int×AH)→AH:=fun r=>r.2.2
noncomputable def z57 (L:LC):Nat→FuncId→Array Value→AH→Option (Value×AH) :=
 (orO (orF 10 (dcC dcP (dcC dcSl dcN)) fun m H (a0,(a1,_))=>(z2q L m H a0 a1).map fun r=>(z1t r,z28 H r))
  orN)
noncomputable def zbe (L:LC) (m:Nat) (H:AH) (a0:Option Addr):Option (Int×Int×AH) :=
 byRun Tryz.prog 202 (z57 L) m 6 #[(Value.pointer a0),anyV,anyV,anyV] H (dcT (dcC (dcI .i64) (dcC (dcI .i64) dcN))) fun (r_0,(r_1,_)) H2=>(r_0,r_1,H2)
theorem ze1 {L:LC}:OrOK Tryz.prog (NE.plain 202) (z57 L):=by
 unfold z57
 refine orO_ok (orF_ok fun m H ⟨a0,⟨a1,_⟩⟩ v H' h=>by
  obtain ⟨r,h1,rfl,rfl⟩:=zm h
  exact z3a h1) ?_
 exact orN_ok
theorem zgd {L:LC} {m:Nat} {H:AH} {a0:Option Addr} {r:(Int×Int×AH)} (h:zbe L m H a0=some r) :
  CallS Tryz.prog (NE.plain 202) m 6 #[(Value.pointer a0),anyV,anyV,anyV] H (zf8 r) (zfz H r):=by
 obtain ⟨⟨r_0,⟨r_1,_⟩⟩,H2,rfl,hc⟩:=zc6 ze1 Tryz.func6 (show Tryz.f6.body=some B6 by kernel_rfl) h
 exact hc
noncomputable def B7:Code:=(Tryz.f7.body).getD .skip
def zd9:(Sl3×Int×AH)→Value
 | (r0,r1,_)=>(Value.tuple #[(Sl3.v r0),(Value.int .i64 r1)])
def zei (_:AH):(Sl3×Int×AH)→AH:=fun r=>r.2.2
noncomputable def z3y (L:LC):Nat→FuncId→Array Value→AH→Option (Value×AH) :=
 (orO (orF 10 (dcC dcP (dcC dcSl dcN)) fun m H (a0,(a1,_))=>(z2q L m H a0 a1).map fun r=>(z1t r,z28 H r))
  orN)
noncomputable def z9b (L:LC) (m:Nat) (H:AH) (a0:Option Addr):Option (Sl3×Int×AH) :=
 byRun Tryz.prog 202 (z3y L) m 7 #[(Value.pointer a0),anyV] H (dcT (dcC dcSl (dcC (dcI .i64) dcN))) fun (r_0,(r_1,_)) H2=>(r_0,r_1,H2)
theorem zcf {L:LC}:OrOK Tryz.prog (NE.plain 202) (z3y L):=by
 unfold z3y
 refine orO_ok (orF_ok fun m H ⟨a0,⟨a1,_⟩⟩ v H' h=>by
  obtain ⟨r,h1,rfl,rfl⟩:=zm h
  exact z3a h1) ?_
 exact orN_ok
theorem zeo {L:LC} {m:Nat} {H:AH} {a0:Option Addr} {r:(Sl3×Int×AH)} (h:z9b L m H a0=some r) :
  CallS Tryz.prog (NE.plain 202) m 7 #[(Value.pointer a0),anyV] H (zd9 r) (zei H r):=by
 obtain ⟨⟨r_0,⟨r_1,_⟩⟩,H2,rfl,hc⟩:=zc6 zcf Tryz.func7 (show Tryz.f7.body=some B7 by kernel_rfl) h
 exact hc
noncomputable def B8:Code:=(Tryz.f8.body).getD .skip
def zhq:(Int×Int×Int×AH)→Value
 | (r0,r1,r2,_)=>(Value.tuple #[(Value.int .i64 r0),(Value.int .i64 r1),(Value.int .i64 r2)])
def zj0 (_:AH):(Int×Int×Int×AH)→AH:=fun r=>r.2.2.2
noncomputable def z9u (L:LC) (m:Nat) (H:AH) (a0:Option Addr):Option (Int×Int×Int×AH) :=
 Option.bind (newR 3 1 #[anyV] H) fun (s1,H2) =>
 Option.bind (z2q L m H2 a0 s1) fun (_,x4,H5) =>
 if x4=0 then
  none
 else
  some (0,0,x4,H5)
theorem ziu {L:LC} {m:Nat} {H:AH} {a0:Option Addr} {r:(Int×Int×Int×AH)} (h:z9u L m H a0=some r) :
  CallS Tryz.prog (NE.plain 202) m 8 #[(Value.pointer a0),anyV] H (zhq r) (zj0 H r):=by
 refine CallS.mk (args:=[(Value.pointer a0),anyV]) Tryz.func8 (B:=B8) (by kernel_rfl) (fun E _=>?_)
 unfold z9u at h
 refine WS.sq (WS.rg (RS.mS 3 [kI 6 0,kI 5 0,kI 4 0] (RS.dn (WS.nxt (WS.sq (WS.rg (RS.mS 2 [(17,.val anyV),(16,.val (Value.pointer a0))] ?_)))))))
 obtain ⟨⟨s1,H2⟩,hx,h⟩:=bind_some h
 try dsimp only at h
 refine RS.o (H':=H2) (some 18) (Sl3.v s1) (Abs.run_newR (by kernel_rfl) (by kernel_rfl) hx) ?_
 obtain ⟨⟨x3,x4,H5⟩,hx,h⟩:=bind_some h
 try dsimp only at h
 refine RS.cl (some 19) (v:=(Value.tuple #[(Value.pointer x3),(Value.int .i64 x4)])) 10 #[(Value.pointer a0),(Sl3.v s1)] (z3a hx) (RS.mS 5 [kI 8 x4,(7,.val (Value.pointer x3)),kI 21 x4,(20,.val (Value.pointer x3)),(15,.val (Value.tuple #[(Value.pointer x3),(Value.int .i64 x4)]))] (RS.dn (WS.nxt (WS.sq (WS.sq (WS.rg (RS.mS 2 [kB 23 (!decide (x4=0)),kI 22 x4] (RS.dn (WS.nxt ?_)))))))))
 rcases z0 h with ⟨hp,h⟩ | ⟨hp,h⟩
 ·refine WS.fx 23 false (zh hp) (WS.cF ?_)
  cases h
 ·refine WS.fx 23 true (ze hp) (WS.cT (WS.sq (WS.rg (RS.mS 4 [kI 6 x4,kI 5 0,kI 4 0,kI 24 x4] (RS.dn (WS.nxt (WS.rt ?_)))))))
  cases h
  exact fun a w hs=>sqR (rtR (rS hs))
noncomputable def B100:Code:=(Tryz.f100.body).getD .skip
def z98:(Sl3×AH)→Value
 | (r0,_)=>(Sl3.v r0)
def za3 (_:AH):(Sl3×AH)→AH:=fun r=>r.2
noncomputable def z5k (_L:LC) (_q1:Addr) (x2 _s3:Sl3):(AH×Int)→Option (Lp (AH×Int) (Sl3×AH)):=fun (H5,v17_6) =>
 if v17_6<(x2.n:Int) then
  none
 else
  some (.brk (H5,v17_6))
def zf9 (_L:LC) (q1:Addr) (x2 s3:Sl3):(AH×Int)→KN×Lcs:=fun (_,v17_6)=>([kI 17 v17_6,kP 0 q1,kI 3 (x2.n:Int),kS 4 s3,kI 16 (x2.n:Int)],[])
noncomputable def z88 (L:LC) (_m:Nat) (H:AH) (a0:Option Addr):Option (Sl3×AH) :=
 Option.bind a0 fun q1 =>
 Option.bind (rd deSl H (Addr.add (Addr.add q1 0) 1)) fun x2 =>
 Option.bind (mkS 97 1 24 #[(Sl3.v Sl3.nil)] H (x2.n:Int) (x2.n:Int)) fun (s3,H4) =>
 Option.bind (L.run (z5k L q1 x2 s3) (H4,0)) fun o=>match o with
 | .inl (H7,_) =>
  some (s3,H7)
 | .inr r=>some r
theorem z7r {E m H L q1 x2 s3} :LoopF Tryz.prog (NE.plain 202) m E Tryz.f100 ((cfst (csnd (cfst (csnd (csnd (csnd B100))))))) (zf9 L q1 x2 s3) (fun s=>s.1) 0 z98 (za3 H) (z5k L q1 x2 s3):=by
 rintro ⟨H5,v17_6⟩ o h
 unfold z5k at h
 try dsimp only at h
 refine WS.sq (WS.rg (RS.mS 1 [kB 18 (decide (v17_6<(x2.n:Int)))] (RS.dn (WS.nxt (WS.sq ?_)))))
 rcases z0 h with ⟨hp,h⟩ | ⟨hp,h⟩
 ·refine WS.fx 18 true (decide_eq_true hp) (WS.cT ?_)
  cases h
 ·refine WS.fx 18 false (decide_eq_false hp) (WS.cF (WS.ex 0 ?_))
  cases h
  exact fun a w hs=>sqE (lsB rfl (hs.sb 0))
theorem zia {L:LC} {m:Nat} {H:AH} {a0:Option Addr} {r:(Sl3×AH)} (h:z88 L m H a0=some r) :
  CallS Tryz.prog (NE.plain 202) m 100 #[(Value.pointer a0)] H (z98 r) (za3 H r):=by
 refine CallS.mk (args:=[(Value.pointer a0)]) Tryz.func100 (B:=B100) (by kernel_rfl) (fun E _=>?_)
 unfold z88 at h
 refine WS.sq (WS.rg (RS.mS 1 [kS 2 Sl3.nil] (RS.dn (WS.nxt (WS.sq (WS.rg (RS.mS 1 [(8,.val (Value.pointer a0))] ?_)))))))
 obtain ⟨q1,hx,hq1⟩:=bind_some h
 subst hx
 have h:=hq1
 refine RS.mS 3 [(11,.val (Value.pointer (some (Addr.add (Addr.add q1 0) 1)))),(10,.val (Value.pointer (some (Addr.add q1 0)))),kP 9 q1] ?_
 obtain ⟨x2,hx,h⟩:=bind_some h
 refine RS.ld 12 24 (.tmp 11) (z1 hx z6) (RS.mS 2 [kI 3 (x2.n:Int),kI 13 (x2.n:Int)] (RS.dn (WS.nxt (WS.sq (WS.rg (RS.mS 1 [kI 14 (x2.n:Int)] ?_))))))
 obtain ⟨⟨s3,H4⟩,hx,h⟩:=bind_some h
 try dsimp only at h
 refine RS.o (H':=H4) (some 15) (Sl3.v s3) (Abs.run_mk (t:=168) (x:=.tmp 14) (y:=.tmp 14) (k1:=.i64) (k2:=.i64) (by kernel_rfl) (by kernel_rfl) (by kernel_rfl) (by kernel_rfl) hx) (RS.mS 1 [kS 4 s3] (RS.dn (WS.nxt (WS.sq (WS.sq (WS.rg (RS.mS 2 [kI 17 0,kI 16 (x2.n:Int)] (RS.dn (WS.nxt ?_)))))))))
 refine WS.bk 0 ?_
 obtain ⟨o,hl,h⟩:=bind_some h
 rcases o with ⟨H7,v17_8⟩ | r
 ·try dsimp only at h
  refine WS.lI (z7r (L:=L) (E:=E) (m:=m) (H:=H)) (L.ok hl) 0 ?_
  clear hl
  refine fun a w hs=>bkE ((WS.nxt ?_ a w hs))
  refine WS.sq (WS.rg (RS.mS 2 [kS 2 s3,kS 56 s3] (RS.dn (WS.nxt (WS.rt ?_)))))
  cases h
  exact fun a w hs=>rtR (rS hs)
 ·try dsimp only at h
  refine WS.lR (z7r (L:=L) (E:=E) (m:=m) (H:=H)) (L.ok hl) 0 ?_
  cases h
  exact fun a w hq=>bkR (sqR (rtR hq))
end Go.Proofs.YtfbinmgldpnjhaaGreatDoor
