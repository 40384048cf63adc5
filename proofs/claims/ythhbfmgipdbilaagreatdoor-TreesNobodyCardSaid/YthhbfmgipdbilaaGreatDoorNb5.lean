/- TreesNobody is proved: at every input the call returns true and its arguments read as before. No condition beyond the row's own (five listed tables of Go's library as the text lays them). -/
import Derived.Test.YthhbfmgipdbilaaGreatDoorNb4
import Derived.Test.YthhbfmgipdbilaaGreatDoorTie
import Derived.Test.YthhbfmgipdbilaaGreatDoorCards
import Derived.Test.YthhbfmgipdbilaaGreatDoorChecked
namespace Go.Proofs.YthhbfmgipdbilaaGreatDoor
open Go Go.Abs
set_option maxRecDepth 100000
def zm:(Int×AH)→Value
 | (r0,_)=>(Value.int .i64 r0)
def zo (_:AH):(Int×AH)→AH:=fun r=>r.2
noncomputable def B57:Code:=(Tryz.f57.body).getD .skip
noncomputable def z3b (_L:LC) (_H:AH) (_q1:Addr) (_x2:Sl3) (_v21_3:Int) (_x5_0:ByteArray) (_x5_1:Sl3) (_v28_6:Int) (_x8_0:ByteArray) (x8_1:Sl3):Int→Option (Lp Int (Int×AH)):=fun v35_9 =>
 if v35_9<(x8_1.n:Int) then
  none
 else
  some (.brk v35_9)
def zc2 (_L:LC) (_H:AH) (q1:Addr) (x2:Sl3) (v21_3:Int) (x5_0:ByteArray) (x5_1:Sl3) (v28_6:Int) (x8_0:ByteArray) (x8_1:Sl3):Int→KN×Lcs:=fun v35_9=>([kI 35 v35_9,kP 0 q1,kS 19 x2,kI 20 (x2.n:Int),kI 21 v21_3,kS 26 x5_1,kI 27 (x5_1.n:Int),kI 28 v28_6,kS 33 x8_1,kI 34 (x8_1.n:Int)],[some (91,[(Value.string x5_0),(Sl3.v x5_1)]),some (88,[(Value.string x8_0),(Sl3.v x8_1)])])
noncomputable def z36 (L:LC) (H:AH) (q1:Addr) (x2:Sl3) (v21_3:Int) (x5_0:ByteArray) (x5_1:Sl3):Int→Option (Lp Int (Int×AH)):=fun v28_6 =>
 if v28_6<(x5_1.n:Int) then
  Option.bind (idxA 2 x5_1 v28_6) fun p7 =>
  Option.bind (rd deS H (Addr.add p7 0)) fun x8_0 =>
  Option.bind (rd deSl H (Addr.add p7 1)) fun x8_1 =>
  Option.bind (L.run (z3b L H q1 x2 v21_3 x5_0 x5_1 v28_6 x8_0 x8_1) 0) fun o=>match o with
  | .inl _ =>
   some (.next (IntKind.i64.wrap (v28_6+1)))
  | .inr r=>some (.ret r)
 else
  some (.brk v28_6)
def zbe (_L:LC) (_H:AH) (q1:Addr) (x2:Sl3) (v21_3:Int) (x5_0:ByteArray) (x5_1:Sl3):Int→KN×Lcs:=fun v28_6=>([kI 28 v28_6,kP 0 q1,kS 19 x2,kI 20 (x2.n:Int),kI 21 v21_3,kS 26 x5_1,kI 27 (x5_1.n:Int)],[some (91,[(Value.string x5_0),(Sl3.v x5_1)])])
noncomputable def z37 (L:LC) (H:AH) (q1:Addr) (x2:Sl3):Int→Option (Lp Int (Int×AH)):=fun v21_3 =>
 if v21_3<(x2.n:Int) then
  Option.bind (idxA 2 x2 v21_3) fun p4 =>
  Option.bind (rd deS H (Addr.add p4 0)) fun x5_0 =>
  Option.bind (rd deSl H (Addr.add p4 1)) fun x5_1 =>
  Option.bind (L.run (z36 L H q1 x2 v21_3 x5_0 x5_1) 0) fun o=>match o with
  | .inl _ =>
   some (.next (IntKind.i64.wrap (v21_3+1)))
  | .inr r=>some (.ret r)
 else
  some (.brk v21_3)
def zbw (_L:LC) (_H:AH) (q1:Addr) (x2:Sl3):Int→KN×Lcs:=fun v21_3=>([kI 21 v21_3,kP 0 q1,kS 19 x2,kI 20 (x2.n:Int)],[])
noncomputable def z39 (L:LC) (q1:Addr) (_x13:Sl3) (_v55_15:Int) (_x17_0:ByteArray) (_x17_1:Sl3) (_x17_2 _x17_3:Int) (_x17_4:ByteArray) (_x17_5 s22:Sl3) (H23:AH):Int→Option (Lp Int (Int×AH)):=fun v67_24 =>
 if v67_24<(s22.n:Int) then
  Option.bind (idxA 4 s22 v67_24) fun p25 =>
  Option.bind (rd (deI .i64) H23 (Addr.add p25 0)) fun x26_0 =>
  Option.bind (rd (deI .i64) H23 (Addr.add p25 1)) fun x26_1 =>
  Option.bind (rd deS H23 (Addr.add p25 2)) fun x26_2 =>
  Option.bind (rd deSl H23 (Addr.add p25 3)) fun x26_3 =>
  Option.bind (z4l L H23 (some q1) x26_0 x26_1 x26_2 x26_3) fun x27 =>
  if x27=0 then
   some (.next (IntKind.i64.wrap (v67_24+1)))
  else
   none
 else
  some (.brk v67_24)
def zc3 (_L:LC) (q1:Addr) (x13:Sl3) (v55_15:Int) (x17_0:ByteArray) (x17_1:Sl3) (x17_2 x17_3:Int) (x17_4:ByteArray) (x17_5 s22:Sl3) (_H23:AH):Int→KN×Lcs:=fun v67_24=>([kI 67 v67_24,kP 0 q1,kS 53 x13,kI 54 (x13.n:Int),kI 55 v55_15,kS 65 s22,kI 66 (s22.n:Int)],[some (93,[(Value.string x17_0),(Sl3.v x17_1),(Value.int .i64 x17_2),(Value.int .i64 x17_3),(Value.string x17_4),(Sl3.v x17_5)]),none])
noncomputable def z3k (L:LC) (m:Nat) (q1:Addr) (x13:Sl3):(AH×Int)→Option (Lp (AH×Int) (Int×AH)):=fun (H14,v55_15) =>
 if v55_15<(x13.n:Int) then
  Option.bind (idxA 6 x13 v55_15) fun p16 =>
  Option.bind (rd deS H14 (Addr.add p16 0)) fun x17_0 =>
  Option.bind (rd deSl H14 (Addr.add p16 1)) fun x17_1 =>
  Option.bind (rd (deI .i64) H14 (Addr.add p16 2)) fun x17_2 =>
  Option.bind (rd (deI .i64) H14 (Addr.add p16 3)) fun x17_3 =>
  Option.bind (rd deS H14 (Addr.add p16 4)) fun x17_4 =>
  Option.bind (rd deSl H14 (Addr.add p16 5)) fun x17_5 =>
  Option.bind (z86 L (Nat.max m H14.next) H14 x17_1) fun (x18,H19) =>
  Option.bind (newS 59 [(Value.int .i64 x17_2),(Value.int .i64 x17_3),(Value.string x17_4),(Sl3.v x17_5)] H19) fun (k20,H21) =>
  Option.bind (appS m 59 4 56 H21 x18 (⟨some ⟨k20,0,none⟩,1,1⟩:Sl3)) fun (s22,H23) =>
  Option.bind (L.run (z39 L q1 x13 v55_15 x17_0 x17_1 x17_2 x17_3 x17_4 x17_5 s22 H23) 0) fun o=>match o with
  | .inl _ =>
   some (.next (H23,(IntKind.i64.wrap (v55_15+1))))
  | .inr r=>some (.ret r)
 else
  some (.brk (H14,v55_15))
def zbd (_L:LC) (_m:Nat) (q1:Addr) (x13:Sl3):(AH×Int)→KN×Lcs:=fun (_,v55_15)=>([kI 55 v55_15,kP 0 q1,kS 53 x13,kI 54 (x13.n:Int)],[])
noncomputable def z5a (L:LC) (m:Nat) (H:AH) (a0:Option Addr):Option (Int×AH) :=
 Option.bind a0 fun q1 =>
 Option.bind (rd deSl H (Addr.add (Addr.add q1 0) 1)) fun x2 =>
 Option.bind (L.run (z37 L H q1 x2) 0) fun o=>match o with
 | .inl _ =>
  Option.bind (rd deSl H (Addr.add (Addr.add q1 0) 2)) fun x13 =>
  Option.bind (L.run (z3k L m q1 x13) (H,0)) fun o=>match o with
  | .inl (H29,_) =>
   some (0,H29)
  | .inr r=>some r
 | .inr r=>some r
theorem z4s {E m L H q1 x2 v21_3 x5_0 x5_1 v28_6 x8_0 x8_1} :LoopF Tryz.prog (NE.plain 114) m E Tryz.f57 ((cfst (csnd (csnd (cfst (cfst (csnd (csnd (cfst (cfst (csnd (csnd (cfst (cfst (csnd (csnd (cfst (cfst (csnd (cfst (csnd B57))))))))))))))))))))) (zc2 L H q1 x2 v21_3 x5_0 x5_1 v28_6 x8_0 x8_1) (fun _=>H) 4 zm (zo H) (z3b L H q1 x2 v21_3 x5_0 x5_1 v28_6 x8_0 x8_1):=by
 rintro v35_9 o h
 unfold z3b at h
 try dsimp only at h
 refine WS.sq (WS.rg (RS.mS 1 [kB 36 (decide (v35_9<(x8_1.n:Int)))] (RS.dn (WS.nxt (WS.sq ?_)))))
 rcases z0 h with ⟨hp,h⟩ | ⟨hp,h⟩
 ·refine WS.fx 36 true (decide_eq_true hp) (WS.cT ?_)
  cases h
 ·refine WS.fx 36 false (decide_eq_false hp) (WS.cF (WS.ex 4 ?_))
  cases h
  exact fun a w hs=>sqE (lsB rfl (hs.sb 2))
theorem z54 {E m L H q1 x2 v21_3 x5_0 x5_1} :LoopF Tryz.prog (NE.plain 114) m E Tryz.f57 ((cfst (csnd (csnd (cfst (cfst (csnd (csnd (cfst (cfst (csnd (cfst (csnd B57))))))))))))) (zbe L H q1 x2 v21_3 x5_0 x5_1) (fun _=>H) 2 zm (zo H) (z36 L H q1 x2 v21_3 x5_0 x5_1):=by
 rintro v28_6 o h
 unfold z36 at h
 try dsimp only at h
 refine WS.sq (WS.rg (RS.mS 1 [kB 29 (decide (v28_6<(x5_1.n:Int)))] (RS.dn (WS.nxt (WS.sq ?_)))))
 rcases z0 h with ⟨hp,h⟩ | ⟨hp,h⟩
 ·refine WS.fx 29 true (decide_eq_true hp) (WS.cT (WS.sk (WS.nxt (WS.sq (WS.bk 3 (WS.sq (WS.rg ?_)))))))
  obtain ⟨p7,hx,h⟩:=bind_some h
  refine RS.ix 30 89 88 (.tmp 26) (.tmp 28) hx ?_
  obtain ⟨x8_0,hx0,h⟩:=bind_some h
  obtain ⟨x8_1,hx1,h⟩:=bind_some h
  refine RS.la 31 88 (.tmp 30) 2 (z2 (z1 hx0 z9) (z2 (z1 hx1 z3) za)) (RS.mL 2 [kL 6 1 0] ([some (91,[(Value.string x5_0),(Sl3.v x5_1)]),some (88,[(Value.string x8_0),(Sl3.v x8_1)])]) (RS.dn (WS.nxt (WS.sq (WS.rg (RS.mS 4 [kI 35 0,kI 34 (x8_1.n:Int),kS 33 x8_1,kL 32 1 1] (RS.dn (WS.nxt (WS.bk 4 ?_)))))))))
  obtain ⟨o,hl,h⟩:=bind_some h
  rcases o with v35_10 | r
  ·try dsimp only at h
   refine WS.lI (z4s (L:=L) (E:=E) (m:=m) (H:=H)) (L.ok hl) 2 ?_
   clear hl
   refine fun a w hs=>bkE (bkN ((WS.nxt ?_ a w hs)))
   refine WS.rg (RS.mS 2 [kI 28 (IntKind.i64.wrap (v28_6+1)),kI 47 (IntKind.i64.wrap (v28_6+1))] (RS.dn ?_))
   cases h
   exact fun a w hs=>lsN rfl (hs.sb 1)
  ·try dsimp only at h
   refine WS.lR (z4s (L:=L) (E:=E) (m:=m) (H:=H)) (L.ok hl) 2 ?_
   cases h
   exact fun a w hq=>bkR (bkR (sqR (lsR rfl hq)))
 ·refine WS.fx 29 false (decide_eq_false hp) (WS.cF (WS.ex 2 ?_))
  cases h
  exact fun a w hs=>sqE (lsB rfl (hs.sb 1))
theorem z53 {E m L H q1 x2} :LoopF Tryz.prog (NE.plain 114) m E Tryz.f57 ((cfst (csnd (cfst (csnd B57))))) (zbw L H q1 x2) (fun _=>H) 0 zm (zo H) (z37 L H q1 x2):=by
 rintro v21_3 o h
 unfold z37 at h
 try dsimp only at h
 refine WS.sq (WS.rg (RS.mS 1 [kB 22 (decide (v21_3<(x2.n:Int)))] (RS.dn (WS.nxt (WS.sq ?_)))))
 rcases z0 h with ⟨hp,h⟩ | ⟨hp,h⟩
 ·refine WS.fx 22 true (decide_eq_true hp) (WS.cT (WS.sk (WS.nxt (WS.sq (WS.bk 1 (WS.sq (WS.rg ?_)))))))
  obtain ⟨p4,hx,h⟩:=bind_some h
  refine RS.ix 23 29 91 (.tmp 19) (.tmp 21) hx ?_
  obtain ⟨x5_0,hx0,h⟩:=bind_some h
  obtain ⟨x5_1,hx1,h⟩:=bind_some h
  refine RS.la 24 91 (.tmp 23) 2 (z2 (z1 hx0 z9) (z2 (z1 hx1 z3) za)) (RS.mL 2 [kL 4 0 0] ([some (91,[(Value.string x5_0),(Sl3.v x5_1)])]) (RS.dn (WS.nxt (WS.sq (WS.rg (RS.mS 4 [kI 28 0,kI 27 (x5_1.n:Int),kS 26 x5_1,kL 25 0 1] (RS.dn (WS.nxt (WS.bk 2 ?_)))))))))
  obtain ⟨o,hl,h⟩:=bind_some h
  rcases o with v28_11 | r
  ·try dsimp only at h
   refine WS.lI (z54 (L:=L) (E:=E) (m:=m) (H:=H)) (L.ok hl) 1 ?_
   clear hl
   refine fun a w hs=>bkE (bkN ((WS.nxt ?_ a w hs)))
   refine WS.rg (RS.mS 2 [kI 21 (IntKind.i64.wrap (v21_3+1)),kI 48 (IntKind.i64.wrap (v21_3+1))] (RS.dn ?_))
   cases h
   exact fun a w hs=>lsN rfl (hs.sb 0)
  ·try dsimp only at h
   refine WS.lR (z54 (L:=L) (E:=E) (m:=m) (H:=H)) (L.ok hl) 1 ?_
   cases h
   exact fun a w hq=>bkR (bkR (sqR (lsR rfl hq)))
 ·refine WS.fx 22 false (decide_eq_false hp) (WS.cF (WS.ex 0 ?_))
  cases h
  exact fun a w hs=>sqE (lsB rfl (hs.sb 0))
theorem z51 {E m H L q1 x13 v55_15 x17_0 x17_1 x17_2 x17_3 x17_4 x17_5 s22 H23} :LoopF Tryz.prog (NE.plain 114) m E Tryz.f57 ((cfst (csnd (csnd (cfst (cfst (csnd (csnd (cfst (cfst (csnd (cfst (csnd (csnd B57)))))))))))))) (zc3 L q1 x13 v55_15 x17_0 x17_1 x17_2 x17_3 x17_4 x17_5 s22 H23) (fun _=>H23) 8 zm (zo H) (z39 L q1 x13 v55_15 x17_0 x17_1 x17_2 x17_3 x17_4 x17_5 s22 H23):=by
 rintro v67_24 o h
 unfold z39 at h
 try dsimp only at h
 refine WS.sq (WS.rg (RS.mS 1 [kB 68 (decide (v67_24<(s22.n:Int)))] (RS.dn (WS.nxt (WS.sq ?_)))))
 rcases z0 h with ⟨hp,h⟩ | ⟨hp,h⟩
 ·refine WS.fx 68 true (decide_eq_true hp) (WS.cT (WS.sk (WS.nxt (WS.sq (WS.bk 9 (WS.sq (WS.rg ?_)))))))
  obtain ⟨p25,hx,h⟩:=bind_some h
  refine RS.ix 69 57 59 (.tmp 65) (.tmp 67) hx ?_
  obtain ⟨x26_0,hx0,h⟩:=bind_some h
  obtain ⟨x26_1,hx1,h⟩:=bind_some h
  obtain ⟨x26_2,hx2,h⟩:=bind_some h
  obtain ⟨x26_3,hx3,h⟩:=bind_some h
  refine RS.la 70 59 (.tmp 69) 4 (z2 (z1 hx0 z8) (z2 (z1 hx1 z8) (z2 (z1 hx2 z9) (z2 (z1 hx3 z3) za)))) (RS.mL 2 [kL 13 2 0] ([some (93,[(Value.string x17_0),(Sl3.v x17_1),(Value.int .i64 x17_2),(Value.int .i64 x17_3),(Value.string x17_4),(Sl3.v x17_5)]),none,some (59,[(Value.int .i64 x26_0),(Value.int .i64 x26_1),(Value.string x26_2),(Sl3.v x26_3)])]) (RS.dn (WS.nxt (WS.sq (WS.rg (RS.mS 2 [kA 72 #[(Value.int .i64 x26_0),(Value.int .i64 x26_1),(Value.string x26_2),(Sl3.v x26_3)],kP 71 q1] ?_))))))
  obtain ⟨x27,hx,h⟩:=bind_some h
  refine RS.cl (some 73) (v:=(Value.int .i64 x27)) 77 #[(Value.pointer (some q1)),(Value.agg #[(Value.int .i64 x26_0),(Value.int .i64 x26_1),(Value.string x26_2),(Sl3.v x26_3)])] (z9r hx) (RS.mS 1 [kI 14 x27] (RS.dn (WS.nxt (WS.sq (WS.rg (RS.mS 2 [kB 75 (!decide (x27=0)),kI 74 x27] (RS.dn (WS.nxt ?_))))))))
  rcases z0 h with ⟨hp,h⟩ | ⟨hp,h⟩
  ·refine WS.fx 75 false (z2b hp) (WS.cF (WS.sk ?_))
   refine fun a w hs=>bkN ((WS.nxt ?_ a w hs))
   refine WS.rg (RS.mS 2 [kI 67 (IntKind.i64.wrap (v67_24+1)),kI 77 (IntKind.i64.wrap (v67_24+1))] (RS.dn ?_))
   cases h
   exact fun a w hs=>lsN rfl (hs.sb 2)
  ·refine WS.fx 75 true (z1k hp) (WS.cT ?_)
   cases h
 ·refine WS.fx 68 false (decide_eq_false hp) (WS.cF (WS.ex 8 ?_))
  cases h
  exact fun a w hs=>sqE (lsB rfl (hs.sb 2))
theorem z4x {E H L m q1 x13} :LoopF Tryz.prog (NE.plain 114) m E Tryz.f57 ((cfst (csnd (cfst (csnd (csnd B57)))))) (zbd L m q1 x13) (fun s=>s.1) 6 zm (zo H) (z3k L m q1 x13):=by
 rintro ⟨H14,v55_15⟩ o h
 unfold z3k at h
 try dsimp only at h
 refine WS.sq (WS.rg (RS.mS 1 [kB 56 (decide (v55_15<(x13.n:Int)))] (RS.dn (WS.nxt (WS.sq ?_)))))
 rcases z0 h with ⟨hp,h⟩ | ⟨hp,h⟩
 ·refine WS.fx 56 true (decide_eq_true hp) (WS.cT (WS.sk (WS.nxt (WS.sq (WS.bk 7 (WS.sq (WS.rg ?_)))))))
  obtain ⟨p16,hx,h⟩:=bind_some h
  refine RS.ix 57 30 93 (.tmp 53) (.tmp 55) hx ?_
  obtain ⟨x17_0,hx0,h⟩:=bind_some h
  obtain ⟨x17_1,hx1,h⟩:=bind_some h
  obtain ⟨x17_2,hx2,h⟩:=bind_some h
  obtain ⟨x17_3,hx3,h⟩:=bind_some h
  obtain ⟨x17_4,hx4,h⟩:=bind_some h
  obtain ⟨x17_5,hx5,h⟩:=bind_some h
  refine RS.la 58 93 (.tmp 57) 6 (z2 (z1 hx0 z9) (z2 (z1 hx1 z3) (z2 (z1 hx2 z8) (z2 (z1 hx3 z8) (z2 (z1 hx4 z9) (z2 (z1 hx5 z3) za)))))) (RS.mL 2 [kL 11 0 0] ([some (93,[(Value.string x17_0),(Sl3.v x17_1),(Value.int .i64 x17_2),(Value.int .i64 x17_3),(Value.string x17_4),(Sl3.v x17_5)])]) (RS.dn (WS.nxt (WS.sq ?_))))
  obtain ⟨⟨x18,H19⟩,hx_2,h⟩:=bind_some h
  try dsimp only at h
  obtain ⟨⟨k20,H21⟩,hx_k20,h⟩:=bind_some h
  try dsimp only at h
  obtain ⟨⟨s22,H23⟩,hx_6,h⟩:=bind_some h
  try dsimp only at h
  refine WS.toone ([kP 0 q1,kS 53 x13,kI 54 (x13.n:Int),kI 55 v55_15,kS 65 s22,kI 66 (s22.n:Int),kI 67 0]) ([some (93,[(Value.string x17_0),(Sl3.v x17_1),(Value.int .i64 x17_2),(Value.int .i64 x17_3),(Value.string x17_4),(Sl3.v x17_5)]),none]) H23 ?_ ?_
  ·clear h
   refine WS.dr [0,1] [0,1,3,0,8,24,63,127,0] 9 (fun hcl=>?_)
   refine DA.tL 0 (some 59) (.loc 0 1) (DA.tL 1 (some 60) (.val (Sl3.v x17_1)) (DA.tP 8 (some 67) (Value.int .i64 0) (DA.restart [0,1,3] (by kernel_rfl) (DA.tL 3 (some 62) (.loc 0 2) ?_))))
   refine DA.two 2 4 (by kernel_rfl) ?_ ?_
   ·refine DA.aCj 2 (some 61) true (v:=(Sl3.v x18)) 78 #[(Sl3.v x17_1)] (z4t hx_2) (DA.on 4 (DA.aL 4 (some 63) (.val (Value.agg #[(Value.int .i64 x17_2),(Value.int .i64 x17_3),(Value.string x17_4),(Sl3.v x17_5)])) ([some (93,[(Value.string x17_0),(Sl3.v x17_1),(Value.int .i64 x17_2),(Value.int .i64 x17_3),(Value.string x17_4),(Sl3.v x17_5)])]) true (DA.on 5 (DA.actS 5 (some 64) (.sli 1 1) ([some (93,[(Value.string x17_0),(Sl3.v x17_1),(Value.int .i64 x17_2),(Value.int .i64 x17_3),(Value.string x17_4),(Sl3.v x17_5)]),some (59,[(Value.int .i64 x17_2),(Value.int .i64 x17_3),(Value.string x17_4),(Sl3.v x17_5)])]) (by kernel_rfl) (by kernel_rfl) (by kernel_rfl) hcl (by kernel_rfl) (by kernel_rfl) (by kernel_rfl) (DA.on 6 (DA.pubK 1 _ _ hx_k20 (by kernel_rfl) rfl rfl (DA.aH (H':=H23) 6 (some 65) (Sl3.v s22) (Abs.run_app (x:=.tmp 61) (y:=.tmp 64) (ts:=#[57,57]) (s:=x18) (z:=(⟨some ⟨k20,0,none⟩,1,1⟩:Sl3)) (by kernel_rfl) (by kernel_rfl) (by kernel_rfl) (by kernel_rfl) hx_6) (DA.tP 7 (some 66) (Value.int .i64 (s22.n:Int)) (DA.dn ?_)))))))))
    exact fun a w hs=>jsN (hs.sb 2)
   ·refine DA.aL 4 (some 63) (.val (Value.agg #[(Value.int .i64 x17_2),(Value.int .i64 x17_3),(Value.string x17_4),(Sl3.v x17_5)])) ([some (93,[(Value.string x17_0),(Sl3.v x17_1),(Value.int .i64 x17_2),(Value.int .i64 x17_3),(Value.string x17_4),(Sl3.v x17_5)])]) true ?_
    refine DA.two 2 5 (by kernel_rfl) ?_ ?_
    ·refine DA.aCj 2 (some 61) true (v:=(Sl3.v x18)) 78 #[(Sl3.v x17_1)] (z4t hx_2) (DA.on 5 (DA.actS 5 (some 64) (.sli 1 1) ([some (93,[(Value.string x17_0),(Sl3.v x17_1),(Value.int .i64 x17_2),(Value.int .i64 x17_3),(Value.string x17_4),(Sl3.v x17_5)]),some (59,[(Value.int .i64 x17_2),(Value.int .i64 x17_3),(Value.string x17_4),(Sl3.v x17_5)])]) (by kernel_rfl) (by kernel_rfl) (by kernel_rfl) hcl (by kernel_rfl) (by kernel_rfl) (by kernel_rfl) (DA.on 6 (DA.pubK 1 _ _ hx_k20 (by kernel_rfl) rfl rfl (DA.aH (H':=H23) 6 (some 65) (Sl3.v s22) (Abs.run_app (x:=.tmp 61) (y:=.tmp 64) (ts:=#[57,57]) (s:=x18) (z:=(⟨some ⟨k20,0,none⟩,1,1⟩:Sl3)) (by kernel_rfl) (by kernel_rfl) (by kernel_rfl) (by kernel_rfl) hx_6) (DA.tP 7 (some 66) (Value.int .i64 (s22.n:Int)) (DA.dn ?_)))))))
     exact fun a w hs=>jsN (hs.sb 2)
    ·refine DA.actS 5 (some 64) (.sli 1 1) ([some (93,[(Value.string x17_0),(Sl3.v x17_1),(Value.int .i64 x17_2),(Value.int .i64 x17_3),(Value.string x17_4),(Sl3.v x17_5)]),some (59,[(Value.int .i64 x17_2),(Value.int .i64 x17_3),(Value.string x17_4),(Sl3.v x17_5)])]) (by kernel_rfl) (by kernel_rfl) (by kernel_rfl) hcl (by kernel_rfl) (by kernel_rfl) (by kernel_rfl) (DA.on 2 (DA.aCj 2 (some 61) false (v:=(Sl3.v x18)) 78 #[(Sl3.v x17_1)] (z4t hx_2) (DA.on 6 (DA.pubK 1 _ _ hx_k20 (by kernel_rfl) rfl rfl (DA.aH (H':=H23) 6 (some 65) (Sl3.v s22) (Abs.run_app (x:=.tmp 61) (y:=.tmp 64) (ts:=#[57,57]) (s:=x18) (z:=(⟨some ⟨k20,0,none⟩,1,1⟩:Sl3)) (by kernel_rfl) (by kernel_rfl) (by kernel_rfl) (by kernel_rfl) hx_6) (DA.tP 7 (some 66) (Value.int .i64 (s22.n:Int)) (DA.dn ?_)))))))
     exact fun a w hs=>jsN (hs.sb 2)
  ·refine WS.nxt (WS.bk 8 ?_)
   obtain ⟨o,hl,h⟩:=bind_some h
   rcases o with v67_28 | r
   ·try dsimp only at h
    refine WS.lI (z51 (L:=L) (E:=E) (m:=m) (H:=H)) (L.ok hl) 2 ?_
    clear hl
    refine fun a w hs=>bkE (bkN ((WS.nxt ?_ a w hs)))
    refine WS.rg (RS.mS 2 [kI 55 (IntKind.i64.wrap (v55_15+1)),kI 78 (IntKind.i64.wrap (v55_15+1))] (RS.dn ?_))
    cases h
    exact fun a w hs=>lsN rfl (hs.sb 0)
   ·try dsimp only at h
    refine WS.lR (z51 (L:=L) (E:=E) (m:=m) (H:=H)) (L.ok hl) 2 ?_
    cases h
    exact fun a w hq=>bkR (bkR (sqR (lsR rfl hq)))
 ·refine WS.fx 56 false (decide_eq_false hp) (WS.cF (WS.ex 6 ?_))
  cases h
  exact fun a w hs=>sqE (lsB rfl (hs.sb 0))
theorem zeb {L:LC} {m:Nat} {H:AH} {a0:Option Addr} {r:(Int×AH)} (h:z5a L m H a0=some r) :
  CallS Tryz.prog (NE.plain 114) m 57 #[(Value.pointer a0)] H (zm r) (zo H r):=by
 refine CallS.mk (args:=[(Value.pointer a0)]) Tryz.func57 (B:=B57) (by kernel_rfl) (fun E _=>?_)
 unfold z5a at h
 refine WS.sq (WS.rg (RS.mS 1 [kI 2 0] (RS.dn (WS.nxt (WS.sq (WS.sq (WS.rg (RS.mS 1 [(15,.val (Value.pointer a0))] ?_))))))))
 obtain ⟨q1,hx,hq1⟩:=bind_some h
 subst hx
 have h:=hq1
 refine RS.mS 3 [(18,.val (Value.pointer (some (Addr.add (Addr.add q1 0) 1)))),(17,.val (Value.pointer (some (Addr.add q1 0)))),kP 16 q1] ?_
 obtain ⟨x2,hx,h⟩:=bind_some h
 refine RS.ld 19 29 (.tmp 18) (z1 hx z3) (RS.mS 2 [kI 21 0,kI 20 (x2.n:Int)] (RS.dn (WS.nxt (WS.bk 0 ?_))))
 obtain ⟨o,hl,h⟩:=bind_some h
 rcases o with v21_12 | r
 ·try dsimp only at h
  refine WS.lI (z53 (L:=L) (E:=E) (m:=m) (H:=H)) (L.ok hl) 0 ?_
  clear hl
  refine fun a w hs=>bkE ((WS.nxt ?_ a w hs))
  refine WS.sq (WS.sq (WS.rg (RS.mS 4 [(52,.val (Value.pointer (some (Addr.add (Addr.add q1 0) 2)))),(51,.val (Value.pointer (some (Addr.add q1 0)))),kP 50 q1,kP 49 q1] ?_)))
  obtain ⟨x13,hx,h⟩:=bind_some h
  refine RS.ld 53 30 (.tmp 52) (z1 hx z3) (RS.mS 2 [kI 55 0,kI 54 (x13.n:Int)] (RS.dn (WS.nxt (WS.bk 6 ?_))))
  obtain ⟨o,hl,h⟩:=bind_some h
  rcases o with ⟨H29,v55_30⟩ | r
  ·try dsimp only at h
   refine WS.lI (z4x (L:=L) (E:=E) (m:=m) (H:=H)) (L.ok hl) 0 ?_
   clear hl
   refine fun a w hs=>bkE ((WS.nxt ?_ a w hs))
   refine WS.sq (WS.rg (RS.mS 1 [kI 2 0] (RS.dn (WS.nxt (WS.rt ?_)))))
   cases h
   exact fun a w hs=>rtR (rS hs)
  ·try dsimp only at h
   refine WS.lR (z4x (L:=L) (E:=E) (m:=m) (H:=H)) (L.ok hl) 0 ?_
   cases h
   exact fun a w hq=>bkR (sqR (rtR hq))
 ·try dsimp only at h
  refine WS.lR (z53 (L:=L) (E:=E) (m:=m) (H:=H)) (L.ok hl) 0 ?_
  cases h
  exact fun a w hq=>bkR (sqR (rtR hq))
def z23:(Bool×AH)→Value
 | (r0,_)=>(Value.bool r0)
def z2f (_:AH):(Bool×AH)→AH:=fun r=>r.2
noncomputable def B58:Code:=(Tryz.f58.body).getD .skip
noncomputable def z49 (_L:LC) (_a1:Sl3) (_q1:Addr) (_x2:Sl3) (_v19_4:Int) (_x6_0:ByteArray) (_x6_1:Sl3) (_v27_8:Int) (_x10_0:ByteArray) (x10_1:Sl3):(AH×Int)→Option (Lp (AH×Int) (Bool×AH)):=fun (H11,v34_12) =>
 if v34_12<(x10_1.n:Int) then
  none
 else
  some (.brk (H11,v34_12))
def zdq (_L:LC) (a1:Sl3) (q1:Addr) (x2:Sl3) (v19_4:Int) (x6_0:ByteArray) (x6_1:Sl3) (v27_8:Int) (x10_0:ByteArray) (x10_1:Sl3):(AH×Int)→KN×Lcs:=fun (_,v34_12)=>([kI 34 v34_12,kP 0 q1,kS 1 a1,kI 5 v19_4,kS 17 x2,kI 18 (x2.n:Int),kI 19 v19_4,kS 25 x6_1,kI 26 (x6_1.n:Int),kI 27 v27_8,kS 32 x10_1,kI 33 (x10_1.n:Int)],[some (91,[(Value.string x6_0),(Sl3.v x6_1)]),some (88,[(Value.string x10_0),(Sl3.v x10_1)])])
noncomputable def z4c (L:LC) (a1:Sl3) (q1:Addr) (x2:Sl3) (v19_4:Int) (x6_0:ByteArray) (x6_1:Sl3):(AH×Int)→Option (Lp (AH×Int) (Bool×AH)):=fun (H7,v27_8) =>
 if v27_8<(x6_1.n:Int) then
  Option.bind (idxA 2 x6_1 v27_8) fun p9 =>
  Option.bind (rd deS H7 (Addr.add p9 0)) fun x10_0 =>
  Option.bind (rd deSl H7 (Addr.add p9 1)) fun x10_1 =>
  Option.bind (L.run (z49 L a1 q1 x2 v19_4 x6_0 x6_1 v27_8 x10_0 x10_1) (H7,0)) fun o=>match o with
  | .inl (H13,_) =>
   some (.next (H13,(IntKind.i64.wrap (v27_8+1))))
  | .inr r=>some (.ret r)
 else
  some (.brk (H7,v27_8))
def zdf (_L:LC) (a1:Sl3) (q1:Addr) (x2:Sl3) (v19_4:Int) (x6_0:ByteArray) (x6_1:Sl3):(AH×Int)→KN×Lcs:=fun (_,v27_8)=>([kI 27 v27_8,kP 0 q1,kS 1 a1,kI 5 v19_4,kS 17 x2,kI 18 (x2.n:Int),kI 19 v19_4,kS 25 x6_1,kI 26 (x6_1.n:Int)],[some (91,[(Value.string x6_0),(Sl3.v x6_1)])])
noncomputable def z47 (L:LC) (a1:Sl3) (q1:Addr) (x2:Sl3):(AH×Int)→Option (Lp (AH×Int) (Bool×AH)):=fun (H3,v19_4) =>
 if v19_4<(x2.n:Int) then
  Option.bind (idxA 2 x2 v19_4) fun p5 =>
  Option.bind (rd deS H3 (Addr.add p5 0)) fun x6_0 =>
  Option.bind (rd deSl H3 (Addr.add p5 1)) fun x6_1 =>
  Option.bind (L.run (z4c L a1 q1 x2 v19_4 x6_0 x6_1) (H3,0)) fun o=>match o with
  | .inl (H15,_) =>
   some (.next (H15,(IntKind.i64.wrap (v19_4+1))))
  | .inr r=>some (.ret r)
 else
  some (.brk (H3,v19_4))
def zds (_L:LC) (a1:Sl3) (q1:Addr) (x2:Sl3):(AH×Int)→KN×Lcs:=fun (_,v19_4)=>([kI 19 v19_4,kP 0 q1,kS 1 a1,kS 17 x2,kI 18 (x2.n:Int)],[])
noncomputable def z70 (L:LC) (_m:Nat) (H:AH) (a0:Option Addr) (a1:Sl3):Option (Bool×AH) :=
 Option.bind a0 fun q1 =>
 Option.bind (rd deSl H (Addr.add (Addr.add q1 0) 1)) fun x2 =>
 Option.bind (L.run (z47 L a1 q1 x2) (H,0)) fun o=>match o with
 | .inl (H17,_) =>
  some (false,H17)
 | .inr r=>some r
theorem z69 {E m H L a1 q1 x2 v19_4 x6_0 x6_1 v27_8 x10_0 x10_1} :LoopF Tryz.prog (NE.plain 114) m E Tryz.f58 ((cfst (csnd (csnd (cfst (cfst (csnd (csnd (cfst (cfst (csnd (csnd (cfst (cfst (csnd (csnd (cfst (cfst (csnd (cfst (csnd B58))))))))))))))))))))) (zdq L a1 q1 x2 v19_4 x6_0 x6_1 v27_8 x10_0 x10_1) (fun s=>s.1) 4 z23 (z2f H) (z49 L a1 q1 x2 v19_4 x6_0 x6_1 v27_8 x10_0 x10_1):=by
 rintro ⟨H11,v34_12⟩ o h
 unfold z49 at h
 try dsimp only at h
 refine WS.sq (WS.rg (RS.mS 1 [kB 35 (decide (v34_12<(x10_1.n:Int)))] (RS.dn (WS.nxt (WS.sq ?_)))))
 rcases z0 h with ⟨hp,h⟩ | ⟨hp,h⟩
 ·refine WS.fx 35 true (decide_eq_true hp) (WS.cT ?_)
  cases h
 ·refine WS.fx 35 false (decide_eq_false hp) (WS.cF (WS.ex 4 ?_))
  cases h
  exact fun a w hs=>sqE (lsB rfl (hs.sb 2))
theorem z6l {E m H L a1 q1 x2 v19_4 x6_0 x6_1} :LoopF Tryz.prog (NE.plain 114) m E Tryz.f58 ((cfst (csnd (csnd (cfst (cfst (csnd (csnd (cfst (cfst (csnd (cfst (csnd B58))))))))))))) (zdf L a1 q1 x2 v19_4 x6_0 x6_1) (fun s=>s.1) 2 z23 (z2f H) (z4c L a1 q1 x2 v19_4 x6_0 x6_1):=by
 rintro ⟨H7,v27_8⟩ o h
 unfold z4c at h
 try dsimp only at h
 refine WS.sq (WS.rg (RS.mS 1 [kB 28 (decide (v27_8<(x6_1.n:Int)))] (RS.dn (WS.nxt (WS.sq ?_)))))
 rcases z0 h with ⟨hp,h⟩ | ⟨hp,h⟩
 ·refine WS.fx 28 true (decide_eq_true hp) (WS.cT (WS.sk (WS.nxt (WS.sq (WS.bk 3 (WS.sq (WS.rg ?_)))))))
  obtain ⟨p9,hx,h⟩:=bind_some h
  refine RS.ix 29 89 88 (.tmp 25) (.tmp 27) hx ?_
  obtain ⟨x10_0,hx0,h⟩:=bind_some h
  obtain ⟨x10_1,hx1,h⟩:=bind_some h
  refine RS.la 30 88 (.tmp 29) 2 (z2 (z1 hx0 z9) (z2 (z1 hx1 z3) za)) (RS.mL 2 [kL 8 1 0] ([some (91,[(Value.string x6_0),(Sl3.v x6_1)]),some (88,[(Value.string x10_0),(Sl3.v x10_1)])]) (RS.dn (WS.nxt (WS.sq (WS.rg (RS.mS 4 [kI 34 0,kI 33 (x10_1.n:Int),kS 32 x10_1,kL 31 1 1] (RS.dn (WS.nxt (WS.bk 4 ?_)))))))))
  obtain ⟨o,hl,h⟩:=bind_some h
  rcases o with ⟨H13,v34_14⟩ | r
  ·try dsimp only at h
   refine WS.lI (z69 (L:=L) (E:=E) (m:=m) (H:=H)) (L.ok hl) 2 ?_
   clear hl
   refine fun a w hs=>bkE (bkN ((WS.nxt ?_ a w hs)))
   refine WS.rg (RS.mS 2 [kI 27 (IntKind.i64.wrap (v27_8+1)),kI 61 (IntKind.i64.wrap (v27_8+1))] (RS.dn ?_))
   cases h
   exact fun a w hs=>lsN rfl (hs.sb 1)
  ·try dsimp only at h
   refine WS.lR (z69 (L:=L) (E:=E) (m:=m) (H:=H)) (L.ok hl) 2 ?_
   cases h
   exact fun a w hq=>bkR (bkR (sqR (lsR rfl hq)))
 ·refine WS.fx 28 false (decide_eq_false hp) (WS.cF (WS.ex 2 ?_))
  cases h
  exact fun a w hs=>sqE (lsB rfl (hs.sb 1))
theorem z6a {E m H L a1 q1 x2} :LoopF Tryz.prog (NE.plain 114) m E Tryz.f58 ((cfst (csnd (cfst (csnd B58))))) (zds L a1 q1 x2) (fun s=>s.1) 0 z23 (z2f H) (z47 L a1 q1 x2):=by
 rintro ⟨H3,v19_4⟩ o h
 unfold z47 at h
 try dsimp only at h
 refine WS.sq (WS.rg (RS.mS 1 [kB 20 (decide (v19_4<(x2.n:Int)))] (RS.dn (WS.nxt (WS.sq ?_)))))
 rcases z0 h with ⟨hp,h⟩ | ⟨hp,h⟩
 ·refine WS.fx 20 true (decide_eq_true hp) (WS.cT (WS.sk (WS.nxt (WS.sq (WS.bk 1 (WS.sq (WS.rg (RS.mS 1 [kI 21 v19_4] ?_))))))))
  obtain ⟨p5,hx,h⟩:=bind_some h
  refine RS.ix 22 29 91 (.tmp 17) (.tmp 19) hx ?_
  obtain ⟨x6_0,hx0,h⟩:=bind_some h
  obtain ⟨x6_1,hx1,h⟩:=bind_some h
  refine RS.la 23 91 (.tmp 22) 2 (z2 (z1 hx0 z9) (z2 (z1 hx1 z3) za)) (RS.mL 3 [kI 5 v19_4,kL 6 0 0] ([some (91,[(Value.string x6_0),(Sl3.v x6_1)])]) (RS.dn (WS.nxt (WS.sq (WS.rg (RS.mS 4 [kI 27 0,kI 26 (x6_1.n:Int),kS 25 x6_1,kL 24 0 1] (RS.dn (WS.nxt (WS.bk 2 ?_)))))))))
  obtain ⟨o,hl,h⟩:=bind_some h
  rcases o with ⟨H15,v27_16⟩ | r
  ·try dsimp only at h
   refine WS.lI (z6l (L:=L) (E:=E) (m:=m) (H:=H)) (L.ok hl) 1 ?_
   clear hl
   refine fun a w hs=>bkE (bkN ((WS.nxt ?_ a w hs)))
   refine WS.rg (RS.mS 2 [kI 19 (IntKind.i64.wrap (v19_4+1)),kI 62 (IntKind.i64.wrap (v19_4+1))] (RS.dn ?_))
   cases h
   exact fun a w hs=>lsN rfl (hs.sb 0)
  ·try dsimp only at h
   refine WS.lR (z6l (L:=L) (E:=E) (m:=m) (H:=H)) (L.ok hl) 1 ?_
   cases h
   exact fun a w hq=>bkR (bkR (sqR (lsR rfl hq)))
 ·refine WS.fx 20 false (decide_eq_false hp) (WS.cF (WS.ex 0 ?_))
  cases h
  exact fun a w hs=>sqE (lsB rfl (hs.sb 0))
theorem zft {L:LC} {m:Nat} {H:AH} {a0:Option Addr} {a1:Sl3} {r:(Bool×AH)} (h:z70 L m H a0 a1=some r) :
  CallS Tryz.prog (NE.plain 114) m 58 #[(Value.pointer a0),(Sl3.v a1)] H (z23 r) (z2f H r):=by
 refine CallS.mk (args:=[(Value.pointer a0),(Sl3.v a1)]) Tryz.func58 (B:=B58) (by kernel_rfl) (fun E _=>?_)
 unfold z70 at h
 refine WS.sq (WS.rg (RS.mS 1 [kB 4 false] (RS.dn (WS.nxt (WS.sq (WS.sq (WS.rg (RS.mS 1 [(13,.val (Value.pointer a0))] ?_))))))))
 obtain ⟨q1,hx,hq1⟩:=bind_some h
 subst hx
 have h:=hq1
 refine RS.mS 3 [(16,.val (Value.pointer (some (Addr.add (Addr.add q1 0) 1)))),(15,.val (Value.pointer (some (Addr.add q1 0)))),kP 14 q1] ?_
 obtain ⟨x2,hx,h⟩:=bind_some h
 refine RS.ld 17 29 (.tmp 16) (z1 hx z3) (RS.mS 2 [kI 19 0,kI 18 (x2.n:Int)] (RS.dn (WS.nxt (WS.bk 0 ?_))))
 obtain ⟨o,hl,h⟩:=bind_some h
 rcases o with ⟨H17,v19_18⟩ | r
 ·try dsimp only at h
  refine WS.lI (z6a (L:=L) (E:=E) (m:=m) (H:=H)) (L.ok hl) 0 ?_
  clear hl
  refine fun a w hs=>bkE ((WS.nxt ?_ a w hs))
  refine WS.sq (WS.rg (RS.mS 1 [kB 4 false] (RS.dn (WS.nxt (WS.rt ?_)))))
  cases h
  exact fun a w hs=>rtR (rS hs)
 ·try dsimp only at h
  refine WS.lR (z6a (L:=L) (E:=E) (m:=m) (H:=H)) (L.ok hl) 0 ?_
  cases h
  exact fun a w hq=>bkR (sqR (rtR hq))
def zbr:Int→Value
 | r0=>(Value.int .i64 r0)
def zcw (H:AH):Int→AH:=fun _=>H
noncomputable def B81:Code:=(Tryz.f81.body).getD .skip
noncomputable def z80 (_L:LC) (H:AH) (a0:Sl3) (a1:Bool):Int→Option (Lp Int Int):=fun v8_1 =>
 if v8_1<(a0.n:Int) then
  Option.bind (idxA 1 a0 v8_1) fun p2 =>
  Option.bind (rd deB H p2) fun x3 =>
  if (a1 == x3)=true then
   none
  else
   some (.next (IntKind.i64.wrap (v8_1+1)))
 else
  some (.brk v8_1)
def zh8 (_L:LC) (_H:AH) (a0:Sl3) (a1:Bool):Int→KN×Lcs:=fun v8_1=>([kI 8 v8_1,kS 0 a0,kB 1 a1,kI 7 (a0.n:Int)],[])
noncomputable def zbs (L:LC) (H:AH) (a0:Sl3) (a1:Bool):Option Int :=
 Option.bind (L.run (z80 L H a0 a1) 0) fun o=>match o with
 | .inl _ =>
  some (-1)
 | .inr r=>some r
theorem z9q {E m L H a0 a1} :LoopF Tryz.prog (NE.plain 114) m E Tryz.f81 ((cfst (csnd (cfst (csnd B81))))) (zh8 L H a0 a1) (fun _=>H) 0 zbr (zcw H) (z80 L H a0 a1):=by
 rintro v8_1 o h
 unfold z80 at h
 try dsimp only at h
 refine WS.sq (WS.rg (RS.mS 1 [kB 9 (decide (v8_1<(a0.n:Int)))] (RS.dn (WS.nxt (WS.sq ?_)))))
 rcases z0 h with ⟨hp,h⟩ | ⟨hp,h⟩
 ·refine WS.fx 9 true (decide_eq_true hp) (WS.cT (WS.sk (WS.nxt (WS.sq (WS.bk 1 (WS.sq (WS.rg (RS.mS 2 [kI 5 v8_1,kI 10 v8_1] (RS.dn ?_)))))))))
  refine WS.nxt (WS.sq (WS.rg (RS.mS 3 [kI 13 v8_1,kS 12 a0,kB 11 a1] ?_)))
  obtain ⟨p2,hx,h⟩:=bind_some h
  refine RS.ix 14 98 4 (.tmp 12) (.tmp 13) hx ?_
  obtain ⟨x3,hx,h⟩:=bind_some h
  refine RS.ld 15 4 (.tmp 14) (z1 hx z5n) (RS.mS 1 [kB 16 (a1 == x3)] (RS.dn (WS.nxt ?_)))
  rcases z0 h with ⟨hp,h⟩ | ⟨hp,h⟩
  ·refine WS.fx 16 true hp (WS.cT ?_)
   cases h
  ·refine WS.fx 16 false (b_not hp) (WS.cF (WS.sk ?_))
   refine fun a w hs=>bkN ((WS.nxt ?_ a w hs))
   refine WS.rg (RS.mS 2 [kI 8 (IntKind.i64.wrap (v8_1+1)),kI 18 (IntKind.i64.wrap (v8_1+1))] (RS.dn ?_))
   cases h
   exact fun a w hs=>lsN rfl (hs.sb 0)
 ·refine WS.fx 9 false (decide_eq_false hp) (WS.cF (WS.ex 0 ?_))
  cases h
  exact fun a w hs=>sqE (lsB rfl (hs.sb 0))
theorem zjo {L:LC} {m:Nat} {H:AH} {a0:Sl3} {a1:Bool} {r:Int} (h:zbs L H a0 a1=some r) :
  CallS Tryz.prog (NE.plain 114) m 81 #[(Sl3.v a0),(Value.bool a1)] H (zbr r) (zcw H r):=by
 refine CallS.mk (args:=[(Sl3.v a0),(Value.bool a1)]) Tryz.func81 (B:=B81) (by kernel_rfl) (fun E _=>?_)
 unfold zbs at h
 refine WS.sq (WS.rg (RS.mS 1 [kI 4 0] (RS.dn (WS.nxt (WS.sq (WS.sq (WS.rg (RS.mS 3 [kI 8 0,kI 7 (a0.n:Int),kS 6 a0] (RS.dn ?_)))))))))
 refine WS.nxt (WS.bk 0 ?_)
 obtain ⟨o,hl,h⟩:=bind_some h
 rcases o with v8_4 | r
 ·try dsimp only at h
  refine WS.lI (z9q (L:=L) (E:=E) (m:=m) (H:=H)) (L.ok hl) 0 ?_
  clear hl
  refine fun a w hs=>bkE ((WS.nxt ?_ a w hs))
  refine WS.sq (WS.rg (RS.mS 1 [kI 4 (-1)] (RS.dn (WS.nxt (WS.rt ?_)))))
  cases h
  exact fun a w hs=>rtR (rS hs)
 ·try dsimp only at h
  refine WS.lR (z9q (L:=L) (E:=E) (m:=m) (H:=H)) (L.ok hl) 0 ?_
  cases h
  exact fun a w hq=>bkR (sqR (rtR hq))
def zg6:Bool→Value
 | r0=>(Value.bool r0)
def zh0 (H:AH):Bool→AH:=fun _=>H
noncomputable def B60:Code:=(Tryz.f60.body).getD .skip
noncomputable def z88 (L:LC) (H:AH) (a0:Sl3) (a1:Bool):Option Bool :=
 Option.bind (zbs L H a0 a1) fun x1 =>
 some (decide (x1≥0))
theorem zgn {L:LC} {m:Nat} {H:AH} {a0:Sl3} {a1 r:Bool} (h:z88 L H a0 a1=some r) :
  CallS Tryz.prog (NE.plain 114) m 60 #[(Sl3.v a0),(Value.bool a1)] H (zg6 r) (zh0 H r):=by
 refine CallS.mk (args:=[(Sl3.v a0),(Value.bool a1)]) Tryz.func60 (B:=B60) (by kernel_rfl) (fun E _=>?_)
 unfold z88 at h
 refine WS.sq (WS.rg (RS.mS 1 [kB 4 false] (RS.dn (WS.nxt (WS.sq (WS.rg (RS.mS 2 [kB 6 a1,kS 5 a0] ?_)))))))
 obtain ⟨x1,hx,h⟩:=bind_some h
 refine RS.cl (some 7) (v:=(Value.int .i64 x1)) 81 #[(Sl3.v a0),(Value.bool a1)] (zjo hx) (RS.mS 2 [kB 4 (decide (x1≥0)),kB 8 (decide (x1≥0))] (RS.dn (WS.nxt (WS.rt ?_))))
 cases h
 exact fun a w hs=>rtR (rS hs)
def z3a:Int→Value
 | r0=>(Value.int .i64 r0)
def z3m (H:AH):Int→AH:=fun _=>H
noncomputable def B105:Code:=(Tryz.f105.body).getD .skip
noncomputable def z1q (_L:LC) (_H:AH) (a0:Sl3) (_a1_0 _a1_1:Option Addr):Int→Option (Lp Int Int):=fun v8_1 =>
 if v8_1<(a0.n:Int) then
  none
 else
  some (.brk v8_1)
def z81 (_L:LC) (_H:AH) (a0:Sl3) (a1_0 a1_1:Option Addr):Int→KN×Lcs:=fun v8_1=>([kI 8 v8_1,kS 0 a0,(1,.val (Value.func (.func 83) #[] #[(Value.pointer a1_0),(Value.pointer a1_1)])),kI 7 (a0.n:Int)],[])
noncomputable def z2e (L:LC) (H:AH) (a0:Sl3) (a1_0 a1_1:Option Addr):Option Int :=
 Option.bind (L.run (z1q L H a0 a1_0 a1_1) 0) fun o=>match o with
 | .inl _ =>
  some (-1)
 | .inr r=>some r
theorem z2s {E m L H a0 a1_0 a1_1} :LoopF Tryz.prog (NE.plain 114) m E Tryz.f105 ((cfst (csnd (cfst (csnd B105))))) (z81 L H a0 a1_0 a1_1) (fun _=>H) 0 z3a (z3m H) (z1q L H a0 a1_0 a1_1):=by
 rintro v8_1 o h
 unfold z1q at h
 try dsimp only at h
 refine WS.sq (WS.rg (RS.mS 1 [kB 9 (decide (v8_1<(a0.n:Int)))] (RS.dn (WS.nxt (WS.sq ?_)))))
 rcases z0 h with ⟨hp,h⟩ | ⟨hp,h⟩
 ·refine WS.fx 9 true (decide_eq_true hp) (WS.cT ?_)
  cases h
 ·refine WS.fx 9 false (decide_eq_false hp) (WS.cF (WS.ex 0 ?_))
  cases h
  exact fun a w hs=>sqE (lsB rfl (hs.sb 0))
theorem z9u {L:LC} {m:Nat} {H:AH} {a0:Sl3} {a1_0 a1_1:Option Addr} {r:Int} (h:z2e L H a0 a1_0 a1_1=some r) :
  CallS Tryz.prog (NE.plain 114) m 105 #[(Sl3.v a0),(Value.func (.func 83) #[] #[(Value.pointer a1_0),(Value.pointer a1_1)])] H (z3a r) (z3m H r):=by
 refine CallS.mk (args:=[(Sl3.v a0),(Value.func (.func 83) #[] #[(Value.pointer a1_0),(Value.pointer a1_1)])]) Tryz.func105 (B:=B105) (by kernel_rfl) (fun E _=>?_)
 unfold z2e at h
 refine WS.sq (WS.rg (RS.mS 1 [kI 4 0] (RS.dn (WS.nxt (WS.sq (WS.sq (WS.rg (RS.mS 3 [kI 8 0,kI 7 (a0.n:Int),kS 6 a0] (RS.dn ?_)))))))))
 refine WS.nxt (WS.bk 0 ?_)
 obtain ⟨o,hl,h⟩:=bind_some h
 rcases o with v8_2 | r
 ·try dsimp only at h
  refine WS.lI (z2s (L:=L) (E:=E) (m:=m) (H:=H)) (L.ok hl) 0 ?_
  clear hl
  refine fun a w hs=>bkE ((WS.nxt ?_ a w hs))
  refine WS.sq (WS.rg (RS.mS 1 [kI 4 (-1)] (RS.dn (WS.nxt (WS.rt ?_)))))
  cases h
  exact fun a w hs=>rtR (rS hs)
 ·try dsimp only at h
  refine WS.lR (z2s (L:=L) (E:=E) (m:=m) (H:=H)) (L.ok hl) 0 ?_
  cases h
  exact fun a w hq=>bkR (sqR (rtR hq))
def z7s:Bool→Value
 | r0=>(Value.bool r0)
def z8c (H:AH):Bool→AH:=fun _=>H
noncomputable def B82:Code:=(Tryz.f82.body).getD .skip
noncomputable def z1y (L:LC) (H:AH) (a0:Sl3) (a1_0 a1_1:Option Addr):Option Bool :=
 Option.bind (z2e L H a0 a1_0 a1_1) fun x1 =>
 some (decide (x1≥0))
theorem z8b {L:LC} {m:Nat} {H:AH} {a0:Sl3} {a1_0 a1_1:Option Addr} {r:Bool} (h:z1y L H a0 a1_0 a1_1=some r) :
  CallS Tryz.prog (NE.plain 114) m 82 #[(Sl3.v a0),(Value.func (.func 83) #[] #[(Value.pointer a1_0),(Value.pointer a1_1)])] H (z7s r) (z8c H r):=by
 refine CallS.mk (args:=[(Sl3.v a0),(Value.func (.func 83) #[] #[(Value.pointer a1_0),(Value.pointer a1_1)])]) Tryz.func82 (B:=B82) (by kernel_rfl) (fun E _=>?_)
 unfold z1y at h
 refine WS.sq (WS.rg (RS.mS 1 [kB 4 false] (RS.dn (WS.nxt (WS.sq (WS.rg (RS.mS 2 [(6,.val (Value.func (.func 83) #[] #[(Value.pointer a1_0),(Value.pointer a1_1)])),kS 5 a0] ?_)))))))
 obtain ⟨x1,hx,h⟩:=bind_some h
 refine RS.cl (some 7) (v:=(Value.int .i64 x1)) 105 #[(Sl3.v a0),(Value.func (.func 83) #[] #[(Value.pointer a1_0),(Value.pointer a1_1)])] (z9u hx) (RS.mS 2 [kB 4 (decide (x1≥0)),kB 8 (decide (x1≥0))] (RS.dn (WS.nxt (WS.rt ?_))))
 cases h
 exact fun a w hs=>rtR (rS hs)
end Go.Proofs.YthhbfmgipdbilaaGreatDoor
namespace Go.Proofs.YthhbfmgipdbilaaGreatDoor
open Go Go.Abs
set_option maxRecDepth 100000
def z22:(Sl3×AH)→Value
 | (r0,_)=>(Sl3.v r0)
def z2h (_:AH):(Sl3×AH)→AH:=fun r=>r.2
noncomputable def B61:Code:=(Tryz.f61.body).getD .skip
noncomputable def z4h (L:LC) (m:Nat) (p1 p8:Addr) (_x14:Sl3) (v21_17:Int) (_x19_0:ByteArray) (x19_1:Sl3):(AH×Int)→Option (Lp (AH×Int) ((Sl3×AH)⊕AH)):=fun (H24,v33_25) =>
 if v33_25<(x19_1.n:Int) then
  Option.bind (idxA 2 x19_1 v33_25) fun p26 =>
  Option.bind (rd deS H24 (Addr.add p26 0)) fun _ =>
  Option.bind (rd deSl H24 (Addr.add p26 1)) fun x27_1 =>
  Option.bind (z1y L H24 x27_1 (some p1) (some p8)) fun x28 =>
  if x28=true then
   none
  else
   Option.bind (rd deSl H24 p8) fun x29 =>
   Option.bind (idxA 1 x29 v21_17) fun p30 =>
   Option.bind (H24.setCell m p30 (Value.bool true)) fun H31 =>
   some (.ret (.inr H31))
 else
  none
def z6c (_L:LC) (_m:Nat) (p1 p8:Addr) (x14:Sl3) (v21_17:Int) (_x19_0:ByteArray) (x19_1:Sl3):(AH×Int)→KN:=fun (_,v33_25)=>[kI 33 v33_25,kP 1 p1,kP 3 p8,kI 4 v21_17,kS 19 x14,kI 20 (x14.n:Int),kI 21 v21_17,kS 31 x19_1,kI 32 (x19_1.n:Int)]
def z6j (_L:LC) (_m:Nat) (_p1 _p8:Addr) (_x14:Sl3) (_v21_17:Int) (x19_0:ByteArray) (x19_1:Sl3):(AH×Int)→Lcs:=fun (_,_)=>[some (91,[(Value.string x19_0),(Sl3.v x19_1)])]
def zck (_L:LC) (_m:Nat) (p1 p8:Addr) (_x14:Sl3) (_v21_17:Int) (_x19_0:ByteArray) (_x19_1:Sl3):AH→KN:=fun _=>[kP 1 p1,kP 3 p8]
def zcl (_L:LC) (_m:Nat) (_p1 _p8:Addr) (_x14:Sl3) (_v21_17:Int) (x19_0:ByteArray) (x19_1:Sl3):AH→Lcs:=fun _=>[some (91,[(Value.string x19_0),(Sl3.v x19_1)])]
noncomputable def z42 (L:LC) (m:Nat) (p1 p8:Addr) (x14:Sl3):(AH×Int)→Option (Lp (AH×Int) ((Sl3×AH)⊕AH)):=fun (H16,v21_17) =>
 if v21_17<(x14.n:Int) then
  Option.bind (idxA 2 x14 v21_17) fun p18 =>
  Option.bind (rd deS H16 (Addr.add p18 0)) fun x19_0 =>
  Option.bind (rd deSl H16 (Addr.add p18 1)) fun x19_1 =>
  Option.bind (rd deSl H16 p8) fun x20 =>
  Option.bind (idxA 1 x20 v21_17) fun p21 =>
  Option.bind (rd deB H16 p21) fun x22 =>
  if x22=true then
   some (.next (H16,(IntKind.i64.wrap (v21_17+1))))
  else
   Option.bind (L.run (z4h L m p1 p8 x14 v21_17 x19_0 x19_1) (H16,0)) fun o=>match o with
   | .inl (H32,_) =>
    some (.next (H32,(IntKind.i64.wrap (v21_17+1))))
   | .inr (.inl r)=>some (.ret (.inl r))
   | .inr (.inr H34) =>
    some (.ret (.inr H34))
 else
  some (.brk (H16,v21_17))
def z6b (_L:LC) (_m:Nat) (p1 p8:Addr) (x14:Sl3):(AH×Int)→KN:=fun (_,v21_17)=>[kI 21 v21_17,kP 1 p1,kP 3 p8,kS 19 x14,kI 20 (x14.n:Int)]
def z6f (_L:LC) (_m:Nat) (_p1 _p8:Addr) (_x14:Sl3):(AH×Int)→Lcs:=fun (_,_)=>[]
def zch (_L:LC) (_m:Nat) (p1 p8:Addr) (_x14:Sl3):AH→KN:=fun _=>[kP 1 p1,kP 3 p8]
def zcb (_L:LC) (_m:Nat) (_p1 _p8:Addr) (_x14:Sl3):AH→Lcs:=fun _=>[]
noncomputable def z43 (L:LC) (m:Nat) (p1 p8:Addr):AH→Option (Lp AH (Sl3×AH)):=fun H11 =>
 Option.bind (rd deP H11 p1) fun x12 =>
 Option.bind x12 fun q13 =>
 Option.bind (rd deSl H11 (Addr.add (Addr.add q13 0) 1)) fun x14 =>
 Option.bind (L.run (z42 L m p1 p8 x14) (H11,0)) fun o=>match o with
 | .inl (H35,_) =>
  some (.brk H35)
 | .inr (.inl r)=>some (.ret r)
 | .inr (.inr H37) =>
  some (.next H37)
def zdn (_L:LC) (_m:Nat) (p1 p8:Addr):AH→KN×Lcs:=fun _=>([kP 1 p1,kP 3 p8],[])
noncomputable def z6w (L:LC) (m:Nat) (H:AH) (a0:Option Addr):Option (Sl3×AH) :=
 Option.bind (newB 140 [(Value.pointer a0)] H) fun (p1,H2) =>
 Option.bind (rd deP H2 p1) fun x3 =>
 Option.bind x3 fun q4 =>
 Option.bind (rd deSl H2 (Addr.add (Addr.add q4 0) 1)) fun x5 =>
 Option.bind (mkS 4 1 1 #[(Value.bool false)] H2 (x5.n:Int) (x5.n:Int)) fun (s6,H7) =>
 Option.bind (newB 98 [(Sl3.v Sl3.nil)] H7) fun (p8,H9) =>
 Option.bind (H9.setCell m p8 (Sl3.v s6)) fun H10 =>
 Option.bind (L.run (z43 L m p1 p8) H10) fun o=>match o with
 | .inl H38 =>
  Option.bind (rd deSl H38 p8) fun x39 =>
  some (x39,H38)
 | .inr r=>some r
theorem z2y {E:Ent} {H:AH} {L:LC} {m:Nat} {p1 p8:Addr} {x14:Sl3} {v21_17:Int} {x19_0:ByteArray} {x19_1:Sl3} :∀s o,z4h L m p1 p8 x14 v21_17 x19_0 x19_1 s=some o →
  WS Tryz.prog (NE.plain 114) m E Tryz.f61.ntmps (cfst (cfst (csnd (csnd (csnd (cfst (cfst (csnd (csnd (cfst (cfst (csnd (cfst (cfst (cfst (cfst (cfst (csnd (csnd (cfst (csnd B61))))))))))))))))))))) (z6c L m p1 p8 x14 v21_17 x19_0 x19_1 s) (z6j L m p1 p8 x14 v21_17 x19_0 x19_1 s) ((fun s=>s.1) s) (lpX Tryz.prog (NE.plain 114) m E Tryz.f61.ntmps (z6c L m p1 p8 x14 v21_17 x19_0 x19_1) (z6j L m p1 p8 x14 v21_17 x19_0 x19_1) (fun s=>s.1) 4 (fun r e a w=>match r with | .inl r=>e=.ret∧RT Tryz.prog (NE.plain 114) m E Tryz.f61 (z22 r) (z2h H r) a w | .inr x=>e=.exit 1∧SS Tryz.prog (NE.plain 114) m E Tryz.f61.ntmps (zck L m p1 p8 x14 v21_17 x19_0 x19_1 x) (zcl L m p1 p8 x14 v21_17 x19_0 x19_1 x) ((fun s=>s) x) a w) o):=by
 rintro ⟨H24,v33_25⟩ o h
 unfold z4h at h
 try dsimp only at h
 refine WS.sq (WS.rg (RS.mS 1 [kB 34 (decide (v33_25<(x19_1.n:Int)))] (RS.dn (WS.nxt (WS.sq ?_)))))
 rcases z0 h with ⟨hp,h⟩ | ⟨hp,h⟩
 ·refine WS.fx 34 true (decide_eq_true hp) (WS.cT (WS.sk (WS.nxt (WS.sq (WS.bk 5 (WS.sq (WS.rg ?_)))))))
  obtain ⟨p26,hx,h⟩:=bind_some h
  refine RS.ix 35 89 88 (.tmp 31) (.tmp 33) hx ?_
  obtain ⟨x27_0,hx0,h⟩:=bind_some h
  obtain ⟨x27_1,hx1,h⟩:=bind_some h
  refine RS.la 36 88 (.tmp 35) 2 (z2 (z1 hx0 z9) (z2 (z1 hx1 z3) za)) (RS.mL 2 [kL 7 1 0] ([some (91,[(Value.string x19_0),(Sl3.v x19_1)]),some (88,[(Value.string x27_0),(Sl3.v x27_1)])]) (RS.dn (WS.nxt (WS.sq (WS.rg (RS.mS 3 [(39,.val (Value.func (.func 83) #[] #[(Value.pointer (some p1)),(Value.pointer (some p8))])),kS 38 x27_1,kL 37 1 1] ?_))))))
  obtain ⟨x28,hx,h⟩:=bind_some h
  refine RS.cl (some 40) (v:=(Value.bool x28)) 82 #[(Sl3.v x27_1),(Value.func (.func 83) #[] #[(Value.pointer (some p1)),(Value.pointer (some p8))])] (z8b hx) (RS.mS 1 [kB 41 (!x28)] (RS.dn (WS.nxt ?_)))
  rcases z0 h with ⟨hp,h⟩ | ⟨hp,h⟩
  ·refine WS.fx 41 false (nb_not hp) (WS.cF ?_)
   cases h
  ·refine WS.fx 41 true (zk hp) (WS.cT (WS.sq (WS.rg ?_)))
   obtain ⟨x29,hx,h⟩:=bind_some h
   refine RS.ld 42 98 (.tmp 3) (z1 hx z3) (RS.mS 1 [kI 43 v21_17] ?_)
   obtain ⟨p30,hx,h⟩:=bind_some h
   refine RS.ix 44 98 4 (.tmp 42) (.tmp 43) hx ?_
   obtain ⟨H31,hx,h⟩:=bind_some h
   refine RS.o (H':=H31) none undef (Abs.run_store1 (t:=4) (x:=.tmp 44) (y:=.const (Value.bool true)) (a:=p30) (v:=(Value.bool true)) (by kernel_rfl) (by kernel_rfl) (by kernel_rfl) (by kernel_rfl) (by kernel_rfl) hx) (RS.dn (WS.nxt (WS.ex 1 ?_)))
   cases h
   exact fun a w hs=>bkX (by kernel_rfl) (sqE (lxE rfl ⟨rfl,(hs.sb 1)⟩))
 ·refine WS.fx 34 false (decide_eq_false hp) (WS.cF ?_)
  cases h
theorem z2v {E:Ent} {H:AH} {L:LC} {m:Nat} {p1 p8:Addr} {x14:Sl3} :∀s o,z42 L m p1 p8 x14 s=some o →
  WS Tryz.prog (NE.plain 114) m E Tryz.f61.ntmps (cfst (cfst (csnd (cfst (cfst (cfst (cfst (cfst (csnd (csnd (cfst (csnd B61)))))))))))) (z6b L m p1 p8 x14 s) (z6f L m p1 p8 x14 s) ((fun s=>s.1) s) (lpX Tryz.prog (NE.plain 114) m E Tryz.f61.ntmps (z6b L m p1 p8 x14) (z6f L m p1 p8 x14) (fun s=>s.1) 2 (fun r e a w=>match r with | .inl r=>e=.ret∧RT Tryz.prog (NE.plain 114) m E Tryz.f61 (z22 r) (z2h H r) a w | .inr x=>e=.exit 1∧SS Tryz.prog (NE.plain 114) m E Tryz.f61.ntmps (zch L m p1 p8 x14 x) (zcb L m p1 p8 x14 x) ((fun s=>s) x) a w) o):=by
 rintro ⟨H16,v21_17⟩ o h
 unfold z42 at h
 try dsimp only at h
 refine WS.sq (WS.rg (RS.mS 1 [kB 22 (decide (v21_17<(x14.n:Int)))] (RS.dn (WS.nxt (WS.sq ?_)))))
 rcases z0 h with ⟨hp,h⟩ | ⟨hp,h⟩
 ·refine WS.fx 22 true (decide_eq_true hp) (WS.cT (WS.sk (WS.nxt (WS.sq (WS.bk 3 (WS.sq (WS.rg (RS.mS 1 [kI 23 v21_17] ?_))))))))
  obtain ⟨p18,hx,h⟩:=bind_some h
  refine RS.ix 24 29 91 (.tmp 19) (.tmp 21) hx ?_
  obtain ⟨x19_0,hx0,h⟩:=bind_some h
  obtain ⟨x19_1,hx1,h⟩:=bind_some h
  refine RS.la 25 91 (.tmp 24) 2 (z2 (z1 hx0 z9) (z2 (z1 hx1 z3) za)) (RS.mL 3 [kI 4 v21_17,kL 5 0 0] ([some (91,[(Value.string x19_0),(Sl3.v x19_1)])]) (RS.dn (WS.nxt (WS.sq (WS.sq (WS.rg ?_))))))
  obtain ⟨x20,hx,h⟩:=bind_some h
  refine RS.ld 26 98 (.tmp 3) (z1 hx z3) (RS.mS 1 [kI 27 v21_17] ?_)
  obtain ⟨p21,hx,h⟩:=bind_some h
  refine RS.ix 28 98 4 (.tmp 26) (.tmp 27) hx ?_
  obtain ⟨x22,hx,h⟩:=bind_some h
  refine RS.ld 29 4 (.tmp 28) (z1 hx z5n) (RS.dn (WS.nxt ?_))
  rcases z0 h with ⟨hp,h⟩ | ⟨hp,h⟩
  ·refine WS.fx 29 true hp (WS.cT (WS.ex 3 ?_))
   refine fun a w hs=>sqE (bkE ((WS.nxt ?_ a w hs)))
   refine WS.rg (RS.mS 2 [kI 21 (IntKind.i64.wrap (v21_17+1)),kI 46 (IntKind.i64.wrap (v21_17+1))] (RS.dn ?_))
   cases h
   exact fun a w hs=>lxN rfl (hs.sb 0)
  ·refine WS.fx 29 false (b_not hp) (WS.cF (WS.sk (WS.nxt (WS.sq (WS.rg (RS.mS 4 [kI 33 0,kI 32 (x19_1.n:Int),kS 31 x19_1,kL 30 0 1] (RS.dn (WS.nxt (WS.bk 4 ?_)))))))))
   obtain ⟨o,hl,h⟩:=bind_some h
   rcases o with ⟨H32,v33_33⟩ | (r | H34)
   ·try dsimp only at h
    refine WS.lXI (z2y (L:=L) (E:=E) (m:=m) (H:=H)) (L.ok hl) 1 ?_
    clear hl
    refine fun a w hs=>bkE (bkN ((WS.nxt ?_ a w hs)))
    refine WS.rg (RS.mS 2 [kI 21 (IntKind.i64.wrap (v21_17+1)),kI 46 (IntKind.i64.wrap (v21_17+1))] (RS.dn ?_))
    cases h
    exact fun a w hs=>lxN rfl (hs.sb 0)
   ·try dsimp only at h
    refine WS.lXR (z2y (L:=L) (E:=E) (m:=m) (H:=H)) (L.ok hl) 1 ?_
    cases h
    refine fun e a w hq=>?_
    obtain ⟨rfl,hq⟩:=hq
    exact bkR (bkR (sqR (lxR rfl ⟨rfl,hq⟩)))
   ·try dsimp only at h
    refine WS.lXR (z2y (L:=L) (E:=E) (m:=m) (H:=H)) (L.ok hl) 1 ?_
    clear hl
    refine fun e a w hs=>?_
    obtain ⟨rfl,hs⟩:=hs
    revert hs
    revert w
    revert a
    cases h
    exact fun a w hs=>bkX (by kernel_rfl) (bkX (by kernel_rfl) (sqE (lxE rfl ⟨rfl,(hs.sb 0)⟩)))
 ·refine WS.fx 22 false (decide_eq_false hp) (WS.cF (WS.ex 2 ?_))
  cases h
  exact fun a w hs=>sqE (lxB rfl (hs.sb 0))
theorem z6g {E H L m p1 p8} :LoopF Tryz.prog (NE.plain 114) m E Tryz.f61 ((cfst (cfst (csnd (csnd (cfst (csnd B61))))))) (zdn L m p1 p8) (fun s=>s) 0 z22 (z2h H) (z43 L m p1 p8):=by
 rintro H11 o h
 unfold z43 at h
 try dsimp only at h
 refine WS.bk 1 (WS.sq (WS.sq (WS.rg ?_)))
 obtain ⟨x12,hx,h⟩:=bind_some h
 refine RS.ld 15 140 (.tmp 1) (z1 hx z16) ?_
 obtain ⟨q13,hx,hq13⟩:=bind_some h
 subst hx
 have h:=hq13
 refine RS.mS 3 [(18,.val (Value.pointer (some (Addr.add (Addr.add q13 0) 1)))),(17,.val (Value.pointer (some (Addr.add q13 0)))),kP 16 q13] ?_
 obtain ⟨x14,hx,h⟩:=bind_some h
 refine RS.ld 19 29 (.tmp 18) (z1 hx z3) (RS.mS 2 [kI 21 0,kI 20 (x14.n:Int)] (RS.dn (WS.nxt (WS.bk 2 ?_))))
 obtain ⟨o,hl,h⟩:=bind_some h
 rcases o with ⟨H35,v21_36⟩ | (r | H37)
 ·try dsimp only at h
  refine WS.lXI (z2v (L:=L) (E:=E) (m:=m) (H:=H)) (L.ok hl) 0 ?_
  clear hl
  refine fun a w hs=>bkE ((WS.nxt ?_ a w hs))
  refine WS.ex 0 ?_
  cases h
  exact fun a w hs=>bkX (by kernel_rfl) (lsB rfl (hs.sb 0))
 ·try dsimp only at h
  refine WS.lXR (z2v (L:=L) (E:=E) (m:=m) (H:=H)) (L.ok hl) 0 ?_
  cases h
  refine fun e a w hq=>?_
  obtain ⟨rfl,hq⟩:=hq
  exact bkR (sqR (bkR (lsR rfl hq)))
 ·try dsimp only at h
  refine WS.lXR (z2v (L:=L) (E:=E) (m:=m) (H:=H)) (L.ok hl) 0 ?_
  clear hl
  refine fun e a w hs=>?_
  obtain ⟨rfl,hs⟩:=hs
  revert hs
  revert w
  revert a
  cases h
  exact fun a w hs=>bkX (by kernel_rfl) (sqE (bkE (lsN rfl (hs.sb 0))))
theorem zfy {L:LC} {m:Nat} {H:AH} {a0:Option Addr} {r:(Sl3×AH)} (h:z6w L m H a0=some r) :
  CallS Tryz.prog (NE.plain 114) m 61 #[(Value.pointer a0)] H (z22 r) (z2h H r):=by
 refine CallS.mk (args:=[(Value.pointer a0)]) Tryz.func61 (B:=B61) (by kernel_rfl) (fun E _=>?_)
 unfold z6w at h
 refine WS.sq (WS.rg ?_)
 obtain ⟨⟨p1,H2⟩,hx,h⟩:=bind_some h
 try dsimp only at h
 refine RS.o (H':=H2) (some 1) (Value.pointer (some p1)) (Abs.run_newB (by kernel_rfl) hx) (RS.mS 1 [kS 2 Sl3.nil] (RS.dn (WS.nxt (WS.scope (by kernel_rfl) (WS.sq (WS.rg ?_))))))
 obtain ⟨x3,hx,h⟩:=bind_some h
 refine RS.ld 8 140 (.tmp 1) (z1 hx z16) ?_
 obtain ⟨q4,hx,hq4⟩:=bind_some h
 subst hx
 have h:=hq4
 refine RS.mS 3 [(11,.val (Value.pointer (some (Addr.add (Addr.add q4 0) 1)))),(10,.val (Value.pointer (some (Addr.add q4 0)))),kP 9 q4] ?_
 obtain ⟨x5,hx,h⟩:=bind_some h
 refine RS.ld 12 29 (.tmp 11) (z1 hx z3) (RS.mS 1 [kI 13 (x5.n:Int)] ?_)
 obtain ⟨⟨s6,H7⟩,hx,h⟩:=bind_some h
 try dsimp only at h
 refine RS.o (H':=H7) (some 14) (Sl3.v s6) (Abs.run_mk (t:=98) (x:=.tmp 13) (y:=.tmp 13) (k1:=.i64) (k2:=.i64) (by kernel_rfl) (by kernel_rfl) (by kernel_rfl) (by kernel_rfl) hx) ?_
 obtain ⟨⟨p8,H9⟩,hx,h⟩:=bind_some h
 try dsimp only at h
 refine RS.o (H':=H9) (some 3) (Value.pointer (some p8)) (Abs.run_newB (by kernel_rfl) hx) ?_
 obtain ⟨H10,hx,h⟩:=bind_some h
 refine RS.o (H':=H10) none undef (Abs.run_store1 (t:=98) (x:=.tmp 3) (y:=.tmp 14) (a:=p8) (v:=(Sl3.v s6)) (by kernel_rfl) (by kernel_rfl) (by kernel_rfl) (by kernel_rfl) (by kernel_rfl) hx) (RS.dn (WS.nxt (WS.sq (WS.sk (WS.nxt (WS.sq (WS.bk 0 ?_)))))))
 obtain ⟨o,hl,h⟩:=bind_some h
 rcases o with H38 | r
 ·try dsimp only at h
  refine WS.lI (z6g (L:=L) (E:=E) (m:=m) (H:=H)) (L.ok hl) 0 ?_
  clear hl
  refine fun a w hs=>bkE ((WS.nxt ?_ a w hs))
  refine WS.sq (WS.rg ?_)
  obtain ⟨x39,hx,h⟩:=bind_some h
  refine RS.ld 47 98 (.tmp 3) (z1 hx z3) (RS.mS 1 [kS 2 x39] (RS.dn (WS.nxt (WS.rt ?_))))
  cases h
  exact fun a w hs=>sgR (rtR (rS hs))
 ·try dsimp only at h
  refine WS.lR (z6g (L:=L) (E:=E) (m:=m) (H:=H)) (L.ok hl) 0 ?_
  cases h
  exact fun a w hq=>bkR (sqR (sgR (rtR hq)))
def zay:(Int×AH)→Value
 | (r0,_)=>(Value.int .i64 r0)
def zby (_:AH):(Int×AH)→AH:=fun r=>r.2
noncomputable def B41:Code:=(Tryz.f41.body).getD .skip
noncomputable def z71 (L:LC) (_a0_0 _a0_1:Sl3) (_a0_2 _x2:Sl3) (_x3 s7:Sl3) (H8:AH):Int→Option (Lp Int (Int×AH)):=fun v21_9 =>
 if v21_9<(s7.n:Int) then
  Option.bind (idxA 1 s7 v21_9) fun p10 =>
  Option.bind (rd deS H8 p10) fun x11 =>
  Option.bind (zcs L x11) fun x12 =>
  if x12=true then
   some (.next (IntKind.i64.wrap (v21_9+1)))
  else
   none
 else
  some (.brk v21_9)
def zfv (_L:LC) (a0_0 a0_1:Sl3) (a0_2 x2:Sl3) (x3 s7:Sl3) (_H8:AH):Int→KN×Lcs:=fun v21_9=>([kI 21 v21_9,kL 1 0 0,kS 3 x2,kS 4 x3,kS 19 s7,kI 20 (s7.n:Int)],[some (32,[(Sl3.v a0_0),(Sl3.v a0_1),(Sl3.v a0_2)])])
noncomputable def z6r (L:LC) (m:Nat) (H:AH) (a0_0 a0_1 a0_2:Sl3):Option (Int×AH) :=
 Option.bind (zgj L H a0_0 a0_1 a0_2) fun x1 =>
 if x1=true then
  none
 else
  Option.bind (zfc L m H a0_0 a0_1 a0_2) fun (x2,x3,H4) =>
  Option.bind (z2t L m H4 x2) fun (x5,H6) =>
  Option.bind (appS m 9 1 16 H6 x5 x3) fun (s7,H8) =>
  Option.bind (L.run (z71 L a0_0 a0_1 a0_2 x2 x3 s7 H8) 0) fun o=>match o with
  | .inl _ =>
   Option.bind (zb6 L m H8 x2) fun (x14,H15) =>
   if x14=true then
    none
   else
    Option.bind (zb6 L m H15 x3) fun (x16,H17) =>
    if x16=true then
     none
    else
     Option.bind (z9k L m H17 a0_0 a0_1 a0_2) fun (x18,H19) =>
     Option.bind (z5a L m H19 x18) fun (x20,H21) =>
     if x20=0 then
      Option.bind (z4n L m H21 x18) fun (x22,H23) =>
      Option.bind (z70 L m H23 x18 x22) fun (x24,H25) =>
      if x24=true then
       none
      else
       Option.bind (z6w L m H25 x18) fun (x26,H27) =>
       Option.bind (z88 L H27 x26 false) fun x28 =>
       if x28=true then
        none
       else
        some (0,H27)
     else
      none
  | .inr r=>some r
theorem z8r {E m H L a0_0 a0_1 a0_2 x2 x3 s7 H8} :LoopF Tryz.prog (NE.plain 114) m E Tryz.f41 ((cfst (csnd (cfst (csnd (csnd (csnd B41))))))) (zfv L a0_0 a0_1 a0_2 x2 x3 s7 H8) (fun _=>H8) 0 zay (zby H) (z71 L a0_0 a0_1 a0_2 x2 x3 s7 H8):=by
 rintro v21_9 o h
 unfold z71 at h
 try dsimp only at h
 refine WS.sq (WS.rg (RS.mS 1 [kB 22 (decide (v21_9<(s7.n:Int)))] (RS.dn (WS.nxt (WS.sq ?_)))))
 rcases z0 h with ⟨hp,h⟩ | ⟨hp,h⟩
 ·refine WS.fx 22 true (decide_eq_true hp) (WS.cT (WS.sk (WS.nxt (WS.sq (WS.bk 1 (WS.sq (WS.rg ?_)))))))
  obtain ⟨p10,hx,h⟩:=bind_some h
  refine RS.ix 23 28 9 (.tmp 19) (.tmp 21) hx ?_
  obtain ⟨x11,hx,h⟩:=bind_some h
  refine RS.ld 24 9 (.tmp 23) (z1 hx z9) (RS.mS 1 [kT 6 x11] (RS.dn (WS.nxt (WS.sq (WS.rg (RS.mS 1 [kT 25 x11] ?_))))))
  obtain ⟨x12,hx,h⟩:=bind_some h
  refine RS.cl (some 26) (v:=(Value.bool x12)) 54 #[(Value.string x11)] (zgy hx) (RS.mS 1 [kB 27 (!x12)] (RS.dn (WS.nxt ?_)))
  rcases z0 h with ⟨hp,h⟩ | ⟨hp,h⟩
  ·refine WS.fx 27 false (nb_not hp) (WS.cF (WS.sk ?_))
   refine fun a w hs=>bkN ((WS.nxt ?_ a w hs))
   refine WS.rg (RS.mS 2 [kI 21 (IntKind.i64.wrap (v21_9+1)),kI 28 (IntKind.i64.wrap (v21_9+1))] (RS.dn ?_))
   cases h
   exact fun a w hs=>lsN rfl (hs.sb 1)
  ·refine WS.fx 27 true (zk hp) (WS.cT ?_)
   cases h
 ·refine WS.fx 22 false (decide_eq_false hp) (WS.cF (WS.ex 0 ?_))
  cases h
  exact fun a w hs=>sqE (lsB rfl (hs.sb 1))
theorem zbp {L:LC} {m:Nat} {H:AH} {a0_0 a0_1 a0_2:Sl3} {r:(Int×AH)} (h:z6r L m H a0_0 a0_1 a0_2=some r) :
  CallS Tryz.prog (NE.plain 114) m 41 #[(Value.agg #[(Sl3.v a0_0),(Sl3.v a0_1),(Sl3.v a0_2)])] H (zay r) (zby H r):=by
 refine CallS.mk (args:=[(Value.agg #[(Sl3.v a0_0),(Sl3.v a0_1),(Sl3.v a0_2)])]) Tryz.func41 (B:=B41) (by kernel_rfl) (fun E _=>?_)
 unfold z6r at h
 refine WS.sq (WS.rg (RS.mL 2 [kI 2 0,kL 1 0 0] ([some (32,[(Sl3.v a0_0),(Sl3.v a0_1),(Sl3.v a0_2)])]) (RS.dn (WS.nxt (WS.sq (WS.sq (WS.rg (RS.mS 1 [kA 9 #[(Sl3.v a0_0),(Sl3.v a0_1),(Sl3.v a0_2)]] ?_))))))))
 obtain ⟨x1,hx,h⟩:=bind_some h
 refine RS.cl (some 10) (v:=(Value.bool x1)) 52 #[(Value.agg #[(Sl3.v a0_0),(Sl3.v a0_1),(Sl3.v a0_2)])] (zlx hx) (RS.dn (WS.nxt ?_))
 rcases z0 h with ⟨hp,h⟩ | ⟨hp,h⟩
 ·refine WS.fx 10 true hp (WS.cT ?_)
  cases h
 ·refine WS.fx 10 false (b_not hp) (WS.cF (WS.sk (WS.nxt (WS.sq (WS.rg (RS.mS 1 [kA 12 #[(Sl3.v a0_0),(Sl3.v a0_1),(Sl3.v a0_2)]] ?_))))))
  obtain ⟨⟨x2,x3,H4⟩,hx,h⟩:=bind_some h
  try dsimp only at h
  refine RS.cl (some 13) (v:=(Value.tuple #[(Sl3.v x2),(Sl3.v x3)])) 53 #[(Value.agg #[(Sl3.v a0_0),(Sl3.v a0_1),(Sl3.v a0_2)])] (zl6 hx) (RS.mS 5 [kS 4 x3,kS 3 x2,kS 15 x3,kS 14 x2,(11,.val (Value.tuple #[(Sl3.v x2),(Sl3.v x3)]))] (RS.dn (WS.nxt (WS.sq (WS.sq (WS.rg (RS.mS 1 [kS 16 x2] ?_)))))))
  obtain ⟨⟨x5,H6⟩,hx,h⟩:=bind_some h
  try dsimp only at h
  refine RS.cl (some 17) (v:=(Sl3.v x5)) 44 #[(Sl3.v x2)] (z55 hx) (RS.mS 1 [kS 18 x3] ?_)
  obtain ⟨⟨s7,H8⟩,hx,h⟩:=bind_some h
  try dsimp only at h
  refine RS.o (H':=H8) (some 19) (Sl3.v s7) (Abs.run_app (x:=.tmp 17) (y:=.tmp 18) (ts:=#[28,28]) (s:=x5) (z:=x3) (by kernel_rfl) (by kernel_rfl) (by kernel_rfl) (by kernel_rfl) hx) (RS.mS 2 [kI 21 0,kI 20 (s7.n:Int)] (RS.dn (WS.nxt (WS.bk 0 ?_))))
  obtain ⟨o,hl,h⟩:=bind_some h
  rcases o with v21_13 | r
  ·try dsimp only at h
   refine WS.lI (z8r (L:=L) (E:=E) (m:=m) (H:=H)) (L.ok hl) 1 ?_
   clear hl
   refine fun a w hs=>bkE ((WS.nxt ?_ a w hs))
   refine WS.sq (WS.sq (WS.rg (RS.mS 1 [kS 29 x2] ?_)))
   obtain ⟨⟨x14,H15⟩,hx,h⟩:=bind_some h
   try dsimp only at h
   refine RS.cl (some 30) (v:=(Value.bool x14)) 55 #[(Sl3.v x2)] (zfl hx) (RS.mS 1 [kB 31 x14] ?_)
   rcases z0 h with ⟨hp,h⟩ | ⟨hp,h⟩
   ·refine RS.fx 31 true hp ?_
    cases h
   ·refine RS.fx 31 false (b_not hp) (RS.mS 1 [kS 32 x3] ?_)
    obtain ⟨⟨x16,H17⟩,hx,h⟩:=bind_some h
    try dsimp only at h
    refine RS.cl (some 33) (v:=(Value.bool x16)) 55 #[(Sl3.v x3)] (zfl hx) (RS.mS 1 [kB 34 x16] (RS.dn (WS.nxt ?_)))
    rcases z0 h with ⟨hp,h⟩ | ⟨hp,h⟩
    ·refine WS.fx 34 true hp (WS.cT ?_)
     cases h
    ·refine WS.fx 34 false (b_not hp) (WS.cF (WS.sk (WS.nxt (WS.sq (WS.rg (RS.mS 1 [kA 35 #[(Sl3.v a0_0),(Sl3.v a0_1),(Sl3.v a0_2)]] ?_))))))
     obtain ⟨⟨x18,H19⟩,hx,h⟩:=bind_some h
     try dsimp only at h
     refine RS.cl (some 36) (v:=(Value.pointer x18)) 56 #[(Value.agg #[(Sl3.v a0_0),(Sl3.v a0_1),(Sl3.v a0_2)])] (zbc hx) (RS.mS 1 [(7,.val (Value.pointer x18))] (RS.dn (WS.nxt (WS.sq (WS.sq (WS.rg (RS.mS 1 [(37,.val (Value.pointer x18))] ?_)))))))
     obtain ⟨⟨x20,H21⟩,hx,h⟩:=bind_some h
     try dsimp only at h
     refine RS.cl (some 38) (v:=(Value.int .i64 x20)) 57 #[(Value.pointer x18)] (zeb hx) (RS.mS 1 [kI 8 x20] (RS.dn (WS.nxt (WS.sq (WS.rg (RS.mS 2 [kB 40 (!decide (x20=0)),kI 39 x20] (RS.dn (WS.nxt ?_))))))))
     rcases z0 h with ⟨hp,h⟩ | ⟨hp,h⟩
     ·refine WS.fx 40 false (z2b hp) (WS.cF (WS.sk (WS.nxt (WS.sq (WS.sq (WS.rg (RS.mS 2 [(43,.val (Value.pointer x18)),(42,.val (Value.pointer x18))] ?_)))))))
      obtain ⟨⟨x22,H23⟩,hx,h⟩:=bind_some h
      try dsimp only at h
      refine RS.cl (some 44) (v:=(Sl3.v x22)) 59 #[(Value.pointer x18)] (z9g hx) ?_
      obtain ⟨⟨x24,H25⟩,hx,h⟩:=bind_some h
      try dsimp only at h
      refine RS.cl (some 45) (v:=(Value.bool x24)) 58 #[(Value.pointer x18),(Sl3.v x22)] (zft hx) (RS.dn (WS.nxt ?_))
      rcases z0 h with ⟨hp,h⟩ | ⟨hp,h⟩
      ·refine WS.fx 45 true hp (WS.cT ?_)
       cases h
      ·refine WS.fx 45 false (b_not hp) (WS.cF (WS.sk (WS.nxt (WS.sq (WS.sq (WS.rg (RS.mS 1 [(46,.val (Value.pointer x18))] ?_)))))))
       obtain ⟨⟨x26,H27⟩,hx,h⟩:=bind_some h
       try dsimp only at h
       refine RS.cl (some 47) (v:=(Sl3.v x26)) 61 #[(Value.pointer x18)] (zfy hx) ?_
       obtain ⟨x28,hx,h⟩:=bind_some h
       refine RS.cl (some 48) (v:=(Value.bool x28)) 60 #[(Sl3.v x26),(Value.bool false)] (zgn hx) (RS.dn (WS.nxt ?_))
       rcases z0 h with ⟨hp,h⟩ | ⟨hp,h⟩
       ·refine WS.fx 48 true hp (WS.cT ?_)
        cases h
       ·refine WS.fx 48 false (b_not hp) (WS.cF (WS.sk (WS.nxt (WS.sq (WS.rg (RS.mS 1 [kI 2 0] (RS.dn (WS.nxt (WS.rt ?_)))))))))
        cases h
        exact fun a w hs=>rtR (rS hs)
     ·refine WS.fx 40 true (z1k hp) (WS.cT ?_)
      cases h
  ·try dsimp only at h
   refine WS.lR (z8r (L:=L) (E:=E) (m:=m) (H:=H)) (L.ok hl) 1 ?_
   cases h
   exact fun a w hq=>bkR (sqR (rtR hq))
def zj2:(Bool×AH)→Value
 | (r0,_)=>(Value.bool r0)
def zk0 (_:AH):(Bool×AH)→AH:=fun r=>r.2
noncomputable def B103:Code:=(Tryz.f103.body).getD .skip
noncomputable def zd9 (L:LC) (m:Nat) (H:AH) (a0_0 a0_1:Int) (a0_2:ByteArray) (a0_3 a1_0:Sl3) (a1_1 a1_2:Sl3):Option (Bool×AH) :=
 Option.bind (z6r L m H a1_0 a1_1 a1_2) fun (x1,H2) =>
 if x1=0 then
  Option.bind (zej L m H2 a0_0 a0_1 a0_2 a0_3 a1_0 a1_1 a1_2) fun (x3,H4) =>
  if x3=0 then
   Option.bind (zak L m H4 a1_0 a1_1 a1_2 1) fun (x5,H6) =>
   Option.bind (newM H6) fun (p7,H8) =>
   Option.bind (newB 222 [(Value.pointer x5),(Value.map (some p7))] H8) fun (p9,H10) =>
   Option.bind (ze8 L m H10 (some p9) a0_0 a0_1 a0_2 a0_3) fun (x11,H12) =>
   some (x11,H12)
  else
   none
 else
  none
theorem zjw {L:LC} {m:Nat} {H:AH} {a0_0 a0_1:Int} {a0_2:ByteArray} {a0_3 a1_0:Sl3} {a1_1 a1_2:Sl3} {r:(Bool×AH)} (h:zd9 L m H a0_0 a0_1 a0_2 a0_3 a1_0 a1_1 a1_2=some r) :
  CallS Tryz.prog (NE.plain 114) m 103 #[(Value.agg #[(Value.int .i64 a0_0),(Value.int .i64 a0_1),(Value.string a0_2),(Sl3.v a0_3)]),(Value.agg #[(Sl3.v a1_0),(Sl3.v a1_1),(Sl3.v a1_2)])] H (zj2 r) (zk0 H r):=by
 refine CallS.mk (args:=[(Value.agg #[(Value.int .i64 a0_0),(Value.int .i64 a0_1),(Value.string a0_2),(Sl3.v a0_3)]),(Value.agg #[(Sl3.v a1_0),(Sl3.v a1_1),(Sl3.v a1_2)])]) Tryz.func103 (B:=B103) (by kernel_rfl) (fun E _=>?_)
 unfold zd9 at h
 refine WS.sq (WS.rg (RS.mL 3 [kB 4 false,kL 3 1 0,kL 2 0 0] ([some (59,[(Value.int .i64 a0_0),(Value.int .i64 a0_1),(Value.string a0_2),(Sl3.v a0_3)]),some (32,[(Sl3.v a1_0),(Sl3.v a1_1),(Sl3.v a1_2)])]) (RS.dn (WS.nxt (WS.sq (WS.sq (WS.rg (RS.mS 1 [kA 6 #[(Sl3.v a1_0),(Sl3.v a1_1),(Sl3.v a1_2)]] ?_))))))))
 obtain ⟨⟨x1,H2⟩,hx,h⟩:=bind_some h
 try dsimp only at h
 refine RS.cl (some 7) (v:=(Value.int .i64 x1)) 41 #[(Value.agg #[(Sl3.v a1_0),(Sl3.v a1_1),(Sl3.v a1_2)])] (zbp hx) (RS.mS 2 [kB 9 (!decide (x1=0)),kB 8 (!decide (x1=0))] ?_)
 rcases z0 h with ⟨hp,h⟩ | ⟨hp,h⟩
 ·refine RS.fx 9 false (z2b hp) (RS.mS 2 [kA 11 #[(Sl3.v a1_0),(Sl3.v a1_1),(Sl3.v a1_2)],kA 10 #[(Value.int .i64 a0_0),(Value.int .i64 a0_1),(Value.string a0_2),(Sl3.v a0_3)]] ?_)
  obtain ⟨⟨x3,H4⟩,hx,h⟩:=bind_some h
  try dsimp only at h
  refine RS.cl (some 12) (v:=(Value.int .i64 x3)) 108 #[(Value.agg #[(Value.int .i64 a0_0),(Value.int .i64 a0_1),(Value.string a0_2),(Sl3.v a0_3)]),(Value.agg #[(Sl3.v a1_0),(Sl3.v a1_1),(Sl3.v a1_2)])] (zkz hx) (RS.mS 2 [kB 14 (!decide (x3=0)),kB 13 (!decide (x3=0))] (RS.dn (WS.nxt ?_)))
  rcases z0 h with ⟨hp,h⟩ | ⟨hp,h⟩
  ·refine WS.fx 14 false (z2b hp) (WS.cF (WS.sk (WS.nxt (WS.sq (WS.rg (RS.mS 1 [kA 15 #[(Sl3.v a1_0),(Sl3.v a1_1),(Sl3.v a1_2)]] ?_))))))
   obtain ⟨⟨x5,H6⟩,hx,h⟩:=bind_some h
   try dsimp only at h
   refine RS.cl (some 16) (v:=(Value.pointer x5)) 122 #[(Value.agg #[(Sl3.v a1_0),(Sl3.v a1_1),(Sl3.v a1_2)]),(Value.int .i64 1)] (zir hx) ?_
   obtain ⟨⟨p7,H8⟩,hx,h⟩:=bind_some h
   try dsimp only at h
   refine RS.o (H':=H8) (some 17) (Value.map (some p7)) (Abs.run_newM (by kernel_rfl) hx) (RS.mS 1 [kA 18 #[(Value.pointer x5),(Value.map (some p7))]] ?_)
   obtain ⟨⟨p9,H10⟩,hx,h⟩:=bind_some h
   try dsimp only at h
   refine RS.o (H':=H10) (some 19) (Value.pointer (some p9)) (Abs.run_newB (by kernel_rfl) hx) (RS.mS 1 [kP 5 p9] (RS.dn (WS.nxt (WS.sq (WS.rg (RS.mS 2 [kA 21 #[(Value.int .i64 a0_0),(Value.int .i64 a0_1),(Value.string a0_2),(Sl3.v a0_3)],kP 20 p9] ?_))))))
   obtain ⟨⟨x11,H12⟩,hx,h⟩:=bind_some h
   try dsimp only at h
   refine RS.cl (some 22) (v:=(Value.bool x11)) 123 #[(Value.pointer (some p9)),(Value.agg #[(Value.int .i64 a0_0),(Value.int .i64 a0_1),(Value.string a0_2),(Sl3.v a0_3)])] (zhd hx) (RS.mS 1 [kB 4 x11] (RS.dn (WS.nxt (WS.rt ?_))))
   cases h
   exact fun a w hs=>rtR (rS hs)
  ·refine WS.fx 14 true (z1k hp) (WS.cT ?_)
   cases h
 ·refine RS.fx 9 true (z1k hp) ?_
  cases h
def zdc:(Bool×AH)→Value
 | (r0,_)=>(Value.bool r0)
def ze2 (_:AH):(Bool×AH)→AH:=fun r=>r.2
noncomputable def B76:Code:=(Tryz.f76.body).getD .skip
noncomputable def z5b (L:LC) (m:Nat) (H:AH) (a0:Option Addr) (a1:Int):Option (Bool×AH) :=
 Option.bind a0 fun q1 =>
 Option.bind (rd deP H (Addr.add q1 0)) fun x2 =>
 Option.bind (z2r L m H x2 a1) fun (x3_0,x3_1,x3_2,x3_3,_,H5) =>
 if x3_0=6 then
  Option.bind (α:=AH) (
   Option.bind (rd deM H5 (Addr.add q1 8)) fun x7 =>
   Option.bind (lk1 Tryz.prog 34 (deI .i64) H5 x7 (Value.string x3_2)) fun x8 =>
   if x8=0 then
    Option.bind (rd deM H5 (Addr.add q1 8)) fun x9 =>
    Option.bind (upM Tryz.prog m 34 H5 x9 (Value.string x3_2) (Value.int .i64 2)) fun H10 =>
    Option.bind (rd deSl H10 (Addr.add (Addr.add q1 1) 0)) fun x11_0 =>
    Option.bind (rd deSl H10 (Addr.add (Addr.add q1 1) 1)) fun x11_1 =>
    Option.bind (rd deSl H10 (Addr.add (Addr.add q1 1) 2)) fun x11_2 =>
    Option.bind (zd9 L m H10 x3_0 x3_1 x3_2 x3_3 x11_0 x11_1 x11_2) fun (x12,H13) =>
    if x12=true then
     Option.bind (rd deM H13 (Addr.add q1 8)) fun x14 =>
     Option.bind (upM Tryz.prog m 34 H13 x14 (Value.string x3_2) (Value.int .i64 1)) fun H15 =>
     some H15
    else
     none
   else
    some H5) fun H6 =>
  Option.bind (rd deM H6 (Addr.add q1 8)) fun x16 =>
  Option.bind (lk1 Tryz.prog 34 (deI .i64) H6 x16 (Value.string x3_2)) fun x17 =>
  some ((decide (x17=1)),H6)
 else
  some (false,H5)
theorem ze5 {L:LC} {m:Nat} {H:AH} {a0:Option Addr} {a1:Int} {r:(Bool×AH)} (h:z5b L m H a0 a1=some r) :
  CallS Tryz.prog (NE.plain 114) m 76 #[(Value.pointer a0),(Value.int .i64 a1)] H (zdc r) (ze2 H r):=by
 refine CallS.mk (args:=[(Value.pointer a0),(Value.int .i64 a1)]) Tryz.func76 (B:=B76) (by kernel_rfl) (fun E _=>?_)
 unfold z5b at h
 refine WS.sq (WS.rg (RS.mS 1 [kB 4 false] (RS.dn (WS.nxt (WS.sq (WS.rg (RS.mS 1 [(8,.val (Value.pointer a0))] ?_)))))))
 obtain ⟨q1,hx,hq1⟩:=bind_some h
 subst hx
 have h:=hq1
 refine RS.mS 2 [(10,.val (Value.pointer (some (Addr.add q1 0)))),kP 9 q1] ?_
 obtain ⟨x2,hx,h⟩:=bind_some h
 refine RS.ld 11 27 (.tmp 10) (z1 hx z16) (RS.mS 1 [kI 12 a1] ?_)
 obtain ⟨⟨x3_0,x3_1,x3_2,x3_3,x4,H5⟩,hx,h⟩:=bind_some h
 try dsimp only at h
 refine RS.cl (some 13) (v:=(Value.tuple #[(Value.agg #[(Value.int .i64 x3_0),(Value.int .i64 x3_1),(Value.string x3_2),(Sl3.v x3_3)]),(Value.bool x4)])) 14 #[(Value.pointer x2),(Value.int .i64 a1)] (z52 hx) (RS.mL 6 [kB 6 x4,kL 5 0 0,kB 15 x4,kA 14 #[(Value.int .i64 x3_0),(Value.int .i64 x3_1),(Value.string x3_2),(Sl3.v x3_3)],(7,.val (Value.tuple #[(Value.agg #[(Value.int .i64 x3_0),(Value.int .i64 x3_1),(Value.string x3_2),(Sl3.v x3_3)]),(Value.bool x4)]))] ([some (59,[(Value.int .i64 x3_0),(Value.int .i64 x3_1),(Value.string x3_2),(Sl3.v x3_3)])]) (RS.dn (WS.nxt (WS.sq (WS.sq (WS.rg (RS.mS 3 [kB 18 (!decide (x3_0=6)),kI 17 x3_0,kL 16 0 0] (RS.dn (WS.nxt ?_)))))))))
 rcases z0 h with ⟨hp,h⟩ | ⟨hp,h⟩
 ·refine WS.fx 18 false (z2b hp) (WS.cF (WS.sk (WS.nxt ?_)))
  obtain ⟨H6,hx,h⟩:=bind_some h
  refine WS.sq ?_
  refine WS.join ([kP 0 q1,kL 5 0 0]) ([some (59,[(Value.int .i64 x3_0),(Value.int .i64 x3_1),(Value.string x3_2),(Sl3.v x3_3)])]) H6 ?_ (fun a w hs=>WS.nxt ?_ a w hs)
  ·clear h; rename _=>h
   refine WS.sq ?_
   refine WS.dr [0,1,2,3,4,5,6] [0,1,3,7,0,16,63,127] 8 (fun hcl=>?_)
   refine DA.tK 0 (some 19) (Value.pointer (some q1)) (DA.tK 1 (some 20) (Value.pointer (some q1)) (DA.tK 2 (some 21) (Value.pointer (some (Addr.add q1 8))) ?_))
   obtain ⟨x7,hx,h⟩:=bind_some h
   refine DA.tD 3 (some 22) (Value.map x7) (Abs.det_load (t:=34) (x:=.tmp 21) (a:=(Addr.add q1 8)) (by kernel_rfl) (by kernel_rfl) (by kernel_rfl) (by kernel_rfl) (z1 hx z15)) (DA.tL 4 (some 23) (.loc 0 2) (DA.tL 5 (some 24) (.val (Value.string x3_2)) ?_))
   obtain ⟨x8,hx,h⟩:=bind_some h
   refine DA.tD 6 (some 25) (Value.int .i64 x8) (Abs.det_look (t:=34) (x:=.tmp 22) (y:=.tmp 24) (mm:=x7) (k:=(Value.string x3_2)) (by kernel_rfl) (by kernel_rfl) (by kernel_rfl) (by kernel_rfl) (lk1_eq hx z8)) (DA.tP 7 (some 26) (Value.bool (decide (x8=0))) (DA.dn (WS.nxt ?_)))
   rcases z0 h with ⟨hp,h⟩ | ⟨hp,h⟩
   ·refine WS.fx 26 true (decide_eq_true hp) (WS.cT (WS.sq ?_))
    refine WS.dr [0,1,2,3,4,5] [0,1,3,7,0,16,63] 7 (fun hcl=>?_)
    refine DA.tK 0 (some 27) (Value.pointer (some q1)) (DA.tK 1 (some 28) (Value.pointer (some q1)) (DA.tK 2 (some 29) (Value.pointer (some (Addr.add q1 8))) ?_))
    obtain ⟨x9,hx,h⟩:=bind_some h
    refine DA.tD 3 (some 30) (Value.map x9) (Abs.det_load (t:=34) (x:=.tmp 29) (a:=(Addr.add q1 8)) (by kernel_rfl) (by kernel_rfl) (by kernel_rfl) (by kernel_rfl) (z1 hx z15)) (DA.tL 4 (some 31) (.loc 0 2) (DA.tL 5 (some 32) (.val (Value.string x3_2)) ?_))
    obtain ⟨H10,hx,h⟩:=bind_some h
    refine DA.on 6 (DA.aH (H':=H10) 6 none undef (Abs.run_upM (t:=34) (x:=.tmp 30) (y:=.tmp 32) (z:=.const (Value.int .i64 2)) (mm:=x9) (k:=(Value.string x3_2)) (v:=(Value.int .i64 2)) (by kernel_rfl) (by kernel_rfl) (by kernel_rfl) (by kernel_rfl) (by kernel_rfl) hx) (DA.dn (WS.nxt (WS.sq ?_))))
    refine WS.dr [0,1,2,3,4] [0,0,2,6,14,31] 6 (fun hcl=>?_)
    refine DA.tL 0 (some 33) (.val (Value.agg #[(Value.int .i64 x3_0),(Value.int .i64 x3_1),(Value.string x3_2),(Sl3.v x3_3)])) (DA.tK 1 (some 34) (Value.pointer (some q1)) (DA.tK 2 (some 35) (Value.pointer (some q1)) (DA.tK 3 (some 36) (Value.pointer (some (Addr.add q1 1))) ?_)))
    obtain ⟨x11_0,hx0,h⟩:=bind_some h
    obtain ⟨x11_1,hx1,h⟩:=bind_some h
    obtain ⟨x11_2,hx2,h⟩:=bind_some h
    refine DA.tD 4 (some 37) (Value.agg #[(Sl3.v x11_0),(Sl3.v x11_1),(Sl3.v x11_2)]) (Abs.det_loadA (t:=32) (x:=.tmp 36) (a:=(Addr.add q1 1)) (k:=3) (by kernel_rfl) (by kernel_rfl) (by kernel_rfl) (by kernel_rfl) (z2 (z1 hx0 z3) (z2 (z1 hx1 z3) (z2 (z1 hx2 z3) za)))) ?_
    obtain ⟨⟨x12,H13⟩,hx,h⟩:=bind_some h
    try dsimp only at h
    refine DA.on 5 (DA.aC 5 (some 38) (v:=(Value.bool x12)) 103 #[(Value.agg #[(Value.int .i64 x3_0),(Value.int .i64 x3_1),(Value.string x3_2),(Sl3.v x3_3)]),(Value.agg #[(Sl3.v x11_0),(Sl3.v x11_1),(Sl3.v x11_2)])] (zjw hx) (DA.dn (WS.nxt ?_)))
    rcases z0 h with ⟨hp,h⟩ | ⟨hp,h⟩
    ·refine WS.fx 38 true hp (WS.cT ?_)
     refine WS.dr [0,1,2,3,4,5] [0,1,3,7,0,16,63] 7 (fun hcl=>?_)
     refine DA.tK 0 (some 39) (Value.pointer (some q1)) (DA.tK 1 (some 40) (Value.pointer (some q1)) (DA.tK 2 (some 41) (Value.pointer (some (Addr.add q1 8))) ?_))
     obtain ⟨x14,hx,h⟩:=bind_some h
     refine DA.tD 3 (some 42) (Value.map x14) (Abs.det_load (t:=34) (x:=.tmp 41) (a:=(Addr.add q1 8)) (by kernel_rfl) (by kernel_rfl) (by kernel_rfl) (by kernel_rfl) (z1 hx z15)) (DA.tL 4 (some 43) (.loc 0 2) (DA.tL 5 (some 44) (.val (Value.string x3_2)) ?_))
     obtain ⟨H15,hx,h⟩:=bind_some h
     refine DA.on 6 (DA.aH (H':=H15) 6 none undef (Abs.run_upM (t:=34) (x:=.tmp 42) (y:=.tmp 44) (z:=.const (Value.int .i64 1)) (mm:=x14) (k:=(Value.string x3_2)) (v:=(Value.int .i64 1)) (by kernel_rfl) (by kernel_rfl) (by kernel_rfl) (by kernel_rfl) (by kernel_rfl) hx) (DA.dn ?_))
     cases h
     exact fun a w hs=>(jsN (hs.sb 1))
    ·refine WS.fx 38 false (b_not hp) (WS.cF ?_)
     cases h
   ·refine WS.fx 26 false (decide_eq_false hp) (WS.cF (WS.sk ?_))
    cases h
    exact fun a w hs=>(jsN (hs.sb 1))
  ·clear hx
   refine WS.sq ?_
   refine WS.dr [0,1,2,3,4,5,6] [0,1,3,7,0,16,63,127,255] 9 (fun hcl=>?_)
   refine DA.tK 0 (some 45) (Value.pointer (some q1)) (DA.tK 1 (some 46) (Value.pointer (some q1)) (DA.tK 2 (some 47) (Value.pointer (some (Addr.add q1 8))) ?_))
   obtain ⟨x16,hx,h⟩:=bind_some h
   refine DA.tD 3 (some 48) (Value.map x16) (Abs.det_load (t:=34) (x:=.tmp 47) (a:=(Addr.add q1 8)) (by kernel_rfl) (by kernel_rfl) (by kernel_rfl) (by kernel_rfl) (z1 hx z15)) (DA.tL 4 (some 49) (.loc 0 2) (DA.tL 5 (some 50) (.val (Value.string x3_2)) ?_))
   obtain ⟨x17,hx,h⟩:=bind_some h
   refine DA.tD 6 (some 51) (Value.int .i64 x17) (Abs.det_look (t:=34) (x:=.tmp 48) (y:=.tmp 50) (mm:=x16) (k:=(Value.string x3_2)) (by kernel_rfl) (by kernel_rfl) (by kernel_rfl) (by kernel_rfl) (lk1_eq hx z8)) (DA.tP 7 (some 52) (Value.bool (decide (x17=1))) (DA.tP 8 (some 4) (Value.bool (decide (x17=1))) (DA.dn (WS.nxt (WS.rt ?_)))))
   cases h
   exact fun a w hs=>rtR (rS hs)
 ·refine WS.fx 18 true (z1k hp) (WS.cT (WS.sq (WS.rg (RS.mS 1 [kB 4 false] (RS.dn (WS.nxt (WS.rt ?_)))))))
  cases h
  exact fun a w hs=>sqR (rtR (rS hs))
def zq:AH→Value
 | _=>(Value.tuple #[])
def zu (_:AH):AH→AH:=fun r=>r
noncomputable def B48:Code:=(Tryz.f48.body).getD .skip
noncomputable def z3r (_L:LC) (rec_trees_maker_visit:Nat→AH→(Option Addr)→Int→Option AH) (m:Nat) (_a1:Int) (q1:Addr) (_x3_0:Int) (_x3_1:ByteArray) (_x3_2:Bool) (_x3_3:Sl3) (_x3_4:Int) (_x3_5:Sl3) (_x3_6 _x3_7:Int) (_x3_8:ByteArray) (_x3_9 _x3_10 x3_11:Sl3):(AH×Int)→Option (Lp (AH×Int) AH):=fun (H6,v20_7) =>
 if v20_7<(x3_11.n:Int) then
  Option.bind (idxA 1 x3_11 v20_7) fun p8 =>
  Option.bind (rd (deI .i64) H6 p8) fun x9 =>
  Option.bind (rec_trees_maker_visit m H6 (some q1) x9) fun H10 =>
  some (.next (H10,(IntKind.i64.wrap (v20_7+1))))
 else
  some (.brk (H6,v20_7))
def zcg (_L:LC) (_rec_trees_maker_visit:Nat→AH→(Option Addr)→Int→Option AH) (_m:Nat) (a1:Int) (q1:Addr) (x3_0:Int) (x3_1:ByteArray) (x3_2:Bool) (x3_3:Sl3) (x3_4:Int) (x3_5:Sl3) (x3_6 x3_7:Int) (x3_8:ByteArray) (x3_9 x3_10 x3_11:Sl3):(AH×Int)→KN×Lcs:=fun (_,v20_7)=>([kI 20 v20_7,kP 0 q1,kI 1 a1,kS 18 x3_11,kI 19 (x3_11.n:Int)],[some (73,[(Value.int .i64 x3_0),(Value.string x3_1),(Value.bool x3_2),(Sl3.v x3_3),(Value.int .i64 x3_4),(Sl3.v x3_5),(Value.int .i64 x3_6),(Value.int .i64 x3_7),(Value.string x3_8),(Sl3.v x3_9),(Sl3.v x3_10),(Sl3.v x3_11)])])
noncomputable def z2x (L:LC) (rec_trees_maker_visit:Nat→AH→(Option Addr)→Int→Option AH) (m:Nat) (H:AH) (a0:Option Addr) (a1:Int):Option AH :=
 Option.bind a0 fun q1 =>
 Option.bind (rd deP H (Addr.add q1 0)) fun x2 =>
 Option.bind (z4q L m H x2 a1) fun (x3_0,x3_1,x3_2,x3_3,x3_4,x3_5,x3_6,x3_7,x3_8,x3_9,x3_10,x3_11,_,H5) =>
 Option.bind (L.run (z3r L rec_trees_maker_visit m a1 q1 x3_0 x3_1 x3_2 x3_3 x3_4 x3_5 x3_6 x3_7 x3_8 x3_9 x3_10 x3_11) (H5,0)) fun o=>match o with
 | .inl (H11,_) =>
  Option.bind (z5b L m H11 (some q1) a1) fun (x13,H14) =>
  if x13=true then
   Option.bind (z4p L m H14 (some (Addr.add q1 4)) a1) fun H15 =>
   some H15
  else
   some H14
 | .inr r=>some r
noncomputable def z75 (L:LC) (n:Nat):(Nat→AH→(Option Addr)→Int→Option AH):=Nat.rec (motive:=fun _=>(Nat→AH→(Option Addr)→Int→Option AH)) (fun _ _ _ _=>none) (fun _ p=>z2x L p) n
noncomputable def zaq (L:LC) (m:Nat) (H:AH) (a0:Option Addr) (a1:Int):Option AH:=(z75 L L.fuel) m H a0 a1
theorem z5s {E H L rec_trees_maker_visit m a1 q1 x3_0 x3_1 x3_2 x3_3 x3_4 x3_5 x3_6 x3_7 x3_8 x3_9 x3_10 x3_11} (hrec_trees_maker_visit:∀(m:Nat) (H:AH) (a0:Option Addr) (a1:Int) (r:AH),rec_trees_maker_visit m H a0 a1=some r→CallS Tryz.prog (NE.plain 114) m 48 #[(Value.pointer a0),(Value.int .i64 a1)] H (zq r) (zu H r)):LoopF Tryz.prog (NE.plain 114) m E Tryz.f48 ((cfst (csnd (cfst (csnd B48))))) (zcg L rec_trees_maker_visit m a1 q1 x3_0 x3_1 x3_2 x3_3 x3_4 x3_5 x3_6 x3_7 x3_8 x3_9 x3_10 x3_11) (fun s=>s.1) 0 zq (zu H) (z3r L rec_trees_maker_visit m a1 q1 x3_0 x3_1 x3_2 x3_3 x3_4 x3_5 x3_6 x3_7 x3_8 x3_9 x3_10 x3_11):=by
 rintro ⟨H6,v20_7⟩ o h
 unfold z3r at h
 try dsimp only at h
 refine WS.sq (WS.rg (RS.mS 1 [kB 21 (decide (v20_7<(x3_11.n:Int)))] (RS.dn (WS.nxt (WS.sq ?_)))))
 rcases z0 h with ⟨hp,h⟩ | ⟨hp,h⟩
 ·refine WS.fx 21 true (decide_eq_true hp) (WS.cT (WS.sk (WS.nxt (WS.sq (WS.bk 1 (WS.sq (WS.rg ?_)))))))
  obtain ⟨p8,hx,h⟩:=bind_some h
  refine RS.ix 22 22 3 (.tmp 18) (.tmp 20) hx ?_
  obtain ⟨x9,hx,h⟩:=bind_some h
  refine RS.ld 23 3 (.tmp 22) (z1 hx z8) (RS.mS 1 [kI 7 x9] (RS.dn (WS.nxt (WS.rg (RS.mS 2 [kI 25 x9,kP 24 q1] ?_)))))
  obtain ⟨H10,hx,h⟩:=bind_some h
  refine RS.cl (some 26) (v:=(Value.tuple #[])) 48 #[(Value.pointer (some q1)),(Value.int .i64 x9)] (hrec_trees_maker_visit _ _ _ _ _ hx) (RS.dn ?_)
  refine fun a w hs=>bkN ((WS.nxt ?_ a w hs))
  refine WS.rg (RS.mS 2 [kI 20 (IntKind.i64.wrap (v20_7+1)),kI 27 (IntKind.i64.wrap (v20_7+1))] (RS.dn ?_))
  cases h
  exact fun a w hs=>lsN rfl (hs.sb 1)
 ·refine WS.fx 21 false (decide_eq_false hp) (WS.cF (WS.ex 0 ?_))
  cases h
  exact fun a w hs=>sqE (lsB rfl (hs.sb 1))
theorem zb7 {L:LC} {rec_trees_maker_visit:Nat→AH→(Option Addr)→Int→Option AH} (hrec_trees_maker_visit:∀(m:Nat) (H:AH) (a0:Option Addr) (a1:Int) (r:AH),rec_trees_maker_visit m H a0 a1=some r→CallS Tryz.prog (NE.plain 114) m 48 #[(Value.pointer a0),(Value.int .i64 a1)] H (zq r) (zu H r)) {m:Nat} {H:AH} {a0:Option Addr} {a1:Int} {r:AH} (h:z2x L rec_trees_maker_visit m H a0 a1=some r) :
  CallS Tryz.prog (NE.plain 114) m 48 #[(Value.pointer a0),(Value.int .i64 a1)] H (zq r) (zu H r):=by
 refine CallS.mk (args:=[(Value.pointer a0),(Value.int .i64 a1)]) Tryz.func48 (B:=B48) (by kernel_rfl) (fun E _=>?_)
 unfold z2x at h
 refine WS.sq (WS.rg (RS.mS 1 [(9,.val (Value.pointer a0))] ?_))
 obtain ⟨q1,hx,hq1⟩:=bind_some h
 subst hx
 have h:=hq1
 refine RS.mS 2 [(11,.val (Value.pointer (some (Addr.add q1 0)))),kP 10 q1] ?_
 obtain ⟨x2,hx,h⟩:=bind_some h
 refine RS.ld 12 27 (.tmp 11) (z1 hx z16) (RS.mS 1 [kI 13 a1] ?_)
 obtain ⟨⟨x3_0,x3_1,x3_2,x3_3,x3_4,x3_5,x3_6,x3_7,x3_8,x3_9,x3_10,x3_11,x4,H5⟩,hx,h⟩:=bind_some h
 try dsimp only at h
 refine RS.cl (some 14) (v:=(Value.tuple #[(Value.agg #[(Value.int .i64 x3_0),(Value.string x3_1),(Value.bool x3_2),(Sl3.v x3_3),(Value.int .i64 x3_4),(Sl3.v x3_5),(Value.int .i64 x3_6),(Value.int .i64 x3_7),(Value.string x3_8),(Sl3.v x3_9),(Sl3.v x3_10),(Sl3.v x3_11)]),(Value.bool x4)])) 17 #[(Value.pointer x2),(Value.int .i64 a1)] (z9x hx) (RS.mL 6 [kB 5 x4,kL 4 0 0,kB 16 x4,kA 15 #[(Value.int .i64 x3_0),(Value.string x3_1),(Value.bool x3_2),(Sl3.v x3_3),(Value.int .i64 x3_4),(Sl3.v x3_5),(Value.int .i64 x3_6),(Value.int .i64 x3_7),(Value.string x3_8),(Sl3.v x3_9),(Sl3.v x3_10),(Sl3.v x3_11)],(8,.val (Value.tuple #[(Value.agg #[(Value.int .i64 x3_0),(Value.string x3_1),(Value.bool x3_2),(Sl3.v x3_3),(Value.int .i64 x3_4),(Sl3.v x3_5),(Value.int .i64 x3_6),(Value.int .i64 x3_7),(Value.string x3_8),(Sl3.v x3_9),(Sl3.v x3_10),(Sl3.v x3_11)]),(Value.bool x4)]))] ([some (73,[(Value.int .i64 x3_0),(Value.string x3_1),(Value.bool x3_2),(Sl3.v x3_3),(Value.int .i64 x3_4),(Sl3.v x3_5),(Value.int .i64 x3_6),(Value.int .i64 x3_7),(Value.string x3_8),(Sl3.v x3_9),(Sl3.v x3_10),(Sl3.v x3_11)])]) (RS.dn (WS.nxt (WS.sq (WS.sq (WS.rg (RS.mS 4 [kI 20 0,kI 19 (x3_11.n:Int),kS 18 x3_11,kL 17 0 11] (RS.dn (WS.nxt ?_)))))))))
 refine WS.bk 0 ?_
 obtain ⟨o,hl,h⟩:=bind_some h
 rcases o with ⟨H11,v20_12⟩ | r
 ·try dsimp only at h
  refine WS.lI (z5s (L:=L) (E:=E) (m:=m) (H:=H) hrec_trees_maker_visit) (L.ok hl) 1 ?_
  clear hl
  refine fun a w hs=>bkE ((WS.nxt ?_ a w hs))
  refine WS.sq (WS.rg (RS.mS 2 [kI 29 a1,kP 28 q1] ?_))
  obtain ⟨⟨x13,H14⟩,hx,h⟩:=bind_some h
  try dsimp only at h
  refine RS.cl (some 30) (v:=(Value.bool x13)) 76 #[(Value.pointer (some q1)),(Value.int .i64 a1)] (ze5 hx) (RS.dn (WS.nxt ?_))
  rcases z0 h with ⟨hp,h⟩ | ⟨hp,h⟩
  ·refine WS.fx 30 true hp (WS.cT (WS.rg (RS.mS 4 [kI 34 a1,(33,.val (Value.pointer (some (Addr.add q1 4)))),kP 32 q1,kP 31 q1] ?_)))
   obtain ⟨H15,hx,h⟩:=bind_some h
   refine RS.cl (some 35) (v:=(Value.tuple #[])) 15 #[(Value.pointer (some (Addr.add q1 4))),(Value.int .i64 a1)] (z9j hx) (RS.dn ?_)
   cases h
   exact fun a w hs=>rtN (rS hs)
  ·refine WS.fx 30 false (b_not hp) (WS.cF (WS.sk ?_))
   cases h
   exact fun a w hs=>rtN (rS hs)
 ·try dsimp only at h
  refine WS.lR (z5s (L:=L) (E:=E) (m:=m) (H:=H) hrec_trees_maker_visit) (L.ok hl) 1 ?_
  cases h
  exact fun a w hq=>bkR (sqR (rtR hq))
theorem zbn {L:LC}:∀n,(∀(m:Nat) (H:AH) (a0:Option Addr) (a1:Int) (r:AH),((z75 L n)) m H a0 a1=some r→CallS Tryz.prog (NE.plain 114) m 48 #[(Value.pointer a0),(Value.int .i64 a1)] H (zq r) (zu H r)):=by
 intro n
 induction n with
 | zero=>exact (fun _ _ _ _ _ h=>(Option.some_ne_none _ h.symm).elim)
 | succ n ih=>exact (fun _ _ _ _ _ h=>zb7 (L:=L) ih h)
theorem zex {L:LC} {m:Nat} {H:AH} {a0:Option Addr} {a1:Int} {r:AH} (h:zaq L m H a0 a1=some r) :
  CallS Tryz.prog (NE.plain 114) m 48 #[(Value.pointer a0),(Value.int .i64 a1)] H (zq r) (zu H r) :=
 (zbn _) _ _ _ _ _ h
end Go.Proofs.YthhbfmgipdbilaaGreatDoor
namespace Go.Proofs.YthhbfmgipdbilaaGreatDoor
open Go Go.Abs
set_option maxRecDepth 100000
def z1n:AH→Value
 | _=>(Value.tuple #[])
def z1s (_:AH):AH→AH:=fun r=>r
noncomputable def B31:Code:=(Tryz.f31.body).getD .skip
noncomputable def z34 (L:LC) (m:Nat) (_a0:Option Addr) (a1:Sl3):(AH×ByteArray×Int)→Option (Lp (AH×ByteArray×Int) AH):=fun (H1,v4_2,v11_3) =>
 if v11_3<(a1.n:Int) then
  Option.bind (idxA 1 a1 v11_3) fun p4 =>
  Option.bind (rd (deI .i64) H1 p4) fun x5 =>
  Option.bind (z7h L m H1 x5) fun (x6,H7) =>
  Option.bind (strcat x6 (⟨#[32]⟩:ByteArray)) fun s8 =>
  Option.bind (strcat v4_2 s8) fun s9 =>
  some (.next (H7,s9,(IntKind.i64.wrap (v11_3+1))))
 else
  some (.brk (H1,v4_2,v11_3))
def zc6 (_L:LC) (_m:Nat) (a0:Option Addr) (a1:Sl3):(AH×ByteArray×Int)→KN×Lcs:=fun (_,v4_2,v11_3)=>([kT 4 v4_2,kI 11 v11_3,(0,.val (Value.pointer a0)),kS 1 a1,kS 9 a1,kI 10 (a1.n:Int)],[])
noncomputable def z3g (L:LC) (m:Nat) (a1:Sl3) (q13:Addr):(AH×Int)→Option (Lp (AH×Int) AH):=fun (H26,v55_27) =>
 if v55_27<(a1.n:Int) then
  Option.bind (idxA 1 a1 v55_27) fun p28 =>
  Option.bind (rd (deI .i64) H26 p28) fun x29 =>
  Option.bind (zaq L m H26 (some q13) x29) fun H30 =>
  some (.next (H30,(IntKind.i64.wrap (v55_27+1))))
 else
  some (.brk (H26,v55_27))
def zbg (_L:LC) (_m:Nat) (a1:Sl3) (q13:Addr):(AH×Int)→KN×Lcs:=fun (_,v55_27)=>([kI 55 v55_27,kP 0 q13,kS 53 a1,kI 54 (a1.n:Int)],[])
noncomputable def z2p (L:LC) (m:Nat) (H:AH) (a0:Option Addr) (a1:Sl3):Option AH :=
 Option.bind (L.run (z34 L m a0 a1) (H,(⟨#[]⟩:ByteArray),0)) fun o=>match o with
 | .inl (H10,v4_11,_) =>
  Option.bind a0 fun q13 =>
  Option.bind (rd deM H10 (Addr.add q13 7)) fun x14 =>
  Option.bind (lk1 Tryz.prog 34 (deI .i64) H10 x14 (Value.string v4_11)) fun x15 =>
  Option.bind (upM Tryz.prog m 34 H10 x14 (Value.string v4_11) (Value.int .i64 (IntKind.i64.wrap (x15+1)))) fun H16 =>
  Option.bind (rd deM H16 (Addr.add q13 7)) fun x17 =>
  Option.bind (lk1 Tryz.prog 34 (deI .i64) H16 x17 (Value.string v4_11)) fun x18 =>
  if x18 > 1 then
   none
  else
   Option.bind (rd deSl H16 (Addr.add q13 6)) fun x19 =>
   if (x19.n:Int)≥65536 then
    none
   else
    Option.bind (rd deSl H16 (Addr.add q13 6)) fun x20 =>
    Option.bind (newR 22 1 #[(Sl3.v a1)] H16) fun (s21,H22) =>
    Option.bind (appS m 22 1 24 H22 x20 s21) fun (s23,H24) =>
    Option.bind (H24.setCell m (Addr.add q13 6) (Sl3.v s23)) fun H25 =>
    Option.bind (L.run (z3g L m a1 q13) (H25,0)) fun o=>match o with
    | .inl (H31,_) =>
     some H31
    | .inr r=>some r
 | .inr r=>some r
theorem z5g {E H L m a0 a1} :LoopF Tryz.prog (NE.plain 114) m E Tryz.f31 ((cfst (csnd (cfst (csnd B31))))) (zc6 L m a0 a1) (fun s=>s.1) 0 z1n (z1s H) (z34 L m a0 a1):=by
 rintro ⟨H1,v4_2,v11_3⟩ o h
 unfold z34 at h
 try dsimp only at h
 refine WS.sq (WS.rg (RS.mS 1 [kB 12 (decide (v11_3<(a1.n:Int)))] (RS.dn (WS.nxt (WS.sq ?_)))))
 rcases z0 h with ⟨hp,h⟩ | ⟨hp,h⟩
 ·refine WS.fx 12 true (decide_eq_true hp) (WS.cT (WS.sk (WS.nxt (WS.sq (WS.bk 1 (WS.sq (WS.rg ?_)))))))
  obtain ⟨p4,hx,h⟩:=bind_some h
  refine RS.ix 13 22 3 (.tmp 9) (.tmp 11) hx ?_
  obtain ⟨x5,hx,h⟩:=bind_some h
  refine RS.ld 14 3 (.tmp 13) (z1 hx z8) (RS.mS 1 [kI 6 x5] (RS.dn (WS.nxt (WS.rg (RS.mS 2 [kI 16 x5,kT 15 v4_2] ?_)))))
  obtain ⟨⟨x6,H7⟩,hx,h⟩:=bind_some h
  try dsimp only at h
  refine RS.cl (some 17) (v:=(Value.string x6)) 47 #[(Value.int .i64 x5)] (zcq hx) ?_
  obtain ⟨s8,hx,h⟩:=bind_some h
  refine RS.o (H':=H7) (some 18) (Value.string s8) (Abs.run_strcat (t:=9) (u:=9) (x:=.tmp 17) (y:=.const (Value.string (⟨#[32]⟩:ByteArray))) (a:=x6) (b:=(⟨#[32]⟩:ByteArray)) (by kernel_rfl) (by kernel_rfl) (by kernel_rfl) hx) ?_
  obtain ⟨s9,hx,h⟩:=bind_some h
  refine RS.o (H':=H7) (some 19) (Value.string s9) (Abs.run_strcat (t:=9) (u:=9) (x:=.tmp 15) (y:=.tmp 18) (a:=v4_2) (b:=s8) (by kernel_rfl) (by kernel_rfl) (by kernel_rfl) hx) (RS.mS 1 [kT 4 s9] (RS.dn ?_))
  refine fun a w hs=>bkN ((WS.nxt ?_ a w hs))
  refine WS.rg (RS.mS 2 [kI 11 (IntKind.i64.wrap (v11_3+1)),kI 20 (IntKind.i64.wrap (v11_3+1))] (RS.dn ?_))
  cases h
  exact fun a w hs=>lsN rfl (hs.sb 0)
 ·refine WS.fx 12 false (decide_eq_false hp) (WS.cF (WS.ex 0 ?_))
  cases h
  exact fun a w hs=>sqE (lsB rfl (hs.sb 0))
theorem z57 {E H L m a1 q13} :LoopF Tryz.prog (NE.plain 114) m E Tryz.f31 ((cfst (csnd (csnd (csnd (csnd (csnd (csnd B31)))))))) (zbg L m a1 q13) (fun s=>s.1) 2 z1n (z1s H) (z3g L m a1 q13):=by
 rintro ⟨H26,v55_27⟩ o h
 unfold z3g at h
 try dsimp only at h
 refine WS.sq (WS.rg (RS.mS 1 [kB 56 (decide (v55_27<(a1.n:Int)))] (RS.dn (WS.nxt (WS.sq ?_)))))
 rcases z0 h with ⟨hp,h⟩ | ⟨hp,h⟩
 ·refine WS.fx 56 true (decide_eq_true hp) (WS.cT (WS.sk (WS.nxt (WS.sq (WS.bk 3 (WS.sq (WS.rg ?_)))))))
  obtain ⟨p28,hx,h⟩:=bind_some h
  refine RS.ix 57 22 3 (.tmp 53) (.tmp 55) hx ?_
  obtain ⟨x29,hx,h⟩:=bind_some h
  refine RS.ld 58 3 (.tmp 57) (z1 hx z8) (RS.mS 1 [kI 8 x29] (RS.dn (WS.nxt (WS.rg (RS.mS 2 [kI 60 x29,kP 59 q13] ?_)))))
  obtain ⟨H30,hx,h⟩:=bind_some h
  refine RS.cl (some 61) (v:=(Value.tuple #[])) 48 #[(Value.pointer (some q13)),(Value.int .i64 x29)] (zex hx) (RS.dn ?_)
  refine fun a w hs=>bkN ((WS.nxt ?_ a w hs))
  refine WS.rg (RS.mS 2 [kI 55 (IntKind.i64.wrap (v55_27+1)),kI 62 (IntKind.i64.wrap (v55_27+1))] (RS.dn ?_))
  cases h
  exact fun a w hs=>lsN rfl (hs.sb 0)
 ·refine WS.fx 56 false (decide_eq_false hp) (WS.cF (WS.ex 2 ?_))
  cases h
  exact fun a w hs=>sqE (lsB rfl (hs.sb 0))
theorem z72 {L:LC} {m:Nat} {H:AH} {a0:Option Addr} {a1:Sl3} {r:AH} (h:z2p L m H a0 a1=some r) :
  CallS Tryz.prog (NE.plain 114) m 31 #[(Value.pointer a0),(Sl3.v a1)] H (z1n r) (z1s H r):=by
 refine CallS.mk (args:=[(Value.pointer a0),(Sl3.v a1)]) Tryz.func31 (B:=B31) (by kernel_rfl) (fun E _=>?_)
 unfold z2p at h
 refine WS.sq (WS.rg (RS.mS 1 [kT 4 (⟨#[]⟩:ByteArray)] (RS.dn (WS.nxt (WS.sq (WS.sq (WS.rg (RS.mS 3 [kI 11 0,kI 10 (a1.n:Int),kS 9 a1] (RS.dn ?_)))))))))
 refine WS.nxt (WS.bk 0 ?_)
 obtain ⟨o,hl,h⟩:=bind_some h
 rcases o with ⟨H10,v4_11,v11_12⟩ | r
 ·try dsimp only at h
  refine WS.lI (z5g (L:=L) (E:=E) (m:=m) (H:=H)) (L.ok hl) 0 ?_
  clear hl
  refine fun a w hs=>bkE ((WS.nxt ?_ a w hs))
  refine WS.sq (WS.sq (WS.rg (RS.mS 1 [(21,.val (Value.pointer a0))] ?_)))
  obtain ⟨q13,hx,hq13⟩:=bind_some h
  subst hx
  have h:=hq13
  refine RS.mS 2 [(23,.val (Value.pointer (some (Addr.add q13 7)))),kP 22 q13] ?_
  obtain ⟨x14,hx,h⟩:=bind_some h
  refine RS.ld 24 34 (.tmp 23) (z1 hx z15) (RS.mS 1 [kT 25 v4_11] ?_)
  obtain ⟨x15,hx,h⟩:=bind_some h
  refine RS.o (H':=H10) (some 26) (Value.int .i64 x15) (Abs.run_look (t:=34) (x:=.tmp 24) (y:=.tmp 25) (mm:=x14) (k:=(Value.string v4_11)) (by kernel_rfl) (by kernel_rfl) (by kernel_rfl) (by kernel_rfl) (lk1_eq hx z8)) (RS.mS 1 [kI 27 (IntKind.i64.wrap (x15+1))] ?_)
  obtain ⟨H16,hx,h⟩:=bind_some h
  refine RS.o (H':=H16) none undef (Abs.run_upM (t:=34) (x:=.tmp 24) (y:=.tmp 25) (z:=.tmp 27) (mm:=x14) (k:=(Value.string v4_11)) (v:=(Value.int .i64 (IntKind.i64.wrap (x15+1)))) (by kernel_rfl) (by kernel_rfl) (by kernel_rfl) (by kernel_rfl) (by kernel_rfl) hx) (RS.dn (WS.nxt (WS.sq (WS.rg (RS.mS 3 [(30,.val (Value.pointer (some (Addr.add q13 7)))),kP 29 q13,kP 28 q13] ?_)))))
  obtain ⟨x17,hx,h⟩:=bind_some h
  refine RS.ld 31 34 (.tmp 30) (z1 hx z15) (RS.mS 1 [kT 32 v4_11] ?_)
  obtain ⟨x18,hx,h⟩:=bind_some h
  refine RS.o (H':=H16) (some 33) (Value.int .i64 x18) (Abs.run_look (t:=34) (x:=.tmp 31) (y:=.tmp 32) (mm:=x17) (k:=(Value.string v4_11)) (by kernel_rfl) (by kernel_rfl) (by kernel_rfl) (by kernel_rfl) (lk1_eq hx z8)) (RS.mS 1 [kB 34 (decide (x18 > 1))] (RS.dn (WS.nxt ?_)))
  rcases z0 h with ⟨hp,h⟩ | ⟨hp,h⟩
  ·refine WS.fx 34 true (decide_eq_true hp) (WS.cT ?_)
   cases h
  ·refine WS.fx 34 false (decide_eq_false hp) (WS.cF (WS.sk (WS.nxt (WS.sq (WS.sq (WS.rg (RS.mS 3 [(37,.val (Value.pointer (some (Addr.add q13 6)))),kP 36 q13,kP 35 q13] ?_)))))))
   obtain ⟨x19,hx,h⟩:=bind_some h
   refine RS.ld 38 23 (.tmp 37) (z1 hx z3) (RS.mS 2 [kB 40 (decide ((x19.n:Int)≥65536)),kI 39 (x19.n:Int)] (RS.dn (WS.nxt ?_)))
   rcases z0 h with ⟨hp,h⟩ | ⟨hp,h⟩
   ·refine WS.fx 40 true (decide_eq_true hp) (WS.cT ?_)
    cases h
   ·refine WS.fx 40 false (decide_eq_false hp) (WS.cF (WS.sk (WS.nxt (WS.sq (WS.rg (RS.mS 4 [(46,.val (Value.pointer (some (Addr.add q13 6)))),kP 45 q13,kP 44 q13,kP 43 q13] ?_))))))
    obtain ⟨x20,hx,h⟩:=bind_some h
    refine RS.ld 47 23 (.tmp 46) (z1 hx z3) (RS.mS 1 [kS 48 a1] ?_)
    obtain ⟨⟨s21,H22⟩,hx,h⟩:=bind_some h
    try dsimp only at h
    refine RS.o (H':=H22) (some 49) (Sl3.v s21) (Abs.run_newR (by kernel_rfl) (by kernel_rfl) hx) ?_
    obtain ⟨⟨s23,H24⟩,hx,h⟩:=bind_some h
    try dsimp only at h
    refine RS.o (H':=H24) (some 50) (Sl3.v s23) (Abs.run_app (x:=.tmp 47) (y:=.tmp 49) (ts:=#[23,23]) (s:=x20) (z:=s21) (by kernel_rfl) (by kernel_rfl) (by kernel_rfl) (by kernel_rfl) hx) (RS.mS 2 [(52,.val (Value.pointer (some (Addr.add q13 6)))),kP 51 q13] ?_)
    obtain ⟨H25,hx,h⟩:=bind_some h
    refine RS.o (H':=H25) none undef (Abs.run_store1 (t:=23) (x:=.tmp 52) (y:=.tmp 50) (a:=(Addr.add q13 6)) (v:=(Sl3.v s23)) (by kernel_rfl) (by kernel_rfl) (by kernel_rfl) (by kernel_rfl) (by kernel_rfl) hx) (RS.dn (WS.nxt (WS.sq (WS.rg (RS.mS 3 [kI 55 0,kI 54 (a1.n:Int),kS 53 a1] (RS.dn (WS.nxt (WS.bk 2 ?_))))))))
    obtain ⟨o,hl,h⟩:=bind_some h
    rcases o with ⟨H31,v55_32⟩ | r
    ·try dsimp only at h
     refine WS.lI (z57 (L:=L) (E:=E) (m:=m) (H:=H)) (L.ok hl) 0 ?_
     clear hl
     cases h
     exact fun a w hs=>bkE (rtN (rS hs))
    ·try dsimp only at h
     refine WS.lR (z57 (L:=L) (E:=E) (m:=m) (H:=H)) (L.ok hl) 0 ?_
     cases h
     exact fun a w hq=>bkR (rtR hq)
 ·try dsimp only at h
  refine WS.lR (z5g (L:=L) (E:=E) (m:=m) (H:=H)) (L.ok hl) 0 ?_
  cases h
  exact fun a w hq=>bkR (sqR (rtR hq))
def z8k:(Int×AH)→Value
 | (r0,_)=>(Value.int .i64 r0)
def za5 (_:AH):(Int×AH)→AH:=fun r=>r.2
noncomputable def B38:Code:=(Tryz.f38.body).getD .skip
noncomputable def z1u (L:LC) (m:Nat) (H:AH) (a0:Option Addr) (a1_0:Int) (a1_1:ByteArray) (a1_2:Bool) (a1_3:Sl3) (a1_4:Int) (a1_5:Sl3) (a1_6 a1_7:Int) (a1_8:ByteArray) (a1_9 a1_10 a1_11:Sl3):Option (Int×AH) :=
 Option.bind a0 fun q1 =>
 Option.bind (rd deP H (Addr.add q1 0)) fun x2 =>
 Option.bind (z3i L m H x2 a1_0 a1_1 a1_2 a1_3 a1_4 a1_5 a1_6 a1_7 a1_8 a1_9 a1_10 a1_11) fun (x3,x4,H5) =>
 if x4=0 then
  some (x3,H5)
 else
  none
theorem z2u {L:LC} {m:Nat} {H:AH} {a0:Option Addr} {a1_0:Int} {a1_1:ByteArray} {a1_2:Bool} {a1_3:Sl3} {a1_4:Int} {a1_5:Sl3} {a1_6 a1_7:Int} {a1_8:ByteArray} {a1_9 a1_10 a1_11:Sl3} {r:(Int×AH)} (h:z1u L m H a0 a1_0 a1_1 a1_2 a1_3 a1_4 a1_5 a1_6 a1_7 a1_8 a1_9 a1_10 a1_11=some r) :
  CallS Tryz.prog (NE.plain 114) m 38 #[(Value.pointer a0),(Value.agg #[(Value.int .i64 a1_0),(Value.string a1_1),(Value.bool a1_2),(Sl3.v a1_3),(Value.int .i64 a1_4),(Sl3.v a1_5),(Value.int .i64 a1_6),(Value.int .i64 a1_7),(Value.string a1_8),(Sl3.v a1_9),(Sl3.v a1_10),(Sl3.v a1_11)])] H (z8k r) (za5 H r):=by
 refine CallS.mk (args:=[(Value.pointer a0),(Value.agg #[(Value.int .i64 a1_0),(Value.string a1_1),(Value.bool a1_2),(Sl3.v a1_3),(Value.int .i64 a1_4),(Sl3.v a1_5),(Value.int .i64 a1_6),(Value.int .i64 a1_7),(Value.string a1_8),(Sl3.v a1_9),(Sl3.v a1_10),(Sl3.v a1_11)])]) Tryz.func38 (B:=B38) (by kernel_rfl) (fun E _=>?_)
 unfold z1u at h
 refine WS.sq (WS.rg (RS.mL 2 [kI 4 0,kL 3 0 0] ([some (73,[(Value.int .i64 a1_0),(Value.string a1_1),(Value.bool a1_2),(Sl3.v a1_3),(Value.int .i64 a1_4),(Sl3.v a1_5),(Value.int .i64 a1_6),(Value.int .i64 a1_7),(Value.string a1_8),(Sl3.v a1_9),(Sl3.v a1_10),(Sl3.v a1_11)])]) (RS.dn (WS.nxt (WS.sq ?_)))))
 refine WS.dr [0,1,2,3,4] [0,1,3,7,0,31,63,127,127,255,1023] 11 (fun hcl=>?_)
 refine DA.tK 0 (some 8) (Value.pointer a0) ?_
 obtain ⟨q1,hx,hq1⟩:=bind_some h
 subst hx
 have h:=hq1
 refine DA.tK 1 (some 9) (Value.pointer (some q1)) (DA.tK 2 (some 10) (Value.pointer (some (Addr.add q1 0))) ?_)
 obtain ⟨x2,hx,h⟩:=bind_some h
 refine DA.tD 3 (some 11) (Value.pointer x2) (Abs.det_load (t:=27) (x:=.tmp 10) (a:=(Addr.add q1 0)) (by kernel_rfl) (by kernel_rfl) (by kernel_rfl) (by kernel_rfl) (z1 hx z16)) (DA.tL 4 (some 12) (.val (Value.agg #[(Value.int .i64 a1_0),(Value.string a1_1),(Value.bool a1_2),(Sl3.v a1_3),(Value.int .i64 a1_4),(Sl3.v a1_5),(Value.int .i64 a1_6),(Value.int .i64 a1_7),(Value.string a1_8),(Sl3.v a1_9),(Sl3.v a1_10),(Sl3.v a1_11)])) ?_)
 obtain ⟨⟨x3,x4,H5⟩,hx,h⟩:=bind_some h
 try dsimp only at h
 refine DA.on 5 (DA.aC 5 (some 13) (v:=(Value.tuple #[(Value.int .i64 x3),(Value.int .i64 x4)])) 23 #[(Value.pointer x2),(Value.agg #[(Value.int .i64 a1_0),(Value.string a1_1),(Value.bool a1_2),(Sl3.v a1_3),(Value.int .i64 a1_4),(Sl3.v a1_5),(Value.int .i64 a1_6),(Value.int .i64 a1_7),(Value.string a1_8),(Sl3.v a1_9),(Sl3.v a1_10),(Sl3.v a1_11)])] (z66 hx) (DA.tP 6 (some 7) (Value.tuple #[(Value.int .i64 x3),(Value.int .i64 x4)]) (DA.tP 7 (some 14) (Value.int .i64 x3) (DA.tP 8 (some 15) (Value.int .i64 x4) (DA.tP 9 (some 5) (Value.int .i64 x3) (DA.tP 10 (some 6) (Value.int .i64 x4) (DA.dn (WS.nxt (WS.sq ?_)))))))))
 refine WS.sq (WS.rg (RS.mS 2 [kB 17 (!decide (x4=0)),kI 16 x4] (RS.dn (WS.nxt ?_))))
 rcases z0 h with ⟨hp,h⟩ | ⟨hp,h⟩
 ·refine WS.fx 17 false (z2b hp) (WS.cF (WS.sk (WS.nxt (WS.sq (WS.rg (RS.mS 2 [kI 4 x3,kI 21 x3] (RS.dn (WS.nxt (WS.rt ?_)))))))))
  cases h
  exact fun a w hs=>rtR (rS hs)
 ·refine WS.fx 17 true (z1k hp) (WS.cT ?_)
  cases h
def z9i:(Int×AH)→Value
 | (r0,_)=>(Value.int .i64 r0)
def zaw (_:AH):(Int×AH)→AH:=fun r=>r.2
noncomputable def B32:Code:=(Tryz.f32.body).getD .skip
noncomputable def z5k (L:LC) (m:Nat) (H:AH) (a0:Option Addr) (a1:ByteArray) (a2:Int):Option (Int×AH) :=
 Option.bind (newR 3 1 #[(Value.int .i64 a2)] H) fun (s1,H2) =>
 Option.bind (z1u L m H2 a0 14 a1 false Sl3.nil 0 Sl3.nil 0 0 (⟨#[]⟩:ByteArray) Sl3.nil Sl3.nil s1) fun (x3,H4) =>
 some (x3,H4)
theorem zaz {L:LC} {m:Nat} {H:AH} {a0:Option Addr} {a1:ByteArray} {a2:Int} {r:(Int×AH)} (h:z5k L m H a0 a1 a2=some r) :
  CallS Tryz.prog (NE.plain 114) m 32 #[(Value.pointer a0),(Value.string a1),(Value.int .i64 a2)] H (z9i r) (zaw H r):=by
 refine CallS.mk (args:=[(Value.pointer a0),(Value.string a1),(Value.int .i64 a2)]) Tryz.func32 (B:=B32) (by kernel_rfl) (fun E _=>?_)
 unfold z5k at h
 refine WS.sq (WS.rg (RS.mS 1 [kI 6 0] (RS.dn (WS.nxt (WS.sq (WS.rg (RS.mS 3 [kI 9 a2,kT 8 a1,(7,.val (Value.pointer a0))] ?_)))))))
 obtain ⟨⟨s1,H2⟩,hx,h⟩:=bind_some h
 try dsimp only at h
 refine RS.o (H':=H2) (some 10) (Sl3.v s1) (Abs.run_newR (by kernel_rfl) (by kernel_rfl) hx) (RS.mS 1 [kA 11 #[(Value.int .i64 14),(Value.string a1),(Value.bool false),(Sl3.v Sl3.nil),(Value.int .i64 0),(Sl3.v Sl3.nil),(Value.int .i64 0),(Value.int .i64 0),(Value.string (⟨#[]⟩:ByteArray)),(Sl3.v Sl3.nil),(Sl3.v Sl3.nil),(Sl3.v s1)]] ?_)
 obtain ⟨⟨x3,H4⟩,hx,h⟩:=bind_some h
 try dsimp only at h
 refine RS.cl (some 12) (v:=(Value.int .i64 x3)) 38 #[(Value.pointer a0),(Value.agg #[(Value.int .i64 14),(Value.string a1),(Value.bool false),(Sl3.v Sl3.nil),(Value.int .i64 0),(Sl3.v Sl3.nil),(Value.int .i64 0),(Value.int .i64 0),(Value.string (⟨#[]⟩:ByteArray)),(Sl3.v Sl3.nil),(Sl3.v Sl3.nil),(Sl3.v s1)])] (z2u hx) (RS.mS 1 [kI 6 x3] (RS.dn (WS.nxt (WS.rt ?_))))
 cases h
 exact fun a w hs=>rtR (rS hs)
def zdg:Bool→Value
 | r0=>(Value.bool r0)
def zdu (H:AH):Bool→AH:=fun _=>H
noncomputable def B50:Code:=(Tryz.f50.body).getD .skip
noncomputable def z50 (_L:LC) (H:AH) (a0_0:ByteArray) (_a0_1:Sl3) (a1:Option Addr):Option Bool :=
 Option.bind a1 fun q1 =>
 Option.bind (rd deS H (Addr.add q1 2)) fun x2 =>
 some (a0_0.toList == x2.toList)
theorem zeh {L:LC} {m:Nat} {H:AH} {a0_0:ByteArray} {a0_1:Sl3} {a1:Option Addr} {r:Bool} (h:z50 L H a0_0 a0_1 a1=some r) :
  CallS Tryz.prog (NE.plain 114) m 50 #[(Value.agg #[(Value.string a0_0),(Sl3.v a0_1)]),(Value.pointer a1)] H (zdg r) (zdu H r):=by
 refine CallS.mk (args:=[(Value.agg #[(Value.string a0_0),(Sl3.v a0_1)]),(Value.pointer a1)]) Tryz.func50 (B:=B50) (by kernel_rfl) (fun E _=>?_)
 unfold z50 at h
 refine WS.sq (WS.rg (RS.mL 2 [kB 3 false,kL 2 0 0] ([some (91,[(Value.string a0_0),(Sl3.v a0_1)])]) (RS.dn (WS.nxt (WS.sq (WS.rg (RS.mS 2 [kT 5 a0_0,kL 4 0 0] ?_)))))))
 obtain ⟨q1,hx,hq1⟩:=bind_some h
 subst hx
 have h:=hq1
 refine RS.mS 1 [(6,.val (Value.pointer (some (Addr.add q1 2))))] ?_
 obtain ⟨x2,hx,h⟩:=bind_some h
 refine RS.ld 7 9 (.tmp 6) (z1 hx z9) (RS.mS 2 [kB 3 (a0_0.toList == x2.toList),kB 8 (a0_0.toList == x2.toList)] (RS.dn (WS.nxt (WS.rt ?_))))
 cases h
 exact fun a w hs=>rtR (rS hs)
def z3n:Int→Value
 | r0=>(Value.int .i64 r0)
def z40 (H:AH):Int→AH:=fun _=>H
noncomputable def B49:Code:=(Tryz.f49.body).getD .skip
noncomputable def z1x (L:LC) (H:AH) (a0:Sl3) (a1_0:Option Addr):Int→Option (Lp Int Int):=fun v8_1 =>
 if v8_1<(a0.n:Int) then
  Option.bind (idxA 2 a0 v8_1) fun p2 =>
  Option.bind (rd deS H (Addr.add p2 0)) fun x3_0 =>
  Option.bind (rd deSl H (Addr.add p2 1)) fun x3_1 =>
  Option.bind (z50 L H x3_0 x3_1 a1_0) fun x4 =>
  if x4=true then
   some (.ret v8_1)
  else
   none
 else
  none
def z8d (_L:LC) (_H:AH) (a0:Sl3) (a1_0:Option Addr):Int→KN×Lcs:=fun v8_1=>([kI 8 v8_1,kS 0 a0,(1,.val (Value.func (.func 50) #[] #[(Value.pointer a1_0)])),kI 7 (a0.n:Int)],[])
noncomputable def z2l (L:LC) (H:AH) (a0:Sl3) (a1_0:Option Addr):Option Int :=
 Option.bind (L.run (z1x L H a0 a1_0) 0) fun o=>match o with
 | .inl _ =>
  some (-1)
 | .inr r=>some r
theorem z30 {E m L H a0 a1_0} :LoopF Tryz.prog (NE.plain 114) m E Tryz.f49 ((cfst (csnd (cfst (csnd B49))))) (z8d L H a0 a1_0) (fun _=>H) 0 z3n (z40 H) (z1x L H a0 a1_0):=by
 rintro v8_1 o h
 unfold z1x at h
 try dsimp only at h
 refine WS.sq (WS.rg (RS.mS 1 [kB 9 (decide (v8_1<(a0.n:Int)))] (RS.dn (WS.nxt (WS.sq ?_)))))
 rcases z0 h with ⟨hp,h⟩ | ⟨hp,h⟩
 ·refine WS.fx 9 true (decide_eq_true hp) (WS.cT (WS.sk (WS.nxt (WS.sq (WS.bk 1 (WS.sq (WS.rg (RS.mS 2 [kI 5 v8_1,kI 10 v8_1] (RS.dn ?_)))))))))
  refine WS.nxt (WS.sq (WS.rg (RS.mS 3 [kI 13 v8_1,kS 12 a0,(11,.val (Value.func (.func 50) #[] #[(Value.pointer a1_0)]))] ?_)))
  obtain ⟨p2,hx,h⟩:=bind_some h
  refine RS.ix 14 29 91 (.tmp 12) (.tmp 13) hx ?_
  obtain ⟨x3_0,hx0,h⟩:=bind_some h
  obtain ⟨x3_1,hx1,h⟩:=bind_some h
  refine RS.la 15 91 (.tmp 14) 2 (z2 (z1 hx0 z9) (z2 (z1 hx1 z3) za)) ?_
  obtain ⟨x4,hx,h⟩:=bind_some h
  refine RS.cl (some 16) (v:=(Value.bool x4)) 50 #[(Value.agg #[(Value.string x3_0),(Sl3.v x3_1)]),(Value.pointer a1_0)] (zeh hx) (RS.dn (WS.nxt ?_))
  rcases z0 h with ⟨hp,h⟩ | ⟨hp,h⟩
  ·refine WS.fx 16 true hp (WS.cT (WS.sq (WS.rg (RS.mS 2 [kI 4 v8_1,kI 17 v8_1] (RS.dn (WS.nxt (WS.rt ?_)))))))
   cases h
   exact fun a w hs=>bkR (sqR (lsR rfl (rS hs)))
  ·refine WS.fx 16 false (b_not hp) (WS.cF ?_)
   cases h
 ·refine WS.fx 9 false (decide_eq_false hp) (WS.cF ?_)
  cases h
theorem za6 {L:LC} {m:Nat} {H:AH} {a0:Sl3} {a1_0:Option Addr} {r:Int} (h:z2l L H a0 a1_0=some r) :
  CallS Tryz.prog (NE.plain 114) m 49 #[(Sl3.v a0),(Value.func (.func 50) #[] #[(Value.pointer a1_0)])] H (z3n r) (z40 H r):=by
 refine CallS.mk (args:=[(Sl3.v a0),(Value.func (.func 50) #[] #[(Value.pointer a1_0)])]) Tryz.func49 (B:=B49) (by kernel_rfl) (fun E _=>?_)
 unfold z2l at h
 refine WS.sq (WS.rg (RS.mS 1 [kI 4 0] (RS.dn (WS.nxt (WS.sq (WS.sq (WS.rg (RS.mS 3 [kI 8 0,kI 7 (a0.n:Int),kS 6 a0] (RS.dn ?_)))))))))
 refine WS.nxt (WS.bk 0 ?_)
 obtain ⟨o,hl,h⟩:=bind_some h
 rcases o with v8_5 | r
 ·try dsimp only at h
  refine WS.lI (z30 (L:=L) (E:=E) (m:=m) (H:=H)) (L.ok hl) 0 ?_
  clear hl
  refine fun a w hs=>bkE ((WS.nxt ?_ a w hs))
  refine WS.sq (WS.rg (RS.mS 1 [kI 4 (-1)] (RS.dn (WS.nxt (WS.rt ?_)))))
  cases h
  exact fun a w hs=>rtR (rS hs)
 ·try dsimp only at h
  refine WS.lR (z30 (L:=L) (E:=E) (m:=m) (H:=H)) (L.ok hl) 0 ?_
  cases h
  exact fun a w hq=>bkR (sqR (rtR hq))
def z7j:(ByteArray×Sl3×AH)→Value
 | (r0,r1,_)=>(Value.agg #[(Value.string r0),(Sl3.v r1)])
def z8i (_:AH):(ByteArray×Sl3×AH)→AH:=fun r=>r.2.2
noncomputable def B33:Code:=(Tryz.f33.body).getD .skip
noncomputable def z3p (L:LC) (m:Nat) (H:AH) (a0:Option Addr) (a1:Int):Option (ByteArray×Sl3×AH) :=
 Option.bind a0 fun q1 =>
 Option.bind (rd deP H (Addr.add q1 0)) fun x2 =>
 Option.bind (z2r L m H x2 a1) fun (x3_0,x3_1,x3_2,x3_3,_,H5) =>
 Option.bind (newB 59 [(Value.int .i64 0),(Value.int .i64 0),(Value.string (⟨#[]⟩:ByteArray)),(Sl3.v Sl3.nil)] H5) fun (p6,H7) =>
 Option.bind (wrCells m p6 0 [(Value.int .i64 x3_0),(Value.int .i64 x3_1),(Value.string x3_2),(Sl3.v x3_3)] H7) fun H8 =>
 Option.bind (rd deSl H8 (Addr.add (Addr.add q1 1) 1)) fun x9 =>
 Option.bind (z2l L H8 x9 (some p6)) fun x10 =>
 Option.bind (rd deSl H8 (Addr.add (Addr.add q1 1) 1)) fun x11 =>
 Option.bind (idxA 2 x11 x10) fun p12 =>
 Option.bind (rd deS H8 (Addr.add p12 0)) fun x13_0 =>
 Option.bind (rd deSl H8 (Addr.add p12 1)) fun x13_1 =>
 some (x13_0,x13_1,H8)
theorem z8q {L:LC} {m:Nat} {H:AH} {a0:Option Addr} {a1:Int} {r:(ByteArray×Sl3×AH)} (h:z3p L m H a0 a1=some r) :
  CallS Tryz.prog (NE.plain 114) m 33 #[(Value.pointer a0),(Value.int .i64 a1)] H (z7j r) (z8i H r):=by
 refine CallS.mk (args:=[(Value.pointer a0),(Value.int .i64 a1)]) Tryz.func33 (B:=B33) (by kernel_rfl) (fun E _=>?_)
 unfold z3p at h
 refine WS.sq (WS.rg (RS.mL 1 [kL 4 0 0] ([some (91,[(Value.string (⟨#[]⟩:ByteArray)),(Sl3.v Sl3.nil)])]) (RS.dn (WS.nxt (WS.sq (WS.rg (RS.mS 1 [(9,.val (Value.pointer a0))] ?_)))))))
 obtain ⟨q1,hx,hq1⟩:=bind_some h
 subst hx
 have h:=hq1
 refine RS.mS 2 [(11,.val (Value.pointer (some (Addr.add q1 0)))),kP 10 q1] ?_
 obtain ⟨x2,hx,h⟩:=bind_some h
 refine RS.ld 12 27 (.tmp 11) (z1 hx z16) (RS.mS 1 [kI 13 a1] ?_)
 obtain ⟨⟨x3_0,x3_1,x3_2,x3_3,x4,H5⟩,hx,h⟩:=bind_some h
 try dsimp only at h
 refine RS.cl (some 14) (v:=(Value.tuple #[(Value.agg #[(Value.int .i64 x3_0),(Value.int .i64 x3_1),(Value.string x3_2),(Sl3.v x3_3)]),(Value.bool x4)])) 14 #[(Value.pointer x2),(Value.int .i64 a1)] (z52 hx) (RS.mS 3 [kB 16 x4,kA 15 #[(Value.int .i64 x3_0),(Value.int .i64 x3_1),(Value.string x3_2),(Sl3.v x3_3)],(8,.val (Value.tuple #[(Value.agg #[(Value.int .i64 x3_0),(Value.int .i64 x3_1),(Value.string x3_2),(Sl3.v x3_3)]),(Value.bool x4)]))] ?_)
 obtain ⟨⟨p6,H7⟩,hx,h⟩:=bind_some h
 try dsimp only at h
 refine RS.o (H':=H7) (some 5) (Value.pointer (some p6)) (Abs.run_newB (by kernel_rfl) hx) ?_
 obtain ⟨H8,hx,h⟩:=bind_some h
 refine RS.o (H':=H8) none undef (Abs.run_storeA (t:=59) (x:=.tmp 5) (y:=.tmp 15) (a:=p6) (v:=(Value.agg #[(Value.int .i64 x3_0),(Value.int .i64 x3_1),(Value.string x3_2),(Sl3.v x3_3)])) (by kernel_rfl) (by kernel_rfl) (by kernel_rfl) (by kernel_rfl) (by kernel_rfl) hx) (RS.mS 1 [kB 6 x4] (RS.dn (WS.nxt (WS.sq (WS.rg (RS.mS 4 [(20,.val (Value.pointer (some (Addr.add (Addr.add q1 1) 1)))),(19,.val (Value.pointer (some (Addr.add q1 1)))),kP 18 q1,kP 17 q1] ?_))))))
 obtain ⟨x9,hx,h⟩:=bind_some h
 refine RS.ld 21 29 (.tmp 20) (z1 hx z3) (RS.mS 1 [(22,.val (Value.func (.func 50) #[] #[(Value.pointer (some p6))]))] ?_)
 obtain ⟨x10,hx,h⟩:=bind_some h
 refine RS.cl (some 23) (v:=(Value.int .i64 x10)) 49 #[(Sl3.v x9),(Value.func (.func 50) #[] #[(Value.pointer (some p6))])] (za6 hx) (RS.mS 1 [kI 7 x10] (RS.dn (WS.nxt (WS.sq (WS.rg (RS.mS 4 [(27,.val (Value.pointer (some (Addr.add (Addr.add q1 1) 1)))),(26,.val (Value.pointer (some (Addr.add q1 1)))),kP 25 q1,kP 24 q1] ?_))))))
 obtain ⟨x11,hx,h⟩:=bind_some h
 refine RS.ld 28 29 (.tmp 27) (z1 hx z3) (RS.mS 1 [kI 29 x10] ?_)
 obtain ⟨p12,hx,h⟩:=bind_some h
 refine RS.ix 30 29 91 (.tmp 28) (.tmp 29) hx ?_
 obtain ⟨x13_0,hx0,h⟩:=bind_some h
 obtain ⟨x13_1,hx1,h⟩:=bind_some h
 refine RS.la 31 91 (.tmp 30) 2 (z2 (z1 hx0 z9) (z2 (z1 hx1 z3) za)) (RS.mL 1 [] ([some (91,[(Value.string x13_0),(Sl3.v x13_1)])]) (RS.dn (WS.nxt (WS.rt ?_))))
 cases h
 exact fun a w hs=>rtR (rS hs)
def z1w:AH→Value
 | _=>(Value.tuple #[])
def z24 (_:AH):AH→AH:=fun r=>r
noncomputable def B18:Code:=(Tryz.f18.body).getD .skip
noncomputable def z3w (_L:LC) (_a0:Option Addr) (_a1 _a2_0:Int) (_a2_1:ByteArray) (_a2_2:Bool) (_a2_3:Sl3) (_a2_4:Int) (_a2_5:Sl3) (_a2_6 _a2_7:Int) (_a2_8:ByteArray) (_a2_9 _a2_10:Sl3) (_a2_11 _x6_1:Sl3) (_v24_9:Int) (_x12_0:ByteArray) (x12_1:Sl3):(AH×Int)→Option (Lp (AH×Int) AH):=fun (H13,v36_14) =>
 if v36_14<(x12_1.n:Int) then
  none
 else
  some (.brk (H13,v36_14))
def zca (_L:LC) (a0:Option Addr) (a1 a2_0:Int) (a2_1:ByteArray) (a2_2:Bool) (a2_3:Sl3) (a2_4:Int) (a2_5:Sl3) (a2_6 a2_7:Int) (a2_8:ByteArray) (a2_9 a2_10:Sl3) (a2_11 x6_1:Sl3) (v24_9:Int) (x12_0:ByteArray) (x12_1:Sl3):(AH×Int)→KN×Lcs:=fun (_,v36_14)=>([kI 36 v36_14,(0,.val (Value.pointer a0)),kI 1 a1,kL 5 0 0,kS 22 x6_1,kI 23 (x6_1.n:Int),kI 24 v24_9,kS 34 x12_1,kI 35 (x12_1.n:Int)],[some (73,[(Value.int .i64 a2_0),(Value.string a2_1),(Value.bool a2_2),(Sl3.v a2_3),(Value.int .i64 a2_4),(Sl3.v a2_5),(Value.int .i64 a2_6),(Value.int .i64 a2_7),(Value.string a2_8),(Sl3.v a2_9),(Sl3.v a2_10),(Sl3.v a2_11)]),some (88,[(Value.string x12_0),(Sl3.v x12_1)])])
noncomputable def z3q (L:LC) (a0:Option Addr) (a1 a2_0:Int) (a2_1:ByteArray) (a2_2:Bool) (a2_3:Sl3) (a2_4:Int) (a2_5:Sl3) (a2_6 a2_7:Int) (a2_8:ByteArray) (a2_9 a2_10:Sl3) (a2_11 x6_1:Sl3):(AH×Int)→Option (Lp (AH×Int) AH):=fun (H8,v24_9) =>
 if v24_9<(x6_1.n:Int) then
  Option.bind (α:=AH) (
   Option.bind (idxA 2 x6_1 v24_9) fun p11 =>
   Option.bind (rd deS H8 (Addr.add p11 0)) fun x12_0 =>
   Option.bind (rd deSl H8 (Addr.add p11 1)) fun x12_1 =>
   if (x12_0.toList == a2_1.toList)=true then
    Option.bind (L.run (z3w L a0 a1 a2_0 a2_1 a2_2 a2_3 a2_4 a2_5 a2_6 a2_7 a2_8 a2_9 a2_10 a2_11 x6_1 v24_9 x12_0 x12_1) (H8,0)) fun o=>match o with
    | .inl (H15,_) =>
     some H15
    | .inr _=>none
   else
    some H8) fun H10 =>
  some (.next (H10,(IntKind.i64.wrap (v24_9+1))))
 else
  some (.brk (H8,v24_9))
def zci (_L:LC) (a0:Option Addr) (a1 a2_0:Int) (a2_1:ByteArray) (a2_2:Bool) (a2_3:Sl3) (a2_4:Int) (a2_5:Sl3) (a2_6 a2_7:Int) (a2_8:ByteArray) (a2_9 a2_10:Sl3) (a2_11 x6_1:Sl3):(AH×Int)→KN×Lcs:=fun (_,v24_9)=>([kI 24 v24_9,(0,.val (Value.pointer a0)),kI 1 a1,kL 5 0 0,kS 22 x6_1,kI 23 (x6_1.n:Int)],[some (73,[(Value.int .i64 a2_0),(Value.string a2_1),(Value.bool a2_2),(Sl3.v a2_3),(Value.int .i64 a2_4),(Sl3.v a2_5),(Value.int .i64 a2_6),(Value.int .i64 a2_7),(Value.string a2_8),(Sl3.v a2_9),(Sl3.v a2_10),(Sl3.v a2_11)])])
noncomputable def z5x (L:LC) (m:Nat) (H:AH) (a0:Option Addr) (a1 a2_0:Int) (a2_1:ByteArray) (a2_2:Bool) (a2_3:Sl3) (a2_4:Int) (a2_5:Sl3) (a2_6 a2_7:Int) (a2_8:ByteArray) (a2_9 a2_10 a2_11:Sl3):Option AH :=
 Option.bind (z5k L m H a0 a2_1 a1) fun (x1,H2) =>
 Option.bind (newR 3 1 #[(Value.int .i64 x1)] H2) fun (s3,H4) =>
 Option.bind (z2p L m H4 a0 s3) fun H5 =>
 Option.bind (z3p L m H5 a0 a1) fun (_,x6_1,H7) =>
 Option.bind (L.run (z3q L a0 a1 a2_0 a2_1 a2_2 a2_3 a2_4 a2_5 a2_6 a2_7 a2_8 a2_9 a2_10 a2_11 x6_1) (H7,0)) fun o=>match o with
 | .inl (H17,_) =>
  some H17
 | .inr r=>some r
theorem z5t {E m H L a0 a1 a2_0 a2_1 a2_2 a2_3 a2_4 a2_5 a2_6 a2_7 a2_8 a2_9 a2_10 a2_11 x6_1 v24_9 x12_0 x12_1} :LoopF Tryz.prog (NE.plain 114) m E Tryz.f18 ((cfst (csnd (csnd (csnd (cfst (cfst (csnd (csnd (cfst (cfst (csnd (csnd (csnd B18)))))))))))))) (zca L a0 a1 a2_0 a2_1 a2_2 a2_3 a2_4 a2_5 a2_6 a2_7 a2_8 a2_9 a2_10 a2_11 x6_1 v24_9 x12_0 x12_1) (fun s=>s.1) 2 z1w (z24 H) (z3w L a0 a1 a2_0 a2_1 a2_2 a2_3 a2_4 a2_5 a2_6 a2_7 a2_8 a2_9 a2_10 a2_11 x6_1 v24_9 x12_0 x12_1):=by
 rintro ⟨H13,v36_14⟩ o h
 unfold z3w at h
 try dsimp only at h
 refine WS.sq (WS.rg (RS.mS 1 [kB 37 (decide (v36_14<(x12_1.n:Int)))] (RS.dn (WS.nxt (WS.sq ?_)))))
 rcases z0 h with ⟨hp,h⟩ | ⟨hp,h⟩
 ·refine WS.fx 37 true (decide_eq_true hp) (WS.cT ?_)
  cases h
 ·refine WS.fx 37 false (decide_eq_false hp) (WS.cF (WS.ex 2 ?_))
  cases h
  exact fun a w hs=>sqE (lsB rfl (hs.sb 2))
theorem z5r {E m H L a0 a1 a2_0 a2_1 a2_2 a2_3 a2_4 a2_5 a2_6 a2_7 a2_8 a2_9 a2_10 a2_11 x6_1} :LoopF Tryz.prog (NE.plain 114) m E Tryz.f18 ((cfst (csnd (csnd (csnd B18))))) (zci L a0 a1 a2_0 a2_1 a2_2 a2_3 a2_4 a2_5 a2_6 a2_7 a2_8 a2_9 a2_10 a2_11 x6_1) (fun s=>s.1) 0 z1w (z24 H) (z3q L a0 a1 a2_0 a2_1 a2_2 a2_3 a2_4 a2_5 a2_6 a2_7 a2_8 a2_9 a2_10 a2_11 x6_1):=by
 rintro ⟨H8,v24_9⟩ o h
 unfold z3q at h
 try dsimp only at h
 refine WS.sq (WS.rg (RS.mS 1 [kB 25 (decide (v24_9<(x6_1.n:Int)))] (RS.dn (WS.nxt (WS.sq ?_)))))
 rcases z0 h with ⟨hp,h⟩ | ⟨hp,h⟩
 ·refine WS.fx 25 true (decide_eq_true hp) (WS.cT (WS.sk (WS.nxt ?_)))
  obtain ⟨H10,hx,h⟩:=bind_some h
  refine WS.sq ?_
  refine WS.join ([(0,.val (Value.pointer a0)),kI 1 a1,kL 5 0 0,kS 22 x6_1,kI 23 (x6_1.n:Int),kI 24 v24_9]) ([some (73,[(Value.int .i64 a2_0),(Value.string a2_1),(Value.bool a2_2),(Sl3.v a2_3),(Value.int .i64 a2_4),(Sl3.v a2_5),(Value.int .i64 a2_6),(Value.int .i64 a2_7),(Value.string a2_8),(Sl3.v a2_9),(Sl3.v a2_10),(Sl3.v a2_11)])]) H10 ?_ (fun a w hs=>WS.nxt ?_ a w hs)
  ·clear h; rename _=>h
   refine WS.bk 1 (WS.sq (WS.rg ?_))
   obtain ⟨p11,hx,h⟩:=bind_some h
   refine RS.ix 26 89 88 (.tmp 22) (.tmp 24) hx ?_
   obtain ⟨x12_0,hx0,h⟩:=bind_some h
   obtain ⟨x12_1,hx1,h⟩:=bind_some h
   refine RS.la 27 88 (.tmp 26) 2 (z2 (z1 hx0 z9) (z2 (z1 hx1 z3) za)) (RS.mL 2 [kL 7 1 0] ([some (73,[(Value.int .i64 a2_0),(Value.string a2_1),(Value.bool a2_2),(Sl3.v a2_3),(Value.int .i64 a2_4),(Sl3.v a2_5),(Value.int .i64 a2_6),(Value.int .i64 a2_7),(Value.string a2_8),(Sl3.v a2_9),(Sl3.v a2_10),(Sl3.v a2_11)]),some (88,[(Value.string x12_0),(Sl3.v x12_1)])]) (RS.dn (WS.nxt (WS.sq (WS.sq (WS.rg (RS.mS 5 [kB 32 (!(x12_0.toList == a2_1.toList)),kT 31 a2_1,kL 30 0 1,kT 29 x12_0,kL 28 1 0] (RS.dn (WS.nxt ?_)))))))))
   rcases z0 h with ⟨hp,h⟩ | ⟨hp,h⟩
   ·refine WS.fx 32 false (nb_not hp) (WS.cF (WS.sk (WS.nxt (WS.sq (WS.rg (RS.mS 4 [kI 36 0,kI 35 (x12_1.n:Int),kS 34 x12_1,kL 33 1 1] (RS.dn (WS.nxt (WS.bk 2 ?_)))))))))
    obtain ⟨o,hl,h⟩:=bind_some h
    rcases o with ⟨H15,v36_16⟩ | r
    ·try dsimp only at h
     refine WS.lI (z5t (L:=L) (E:=E) (m:=m) (H:=H)) (L.ok hl) 2 ?_
     clear hl
     cases h
     exact fun a w hs=>bkE (bkN ((jsN (hs.sb 1))))
    ·try dsimp only at h
     refine WS.lR (z5t (L:=L) (E:=E) (m:=m) (H:=H)) (L.ok hl) 2 ?_
     cases h
   ·refine WS.fx 32 true (zk hp) (WS.cT (WS.ex 1 ?_))
    cases h
    exact fun a w hs=>sqE (bkE ((jsN (hs.sb 1))))
  ·clear hx
   refine WS.rg (RS.mS 2 [kI 24 (IntKind.i64.wrap (v24_9+1)),kI 65 (IntKind.i64.wrap (v24_9+1))] (RS.dn ?_))
   cases h
   exact fun a w hs=>lsN rfl (hs.sb 1)
 ·refine WS.fx 25 false (decide_eq_false hp) (WS.cF (WS.ex 0 ?_))
  cases h
  exact fun a w hs=>sqE (lsB rfl (hs.sb 1))
theorem zeo {L:LC} {m:Nat} {H:AH} {a0:Option Addr} {a1 a2_0:Int} {a2_1:ByteArray} {a2_2:Bool} {a2_3:Sl3} {a2_4:Int} {a2_5:Sl3} {a2_6 a2_7:Int} {a2_8:ByteArray} {a2_9 a2_10 a2_11:Sl3} {r:AH} (h:z5x L m H a0 a1 a2_0 a2_1 a2_2 a2_3 a2_4 a2_5 a2_6 a2_7 a2_8 a2_9 a2_10 a2_11=some r) :
  CallS Tryz.prog (NE.plain 114) m 18 #[(Value.pointer a0),(Value.int .i64 a1),(Value.agg #[(Value.int .i64 a2_0),(Value.string a2_1),(Value.bool a2_2),(Sl3.v a2_3),(Value.int .i64 a2_4),(Sl3.v a2_5),(Value.int .i64 a2_6),(Value.int .i64 a2_7),(Value.string a2_8),(Sl3.v a2_9),(Sl3.v a2_10),(Sl3.v a2_11)])] H (z1w r) (z24 H r):=by
 refine CallS.mk (args:=[(Value.pointer a0),(Value.int .i64 a1),(Value.agg #[(Value.int .i64 a2_0),(Value.string a2_1),(Value.bool a2_2),(Sl3.v a2_3),(Value.int .i64 a2_4),(Sl3.v a2_5),(Value.int .i64 a2_6),(Value.int .i64 a2_7),(Value.string a2_8),(Sl3.v a2_9),(Sl3.v a2_10),(Sl3.v a2_11)])]) Tryz.func18 (B:=B18) (by kernel_rfl) (fun E _=>?_)
 unfold z5x at h
 refine WS.sq (WS.rg (RS.mL 1 [kL 5 0 0] ([some (73,[(Value.int .i64 a2_0),(Value.string a2_1),(Value.bool a2_2),(Sl3.v a2_3),(Value.int .i64 a2_4),(Sl3.v a2_5),(Value.int .i64 a2_6),(Value.int .i64 a2_7),(Value.string a2_8),(Sl3.v a2_9),(Sl3.v a2_10),(Sl3.v a2_11)])]) (RS.dn (WS.nxt (WS.sq (WS.rg (RS.mS 5 [kI 15 a1,kT 14 a2_1,kL 13 0 1,(12,.val (Value.pointer a0)),(11,.val (Value.pointer a0))] ?_)))))))
 obtain ⟨⟨x1,H2⟩,hx,h⟩:=bind_some h
 try dsimp only at h
 refine RS.cl (some 16) (v:=(Value.int .i64 x1)) 32 #[(Value.pointer a0),(Value.string a2_1),(Value.int .i64 a1)] (zaz hx) ?_
 obtain ⟨⟨s3,H4⟩,hx,h⟩:=bind_some h
 try dsimp only at h
 refine RS.o (H':=H4) (some 17) (Sl3.v s3) (Abs.run_newR (by kernel_rfl) (by kernel_rfl) hx) ?_
 obtain ⟨H5,hx,h⟩:=bind_some h
 refine RS.cl (some 18) (v:=(Value.tuple #[])) 31 #[(Value.pointer a0),(Sl3.v s3)] (z72 hx) (RS.dn (WS.nxt (WS.sq (WS.rg (RS.mS 2 [kI 20 a1,(19,.val (Value.pointer a0))] ?_)))))
 obtain ⟨⟨x6_0,x6_1,H7⟩,hx,h⟩:=bind_some h
 try dsimp only at h
 refine RS.cl (some 21) (v:=(Value.agg #[(Value.string x6_0),(Sl3.v x6_1)])) 33 #[(Value.pointer a0),(Value.int .i64 a1)] (z8q hx) (RS.mS 3 [kI 24 0,kI 23 (x6_1.n:Int),kS 22 x6_1] (RS.dn (WS.nxt (WS.bk 0 ?_))))
 obtain ⟨o,hl,h⟩:=bind_some h
 rcases o with ⟨H17,v24_18⟩ | r
 ·try dsimp only at h
  refine WS.lI (z5r (L:=L) (E:=E) (m:=m) (H:=H)) (L.ok hl) 1 ?_
  clear hl
  cases h
  exact fun a w hs=>bkE (rtN (rS hs))
 ·try dsimp only at h
  refine WS.lR (z5r (L:=L) (E:=E) (m:=m) (H:=H)) (L.ok hl) 1 ?_
  cases h
  exact fun a w hq=>bkR (rtR hq)
def za1:(Int×AH)→Value
 | (r0,_)=>(Value.int .i64 r0)
def zav (_:AH):(Int×AH)→AH:=fun r=>r.2
noncomputable def B35:Code:=(Tryz.f35.body).getD .skip
noncomputable def z91 (L:LC) (m:Nat) (H:AH) (a0:Option Addr) (a1 a2:Int):Option (Int×AH) :=
 Option.bind (newR 3 2 #[(Value.int .i64 a1),(Value.int .i64 a2)] H) fun (s1,H2) =>
 Option.bind (z1u L m H2 a0 8 (⟨#[]⟩:ByteArray) false Sl3.nil 0 Sl3.nil 0 0 (⟨#[]⟩:ByteArray) Sl3.nil Sl3.nil s1) fun (x3,H4) =>
 some (x3,H4)
theorem zho {L:LC} {m:Nat} {H:AH} {a0:Option Addr} {a1 a2:Int} {r:(Int×AH)} (h:z91 L m H a0 a1 a2=some r) :
  CallS Tryz.prog (NE.plain 114) m 35 #[(Value.pointer a0),(Value.int .i64 a1),(Value.int .i64 a2)] H (za1 r) (zav H r):=by
 refine CallS.mk (args:=[(Value.pointer a0),(Value.int .i64 a1),(Value.int .i64 a2)]) Tryz.func35 (B:=B35) (by kernel_rfl) (fun E _=>?_)
 unfold z91 at h
 refine WS.sq (WS.rg (RS.mS 1 [kI 6 0] (RS.dn (WS.nxt (WS.sq (WS.rg (RS.mS 3 [kI 9 a2,kI 8 a1,(7,.val (Value.pointer a0))] ?_)))))))
 obtain ⟨⟨s1,H2⟩,hx,h⟩:=bind_some h
 try dsimp only at h
 refine RS.o (H':=H2) (some 10) (Sl3.v s1) (Abs.run_newR (by kernel_rfl) (by kernel_rfl) hx) (RS.mS 1 [kA 11 #[(Value.int .i64 8),(Value.string (⟨#[]⟩:ByteArray)),(Value.bool false),(Sl3.v Sl3.nil),(Value.int .i64 0),(Sl3.v Sl3.nil),(Value.int .i64 0),(Value.int .i64 0),(Value.string (⟨#[]⟩:ByteArray)),(Sl3.v Sl3.nil),(Sl3.v Sl3.nil),(Sl3.v s1)]] ?_)
 obtain ⟨⟨x3,H4⟩,hx,h⟩:=bind_some h
 try dsimp only at h
 refine RS.cl (some 12) (v:=(Value.int .i64 x3)) 38 #[(Value.pointer a0),(Value.agg #[(Value.int .i64 8),(Value.string (⟨#[]⟩:ByteArray)),(Value.bool false),(Sl3.v Sl3.nil),(Value.int .i64 0),(Sl3.v Sl3.nil),(Value.int .i64 0),(Value.int .i64 0),(Value.string (⟨#[]⟩:ByteArray)),(Sl3.v Sl3.nil),(Sl3.v Sl3.nil),(Sl3.v s1)])] (z2u hx) (RS.mS 1 [kI 6 x3] (RS.dn (WS.nxt (WS.rt ?_))))
 cases h
 exact fun a w hs=>rtR (rS hs)
def z8n:(Int×AH)→Value
 | (r0,_)=>(Value.int .i64 r0)
def z9s (_:AH):(Int×AH)→AH:=fun r=>r.2
noncomputable def B37:Code:=(Tryz.f37.body).getD .skip
noncomputable def z7l (L:LC) (m:Nat) (H:AH) (a0:Option Addr) (a1:Int):Option (Int×AH) :=
 Option.bind (newR 3 1 #[(Value.int .i64 a1)] H) fun (s1,H2) =>
 Option.bind (z1u L m H2 a0 3 (⟨#[]⟩:ByteArray) false Sl3.nil 0 Sl3.nil 0 0 (⟨#[]⟩:ByteArray) Sl3.nil Sl3.nil s1) fun (x3,H4) =>
 some (x3,H4)
theorem zg9 {L:LC} {m:Nat} {H:AH} {a0:Option Addr} {a1:Int} {r:(Int×AH)} (h:z7l L m H a0 a1=some r) :
  CallS Tryz.prog (NE.plain 114) m 37 #[(Value.pointer a0),(Value.int .i64 a1)] H (z8n r) (z9s H r):=by
 refine CallS.mk (args:=[(Value.pointer a0),(Value.int .i64 a1)]) Tryz.func37 (B:=B37) (by kernel_rfl) (fun E _=>?_)
 unfold z7l at h
 refine WS.sq (WS.rg (RS.mS 1 [kI 4 0] (RS.dn (WS.nxt (WS.sq (WS.rg (RS.mS 2 [kI 6 a1,(5,.val (Value.pointer a0))] ?_)))))))
 obtain ⟨⟨s1,H2⟩,hx,h⟩:=bind_some h
 try dsimp only at h
 refine RS.o (H':=H2) (some 7) (Sl3.v s1) (Abs.run_newR (by kernel_rfl) (by kernel_rfl) hx) (RS.mS 1 [kA 8 #[(Value.int .i64 3),(Value.string (⟨#[]⟩:ByteArray)),(Value.bool false),(Sl3.v Sl3.nil),(Value.int .i64 0),(Sl3.v Sl3.nil),(Value.int .i64 0),(Value.int .i64 0),(Value.string (⟨#[]⟩:ByteArray)),(Sl3.v Sl3.nil),(Sl3.v Sl3.nil),(Sl3.v s1)]] ?_)
 obtain ⟨⟨x3,H4⟩,hx,h⟩:=bind_some h
 try dsimp only at h
 refine RS.cl (some 9) (v:=(Value.int .i64 x3)) 38 #[(Value.pointer a0),(Value.agg #[(Value.int .i64 3),(Value.string (⟨#[]⟩:ByteArray)),(Value.bool false),(Sl3.v Sl3.nil),(Value.int .i64 0),(Sl3.v Sl3.nil),(Value.int .i64 0),(Value.int .i64 0),(Value.string (⟨#[]⟩:ByteArray)),(Sl3.v Sl3.nil),(Sl3.v Sl3.nil),(Sl3.v s1)])] (z2u hx) (RS.mS 1 [kI 4 x3] (RS.dn (WS.nxt (WS.rt ?_))))
 cases h
 exact fun a w hs=>rtR (rS hs)
def zhp:(Sl3×Int×AH)→Value
 | (r0,r1,_)=>(Value.tuple #[(Sl3.v r0),(Value.int .i64 r1)])
def zif (_:AH):(Sl3×Int×AH)→AH:=fun r=>r.2.2
noncomputable def B4:Code:=(Tryz.f4.body).getD .skip
noncomputable def z4o (L:LC):Nat→FuncId→Array Value→AH→Option (Value×AH) :=
 (orO (orF 7 (dcC dcP dcN) fun m H (a0,_)=>(zb3 L m H a0).map fun r=>(ze1 r,zfp H r))
  (orO (orF 10 (dcC dcP dcN) fun _ H (a0,_)=>(z99 L H a0).map fun r=>(z9l r,zau H r))
  (orO (orF 12 (dcC dcP dcN) fun m H (a0,_)=>(z92 L m H a0).map fun r=>(z9f r,zas H r))
  (orO (orF 13 (dcC dcP (dcC dcSl dcN)) fun m H (a0,(a1,_))=>(z6v L m H a0 a1).map fun r=>(z1c r,z1f H r))
  (orO (orF 14 (dcC dcP (dcC (dcI .i64) dcN)) fun m H (a0,(a1,_))=>(z2r L m H a0 a1).map fun r=>(z8j r,z9p H r))
  (orO (orF 15 (dcC dcP (dcC (dcI .i64) dcN)) fun m H (a0,(a1,_))=>(z4p L m H a0 a1).map fun r=>(z8p r,z9e H r))
  (orO (orF 16 (dcC dcP dcN) fun m H (a0,_)=>(z6x L m H a0).map fun r=>(z82 r,z8o H r))
  (orO (orF 17 (dcC dcP (dcC (dcI .i64) dcN)) fun m H (a0,(a1,_))=>(z4q L m H a0 a1).map fun r=>(z8g r,z9v H r))
  (orO (orF 18 (dcC dcP (dcC (dcI .i64) (dcC (dcG (dcC (dcI .i64) (dcC dcS (dcC dcB (dcC dcSl (dcC (dcI .i64) (dcC dcSl (dcC (dcI .i64) (dcC (dcI .i64) (dcC dcS (dcC dcSl (dcC dcSl (dcC dcSl dcN))))))))))))) dcN))) fun m H (a0,(a1,((a2_0,(a2_1,(a2_2,(a2_3,(a2_4,(a2_5,(a2_6,(a2_7,(a2_8,(a2_9,(a2_10,(a2_11,_)))))))))))),_)))=>(z5x L m H a0 a1 a2_0 a2_1 a2_2 a2_3 a2_4 a2_5 a2_6 a2_7 a2_8 a2_9 a2_10 a2_11).map fun r=>(z1w r,z24 H r))
  (orO (orF 31 (dcC dcP (dcC dcSl dcN)) fun m H (a0,(a1,_))=>(z2p L m H a0 a1).map fun r=>(z1n r,z1s H r))
  (orO (orF 32 (dcC dcP (dcC dcS (dcC (dcI .i64) dcN))) fun m H (a0,(a1,(a2,_)))=>(z5k L m H a0 a1 a2).map fun r=>(z9i r,zaw H r))
  (orO (orF 33 (dcC dcP (dcC (dcI .i64) dcN)) fun m H (a0,(a1,_))=>(z3p L m H a0 a1).map fun r=>(z7j r,z8i H r))
  (orO (orF 35 (dcC dcP (dcC (dcI .i64) (dcC (dcI .i64) dcN))) fun m H (a0,(a1,(a2,_)))=>(z91 L m H a0 a1 a2).map fun r=>(za1 r,zav H r))
  (orO (orF 36 (dcC dcSl dcN) fun m H (a0,_)=>(z4r L m H a0).map fun r=>(z8m r,z9t H r))
  (orO (orF 37 (dcC dcP (dcC (dcI .i64) dcN)) fun m H (a0,(a1,_))=>(z7l L m H a0 a1).map fun r=>(z8n r,z9s H r))
  (orO (orF 38 (dcC dcP (dcC (dcG (dcC (dcI .i64) (dcC dcS (dcC dcB (dcC dcSl (dcC (dcI .i64) (dcC dcSl (dcC (dcI .i64) (dcC (dcI .i64) (dcC dcS (dcC dcSl (dcC dcSl (dcC dcSl dcN))))))))))))) dcN)) fun m H (a0,((a1_0,(a1_1,(a1_2,(a1_3,(a1_4,(a1_5,(a1_6,(a1_7,(a1_8,(a1_9,(a1_10,(a1_11,_)))))))))))),_))=>(z1u L m H a0 a1_0 a1_1 a1_2 a1_3 a1_4 a1_5 a1_6 a1_7 a1_8 a1_9 a1_10 a1_11).map fun r=>(z8k r,za5 H r))
  orN))))))))))))))))
noncomputable def zac (L:LC) (m:Nat) (H:AH) (a0:Option Addr):Option (Sl3×Int×AH) :=
 byRun Tryz.prog 114 (z4o L) m 4 #[(Value.pointer a0),anyV] H (dcT (dcC dcSl (dcC (dcI .i64) dcN))) fun (r_0,(r_1,_)) H2=>(r_0,r_1,H2)
theorem z9z {L:LC}:OrOK Tryz.prog (NE.plain 114) (z4o L):=by
 unfold z4o
 refine orO_ok (orF_ok fun m H ⟨a0,_⟩ v H' h=>by
  obtain ⟨r,h1,rfl,rfl⟩:=z10 h
  exact zfn h1) ?_
 refine orO_ok (orF_ok fun m H ⟨a0,_⟩ v H' h=>by
  obtain ⟨r,h1,rfl,rfl⟩:=z10 h
  exact zhe h1) ?_
 refine orO_ok (orF_ok fun m H ⟨a0,_⟩ v H' h=>by
  obtain ⟨r,h1,rfl,rfl⟩:=z10 h
  exact zhr h1) ?_
 refine orO_ok (orF_ok fun m H ⟨a0,⟨a1,_⟩⟩ v H' h=>by
  obtain ⟨r,h1,rfl,rfl⟩:=z10 h
  exact zg5 h1) ?_
 refine orO_ok (orF_ok fun m H ⟨a0,⟨a1,_⟩⟩ v H' h=>by
  obtain ⟨r,h1,rfl,rfl⟩:=z10 h
  exact z52 h1) ?_
 refine orO_ok (orF_ok fun m H ⟨a0,⟨a1,_⟩⟩ v H' h=>by
  obtain ⟨r,h1,rfl,rfl⟩:=z10 h
  exact z9j h1) ?_
 refine orO_ok (orF_ok fun m H ⟨a0,_⟩ v H' h=>by
  obtain ⟨r,h1,rfl,rfl⟩:=z10 h
  exact zg4 h1) ?_
 refine orO_ok (orF_ok fun m H ⟨a0,⟨a1,_⟩⟩ v H' h=>by
  obtain ⟨r,h1,rfl,rfl⟩:=z10 h
  exact z9x h1) ?_
 refine orO_ok (orF_ok fun m H ⟨a0,⟨a1,⟨⟨a2_0,⟨a2_1,⟨a2_2,⟨a2_3,⟨a2_4,⟨a2_5,⟨a2_6,⟨a2_7,⟨a2_8,⟨a2_9,⟨a2_10,⟨a2_11,_⟩⟩⟩⟩⟩⟩⟩⟩⟩⟩⟩⟩,_⟩⟩⟩ v H' h=>by
  obtain ⟨r,h1,rfl,rfl⟩:=z10 h
  exact zeo h1) ?_
 refine orO_ok (orF_ok fun m H ⟨a0,⟨a1,_⟩⟩ v H' h=>by
  obtain ⟨r,h1,rfl,rfl⟩:=z10 h
  exact z72 h1) ?_
 refine orO_ok (orF_ok fun m H ⟨a0,⟨a1,⟨a2,_⟩⟩⟩ v H' h=>by
  obtain ⟨r,h1,rfl,rfl⟩:=z10 h
  exact zaz h1) ?_
 refine orO_ok (orF_ok fun m H ⟨a0,⟨a1,_⟩⟩ v H' h=>by
  obtain ⟨r,h1,rfl,rfl⟩:=z10 h
  exact z8q h1) ?_
 refine orO_ok (orF_ok fun m H ⟨a0,⟨a1,⟨a2,_⟩⟩⟩ v H' h=>by
  obtain ⟨r,h1,rfl,rfl⟩:=z10 h
  exact zho h1) ?_
 refine orO_ok (orF_ok fun m H ⟨a0,_⟩ v H' h=>by
  obtain ⟨r,h1,rfl,rfl⟩:=z10 h
  exact z17 h1) ?_
 refine orO_ok (orF_ok fun m H ⟨a0,⟨a1,_⟩⟩ v H' h=>by
  obtain ⟨r,h1,rfl,rfl⟩:=z10 h
  exact zg9 h1) ?_
 refine orO_ok (orF_ok fun m H ⟨a0,⟨⟨a1_0,⟨a1_1,⟨a1_2,⟨a1_3,⟨a1_4,⟨a1_5,⟨a1_6,⟨a1_7,⟨a1_8,⟨a1_9,⟨a1_10,⟨a1_11,_⟩⟩⟩⟩⟩⟩⟩⟩⟩⟩⟩⟩,_⟩⟩ v H' h=>by
  obtain ⟨r,h1,rfl,rfl⟩:=z10 h
  exact z2u h1) ?_
 exact orN_ok
theorem zbf {L:LC} {m:Nat} {H:AH} {a0:Option Addr} {r:(Sl3×Int×AH)} (h:zac L m H a0=some r) :
  CallS Tryz.prog (NE.plain 114) m 4 #[(Value.pointer a0),anyV] H (zhp r) (zif H r):=by
 obtain ⟨⟨r_0,⟨r_1,_⟩⟩,H2,rfl,hc⟩:=zln z9z Tryz.func4 (show Tryz.f4.body=some B4 by kernel_rfl) h
 exact hc
def zhf:(Sl3×Bool×Int×AH)→Value
 | (r0,r1,r2,_)=>(Value.tuple #[(Sl3.v r0),(Value.bool r1),(Value.int .i64 r2)])
def zis (_:AH):(Sl3×Bool×Int×AH)→AH:=fun r=>r.2.2.2
noncomputable def B5:Code:=(Tryz.f5.body).getD .skip
noncomputable def z6o (L:LC) (m:Nat) (H:AH) (a0:Option Addr):Option (Sl3×Bool×Int×AH) :=
 Option.bind (zb3 L m H a0) fun (x1,H2) =>
 if x1=true then
  none
 else
  some (Sl3.nil,false,4,H2)
theorem zba {L:LC} {m:Nat} {H:AH} {a0:Option Addr} {r:(Sl3×Bool×Int×AH)} (h:z6o L m H a0=some r) :
  CallS Tryz.prog (NE.plain 114) m 5 #[(Value.pointer a0),anyV] H (zhf r) (zis H r):=by
 refine CallS.mk (args:=[(Value.pointer a0),anyV]) Tryz.func5 (B:=B5) (by kernel_rfl) (fun E _=>?_)
 unfold z6o at h
 refine WS.sq (WS.rg (RS.mS 3 [kI 6 0,kB 5 false,kS 4 Sl3.nil] (RS.dn (WS.nxt (WS.sq (WS.sq (WS.rg (RS.mS 1 [(19,.val (Value.pointer a0))] ?_))))))))
 obtain ⟨⟨x1,H2⟩,hx,h⟩:=bind_some h
 try dsimp only at h
 refine RS.cl (some 20) (v:=(Value.bool x1)) 7 #[(Value.pointer a0)] (zfn hx) (RS.mS 1 [kB 21 (!x1)] (RS.dn (WS.nxt ?_)))
 rcases z0 h with ⟨hp,h⟩ | ⟨hp,h⟩
 ·refine WS.fx 21 false (nb_not hp) (WS.cF ?_)
  cases h
 ·refine WS.fx 21 true (zk hp) (WS.cT (WS.sq (WS.rg (RS.mS 3 [kI 6 4,kB 5 false,kS 4 Sl3.nil] (RS.dn (WS.nxt (WS.rt ?_)))))))
  cases h
  exact fun a w hs=>sqR (rtR (rS hs))
def zll:((Option Addr)×Int×AH)→Value
 | (r0,r1,_)=>(Value.tuple #[(Value.pointer r0),(Value.int .i64 r1)])
def zn6 (_:AH):((Option Addr)×Int×AH)→AH:=fun r=>r.2.2
noncomputable def B22:Code:=(Tryz.f22.body).getD .skip
noncomputable def zi9 (L:LC) (m:Nat) (H:AH) (a0_0 a0_1 a0_2:Sl3):Option ((Option Addr)×Int×AH) :=
 Option.bind (z6r L m H a0_0 a0_1 a0_2) fun (x1,H2) =>
 if x1=0 then
  Option.bind (z7p L m H2 a0_0 a0_1 a0_2) fun (x3_0,x3_1,x3_2,H4) =>
  Option.bind (newM H4) fun (p5,H6) =>
  Option.bind (newB 36 [(Sl3.v x3_0),(Sl3.v x3_1),(Sl3.v x3_2),(Sl3.v Sl3.nil),(Value.map (some p5))] H6) fun (p7,H8) =>
  some ((some p7),0,H8)
 else
  none
theorem zme {L:LC} {m:Nat} {H:AH} {a0_0 a0_1 a0_2:Sl3} {r:((Option Addr)×Int×AH)} (h:zi9 L m H a0_0 a0_1 a0_2=some r) :
  CallS Tryz.prog (NE.plain 114) m 22 #[(Value.agg #[(Sl3.v a0_0),(Sl3.v a0_1),(Sl3.v a0_2)])] H (zll r) (zn6 H r):=by
 refine CallS.mk (args:=[(Value.agg #[(Sl3.v a0_0),(Sl3.v a0_1),(Sl3.v a0_2)])]) Tryz.func22 (B:=B22) (by kernel_rfl) (fun E _=>?_)
 unfold zi9 at h
 refine WS.sq (WS.rg (RS.mL 3 [kI 3 0,(2,.val (Value.pointer none)),kL 1 0 0] ([some (32,[(Sl3.v a0_0),(Sl3.v a0_1),(Sl3.v a0_2)])]) (RS.dn (WS.nxt (WS.sq (WS.sq (WS.rg (RS.mS 1 [kA 5 #[(Sl3.v a0_0),(Sl3.v a0_1),(Sl3.v a0_2)]] ?_))))))))
 obtain ⟨⟨x1,H2⟩,hx,h⟩:=bind_some h
 try dsimp only at h
 refine RS.cl (some 6) (v:=(Value.int .i64 x1)) 41 #[(Value.agg #[(Sl3.v a0_0),(Sl3.v a0_1),(Sl3.v a0_2)])] (zbp hx) (RS.mS 1 [kI 4 x1] (RS.dn (WS.nxt (WS.sq (WS.rg (RS.mS 2 [kB 8 (!decide (x1=0)),kI 7 x1] (RS.dn (WS.nxt ?_))))))))
 rcases z0 h with ⟨hp,h⟩ | ⟨hp,h⟩
 ·refine WS.fx 8 false (z2b hp) (WS.cF (WS.sk (WS.nxt (WS.sq (WS.rg (RS.mS 1 [kA 10 #[(Sl3.v a0_0),(Sl3.v a0_1),(Sl3.v a0_2)]] ?_))))))
  obtain ⟨⟨x3_0,x3_1,x3_2,H4⟩,hx,h⟩:=bind_some h
  try dsimp only at h
  refine RS.cl (some 11) (v:=(Value.agg #[(Sl3.v x3_0),(Sl3.v x3_1),(Sl3.v x3_2)])) 26 #[(Value.agg #[(Sl3.v a0_0),(Sl3.v a0_1),(Sl3.v a0_2)])] (zcp hx) ?_
  obtain ⟨⟨p5,H6⟩,hx,h⟩:=bind_some h
  try dsimp only at h
  refine RS.o (H':=H6) (some 12) (Value.map (some p5)) (Abs.run_newM (by kernel_rfl) hx) (RS.mS 1 [kA 13 #[(Sl3.v x3_0),(Sl3.v x3_1),(Sl3.v x3_2),(Sl3.v Sl3.nil),(Value.map (some p5))]] ?_)
  obtain ⟨⟨p7,H8⟩,hx,h⟩:=bind_some h
  try dsimp only at h
  refine RS.o (H':=H8) (some 14) (Value.pointer (some p7)) (Abs.run_newB (by kernel_rfl) hx) (RS.mS 2 [kI 3 0,kP 2 p7] (RS.dn (WS.nxt (WS.rt ?_))))
  cases h
  exact fun a w hs=>rtR (rS hs)
 ·refine WS.fx 8 true (z1k hp) (WS.cT ?_)
  cases h
def zj5:(Sl3×Int×AH)→Value
 | (r0,r1,_)=>(Value.tuple #[(Sl3.v r0),(Value.int .i64 r1)])
def zjy (_:AH):(Sl3×Int×AH)→AH:=fun r=>r.2.2
noncomputable def zhx (L:LC) (m:Nat) (H:AH) (a0:Option Addr) (a1:Sl3):Option (Sl3×Int×AH) :=
 byRun Tryz.prog 114 (z4o L) m 4 #[(Value.pointer a0),(Sl3.v a1)] H (dcT (dcC dcSl (dcC (dcI .i64) dcN))) fun (r_0,(r_1,_)) H2=>(r_0,r_1,H2)
theorem zjv {L:LC} {m:Nat} {H:AH} {a0:Option Addr} {a1:Sl3} {r:(Sl3×Int×AH)} (h:zhx L m H a0 a1=some r) :
  CallS Tryz.prog (NE.plain 114) m 4 #[(Value.pointer a0),(Sl3.v a1)] H (zj5 r) (zjy H r):=by
 obtain ⟨⟨r_0,⟨r_1,_⟩⟩,H2,rfl,hc⟩:=zln z9z Tryz.func4 (show Tryz.f4.body=some B4 by kernel_rfl) h
 exact hc
end Go.Proofs.YthhbfmgipdbilaaGreatDoor
namespace Go.Proofs.YthhbfmgipdbilaaGreatDoor
open Go Go.Abs
set_option maxRecDepth 100000
def zj7:(Bool×AH)→Value
 | (r0,_)=>(Value.bool r0)
def zjt (_:AH):(Bool×AH)→AH:=fun r=>r.2
noncomputable def B6:Code:=(Tryz.f6.body).getD .skip
noncomputable def zdj (L:LC) (m:Nat) (H:AH):Option (Bool×AH) :=
 Option.bind (newR 88 2 #[(Value.string (⟨#[114,101,100]⟩:ByteArray)),(Sl3.v Sl3.nil),(Value.string (⟨#[103,114,101,101,110]⟩:ByteArray)),(Sl3.v Sl3.nil)] H) fun (s1,H2) =>
 Option.bind (newR 91 1 #[(Value.string (⟨#[67,111,108,111,114]⟩:ByteArray)),(Sl3.v s1)] H2) fun (s3,H4) =>
 Option.bind (newR 93 1 #[(Value.string (⟨#[107]⟩:ByteArray)),(Sl3.v Sl3.nil),(Value.int .i64 6),(Value.int .i64 0),(Value.string (⟨#[67,111,108,111,114]⟩:ByteArray)),(Sl3.v Sl3.nil)] H4) fun (s5,H6) =>
 Option.bind (zi9 L m H6 Sl3.nil s3 s5) fun (x7,x8,H9) =>
 if x8=0 then
  match x7 with
  | none =>
   none
  | some q10 =>
   Option.bind (z3i L m H9 (some q10) 11 (⟨#[107]⟩:ByteArray) false Sl3.nil 0 Sl3.nil 0 0 (⟨#[]⟩:ByteArray) Sl3.nil Sl3.nil Sl3.nil) fun (_,_,H13) =>
   Option.bind (newR 3 1 #[(Value.int .i64 0)] H13) fun (s14,H15) =>
   Option.bind (zhx L m H15 (some q10) s14) fun (x16,x17,H18) =>
   if x17=0 then
    if (x16.n:Int)=6 then
     Option.bind (idxA 1 x16 0) fun p19 =>
     Option.bind (rd deSl H18 p19) fun x20 =>
     if (x20.n:Int)=2 then
      Option.bind (idxA 1 x16 4) fun p21 =>
      Option.bind (rd deSl H18 p21) fun x22 =>
      some ((decide ((x22.n:Int)=1)),H18)
     else
      none
    else
     none
   else
    none
 else
  none
theorem zk7 {L:LC} {m:Nat} {H:AH} {r:(Bool×AH)} (h:zdj L m H=some r) :
  CallS Tryz.prog (NE.plain 114) m 6 #[] H (zj7 r) (zjt H r):=by
 refine CallS.mk (args:=[]) Tryz.func6 (B:=B6) (by kernel_rfl) (fun E _=>?_)
 unfold zdj at h
 refine WS.sq (WS.rg (RS.mS 1 [kB 0 false] (RS.dn (WS.nxt (WS.sq (WS.rg (RS.mS 2 [kA 7 #[(Value.string (⟨#[103,114,101,101,110]⟩:ByteArray)),(Sl3.v Sl3.nil)],kA 6 #[(Value.string (⟨#[114,101,100]⟩:ByteArray)),(Sl3.v Sl3.nil)]] ?_)))))))
 obtain ⟨⟨s1,H2⟩,hx,h⟩:=bind_some h
 try dsimp only at h
 refine RS.o (H':=H2) (some 8) (Sl3.v s1) (Abs.run_newR (by kernel_rfl) (by kernel_rfl) hx) (RS.mS 1 [kA 9 #[(Value.string (⟨#[67,111,108,111,114]⟩:ByteArray)),(Sl3.v s1)]] ?_)
 obtain ⟨⟨s3,H4⟩,hx,h⟩:=bind_some h
 try dsimp only at h
 refine RS.o (H':=H4) (some 10) (Sl3.v s3) (Abs.run_newR (by kernel_rfl) (by kernel_rfl) hx) (RS.mS 2 [kA 12 #[(Value.string (⟨#[107]⟩:ByteArray)),(Sl3.v Sl3.nil),(Value.int .i64 6),(Value.int .i64 0),(Value.string (⟨#[67,111,108,111,114]⟩:ByteArray)),(Sl3.v Sl3.nil)],kA 11 #[(Value.int .i64 6),(Value.int .i64 0),(Value.string (⟨#[67,111,108,111,114]⟩:ByteArray)),(Sl3.v Sl3.nil)]] ?_)
 obtain ⟨⟨s5,H6⟩,hx,h⟩:=bind_some h
 try dsimp only at h
 refine RS.o (H':=H6) (some 13) (Sl3.v s5) (Abs.run_newR (by kernel_rfl) (by kernel_rfl) hx) (RS.mS 1 [kA 14 #[(Sl3.v Sl3.nil),(Sl3.v s3),(Sl3.v s5)]] ?_)
 obtain ⟨⟨x7,x8,H9⟩,hx,h⟩:=bind_some h
 try dsimp only at h
 refine RS.cl (some 15) (v:=(Value.tuple #[(Value.pointer x7),(Value.int .i64 x8)])) 22 #[(Value.agg #[(Sl3.v Sl3.nil),(Sl3.v s3),(Sl3.v s5)])] (zme hx) (RS.mS 5 [kI 2 x8,(1,.val (Value.pointer x7)),kI 17 x8,(16,.val (Value.pointer x7)),(5,.val (Value.tuple #[(Value.pointer x7),(Value.int .i64 x8)]))] (RS.dn (WS.nxt (WS.sq (WS.sq (WS.rg (RS.mS 3 [kB 20 (!decide (x8=0)),kB 19 (!decide (x8=0)),kI 18 x8] ?_)))))))
 rcases z0 h with ⟨hp,h⟩ | ⟨hp,h⟩
 ·refine RS.fx 20 false (z2b hp) (RS.mS 1 [(21,.val (Value.pointer x7))] ?_)
  rcases x7 with _ | q10
  ·try dsimp only at h
   cases h
  ·try dsimp only at h
   refine RS.mS 2 [kB 23 false,kB 22 false] (RS.dn (WS.nxt (WS.cF (WS.sk (WS.nxt (WS.sq (WS.rg (RS.mS 2 [kA 25 #[(Value.int .i64 11),(Value.string (⟨#[107]⟩:ByteArray)),(Value.bool false),(Sl3.v Sl3.nil),(Value.int .i64 0),(Sl3.v Sl3.nil),(Value.int .i64 0),(Value.int .i64 0),(Value.string (⟨#[]⟩:ByteArray)),(Sl3.v Sl3.nil),(Sl3.v Sl3.nil),(Sl3.v Sl3.nil)],kP 24 q10] ?_))))))))
   obtain ⟨⟨x11,x12,H13⟩,hx,h⟩:=bind_some h
   try dsimp only at h
   refine RS.cl (some 26) (v:=(Value.tuple #[(Value.int .i64 x11),(Value.int .i64 x12)])) 23 #[(Value.pointer (some q10)),(Value.agg #[(Value.int .i64 11),(Value.string (⟨#[107]⟩:ByteArray)),(Value.bool false),(Sl3.v Sl3.nil),(Value.int .i64 0),(Sl3.v Sl3.nil),(Value.int .i64 0),(Value.int .i64 0),(Value.string (⟨#[]⟩:ByteArray)),(Sl3.v Sl3.nil),(Sl3.v Sl3.nil),(Sl3.v Sl3.nil)])] (z66 hx) (RS.dn (WS.nxt (WS.sq (WS.rg (RS.mS 1 [kP 28 q10] ?_)))))
   obtain ⟨⟨s14,H15⟩,hx,h⟩:=bind_some h
   try dsimp only at h
   refine RS.o (H':=H15) (some 29) (Sl3.v s14) (Abs.run_newR (by kernel_rfl) (by kernel_rfl) hx) ?_
   obtain ⟨⟨x16,x17,H18⟩,hx,h⟩:=bind_some h
   try dsimp only at h
   refine RS.cl (some 30) (v:=(Value.tuple #[(Sl3.v x16),(Value.int .i64 x17)])) 4 #[(Value.pointer (some q10)),(Sl3.v s14)] (zjv hx) (RS.mS 5 [kI 4 x17,kS 3 x16,kI 32 x17,kS 31 x16,(27,.val (Value.tuple #[(Sl3.v x16),(Value.int .i64 x17)]))] (RS.dn (WS.nxt (WS.sq (WS.rg (RS.mS 3 [kB 35 (decide (x17=0)),kB 34 (decide (x17=0)),kI 33 x17] ?_))))))
   rcases z0 h with ⟨hp,h⟩ | ⟨hp,h⟩
   ·refine RS.fx 35 true (decide_eq_true hp) (RS.mS 5 [kB 40 (decide ((x16.n:Int)=6)),kB 39 (decide ((x16.n:Int)=6)),kB 38 (decide ((x16.n:Int)=6)),kI 37 (x16.n:Int),kS 36 x16] ?_)
    rcases z0 h with ⟨hp,h⟩ | ⟨hp,h⟩
    ·refine RS.fx 40 true (decide_eq_true hp) (RS.mS 1 [kS 41 x16] ?_)
     obtain ⟨p19,hx,h⟩:=bind_some h
     refine RS.ix 42 23 22 (.tmp 41) (.const (Value.int .i64 0)) hx ?_
     obtain ⟨x20,hx,h⟩:=bind_some h
     refine RS.ld 43 22 (.tmp 42) (z1 hx z3) (RS.mS 4 [kB 47 (decide ((x20.n:Int)=2)),kB 46 (decide ((x20.n:Int)=2)),kB 45 (decide ((x20.n:Int)=2)),kI 44 (x20.n:Int)] ?_)
     rcases z0 h with ⟨hp,h⟩ | ⟨hp,h⟩
     ·refine RS.fx 47 true (decide_eq_true hp) (RS.mS 1 [kS 48 x16] ?_)
      obtain ⟨p21,hx,h⟩:=bind_some h
      refine RS.ix 49 23 22 (.tmp 48) (.const (Value.int .i64 4)) hx ?_
      obtain ⟨x22,hx,h⟩:=bind_some h
      refine RS.ld 50 22 (.tmp 49) (z1 hx z3) (RS.mS 4 [kB 0 (decide ((x22.n:Int)=1)),kB 53 (decide ((x22.n:Int)=1)),kB 52 (decide ((x22.n:Int)=1)),kI 51 (x22.n:Int)] (RS.dn (WS.nxt (WS.rt ?_))))
      cases h
      exact fun a w hs=>rtR (rS hs)
     ·refine RS.fx 47 false (decide_eq_false hp) ?_
      cases h
    ·refine RS.fx 40 false (decide_eq_false hp) ?_
     cases h
   ·refine RS.fx 35 false (decide_eq_false hp) ?_
    cases h
 ·refine RS.fx 20 true (z1k hp) ?_
  cases h
def zcd:(Bool×AH)→Value
 | (r0,_)=>(Value.bool r0)
def zdk (_:AH):(Bool×AH)→AH:=fun r=>r.2
noncomputable def B3:Code:=(Tryz.f3.body).getD .skip
noncomputable def z2g (L:LC) (m:Nat) (H:AH):Option (Bool×AH) :=
 Option.bind (zac L m H none) fun (x1,x2,H3) =>
 Option.bind (newB 36 [(Sl3.v Sl3.nil),(Sl3.v Sl3.nil),(Sl3.v Sl3.nil),(Sl3.v Sl3.nil),(Value.map none)] H3) fun (p4,H5) =>
 Option.bind (zac L m H5 (some p4)) fun (x6,x7,H8) =>
 Option.bind (z6o L m H8 none) fun (x9,x10,x11,H12) =>
 Option.bind (newB 36 [(Sl3.v Sl3.nil),(Sl3.v Sl3.nil),(Sl3.v Sl3.nil),(Sl3.v Sl3.nil),(Value.map none)] H12) fun (p13,H14) =>
 Option.bind (z6o L m H14 (some p13)) fun (x15,x16,x17,H18) =>
 if x2=4 then
  if x7=4 then
   if x11=4 then
    if x17=4 then
     if (IntKind.i64.wrap ((IntKind.i64.wrap ((IntKind.i64.wrap ((x1.n:Int)+(x6.n:Int)))+(x9.n:Int)))+(x15.n:Int)))=0 then
      if x10=true then
       none
      else
       if x16=true then
        none
       else
        Option.bind (zdj L m H18) fun (x19,H20) =>
        some (x19,H20)
     else
      none
    else
     none
   else
    none
  else
   none
 else
  none
theorem zdi {L:LC} {m:Nat} {H:AH} {r:(Bool×AH)} (h:z2g L m H=some r) :
  CallS Tryz.prog (NE.plain 114) m 3 #[anyV,anyV] H (zcd r) (zdk H r):=by
 refine CallS.mk (args:=[anyV,anyV]) Tryz.func3 (B:=B3) (by kernel_rfl) (fun E _=>?_)
 unfold z2g at h
 refine WS.sq (WS.rg (RS.mS 1 [kB 4 false] (RS.dn (WS.nxt (WS.sq (WS.rg (RS.mS 1 [(16,.val anyV)] ?_)))))))
 obtain ⟨⟨x1,x2,H3⟩,hx,h⟩:=bind_some h
 try dsimp only at h
 refine RS.cl (some 17) (v:=(Value.tuple #[(Sl3.v x1),(Value.int .i64 x2)])) 4 #[(Value.pointer none),anyV] (zbf hx) (RS.mS 5 [kI 6 x2,kS 5 x1,kI 19 x2,kS 18 x1,(15,.val (Value.tuple #[(Sl3.v x1),(Value.int .i64 x2)]))] (RS.dn (WS.nxt (WS.sq (WS.rg (RS.mS 1 [kA 21 #[(Sl3.v Sl3.nil),(Sl3.v Sl3.nil),(Sl3.v Sl3.nil),(Sl3.v Sl3.nil),(Value.map none)]] ?_))))))
 obtain ⟨⟨p4,H5⟩,hx,h⟩:=bind_some h
 try dsimp only at h
 refine RS.o (H':=H5) (some 22) (Value.pointer (some p4)) (Abs.run_newB (by kernel_rfl) hx) (RS.mS 1 [(23,.val anyV)] ?_)
 obtain ⟨⟨x6,x7,H8⟩,hx,h⟩:=bind_some h
 try dsimp only at h
 refine RS.cl (some 24) (v:=(Value.tuple #[(Sl3.v x6),(Value.int .i64 x7)])) 4 #[(Value.pointer (some p4)),anyV] (zbf hx) (RS.mS 5 [kI 8 x7,kS 7 x6,kI 26 x7,kS 25 x6,(20,.val (Value.tuple #[(Sl3.v x6),(Value.int .i64 x7)]))] (RS.dn (WS.nxt (WS.sq (WS.rg (RS.mS 1 [(28,.val anyV)] ?_))))))
 obtain ⟨⟨x9,x10,x11,H12⟩,hx,h⟩:=bind_some h
 try dsimp only at h
 refine RS.cl (some 29) (v:=(Value.tuple #[(Sl3.v x9),(Value.bool x10),(Value.int .i64 x11)])) 5 #[(Value.pointer none),anyV] (zba hx) (RS.mS 7 [kI 11 x11,kB 10 x10,kS 9 x9,kI 32 x11,kB 31 x10,kS 30 x9,(27,.val (Value.tuple #[(Sl3.v x9),(Value.bool x10),(Value.int .i64 x11)]))] (RS.dn (WS.nxt (WS.sq (WS.rg (RS.mS 1 [kA 34 #[(Sl3.v Sl3.nil),(Sl3.v Sl3.nil),(Sl3.v Sl3.nil),(Sl3.v Sl3.nil),(Value.map none)]] ?_))))))
 obtain ⟨⟨p13,H14⟩,hx,h⟩:=bind_some h
 try dsimp only at h
 refine RS.o (H':=H14) (some 35) (Value.pointer (some p13)) (Abs.run_newB (by kernel_rfl) hx) (RS.mS 1 [(36,.val anyV)] ?_)
 obtain ⟨⟨x15,x16,x17,H18⟩,hx,h⟩:=bind_some h
 try dsimp only at h
 refine RS.cl (some 37) (v:=(Value.tuple #[(Sl3.v x15),(Value.bool x16),(Value.int .i64 x17)])) 5 #[(Value.pointer (some p13)),anyV] (zba hx) (RS.mS 7 [kI 14 x17,kB 13 x16,kS 12 x15,kI 40 x17,kB 39 x16,kS 38 x15,(33,.val (Value.tuple #[(Sl3.v x15),(Value.bool x16),(Value.int .i64 x17)]))] (RS.dn (WS.nxt (WS.sq (WS.rg (RS.mS 3 [kB 43 (decide (x2=4)),kB 42 (decide (x2=4)),kI 41 x2] ?_))))))
 rcases z0 h with ⟨hp,h⟩ | ⟨hp,h⟩
 ·refine RS.fx 43 true (decide_eq_true hp) (RS.mS 4 [kB 47 (decide (x7=4)),kB 46 (decide (x7=4)),kB 45 (decide (x7=4)),kI 44 x7] ?_)
  rcases z0 h with ⟨hp,h⟩ | ⟨hp,h⟩
  ·refine RS.fx 47 true (decide_eq_true hp) (RS.mS 4 [kB 51 (decide (x11=4)),kB 50 (decide (x11=4)),kB 49 (decide (x11=4)),kI 48 x11] ?_)
   rcases z0 h with ⟨hp,h⟩ | ⟨hp,h⟩
   ·refine RS.fx 51 true (decide_eq_true hp) (RS.mS 4 [kB 55 (decide (x17=4)),kB 54 (decide (x17=4)),kB 53 (decide (x17=4)),kI 52 x17] ?_)
    rcases z0 h with ⟨hp,h⟩ | ⟨hp,h⟩
    ·refine RS.fx 55 true (decide_eq_true hp) (RS.mS 14 [kB 69 (decide ((IntKind.i64.wrap ((IntKind.i64.wrap ((IntKind.i64.wrap ((x1.n:Int)+(x6.n:Int)))+(x9.n:Int)))+(x15.n:Int)))=0)),kB 68 (decide ((IntKind.i64.wrap ((IntKind.i64.wrap ((IntKind.i64.wrap ((x1.n:Int)+(x6.n:Int)))+(x9.n:Int)))+(x15.n:Int)))=0)),kB 67 (decide ((IntKind.i64.wrap ((IntKind.i64.wrap ((IntKind.i64.wrap ((x1.n:Int)+(x6.n:Int)))+(x9.n:Int)))+(x15.n:Int)))=0)),kI 66 (IntKind.i64.wrap ((IntKind.i64.wrap ((IntKind.i64.wrap ((x1.n:Int)+(x6.n:Int)))+(x9.n:Int)))+(x15.n:Int))),kI 65 (x15.n:Int),kS 64 x15,kI 63 (IntKind.i64.wrap ((IntKind.i64.wrap ((x1.n:Int)+(x6.n:Int)))+(x9.n:Int))),kI 62 (x9.n:Int),kS 61 x9,kI 60 (IntKind.i64.wrap ((x1.n:Int)+(x6.n:Int))),kI 59 (x6.n:Int),kS 58 x6,kI 57 (x1.n:Int),kS 56 x1] ?_)
     rcases z0 h with ⟨hp,h⟩ | ⟨hp,h⟩
     ·refine RS.fx 69 true (decide_eq_true hp) (RS.mS 4 [kB 73 (!x10),kB 72 (!x10),kB 71 (!x10),kB 70 x10] ?_)
      rcases z0 h with ⟨hp,h⟩ | ⟨hp,h⟩
      ·refine RS.fx 73 false (nb_not hp) ?_
       cases h
      ·refine RS.fx 73 true (zk hp) (RS.mS 4 [kB 77 (!x16),kB 76 (!x16),kB 75 (!x16),kB 74 x16] ?_)
       rcases z0 h with ⟨hp,h⟩ | ⟨hp,h⟩
       ·refine RS.fx 77 false (nb_not hp) ?_
        cases h
       ·refine RS.fx 77 true (zk hp) ?_
        obtain ⟨⟨x19,H20⟩,hx,h⟩:=bind_some h
        try dsimp only at h
        refine RS.cl (some 78) (v:=(Value.bool x19)) 6 #[] (zk7 hx) (RS.mS 2 [kB 4 x19,kB 79 x19] (RS.dn (WS.nxt (WS.rt ?_))))
        cases h
        exact fun a w hs=>rtR (rS hs)
     ·refine RS.fx 69 false (decide_eq_false hp) ?_
      cases h
    ·refine RS.fx 55 false (decide_eq_false hp) ?_
     cases h
   ·refine RS.fx 51 false (decide_eq_false hp) ?_
    cases h
  ·refine RS.fx 47 false (decide_eq_false hp) ?_
   cases h
 ·refine RS.fx 43 false (decide_eq_false hp) ?_
  cases h
end Go.Proofs.YthhbfmgipdbilaaGreatDoor
namespace Go.Proofs.YthhbfmgipdbilaaGreatDoor
open Go Go.Abs
set_option maxRecDepth 100000
theorem own:ownKnob Tryz.prog.godebug=none:=by kernel_rfl
theorem laidOut:laidOutB Tryz.prog=true:=by kernel_rfl
theorem znw:globalsB Tryz.prog=true:=by kernel_rfl
theorem sane:Sane Tryz.prog (NE.plain 114):=zpp (fun _ _ _ _=>rfl) (by kernel_rfl) (by kernel_rfl) (fun x w=>by kernel_rfl)
theorem zpt (os:Os) (args:Array Value):laidMet Tryz.prog Rows.treesNobodyRow.laid ((laidW2 Tryz.prog Rows.treesNobodyRow.laid os).forCall (fun _ _=>0) ⟨#[],args,[]⟩).memory :=
 laidMet_of_run3 8 (by kernel_rfl) (by kernel_rfl) (by kernel_rfl)
def tabs:List Tab:=[(3,242,((zsOf Rows.laid_strings_asciiSpace).map fun z=>Value.int .u8 z).toArray),(2,238,((zsOf Rows.laid_math_bits_deBruijn64tab).map fun z=>Value.int .u8 z).toArray),(1,237,((zsOf Rows.laid_math_bits_deBruijn32tab).map fun z=>Value.int .u8 z).toArray),(0,225,((zsOf Rows.laid_internal_strconv_uint64pow10).map fun z=>Value.int .u64 z).toArray)]
theorem zqk:tabsB Tryz.prog tabs=true:=by kernel_rfl
theorem zpq (W:World) (hL:laidMet Tryz.prog Rows.treesNobodyRow.laid W) (hsh:W.ShapedOpen Tryz.prog):∀x∈tabs,∃fr,W.heap[x.1]? = some (.cells x.2.2 x.2.1 fr):=by
 intro x hx
 simp only [tabs,List.mem_cons,List.not_mem_nil,or_false] at hx
 rcases hx with rfl | rfl | rfl | rfl
 ·exact zhc (name := "strings.asciiSpace") (te:=5) (n:=256) (t:=242) hL (by kernel_rfl) (by kernel_rfl) (by kernel_rfl) (by kernel_rfl) (by kernel_rfl) (by kernel_rfl) (by kernel_rfl) (of_decide_eq_true (by kernel_rfl)) (by kernel_rfl) hsh
 ·exact zhc (name := "math/bits.deBruijn64tab") (te:=5) (n:=64) (t:=238) hL (by kernel_rfl) (by kernel_rfl) (by kernel_rfl) (by kernel_rfl) (by kernel_rfl) (by kernel_rfl) (by kernel_rfl) (of_decide_eq_true (by kernel_rfl)) (by kernel_rfl) hsh
 ·exact zhc (name := "math/bits.deBruijn32tab") (te:=5) (n:=32) (t:=237) hL (by kernel_rfl) (by kernel_rfl) (by kernel_rfl) (by kernel_rfl) (by kernel_rfl) (by kernel_rfl) (by kernel_rfl) (of_decide_eq_true (by kernel_rfl)) (by kernel_rfl) hsh
 ·exact zhc (name := "internal/strconv.uint64pow10") (te:=106) (n:=20) (t:=225) hL (by kernel_rfl) (by kernel_rfl) (by kernel_rfl) (by kernel_rfl) (by kernel_rfl) (by kernel_rfl) (by kernel_rfl) (of_decide_eq_true (by kernel_rfl)) (by kernel_rfl) hsh
end Go.Proofs.YthhbfmgipdbilaaGreatDoor
namespace Go.Proofs.YthhbfmgipdbilaaGreatDoor
open Go Go.Abs
set_option maxRecDepth 100000
noncomputable def lc:LC:=LCn 100000 1000
set_option maxHeartbeats 0 in
theorem zoa:(z2g lc 7 (startH Tryz.prog tabs)).map (·.1)=some true:=by kernel_rfl
end Go.Proofs.YthhbfmgipdbilaaGreatDoor
namespace Go.Proofs.YthhbfmgipdbilaaGreatDoor
open Go Go.Abs
set_option maxRecDepth 100000
theorem zmf:∃H',CallS Tryz.prog (NE.plain 114) Tryz.prog.globals.size 3 (Tryz.f3.params.map (anyArg Tryz.prog)) (startH Tryz.prog tabs) (.bool true) H':=by
 have hrun:=zoa
 generalize hq:z2g lc 7 (startH Tryz.prog tabs)=q at hrun
 cases q with
 | none=>cases hrun
 | some r =>
  obtain ⟨b,H'⟩:=r
  simp only [Option.map_some,Option.some.injEq] at hrun
  subst hrun
  refine ⟨H',?_⟩
  have h:=@zdi lc 7 (startH Tryz.prog tabs) (true,H') hq
  have e1:Tryz.prog.globals.size=7:=by kernel_rfl
  have e2:Tryz.f3.params.map (anyArg Tryz.prog)=#[anyV,anyV]:=by kernel_rfl
  rw [e1,e2]
  exact h
theorem zl1 (os:Os) (started:os.Started) (H:Type) (enc:TypeId×Value→H) :
  ReturnsInHanded {} Tryz.checked os 3 .any (fun w args=>(Rows.treesNobodySpec.pre enc Tryz.prog Tryz.f3 [] false w args∧laidMet Tryz.prog Rows.treesNobodyRow.laid w)∧sizedMet enc Tryz.prog Tryz.f3 (OpenSpec.ofChange Rows.treesNobodySpec) false w args)
   (Rows.treesNobodySpec.post enc Tryz.prog Tryz.f3 false true false false) :=
 zm9 (C:=Tryz.checked) (X:=fun w _=>laidMet Tryz.prog Rows.treesNobodyRow.laid w) own started (by kernel_rfl) Tryz.func3 (by kernel_rfl) sane znw laidOut
  (by kernel_rfl) rfl (by kernel_rfl)
  (fun ds hds=>by
   have h1:ds.length=2:=hds
   match ds,h1 with
   | [d0,d1],_=>exact ⟨rfl,rfl,rfl⟩)
  zqk (fun _ _ _ hh h=>h.of_heap hh) (fun W _ hL hsh=>zpq W hL hsh) zmf
  (zmq (enc:=enc) (C:=Tryz.checked) (os:=os) (X:=fun w _=>laidMet Tryz.prog Rows.treesNobodyRow.laid w) (laidW2 Tryz.prog Rows.treesNobodyRow.laid os) #[.slice none 0 0,.slice none 0 0] 8 rfl (by kernel_rfl) (by kernel_rfl) (by kernel_rfl) (by kernel_rfl) (by kernel_rfl) (zpt os _))
theorem zmb:Rows.TreesNobodySaid :=
 OpenClaim.holds_of_wide 3 Tryz.f3 rfl rfl rfl rfl rfl rfl rfl ⟨rfl,rfl,rfl,rfl,rfl⟩ rfl rfl rfl rfl rfl (by kernel_rfl) Tryz.func3 (by kernel_rfl)
  (of_decide_eq_true (by kernel_rfl)) (by unfold Func.isWrapper; first | (rw [if_pos (by decide +kernel)]; kernel_rfl) | (rw [if_neg (by decide +kernel)]; exact ⟨rfl,rfl⟩))
  (fun os started H enc _=>zl1 os started H enc)
theorem treesNobody_holds:Rows.TreesNobodyCardSaid :=
 Claim7.holds_tied_plain_at .later [] _ _ _ _
  zmb (fun _ h=>by cases h) (by kernel_rfl) (fun _ h=>by cases h) treesNobody_row_tie rfl ⟨rfl,rfl⟩ (by kernel_rfl) rfl
  (fun f fn hf hfn=>by
   obtain rfl:f=3:=Option.some.inj ((show Tryz.prog.funcNamed "tribunal/tribunallaw21.TreesNobody"=some 3 by kernel_rfl).symm.trans hf) |>.symm
   obtain rfl:fn=Tryz.f3:=(Option.some.inj (Tryz.func3.symm.trans hfn)).symm
   exact ⟨by kernel_rfl,fun j t ht=>by
    have hall:(Tryz.f3.params.toList.all fun u=>!Tryz.prog.wantsStandIn u)=true:=by kernel_rfl
    have hm:t∈Tryz.f3.params.toList:=by simpa using Array.mem_of_getElem? ht
    exact (show Tryz.prog.wantsStandIn t=false by simpa using List.all_eq_true.1 hall t hm)⟩)
  (by kernel_rfl)
#print axioms treesNobody_holds
end Go.Proofs.YthhbfmgipdbilaaGreatDoor
