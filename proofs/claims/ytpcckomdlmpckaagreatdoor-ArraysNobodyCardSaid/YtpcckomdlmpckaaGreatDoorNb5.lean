/- ArraysNobody is proved: at every input the call returns true and its arguments read as before. No condition beyond the row's own (five listed tables of Go's library as the text lays them). -/
import Derived.Test.YtpcckomdlmpckaaGreatDoorNb4
import Derived.Test.YtpcckomdlmpckaaGreatDoorTie
import Derived.Test.YtpcckomdlmpckaaGreatDoorCards
import Derived.Test.YtpcckomdlmpckaaGreatDoorChecked
namespace Go.Proofs.YtpcckomdlmpckaaGreatDoor
open Go Go.Abs
set_option maxRecDepth 100000
noncomputable def B166:Code:=(Tryz.f166.body).getD .skip
def z39:Int→Value
 | r0=>(Value.int .i64 r0)
def z3e (H:AH):Int→AH:=fun _=>H
noncomputable def z1r (L:LC) (H:AH) (a0:Sl3) (a1_0:Option Addr):Int→Option (Lp Int Int):=fun v8_1 =>
 if v8_1<(a0.n:Int) then
  Option.bind (idxA 6 a0 v8_1) fun p2 =>
  Option.bind (rd deS H (Addr.add p2 0)) fun x3_0 =>
  Option.bind (rd deSl H (Addr.add p2 1)) fun x3_1 =>
  Option.bind (rd (deI .i64) H (Addr.add p2 2)) fun x3_2 =>
  Option.bind (rd (deI .i64) H (Addr.add p2 3)) fun x3_3 =>
  Option.bind (rd deS H (Addr.add p2 4)) fun x3_4 =>
  Option.bind (rd deSl H (Addr.add p2 5)) fun x3_5 =>
  Option.bind (z4a L H x3_0 x3_1 x3_2 x3_3 x3_4 x3_5 a1_0) fun x4 =>
  if x4=true then
   some (.ret v8_1)
  else
   some (.next (IntKind.i64.wrap (v8_1+1)))
 else
  none
def z74 (_L:LC) (_H:AH) (a0:Sl3) (a1_0:Option Addr):Int→KN×Lcs:=fun v8_1=>([kI 8 v8_1,kS 0 a0,(1,.val (Value.func (.func 167) #[] #[(Value.pointer a1_0)])),kI 7 (a0.n:Int)],[])
noncomputable def z25 (L:LC) (H:AH) (a0:Sl3) (a1_0:Option Addr):Option Int :=
 Option.bind (L.run (z1r L H a0 a1_0) 0) fun o=>match o with
 | .inl _ =>
  some (-1)
 | .inr r=>some r
theorem z2k {E m L H a0 a1_0} :LoopF Tryz.prog (NE.plain 148) m E Tryz.f166 ((cfst (csnd (cfst (csnd B166))))) (z74 L H a0 a1_0) (fun _=>H) 0 z39 (z3e H) (z1r L H a0 a1_0):=by
 rintro v8_1 o h
 unfold z1r at h
 try dsimp only at h
 refine WS.sq (WS.rg (RS.mS 1 [kB 9 (decide (v8_1<(a0.n:Int)))] (RS.dn (WS.nxt (WS.sq ?_)))))
 rcases z0 h with ⟨hp,h⟩ | ⟨hp,h⟩
 ·refine WS.fx 9 true (decide_eq_true hp) (WS.cT (WS.sk (WS.nxt (WS.sq (WS.bk 1 (WS.sq (WS.rg (RS.mS 2 [kI 5 v8_1,kI 10 v8_1] (RS.dn ?_)))))))))
  refine WS.nxt (WS.sq (WS.rg (RS.mS 3 [kI 13 v8_1,kS 12 a0,(11,.val (Value.func (.func 167) #[] #[(Value.pointer a1_0)]))] ?_)))
  obtain ⟨p2,hx,h⟩:=bind_some h
  refine RS.ix 14 28 66 (.tmp 12) (.tmp 13) hx ?_
  obtain ⟨x3_0,hx0,h⟩:=bind_some h
  obtain ⟨x3_1,hx1,h⟩:=bind_some h
  obtain ⟨x3_2,hx2,h⟩:=bind_some h
  obtain ⟨x3_3,hx3,h⟩:=bind_some h
  obtain ⟨x3_4,hx4,h⟩:=bind_some h
  obtain ⟨x3_5,hx5,h⟩:=bind_some h
  refine RS.la 15 66 (.tmp 14) 6 (z2 (z1 hx0 z9) (z2 (z1 hx1 z3) (z2 (z1 hx2 z5) (z2 (z1 hx3 z5) (z2 (z1 hx4 z9) (z2 (z1 hx5 z3) zd)))))) ?_
  obtain ⟨x4,hx,h⟩:=bind_some h
  refine RS.cl (some 16) (v:=(Value.bool x4)) 167 #[(Value.agg #[(Value.string x3_0),(Sl3.v x3_1),(Value.int .i64 x3_2),(Value.int .i64 x3_3),(Value.string x3_4),(Sl3.v x3_5)]),(Value.pointer a1_0)] (zd7 hx) (RS.dn (WS.nxt ?_))
  rcases z0 h with ⟨hp,h⟩ | ⟨hp,h⟩
  ·refine WS.fx 16 true hp (WS.cT (WS.sq (WS.rg (RS.mS 2 [kI 4 v8_1,kI 17 v8_1] (RS.dn (WS.nxt (WS.rt ?_)))))))
   cases h
   exact fun a w hs=>bkR (sqR (lsR rfl (rS hs)))
  ·refine WS.fx 16 false (b_not hp) (WS.cF (WS.sk ?_))
   refine fun a w hs=>bkN ((WS.nxt ?_ a w hs))
   refine WS.rg (RS.mS 2 [kI 8 (IntKind.i64.wrap (v8_1+1)),kI 18 (IntKind.i64.wrap (v8_1+1))] (RS.dn ?_))
   cases h
   exact fun a w hs=>lsN rfl (hs.sb 0)
 ·refine WS.fx 9 false (decide_eq_false hp) (WS.cF ?_)
  cases h
theorem z90 {L:LC} {m:Nat} {H:AH} {a0:Sl3} {a1_0:Option Addr} {r:Int} (h:z25 L H a0 a1_0=some r) :
  CallS Tryz.prog (NE.plain 148) m 166 #[(Sl3.v a0),(Value.func (.func 167) #[] #[(Value.pointer a1_0)])] H (z39 r) (z3e H r):=by
 refine CallS.mk (args:=[(Sl3.v a0),(Value.func (.func 167) #[] #[(Value.pointer a1_0)])]) Tryz.func166 (B:=B166) (by kernel_rfl) (fun E _=>?_)
 unfold z25 at h
 refine WS.sq (WS.rg (RS.mS 1 [kI 4 0] (RS.dn (WS.nxt (WS.sq (WS.sq (WS.rg (RS.mS 3 [kI 8 0,kI 7 (a0.n:Int),kS 6 a0] (RS.dn ?_)))))))))
 refine WS.nxt (WS.bk 0 ?_)
 obtain ⟨o,hl,h⟩:=bind_some h
 rcases o with v8_5 | r
 ·try dsimp only at h
  refine WS.lI (z2k (L:=L) (E:=E) (m:=m) (H:=H)) (L.ok hl) 0 ?_
  clear hl
  refine fun a w hs=>bkE ((WS.nxt ?_ a w hs))
  refine WS.sq (WS.rg (RS.mS 1 [kI 4 (-1)] (RS.dn (WS.nxt (WS.rt ?_)))))
  cases h
  exact fun a w hs=>rtR (rS hs)
 ·try dsimp only at h
  refine WS.lR (z2k (L:=L) (E:=E) (m:=m) (H:=H)) (L.ok hl) 0 ?_
  cases h
  exact fun a w hq=>bkR (sqR (rtR hq))
noncomputable def B116:Code:=(Tryz.f116.body).getD .skip
def zee:(Sl3×Int×Int×ByteArray×Sl3×Bool×AH)→Value
 | (r0,r1,r2,r3,r4,r5,_)=>(Value.tuple #[(Sl3.v r0),(Value.agg #[(Value.int .i64 r1),(Value.int .i64 r2),(Value.string r3),(Sl3.v r4)]),(Value.bool r5)])
def zfl (_:AH):(Sl3×Int×Int×ByteArray×Sl3×Bool×AH)→AH:=fun r=>r.2.2.2.2.2.2
noncomputable def z5p (L:LC) (_m:Nat) (H:AH) (a0:Option Addr) (a1:Int) (a2:ByteArray):Option (Sl3×Int×Int×ByteArray×Sl3×Bool×AH) :=
 Option.bind (newB 9 [(Value.string a2)] H) fun (p1,H2) =>
 if a1=11 then
  Option.bind a0 fun q3 =>
  Option.bind (rd deSl H2 (Addr.add (Addr.add q3 0) 2)) fun x4 =>
  Option.bind (z25 L H2 x4 (some p1)) fun x5 =>
  if x5<0 then
   none
  else
   Option.bind (rd deSl H2 (Addr.add (Addr.add q3 0) 2)) fun x6 =>
   Option.bind (idxA 6 x6 x5) fun p7 =>
   Option.bind (rd deSl H2 (Addr.add p7 1)) fun x8 =>
   Option.bind (rd deSl H2 (Addr.add (Addr.add q3 0) 2)) fun x9 =>
   Option.bind (idxA 6 x9 x5) fun p10 =>
   Option.bind (rd (deI .i64) H2 (Addr.add (Addr.add p10 2) 0)) fun x11_0 =>
   Option.bind (rd (deI .i64) H2 (Addr.add (Addr.add p10 2) 1)) fun x11_1 =>
   Option.bind (rd deS H2 (Addr.add (Addr.add p10 2) 2)) fun x11_2 =>
   Option.bind (rd deSl H2 (Addr.add (Addr.add p10 2) 3)) fun x11_3 =>
   some (x8,x11_0,x11_1,x11_2,x11_3,true,H2)
 else
  none
theorem z7g {L:LC} {m:Nat} {H:AH} {a0:Option Addr} {a1:Int} {a2:ByteArray} {r:(Sl3×Int×Int×ByteArray×Sl3×Bool×AH)} (h:z5p L m H a0 a1 a2=some r) :
  CallS Tryz.prog (NE.plain 148) m 116 #[(Value.pointer a0),(Value.int .i64 a1),(Value.string a2)] H (zee r) (zfl H r):=by
 refine CallS.mk (args:=[(Value.pointer a0),(Value.int .i64 a1),(Value.string a2)]) Tryz.func116 (B:=B116) (by kernel_rfl) (fun E _=>?_)
 unfold z5p at h
 refine WS.sq (WS.rg ?_)
 obtain ⟨⟨p1,H2⟩,hx,h⟩:=bind_some h
 try dsimp only at h
 refine RS.o (H':=H2) (some 5) (Value.pointer (some p1)) (Abs.run_newB (by kernel_rfl) hx) (RS.mL 3 [kB 8 false,kL 7 0 0,kS 6 Sl3.nil] ([some (57,[(Value.int .i64 0),(Value.int .i64 0),(Value.string (⟨#[]⟩:ByteArray)),(Sl3.v Sl3.nil)])]) (RS.dn (WS.nxt (WS.sq (WS.sq (WS.rg (RS.mS 2 [kB 21 (decide (a1=11)),kI 20 a1] (RS.dn (WS.nxt ?_)))))))))
 rcases z0 h with ⟨hp,h⟩ | ⟨hp,h⟩
 ·refine WS.fx 21 true (decide_eq_true hp) (WS.cT (WS.sq (WS.rg (RS.mS 1 [(22,.val (Value.pointer a0))] ?_))))
  obtain ⟨q3,hx,hq3⟩:=bind_some h
  subst hx
  have h:=hq3
  refine RS.mS 3 [(25,.val (Value.pointer (some (Addr.add (Addr.add q3 0) 2)))),(24,.val (Value.pointer (some (Addr.add q3 0)))),kP 23 q3] ?_
  obtain ⟨x4,hx,h⟩:=bind_some h
  refine RS.ld 26 28 (.tmp 25) (z1 hx z3) (RS.mS 1 [(27,.val (Value.func (.func 167) #[] #[(Value.pointer (some p1))]))] ?_)
  obtain ⟨x5,hx,h⟩:=bind_some h
  refine RS.cl (some 28) (v:=(Value.int .i64 x5)) 166 #[(Sl3.v x4),(Value.func (.func 167) #[] #[(Value.pointer (some p1))])] (z90 hx) (RS.mS 1 [kI 9 x5] (RS.dn (WS.nxt (WS.sq (WS.sq (WS.rg (RS.mS 2 [kB 30 (decide (x5<0)),kI 29 x5] (RS.dn (WS.nxt ?_)))))))))
  rcases z0 h with ⟨hp,h⟩ | ⟨hp,h⟩
  ·refine WS.fx 30 true (decide_eq_true hp) (WS.cT ?_)
   cases h
  ·refine WS.fx 30 false (decide_eq_false hp) (WS.cF (WS.sk (WS.nxt (WS.sq ?_))))
   refine WS.dr [0,1,2,3,4,5,6,7,8,9,10,11,12,13,14,15,16,17] [0,1,3,7,15,0,63,127,255,0,512,1536,3584,7680,0,32256,65024,130560,511,524287,1048575] 21 (fun hcl=>?_)
   refine DA.tK 0 (some 32) (Value.pointer (some q3)) (DA.tK 1 (some 33) (Value.pointer (some q3)) (DA.tK 2 (some 34) (Value.pointer (some (Addr.add q3 0))) (DA.tK 3 (some 35) (Value.pointer (some (Addr.add (Addr.add q3 0) 2))) ?_)))
   obtain ⟨x6,hx,h⟩:=bind_some h
   refine DA.tD 4 (some 36) (Sl3.v x6) (Abs.det_load (t:=28) (x:=.tmp 35) (a:=(Addr.add (Addr.add q3 0) 2)) (by kernel_rfl) (by kernel_rfl) (by kernel_rfl) (by kernel_rfl) (z1 hx z3)) (DA.tK 5 (some 37) (Value.int .i64 x5) ?_)
   obtain ⟨p7,hx,h⟩:=bind_some h
   refine DA.tD 6 (some 38) (Value.pointer (some p7)) (Abs.det_idx (s:=x6) (k:=.i64) (t:=28) (e:=66) (x:=.tmp 36) (y:=.tmp 37) (by kernel_rfl) (by kernel_rfl) (by kernel_rfl) (by kernel_rfl) (by kernel_rfl) hx) (DA.tK 7 (some 39) (Value.pointer (some (Addr.add p7 1))) ?_)
   obtain ⟨x8,hx,h⟩:=bind_some h
   refine DA.tD 8 (some 40) (Sl3.v x8) (Abs.det_load (t:=36) (x:=.tmp 39) (a:=(Addr.add p7 1)) (by kernel_rfl) (by kernel_rfl) (by kernel_rfl) (by kernel_rfl) (z1 hx z3)) (DA.tK 9 (some 41) (Value.pointer (some q3)) (DA.tK 10 (some 42) (Value.pointer (some q3)) (DA.tK 11 (some 43) (Value.pointer (some (Addr.add q3 0))) (DA.tK 12 (some 44) (Value.pointer (some (Addr.add (Addr.add q3 0) 2))) ?_))))
   obtain ⟨x9,hx,h⟩:=bind_some h
   refine DA.tD 13 (some 45) (Sl3.v x9) (Abs.det_load (t:=28) (x:=.tmp 44) (a:=(Addr.add (Addr.add q3 0) 2)) (by kernel_rfl) (by kernel_rfl) (by kernel_rfl) (by kernel_rfl) (z1 hx z3)) (DA.tK 14 (some 46) (Value.int .i64 x5) ?_)
   obtain ⟨p10,hx,h⟩:=bind_some h
   refine DA.tD 15 (some 47) (Value.pointer (some p10)) (Abs.det_idx (s:=x9) (k:=.i64) (t:=28) (e:=66) (x:=.tmp 45) (y:=.tmp 46) (by kernel_rfl) (by kernel_rfl) (by kernel_rfl) (by kernel_rfl) (by kernel_rfl) hx) (DA.tK 16 (some 48) (Value.pointer (some (Addr.add p10 2))) ?_)
   obtain ⟨x11_0,hx0,h⟩:=bind_some h
   obtain ⟨x11_1,hx1,h⟩:=bind_some h
   obtain ⟨x11_2,hx2,h⟩:=bind_some h
   obtain ⟨x11_3,hx3,h⟩:=bind_some h
   refine DA.tD 17 (some 49) (Value.agg #[(Value.int .i64 x11_0),(Value.int .i64 x11_1),(Value.string x11_2),(Sl3.v x11_3)]) (Abs.det_loadA (t:=57) (x:=.tmp 48) (a:=(Addr.add p10 2)) (k:=4) (by kernel_rfl) (by kernel_rfl) (by kernel_rfl) (by kernel_rfl) (z2 (z1 hx0 z5) (z2 (z1 hx1 z5) (z2 (z1 hx2 z9) (z2 (z1 hx3 z3) zd))))) (DA.tP 18 (some 6) (Sl3.v x8) (DA.on 19 (DA.aL 19 none (.val undef) ([some (57,[(Value.int .i64 x11_0),(Value.int .i64 x11_1),(Value.string x11_2),(Sl3.v x11_3)])]) false (DA.tP 20 (some 8) (Value.bool true) (DA.dn (WS.nxt (WS.rt ?_)))))))
   cases h
   exact fun a w hs=>sqR (rtR (rS hs))
 ·refine WS.fx 21 false (decide_eq_false hp) (WS.cF ?_)
  cases h
noncomputable def B117:Code:=(Tryz.f117.body).getD .skip
def zej:(Bool×AH)→Value
 | (r0,_)=>(Value.bool r0)
def zet (_:AH):(Bool×AH)→AH:=fun r=>r.2
noncomputable def z5q (_L:LC) (_m:Nat) (H:AH) (_a0:Option Addr) (a1_0:Int) (_a1_1:ByteArray) (_a1_2:Bool) (_a1_3:Sl3) (_a1_4:Int) (_a1_5:Sl3) (_a1_6 _a1_7:Int) (_a1_8:ByteArray) (_a1_9 _a1_10 _a1_11:Sl3) (a2:Int):Option (Bool×AH) :=
 if a1_0=34 then
  none
 else
  if a2=0 then
   some (true,H)
  else
   none
theorem zeu {L:LC} {m:Nat} {H:AH} {a0:Option Addr} {a1_0:Int} {a1_1:ByteArray} {a1_2:Bool} {a1_3:Sl3} {a1_4:Int} {a1_5:Sl3} {a1_6 a1_7:Int} {a1_8:ByteArray} {a1_9 a1_10 a1_11:Sl3} {a2:Int} {r:(Bool×AH)} (h:z5q L m H a0 a1_0 a1_1 a1_2 a1_3 a1_4 a1_5 a1_6 a1_7 a1_8 a1_9 a1_10 a1_11 a2=some r) :
  CallS Tryz.prog (NE.plain 148) m 117 #[(Value.pointer a0),(Value.agg #[(Value.int .i64 a1_0),(Value.string a1_1),(Value.bool a1_2),(Sl3.v a1_3),(Value.int .i64 a1_4),(Sl3.v a1_5),(Value.int .i64 a1_6),(Value.int .i64 a1_7),(Value.string a1_8),(Sl3.v a1_9),(Sl3.v a1_10),(Sl3.v a1_11)]),(Value.int .i64 a2)] H (zej r) (zet H r):=by
 refine CallS.mk (args:=[(Value.pointer a0),(Value.agg #[(Value.int .i64 a1_0),(Value.string a1_1),(Value.bool a1_2),(Sl3.v a1_3),(Value.int .i64 a1_4),(Sl3.v a1_5),(Value.int .i64 a1_6),(Value.int .i64 a1_7),(Value.string a1_8),(Sl3.v a1_9),(Sl3.v a1_10),(Sl3.v a1_11)]),(Value.int .i64 a2)]) Tryz.func117 (B:=B117) (by kernel_rfl) (fun E _=>?_)
 unfold z5q at h
 refine WS.sq (WS.rg (RS.mL 2 [kB 6 false,kL 4 0 0] ([some (78,[(Value.int .i64 a1_0),(Value.string a1_1),(Value.bool a1_2),(Sl3.v a1_3),(Value.int .i64 a1_4),(Sl3.v a1_5),(Value.int .i64 a1_6),(Value.int .i64 a1_7),(Value.string a1_8),(Sl3.v a1_9),(Sl3.v a1_10),(Sl3.v a1_11)])]) (RS.dn (WS.nxt (WS.sq (WS.sq (WS.rg (RS.mS 3 [kB 9 (decide (a1_0=34)),kI 8 a1_0,kL 7 0 0] (RS.dn ?_)))))))))
 refine WS.nxt ?_
 rcases z0 h with ⟨hp,h⟩ | ⟨hp,h⟩
 ·refine WS.fx 9 true (decide_eq_true hp) (WS.cT ?_)
  cases h
 ·refine WS.fx 9 false (decide_eq_false hp) (WS.cF (WS.sk (WS.nxt (WS.sq (WS.sq (WS.rg (RS.mS 2 [kB 25 (decide (a2=0)),kI 24 a2] (RS.dn (WS.nxt ?_)))))))))
  rcases z0 h with ⟨hp,h⟩ | ⟨hp,h⟩
  ·refine WS.fx 25 true (decide_eq_true hp) (WS.cT (WS.sq (WS.rg (RS.mS 1 [kB 6 true] (RS.dn (WS.nxt (WS.rt ?_)))))))
   cases h
   exact fun a w hs=>sqR (rtR (rS hs))
  ·refine WS.fx 25 false (decide_eq_false hp) (WS.cF ?_)
   cases h
noncomputable def B118:Code:=(Tryz.f118.body).getD .skip
def zkw:Int→Value
 | r0=>(Value.int .i64 r0)
def zm7 (H:AH):Int→AH:=fun _=>H
noncomputable def zfh (_L:LC) (_H:AH) (a0_0:Int) (_a0_1:ByteArray) (_a0_2:Bool) (_a0_3:Sl3) (_a0_4:Int) (_a0_5:Sl3) (_a0_6 _a0_7:Int) (_a0_8:ByteArray) (_a0_9 _a0_10 _a0_11:Sl3):Option Int :=
 if a0_0=20 then
  none
 else
  if a0_0=40 then
   none
  else
   some 0
theorem zmf {L:LC} {m:Nat} {H:AH} {a0_0:Int} {a0_1:ByteArray} {a0_2:Bool} {a0_3:Sl3} {a0_4:Int} {a0_5:Sl3} {a0_6 a0_7:Int} {a0_8:ByteArray} {a0_9 a0_10 a0_11:Sl3} {r:Int} (h:zfh L H a0_0 a0_1 a0_2 a0_3 a0_4 a0_5 a0_6 a0_7 a0_8 a0_9 a0_10 a0_11=some r) :
  CallS Tryz.prog (NE.plain 148) m 118 #[(Value.agg #[(Value.int .i64 a0_0),(Value.string a0_1),(Value.bool a0_2),(Sl3.v a0_3),(Value.int .i64 a0_4),(Sl3.v a0_5),(Value.int .i64 a0_6),(Value.int .i64 a0_7),(Value.string a0_8),(Sl3.v a0_9),(Sl3.v a0_10),(Sl3.v a0_11)])] H (zkw r) (zm7 H r):=by
 refine CallS.mk (args:=[(Value.agg #[(Value.int .i64 a0_0),(Value.string a0_1),(Value.bool a0_2),(Sl3.v a0_3),(Value.int .i64 a0_4),(Sl3.v a0_5),(Value.int .i64 a0_6),(Value.int .i64 a0_7),(Value.string a0_8),(Sl3.v a0_9),(Sl3.v a0_10),(Sl3.v a0_11)])]) Tryz.func118 (B:=B118) (by kernel_rfl) (fun E _=>?_)
 unfold zfh at h
 refine WS.sq (WS.rg (RS.mL 2 [kI 2 0,kL 1 0 0] ([some (78,[(Value.int .i64 a0_0),(Value.string a0_1),(Value.bool a0_2),(Sl3.v a0_3),(Value.int .i64 a0_4),(Sl3.v a0_5),(Value.int .i64 a0_6),(Value.int .i64 a0_7),(Value.string a0_8),(Sl3.v a0_9),(Sl3.v a0_10),(Sl3.v a0_11)])]) (RS.dn (WS.nxt (WS.sq (WS.sq (WS.rg (RS.mS 2 [kI 4 a0_0,kL 3 0 0] (RS.dn ?_)))))))))
 refine WS.nxt (WS.bk 0 (WS.sq (WS.rg (RS.mS 2 [kB 5 (decide (a0_0=20)),kB 6 (decide (a0_0=20))] (RS.dn (WS.nxt ?_))))))
 rcases z0 h with ⟨hp,h⟩ | ⟨hp,h⟩
 ·refine WS.fx 5 true (decide_eq_true hp) (WS.cT ?_)
  cases h
 ·refine WS.fx 5 false (decide_eq_false hp) (WS.cF (WS.sq (WS.rg (RS.mS 2 [kB 12 (decide (a0_0=40)),kB 13 (decide (a0_0=40))] (RS.dn (WS.nxt ?_))))))
  rcases z0 h with ⟨hp,h⟩ | ⟨hp,h⟩
  ·refine WS.fx 12 true (decide_eq_true hp) (WS.cT ?_)
   cases h
  ·refine WS.fx 12 false (decide_eq_false hp) (WS.cF (WS.sk ?_))
   refine fun a w hs=>bkN ((WS.nxt ?_ a w hs))
   refine WS.sq (WS.rg (RS.mS 1 [kI 2 0] (RS.dn (WS.nxt (WS.rt ?_)))))
   cases h
   exact fun a w hs=>rtR (rS hs)
noncomputable def B82:Code:=(Tryz.f82.body).getD .skip
def z9i:(Sl3×Int×Int×ByteArray×Sl3×Int×AH)→Value
 | (r0,r1,r2,r3,r4,r5,_)=>(Value.tuple #[(Sl3.v r0),(Value.agg #[(Value.int .i64 r1),(Value.int .i64 r2),(Value.string r3),(Sl3.v r4)]),(Value.int .i64 r5)])
def zaw (_:AH):(Sl3×Int×Int×ByteArray×Sl3×Int×AH)→AH:=fun r=>r.2.2.2.2.2.2
noncomputable def z5s (_L:LC) (a0:Option Addr) (_a1_0:Int) (_a1_1:ByteArray) (_a1_2:Bool) (_a1_3:Sl3) (_a1_4:Int) (_a1_5:Sl3) (_a1_6 _a1_7:Int) (_a1_8:ByteArray) (_a1_9 _a1_10 a1_11:Sl3) (_x3:Int) (H5:AH) (_v11_8:Sl3) (_w2_13 _w2_14:Int) (_w2_15:ByteArray) (_w2_16:Sl3):(Int×Int×Int×ByteArray×Sl3)→Option (Lp (Int×Int×Int×ByteArray×Sl3) (Sl3×Int×Int×ByteArray×Sl3×Int×AH)):=fun (v67_22,w1_23,w1_24,w1_25,w1_26) =>
 if v67_22<(a1_11.n:Int) then
  Option.bind (idxA 1 a1_11 v67_22) fun p27 =>
  Option.bind (rd (deI .i64) H5 p27) fun x28 =>
  if x28<0 then
   none
  else
   Option.bind a0 fun q29 =>
   Option.bind (rd deSl H5 (Addr.add q29 3)) fun x30 =>
   if x28≥(x30.n:Int) then
    none
   else
    some (.next ((IntKind.i64.wrap (v67_22+1)),w1_23,w1_24,w1_25,w1_26))
 else
  some (.brk (v67_22,w1_23,w1_24,w1_25,w1_26))
def zf2 (_L:LC) (a0:Option Addr) (a1_0:Int) (a1_1:ByteArray) (a1_2:Bool) (a1_3:Sl3) (a1_4:Int) (a1_5:Sl3) (a1_6 a1_7:Int) (a1_8:ByteArray) (a1_9 a1_10 a1_11:Sl3) (x3:Int) (_H5:AH) (v11_8:Sl3) (w2_13 w2_14:Int) (w2_15:ByteArray) (w2_16:Sl3):(Int×Int×Int×ByteArray×Sl3)→KN×Lcs:=fun (v67_22,w1_23,w1_24,w1_25,w1_26)=>([kI 67 v67_22,(0,.val (Value.pointer a0)),kL 3 0 0,kL 5 1 0,kI 9 x3,kS 11 v11_8,kL 12 2 0,kS 65 a1_11,kI 66 (a1_11.n:Int)],[some (78,[(Value.int .i64 a1_0),(Value.string a1_1),(Value.bool a1_2),(Sl3.v a1_3),(Value.int .i64 a1_4),(Sl3.v a1_5),(Value.int .i64 a1_6),(Value.int .i64 a1_7),(Value.string a1_8),(Sl3.v a1_9),(Sl3.v a1_10),(Sl3.v a1_11)]),some (57,[(Value.int .i64 w1_23),(Value.int .i64 w1_24),(Value.string w1_25),(Sl3.v w1_26)]),some (57,[(Value.int .i64 w2_13),(Value.int .i64 w2_14),(Value.string w2_15),(Sl3.v w2_16)])])
noncomputable def z8r (L:LC) (m:Nat) (H:AH) (a0:Option Addr) (a1_0:Int) (a1_1:ByteArray) (a1_2:Bool) (a1_3:Sl3) (a1_4:Int) (a1_5:Sl3) (a1_6 a1_7:Int) (a1_8:ByteArray) (a1_9 a1_10 a1_11:Sl3):Option (Sl3×Int×Int×ByteArray×Sl3×Int×AH) :=
 Option.bind (zd1 L a1_0) fun (x1,x2,x3,x4) =>
 if x4=true then
  Option.bind (α:=(AH×Int×Int×Sl3×Int×Int×ByteArray×Sl3×Int×Int×ByteArray×Sl3)⊕(Sl3×Int×Int×ByteArray×Sl3×Int×AH)) (
   Option.bind (α:=Bool) (
    if a1_0≥11 then
     some (decide (a1_0≤14))
    else
     some false) fun v33_17 =>
   if v33_17=true then
    Option.bind (z5p L m H a0 a1_0 a1_1) fun (x18,x19_0,x19_1,x19_2,x19_3,x20,H21) =>
    if x20=true then
     some (.inl (H21,(x18.n:Int),(x18.n:Int),x18,0,0,(⟨#[]⟩:ByteArray),Sl3.nil,x19_0,x19_1,x19_2,x19_3))
    else
     none
   else
    some (.inl (H,x1,x2,Sl3.nil,0,0,(⟨#[]⟩:ByteArray),Sl3.nil,0,0,(⟨#[]⟩:ByteArray),Sl3.nil))) fun o=>match o with
  | .inl (H5,v7_6,v8_7,v11_8,w1_9,w1_10,w1_11,w1_12,w2_13,w2_14,w2_15,w2_16) =>
   if (a1_11.n:Int)<v7_6 then
    none
   else
    if (a1_11.n:Int) > v8_7 then
     none
    else
     Option.bind (L.run (z5s L a0 a1_0 a1_1 a1_2 a1_3 a1_4 a1_5 a1_6 a1_7 a1_8 a1_9 a1_10 a1_11 x3 H5 v11_8 w2_13 w2_14 w2_15 w2_16) (0,w1_9,w1_10,w1_11,w1_12)) fun o=>match o with
     | .inl (_,_,_,_,_) =>
      Option.bind (z5q L m H5 a0 a1_0 a1_1 a1_2 a1_3 a1_4 a1_5 a1_6 a1_7 a1_8 a1_9 a1_10 a1_11 x3) fun (x36,H37) =>
      if x36=true then
       Option.bind (zfh L H37 a1_0 a1_1 a1_2 a1_3 a1_4 a1_5 a1_6 a1_7 a1_8 a1_9 a1_10 a1_11) fun x38 =>
       some (v11_8,w2_13,w2_14,w2_15,w2_16,x38,H37)
      else
       none
     | .inr r=>some r
  | .inr r=>some r
 else
  none
theorem z7u {E m H L a0 a1_0 a1_1 a1_2 a1_3 a1_4 a1_5 a1_6 a1_7 a1_8 a1_9 a1_10 a1_11 x3 H5 v11_8 w2_13 w2_14 w2_15 w2_16} :LoopF Tryz.prog (NE.plain 148) m E Tryz.f82 ((cfst (csnd (cfst (csnd (csnd (csnd (csnd (csnd (csnd (csnd B82))))))))))) (zf2 L a0 a1_0 a1_1 a1_2 a1_3 a1_4 a1_5 a1_6 a1_7 a1_8 a1_9 a1_10 a1_11 x3 H5 v11_8 w2_13 w2_14 w2_15 w2_16) (fun _=>H5) 0 z9i (zaw H) (z5s L a0 a1_0 a1_1 a1_2 a1_3 a1_4 a1_5 a1_6 a1_7 a1_8 a1_9 a1_10 a1_11 x3 H5 v11_8 w2_13 w2_14 w2_15 w2_16):=by
 rintro ⟨v67_22,w1_23,w1_24,w1_25,w1_26⟩ o h
 unfold z5s at h
 try dsimp only at h
 refine WS.sq (WS.rg (RS.mS 1 [kB 68 (decide (v67_22<(a1_11.n:Int)))] (RS.dn (WS.nxt (WS.sq ?_)))))
 rcases z0 h with ⟨hp,h⟩ | ⟨hp,h⟩
 ·refine WS.fx 68 true (decide_eq_true hp) (WS.cT (WS.sk (WS.nxt (WS.sq (WS.bk 1 (WS.sq (WS.rg ?_)))))))
  obtain ⟨p27,hx,h⟩:=bind_some h
  refine RS.ix 69 41 3 (.tmp 65) (.tmp 67) hx ?_
  obtain ⟨x28,hx,h⟩:=bind_some h
  refine RS.ld 70 3 (.tmp 69) (z1 hx z5) (RS.mS 1 [kI 14 x28] (RS.dn (WS.nxt (WS.sq (WS.rg (RS.mS 3 [kB 73 (decide (x28<0)),kB 72 (decide (x28<0)),kI 71 x28] ?_))))))
  rcases z0 h with ⟨hp,h⟩ | ⟨hp,h⟩
  ·refine RS.fx 73 true (decide_eq_true hp) ?_
   cases h
  ·refine RS.fx 73 false (decide_eq_false hp) (RS.mS 2 [(75,.val (Value.pointer a0)),kI 74 x28] ?_)
   obtain ⟨q29,hx,hq29⟩:=bind_some h
   subst hx
   have h:=hq29
   refine RS.mS 2 [(77,.val (Value.pointer (some (Addr.add q29 3)))),kP 76 q29] ?_
   obtain ⟨x30,hx,h⟩:=bind_some h
   refine RS.ld 78 31 (.tmp 77) (z1 hx z3) (RS.mS 3 [kB 81 (decide (x28≥(x30.n:Int))),kB 80 (decide (x28≥(x30.n:Int))),kI 79 (x30.n:Int)] (RS.dn (WS.nxt ?_)))
   rcases z0 h with ⟨hp,h⟩ | ⟨hp,h⟩
   ·refine WS.fx 81 true (decide_eq_true hp) (WS.cT ?_)
    cases h
   ·refine WS.fx 81 false (decide_eq_false hp) (WS.cF (WS.sk ?_))
    refine fun a w hs=>bkN ((WS.nxt ?_ a w hs))
    refine WS.rg (RS.mS 2 [kI 67 (IntKind.i64.wrap (v67_22+1)),kI 83 (IntKind.i64.wrap (v67_22+1))] (RS.dn ?_))
    cases h
    exact fun a w hs=>lsN rfl (hs.sb 3)
 ·refine WS.fx 68 false (decide_eq_false hp) (WS.cF (WS.ex 0 ?_))
  cases h
  exact fun a w hs=>sqE (lsB rfl (hs.sb 3))
theorem zij {L:LC} {m:Nat} {H:AH} {a0:Option Addr} {a1_0:Int} {a1_1:ByteArray} {a1_2:Bool} {a1_3:Sl3} {a1_4:Int} {a1_5:Sl3} {a1_6 a1_7:Int} {a1_8:ByteArray} {a1_9 a1_10 a1_11:Sl3} {r:(Sl3×Int×Int×ByteArray×Sl3×Int×AH)} (h:z8r L m H a0 a1_0 a1_1 a1_2 a1_3 a1_4 a1_5 a1_6 a1_7 a1_8 a1_9 a1_10 a1_11=some r) :
  CallS Tryz.prog (NE.plain 148) m 82 #[(Value.pointer a0),(Value.agg #[(Value.int .i64 a1_0),(Value.string a1_1),(Value.bool a1_2),(Sl3.v a1_3),(Value.int .i64 a1_4),(Sl3.v a1_5),(Value.int .i64 a1_6),(Value.int .i64 a1_7),(Value.string a1_8),(Sl3.v a1_9),(Sl3.v a1_10),(Sl3.v a1_11)])] H (z9i r) (zaw H r):=by
 refine CallS.mk (args:=[(Value.pointer a0),(Value.agg #[(Value.int .i64 a1_0),(Value.string a1_1),(Value.bool a1_2),(Sl3.v a1_3),(Value.int .i64 a1_4),(Sl3.v a1_5),(Value.int .i64 a1_6),(Value.int .i64 a1_7),(Value.string a1_8),(Sl3.v a1_9),(Sl3.v a1_10),(Sl3.v a1_11)])]) Tryz.func82 (B:=B82) (by kernel_rfl) (fun E _=>?_)
 unfold z8r at h
 refine WS.sq (WS.rg (RS.mL 4 [kI 6 0,kL 5 1 0,kS 4 Sl3.nil,kL 3 0 0] ([some (78,[(Value.int .i64 a1_0),(Value.string a1_1),(Value.bool a1_2),(Sl3.v a1_3),(Value.int .i64 a1_4),(Sl3.v a1_5),(Value.int .i64 a1_6),(Value.int .i64 a1_7),(Value.string a1_8),(Sl3.v a1_9),(Sl3.v a1_10),(Sl3.v a1_11)]),some (57,[(Value.int .i64 0),(Value.int .i64 0),(Value.string (⟨#[]⟩:ByteArray)),(Sl3.v Sl3.nil)])]) (RS.dn (WS.nxt (WS.sq (WS.rg (RS.mS 2 [kI 17 a1_0,kL 16 0 0] ?_)))))))
 obtain ⟨⟨x1,x2,x3,x4⟩,hx,h⟩:=bind_some h
 try dsimp only at h
 refine RS.cl (some 18) (v:=(Value.tuple #[(Value.int .i64 x1),(Value.int .i64 x2),(Value.int .i64 x3),(Value.bool x4)])) 81 #[(Value.int .i64 a1_0)] (zi1 hx) (RS.mS 9 [kB 10 x4,kI 9 x3,kI 8 x2,kI 7 x1,kB 22 x4,kI 21 x3,kI 20 x2,kI 19 x1,(15,.val (Value.tuple #[(Value.int .i64 x1),(Value.int .i64 x2),(Value.int .i64 x3),(Value.bool x4)]))] (RS.dn (WS.nxt (WS.sq (WS.sq (WS.rg (RS.mS 2 [kB 24 (!x4),kB 23 x4] (RS.dn (WS.nxt ?_)))))))))
 rcases z0 h with ⟨hp,h⟩ | ⟨hp,h⟩
 ·refine WS.fx 24 false (nb_not hp) (WS.cF (WS.sk (WS.nxt (WS.sq (WS.rg (RS.mS 1 [kS 11 Sl3.nil] (RS.dn (WS.nxt (WS.sq ?_)))))))))
  refine WS.rg (RS.mL 1 [kL 12 2 0] ([some (78,[(Value.int .i64 a1_0),(Value.string a1_1),(Value.bool a1_2),(Sl3.v a1_3),(Value.int .i64 a1_4),(Sl3.v a1_5),(Value.int .i64 a1_6),(Value.int .i64 a1_7),(Value.string a1_8),(Sl3.v a1_9),(Sl3.v a1_10),(Sl3.v a1_11)]),some (57,[(Value.int .i64 0),(Value.int .i64 0),(Value.string (⟨#[]⟩:ByteArray)),(Sl3.v Sl3.nil)]),some (57,[(Value.int .i64 0),(Value.int .i64 0),(Value.string (⟨#[]⟩:ByteArray)),(Sl3.v Sl3.nil)])]) (RS.dn (WS.nxt ?_)))
  obtain ⟨o,hx,h⟩:=bind_some h
  rcases o with ⟨H5,v7_6,v8_7,v11_8,w1_9,w1_10,w1_11,w1_12,w2_13,w2_14,w2_15,w2_16⟩ | ro
  ·try dsimp only at h
   refine WS.sq ?_
   refine WS.join ([kI 7 v7_6,kI 8 v8_7,kS 11 v11_8,(0,.val (Value.pointer a0)),kL 3 0 0,kL 5 1 0,kI 9 x3,kL 12 2 0]) ([some (78,[(Value.int .i64 a1_0),(Value.string a1_1),(Value.bool a1_2),(Sl3.v a1_3),(Value.int .i64 a1_4),(Sl3.v a1_5),(Value.int .i64 a1_6),(Value.int .i64 a1_7),(Value.string a1_8),(Sl3.v a1_9),(Sl3.v a1_10),(Sl3.v a1_11)]),some (57,[(Value.int .i64 w1_9),(Value.int .i64 w1_10),(Value.string w1_11),(Sl3.v w1_12)]),some (57,[(Value.int .i64 w2_13),(Value.int .i64 w2_14),(Value.string w2_15),(Sl3.v w2_16)])]) H5 ?_ (fun a w hs=>WS.nxt ?_ a w hs)
   ·clear h; rename _=>h
    obtain ⟨v33_17,hx,h⟩:=bind_some h
    refine WS.sq ?_
    refine WS.join ([kB 33 v33_17,(0,.val (Value.pointer a0)),kL 3 0 0,kL 5 1 0,kI 7 x1,kI 8 x2,kI 9 x3,kS 11 Sl3.nil,kL 12 2 0]) ([some (78,[(Value.int .i64 a1_0),(Value.string a1_1),(Value.bool a1_2),(Sl3.v a1_3),(Value.int .i64 a1_4),(Sl3.v a1_5),(Value.int .i64 a1_6),(Value.int .i64 a1_7),(Value.string a1_8),(Sl3.v a1_9),(Sl3.v a1_10),(Sl3.v a1_11)]),some (57,[(Value.int .i64 0),(Value.int .i64 0),(Value.string (⟨#[]⟩:ByteArray)),(Sl3.v Sl3.nil)]),some (57,[(Value.int .i64 0),(Value.int .i64 0),(Value.string (⟨#[]⟩:ByteArray)),(Sl3.v Sl3.nil)])]) H ?_ (fun a w hs=>WS.nxt ?_ a w hs)
    ·clear h; rename _=>h
     refine WS.rg (RS.mS 4 [kB 29 (decide (a1_0≥11)),kB 28 (decide (a1_0≥11)),kI 27 a1_0,kL 26 0 0] ?_)
     rcases z0 h with ⟨hp,h⟩ | ⟨hp,h⟩
     ·refine RS.fx 29 true (decide_eq_true hp) (RS.mS 4 [kB 33 (decide (a1_0≤14)),kB 32 (decide (a1_0≤14)),kI 31 a1_0,kL 30 0 0] (RS.dn ?_))
      cases h
      exact fun a w hs=>(jsN (hs.sb 3))
     ·refine RS.fx 29 false (decide_eq_false hp) (RS.mS 4 [kB 33 false,kU 32,kU 31,kU 30] (RS.dn ?_))
      cases h
      exact fun a w hs=>(jsN (hs.sb 3))
    ·clear hx
     rcases z0 h with ⟨hp,h⟩ | ⟨hp,h⟩
     ·refine WS.fx 33 true hp (WS.cT (WS.sq (WS.rg (RS.mS 5 [kT 39 a1_1,kL 38 0 1,kI 37 a1_0,kL 36 0 0,(35,.val (Value.pointer a0))] ?_))))
      obtain ⟨⟨x18,x19_0,x19_1,x19_2,x19_3,x20,H21⟩,hx,h⟩:=bind_some h
      try dsimp only at h
      refine RS.cl (some 40) (v:=(Value.tuple #[(Sl3.v x18),(Value.agg #[(Value.int .i64 x19_0),(Value.int .i64 x19_1),(Value.string x19_2),(Sl3.v x19_3)]),(Value.bool x20)])) 116 #[(Value.pointer a0),(Value.int .i64 a1_0),(Value.string a1_1)] (z7g hx) (RS.mL 7 [kB 10 x20,kS 11 x18,kB 43 x20,kA 42 #[(Value.int .i64 x19_0),(Value.int .i64 x19_1),(Value.string x19_2),(Sl3.v x19_3)],kS 41 x18,(34,.val (Value.tuple #[(Sl3.v x18),(Value.agg #[(Value.int .i64 x19_0),(Value.int .i64 x19_1),(Value.string x19_2),(Sl3.v x19_3)]),(Value.bool x20)]))] ([some (78,[(Value.int .i64 a1_0),(Value.string a1_1),(Value.bool a1_2),(Sl3.v a1_3),(Value.int .i64 a1_4),(Sl3.v a1_5),(Value.int .i64 a1_6),(Value.int .i64 a1_7),(Value.string a1_8),(Sl3.v a1_9),(Sl3.v a1_10),(Sl3.v a1_11)]),some (57,[(Value.int .i64 0),(Value.int .i64 0),(Value.string (⟨#[]⟩:ByteArray)),(Sl3.v Sl3.nil)]),some (57,[(Value.int .i64 x19_0),(Value.int .i64 x19_1),(Value.string x19_2),(Sl3.v x19_3)])]) (RS.dn (WS.nxt (WS.sq (WS.sq (WS.rg (RS.mS 2 [kB 45 (!x20),kB 44 x20] (RS.dn (WS.nxt ?_)))))))))
      rcases z0 h with ⟨hp,h⟩ | ⟨hp,h⟩
      ·refine WS.fx 45 false (nb_not hp) (WS.cF (WS.sk (WS.nxt (WS.rg (RS.mS 6 [kI 8 (x18.n:Int),kI 7 (x18.n:Int),kI 50 (x18.n:Int),kS 49 x18,kI 48 (x18.n:Int),kS 47 x18] (RS.dn ?_))))))
       cases h
       exact fun a w hs=>(jsN (hs.sb 3))
      ·refine WS.fx 45 true (zi hp) (WS.cT ?_)
       cases h
     ·refine WS.fx 33 false (b_not hp) (WS.cF (WS.sk ?_))
      cases h
      exact fun a w hs=>(jsN (hs.sb 3))
   ·clear hx
    refine WS.sq (WS.sq (WS.rg (RS.mS 6 [kB 56 (decide ((a1_11.n:Int)<v7_6)),kB 55 (decide ((a1_11.n:Int)<v7_6)),kI 54 v7_6,kI 53 (a1_11.n:Int),kS 52 a1_11,kL 51 0 11] ?_)))
    rcases z0 h with ⟨hp,h⟩ | ⟨hp,h⟩
    ·refine RS.fx 56 true (decide_eq_true hp) ?_
     cases h
    ·refine RS.fx 56 false (decide_eq_false hp) (RS.mS 6 [kB 62 (decide ((a1_11.n:Int) > v8_7)),kB 61 (decide ((a1_11.n:Int) > v8_7)),kI 60 v8_7,kI 59 (a1_11.n:Int),kS 58 a1_11,kL 57 0 11] (RS.dn (WS.nxt ?_)))
     rcases z0 h with ⟨hp,h⟩ | ⟨hp,h⟩
     ·refine WS.fx 62 true (decide_eq_true hp) (WS.cT ?_)
      cases h
     ·refine WS.fx 62 false (decide_eq_false hp) (WS.cF (WS.sk (WS.nxt (WS.sq (WS.sq (WS.rg (RS.mS 4 [kI 67 0,kI 66 (a1_11.n:Int),kS 65 a1_11,kL 64 0 11] (RS.dn (WS.nxt ?_)))))))))
      refine WS.bk 0 ?_
      obtain ⟨o,hl,h⟩:=bind_some h
      rcases o with ⟨v67_31,w1_32,w1_33,w1_34,w1_35⟩ | r
      ·try dsimp only at h
       refine WS.lI (z7u (L:=L) (E:=E) (m:=m) (H:=H)) (L.ok hl) 3 ?_
       clear hl
       refine fun a w hs=>bkE ((WS.nxt ?_ a w hs))
       refine WS.sq (WS.sq (WS.rg (RS.mS 3 [kI 86 x3,kA 85 #[(Value.int .i64 a1_0),(Value.string a1_1),(Value.bool a1_2),(Sl3.v a1_3),(Value.int .i64 a1_4),(Sl3.v a1_5),(Value.int .i64 a1_6),(Value.int .i64 a1_7),(Value.string a1_8),(Sl3.v a1_9),(Sl3.v a1_10),(Sl3.v a1_11)],(84,.val (Value.pointer a0))] ?_)))
       obtain ⟨⟨x36,H37⟩,hx,h⟩:=bind_some h
       try dsimp only at h
       refine RS.cl (some 87) (v:=(Value.bool x36)) 117 #[(Value.pointer a0),(Value.agg #[(Value.int .i64 a1_0),(Value.string a1_1),(Value.bool a1_2),(Sl3.v a1_3),(Value.int .i64 a1_4),(Sl3.v a1_5),(Value.int .i64 a1_6),(Value.int .i64 a1_7),(Value.string a1_8),(Sl3.v a1_9),(Sl3.v a1_10),(Sl3.v a1_11)]),(Value.int .i64 x3)] (zeu hx) (RS.mS 1 [kB 88 (!x36)] (RS.dn (WS.nxt ?_)))
       rcases z0 h with ⟨hp,h⟩ | ⟨hp,h⟩
       ·refine WS.fx 88 false (nb_not hp) (WS.cF (WS.sk (WS.nxt (WS.sq ?_))))
        refine WS.dr [1,2] [0,0,0,4,13,31,63] 7 (fun hcl=>?_)
        refine DA.tL 1 (some 91) (.val (Value.agg #[(Value.int .i64 w2_13),(Value.int .i64 w2_14),(Value.string w2_15),(Sl3.v w2_16)])) (DA.tL 2 (some 92) (.val (Value.agg #[(Value.int .i64 a1_0),(Value.string a1_1),(Value.bool a1_2),(Sl3.v a1_3),(Value.int .i64 a1_4),(Sl3.v a1_5),(Value.int .i64 a1_6),(Value.int .i64 a1_7),(Value.string a1_8),(Sl3.v a1_9),(Sl3.v a1_10),(Sl3.v a1_11)])) (DA.tP 0 (some 90) (Sl3.v v11_8) ?_))
        obtain ⟨x38,hx,h⟩:=bind_some h
        refine DA.on 3 (DA.aCj 3 (some 93) false (v:=(Value.int .i64 x38)) 118 #[(Value.agg #[(Value.int .i64 a1_0),(Value.string a1_1),(Value.bool a1_2),(Sl3.v a1_3),(Value.int .i64 a1_4),(Sl3.v a1_5),(Value.int .i64 a1_6),(Value.int .i64 a1_7),(Value.string a1_8),(Sl3.v a1_9),(Sl3.v a1_10),(Sl3.v a1_11)])] (zmf hx) (DA.tP 4 (some 4) (Sl3.v v11_8) (DA.on 5 (DA.aL 5 none (.val undef) ([some (78,[(Value.int .i64 a1_0),(Value.string a1_1),(Value.bool a1_2),(Sl3.v a1_3),(Value.int .i64 a1_4),(Sl3.v a1_5),(Value.int .i64 a1_6),(Value.int .i64 a1_7),(Value.string a1_8),(Sl3.v a1_9),(Sl3.v a1_10),(Sl3.v a1_11)]),some (57,[(Value.int .i64 w2_13),(Value.int .i64 w2_14),(Value.string w2_15),(Sl3.v w2_16)]),some (57,[(Value.int .i64 w2_13),(Value.int .i64 w2_14),(Value.string w2_15),(Sl3.v w2_16)])]) false (DA.tP 6 (some 6) (Value.int .i64 x38) (DA.dn (WS.nxt (WS.rt ?_))))))))
        cases h
        exact fun a w hs=>rtR (rS hs)
       ·refine WS.fx 88 true (zi hp) (WS.cT ?_)
        cases h
      ·try dsimp only at h
       refine WS.lR (z7u (L:=L) (E:=E) (m:=m) (H:=H)) (L.ok hl) 3 ?_
       cases h
       exact fun a w hq=>bkR (sqR (rtR hq))
  ·cases h; rename _=>h
   refine WS.sq ?_
   obtain ⟨v33_17,hx,h⟩:=bind_some h
   refine WS.sq ?_
   refine WS.join ([kB 33 v33_17,(0,.val (Value.pointer a0)),kL 3 0 0,kL 5 1 0,kI 7 x1,kI 8 x2,kI 9 x3,kS 11 Sl3.nil,kL 12 2 0]) ([some (78,[(Value.int .i64 a1_0),(Value.string a1_1),(Value.bool a1_2),(Sl3.v a1_3),(Value.int .i64 a1_4),(Sl3.v a1_5),(Value.int .i64 a1_6),(Value.int .i64 a1_7),(Value.string a1_8),(Sl3.v a1_9),(Sl3.v a1_10),(Sl3.v a1_11)]),some (57,[(Value.int .i64 0),(Value.int .i64 0),(Value.string (⟨#[]⟩:ByteArray)),(Sl3.v Sl3.nil)]),some (57,[(Value.int .i64 0),(Value.int .i64 0),(Value.string (⟨#[]⟩:ByteArray)),(Sl3.v Sl3.nil)])]) H ?_ (fun a w hs=>WS.nxt ?_ a w hs)
   ·clear h; rename _=>h
    refine WS.rg (RS.mS 4 [kB 29 (decide (a1_0≥11)),kB 28 (decide (a1_0≥11)),kI 27 a1_0,kL 26 0 0] ?_)
    rcases z0 h with ⟨hp,h⟩ | ⟨hp,h⟩
    ·refine RS.fx 29 true (decide_eq_true hp) (RS.mS 4 [kB 33 (decide (a1_0≤14)),kB 32 (decide (a1_0≤14)),kI 31 a1_0,kL 30 0 0] (RS.dn ?_))
     cases h
     exact fun a w hs=>(jsN (hs.sb 3))
    ·refine RS.fx 29 false (decide_eq_false hp) (RS.mS 4 [kB 33 false,kU 32,kU 31,kU 30] (RS.dn ?_))
     cases h
     exact fun a w hs=>(jsN (hs.sb 3))
   ·clear hx
    rcases z0 h with ⟨hp,h⟩ | ⟨hp,h⟩
    ·refine WS.fx 33 true hp (WS.cT (WS.sq (WS.rg (RS.mS 5 [kT 39 a1_1,kL 38 0 1,kI 37 a1_0,kL 36 0 0,(35,.val (Value.pointer a0))] ?_))))
     obtain ⟨⟨x18,x19_0,x19_1,x19_2,x19_3,x20,H21⟩,hx,h⟩:=bind_some h
     try dsimp only at h
     refine RS.cl (some 40) (v:=(Value.tuple #[(Sl3.v x18),(Value.agg #[(Value.int .i64 x19_0),(Value.int .i64 x19_1),(Value.string x19_2),(Sl3.v x19_3)]),(Value.bool x20)])) 116 #[(Value.pointer a0),(Value.int .i64 a1_0),(Value.string a1_1)] (z7g hx) (RS.mL 7 [kB 10 x20,kS 11 x18,kB 43 x20,kA 42 #[(Value.int .i64 x19_0),(Value.int .i64 x19_1),(Value.string x19_2),(Sl3.v x19_3)],kS 41 x18,(34,.val (Value.tuple #[(Sl3.v x18),(Value.agg #[(Value.int .i64 x19_0),(Value.int .i64 x19_1),(Value.string x19_2),(Sl3.v x19_3)]),(Value.bool x20)]))] ([some (78,[(Value.int .i64 a1_0),(Value.string a1_1),(Value.bool a1_2),(Sl3.v a1_3),(Value.int .i64 a1_4),(Sl3.v a1_5),(Value.int .i64 a1_6),(Value.int .i64 a1_7),(Value.string a1_8),(Sl3.v a1_9),(Sl3.v a1_10),(Sl3.v a1_11)]),some (57,[(Value.int .i64 0),(Value.int .i64 0),(Value.string (⟨#[]⟩:ByteArray)),(Sl3.v Sl3.nil)]),some (57,[(Value.int .i64 x19_0),(Value.int .i64 x19_1),(Value.string x19_2),(Sl3.v x19_3)])]) (RS.dn (WS.nxt (WS.sq (WS.sq (WS.rg (RS.mS 2 [kB 45 (!x20),kB 44 x20] (RS.dn (WS.nxt ?_)))))))))
     rcases z0 h with ⟨hp,h⟩ | ⟨hp,h⟩
     ·refine WS.fx 45 false (nb_not hp) (WS.cF (WS.sk (WS.nxt (WS.rg (RS.mS 6 [kI 8 (x18.n:Int),kI 7 (x18.n:Int),kI 50 (x18.n:Int),kS 49 x18,kI 48 (x18.n:Int),kS 47 x18] (RS.dn ?_))))))
      cases h
     ·refine WS.fx 45 true (zi hp) (WS.cT ?_)
      cases h
    ·refine WS.fx 33 false (b_not hp) (WS.cF (WS.sk ?_))
     cases h
 ·refine WS.fx 24 true (zi hp) (WS.cT ?_)
  cases h
noncomputable def B119:Code:=(Tryz.f119.body).getD .skip
def zjf:(Int×Int×ByteArray×Sl3)→Value
 | (r0,r1,r2,r3)=>(Value.agg #[(Value.int .i64 r0),(Value.int .i64 r1),(Value.string r2),(Sl3.v r3)])
def zk1 (H:AH):(Int×Int×ByteArray×Sl3)→AH:=fun _=>H
noncomputable def zbx (_L:LC):Option (Int×Int×ByteArray×Sl3) :=
 some (1,0,(⟨#[]⟩:ByteArray),Sl3.nil)
theorem zkh {L:LC} {m:Nat} {H:AH}  {r:(Int×Int×ByteArray×Sl3)} (h:zbx L=some r) :
  CallS Tryz.prog (NE.plain 148) m 119 #[] H (zjf r) (zk1 H r):=by
 refine CallS.mk (args:=[]) Tryz.func119 (B:=B119) (by kernel_rfl) (fun E _=>?_)
 unfold zbx at h
 refine WS.sq (WS.rg (RS.mL 1 [kL 0 0 0] ([some (57,[(Value.int .i64 0),(Value.int .i64 0),(Value.string (⟨#[]⟩:ByteArray)),(Sl3.v Sl3.nil)])]) (RS.dn (WS.nxt (WS.sq (WS.rg (RS.mL 2 [kA 1 #[(Value.int .i64 1),(Value.int .i64 0),(Value.string (⟨#[]⟩:ByteArray)),(Sl3.v Sl3.nil)]] ([some (57,[(Value.int .i64 1),(Value.int .i64 0),(Value.string (⟨#[]⟩:ByteArray)),(Sl3.v Sl3.nil)])]) (RS.dn (WS.nxt ?_)))))))))
 refine WS.rt ?_
 cases h
 exact fun a w hs=>rtR (rS hs)
noncomputable def B172:Code:=(Tryz.f172.body).getD .skip
def zlb:Bool→Value
 | r0=>(Value.bool r0)
def zmi (H:AH):Bool→AH:=fun _=>H
noncomputable def zft (L:LC) (H:AH) (a0_0 a0_1:Int) (a0_2:ByteArray) (a0_3:Sl3) (a1:Option Addr):Option Bool :=
 Option.bind a1 fun q1 =>
 Option.bind (rd (deI .i64) H (Addr.add q1 0)) fun x2_0 =>
 Option.bind (rd (deI .i64) H (Addr.add q1 1)) fun x2_1 =>
 Option.bind (rd deS H (Addr.add q1 2)) fun x2_2 =>
 Option.bind (rd deSl H (Addr.add q1 3)) fun x2_3 =>
 Option.bind (z9l L H a0_0 a0_1 a0_2 a0_3 x2_0 x2_1 x2_2 x2_3) fun x3 =>
 some (!x3)
theorem zm3 {L:LC} {m:Nat} {H:AH} {a0_0 a0_1:Int} {a0_2:ByteArray} {a0_3:Sl3} {a1:Option Addr} {r:Bool} (h:zft L H a0_0 a0_1 a0_2 a0_3 a1=some r) :
  CallS Tryz.prog (NE.plain 148) m 172 #[(Value.agg #[(Value.int .i64 a0_0),(Value.int .i64 a0_1),(Value.string a0_2),(Sl3.v a0_3)]),(Value.pointer a1)] H (zlb r) (zmi H r):=by
 refine CallS.mk (args:=[(Value.agg #[(Value.int .i64 a0_0),(Value.int .i64 a0_1),(Value.string a0_2),(Sl3.v a0_3)]),(Value.pointer a1)]) Tryz.func172 (B:=B172) (by kernel_rfl) (fun E _=>?_)
 unfold zft at h
 refine WS.sq (WS.rg (RS.mL 2 [kB 3 false,kL 2 0 0] ([some (57,[(Value.int .i64 a0_0),(Value.int .i64 a0_1),(Value.string a0_2),(Sl3.v a0_3)])]) (RS.dn (WS.nxt (WS.sq (WS.rg (RS.mS 1 [kA 4 #[(Value.int .i64 a0_0),(Value.int .i64 a0_1),(Value.string a0_2),(Sl3.v a0_3)]] ?_)))))))
 obtain ⟨q1,hx,hq1⟩:=bind_some h
 subst hx
 have h:=hq1
 obtain ⟨x2_0,hx0,h⟩:=bind_some h
 obtain ⟨x2_1,hx1,h⟩:=bind_some h
 obtain ⟨x2_2,hx2,h⟩:=bind_some h
 obtain ⟨x2_3,hx3,h⟩:=bind_some h
 refine RS.la 5 57 (.tmp 1) 4 (z2 (z1 hx0 z5) (z2 (z1 hx1 z5) (z2 (z1 hx2 z9) (z2 (z1 hx3 z3) zd)))) ?_
 obtain ⟨x3,hx,h⟩:=bind_some h
 refine RS.cl (some 6) (v:=(Value.bool x3)) 45 #[(Value.agg #[(Value.int .i64 a0_0),(Value.int .i64 a0_1),(Value.string a0_2),(Sl3.v a0_3)]),(Value.agg #[(Value.int .i64 x2_0),(Value.int .i64 x2_1),(Value.string x2_2),(Sl3.v x2_3)])] (z84 hx) (RS.mS 2 [kB 3 (!x3),kB 7 (!x3)] (RS.dn (WS.nxt (WS.rt ?_))))
 cases h
 exact fun a w hs=>rtR (rS hs)
def z4m:Int→Value
 | r0=>(Value.int .i64 r0)
def z51 (H:AH):Int→AH:=fun _=>H
noncomputable def z2e (L:LC) (H:AH) (a0:Sl3) (a1_0:Option Addr):Int→Option (Lp Int Int):=fun v8_1 =>
 if v8_1<(a0.n:Int) then
  Option.bind (idxA 4 a0 v8_1) fun p2 =>
  Option.bind (rd (deI .i64) H (Addr.add p2 0)) fun x3_0 =>
  Option.bind (rd (deI .i64) H (Addr.add p2 1)) fun x3_1 =>
  Option.bind (rd deS H (Addr.add p2 2)) fun x3_2 =>
  Option.bind (rd deSl H (Addr.add p2 3)) fun x3_3 =>
  Option.bind (zft L H x3_0 x3_1 x3_2 x3_3 a1_0) fun x4 =>
  if x4=true then
   none
  else
   some (.next (IntKind.i64.wrap (v8_1+1)))
 else
  some (.brk v8_1)
def z9k (_L:LC) (_H:AH) (a0:Sl3) (a1_0:Option Addr):Int→KN×Lcs:=fun v8_1=>([kI 8 v8_1,kS 0 a0,(1,.val (Value.func (.func 172) #[] #[(Value.pointer a1_0)])),kI 7 (a0.n:Int)],[])
noncomputable def z3f (L:LC) (H:AH) (a0:Sl3) (a1_0:Option Addr):Option Int :=
 Option.bind (L.run (z2e L H a0 a1_0) 0) fun o=>match o with
 | .inl _ =>
  some (-1)
 | .inr r=>some r
theorem z3m {E m L H a0 a1_0} :LoopF Tryz.prog (NE.plain 148) m E Tryz.f72 ((cfst (csnd (cfst (csnd B72))))) (z9k L H a0 a1_0) (fun _=>H) 0 z4m (z51 H) (z2e L H a0 a1_0):=by
 rintro v8_1 o h
 unfold z2e at h
 try dsimp only at h
 refine WS.sq (WS.rg (RS.mS 1 [kB 9 (decide (v8_1<(a0.n:Int)))] (RS.dn (WS.nxt (WS.sq ?_)))))
 rcases z0 h with ⟨hp,h⟩ | ⟨hp,h⟩
 ·refine WS.fx 9 true (decide_eq_true hp) (WS.cT (WS.sk (WS.nxt (WS.sq (WS.bk 1 (WS.sq (WS.rg (RS.mS 2 [kI 5 v8_1,kI 10 v8_1] (RS.dn ?_)))))))))
  refine WS.nxt (WS.sq (WS.rg (RS.mS 3 [kI 13 v8_1,kS 12 a0,(11,.val (Value.func (.func 172) #[] #[(Value.pointer a1_0)]))] ?_)))
  obtain ⟨p2,hx,h⟩:=bind_some h
  refine RS.ix 14 36 57 (.tmp 12) (.tmp 13) hx ?_
  obtain ⟨x3_0,hx0,h⟩:=bind_some h
  obtain ⟨x3_1,hx1,h⟩:=bind_some h
  obtain ⟨x3_2,hx2,h⟩:=bind_some h
  obtain ⟨x3_3,hx3,h⟩:=bind_some h
  refine RS.la 15 57 (.tmp 14) 4 (z2 (z1 hx0 z5) (z2 (z1 hx1 z5) (z2 (z1 hx2 z9) (z2 (z1 hx3 z3) zd)))) ?_
  obtain ⟨x4,hx,h⟩:=bind_some h
  refine RS.cl (some 16) (v:=(Value.bool x4)) 172 #[(Value.agg #[(Value.int .i64 x3_0),(Value.int .i64 x3_1),(Value.string x3_2),(Sl3.v x3_3)]),(Value.pointer a1_0)] (zm3 hx) (RS.dn (WS.nxt ?_))
  rcases z0 h with ⟨hp,h⟩ | ⟨hp,h⟩
  ·refine WS.fx 16 true hp (WS.cT ?_)
   cases h
  ·refine WS.fx 16 false (b_not hp) (WS.cF (WS.sk ?_))
   refine fun a w hs=>bkN ((WS.nxt ?_ a w hs))
   refine WS.rg (RS.mS 2 [kI 8 (IntKind.i64.wrap (v8_1+1)),kI 18 (IntKind.i64.wrap (v8_1+1))] (RS.dn ?_))
   cases h
   exact fun a w hs=>lsN rfl (hs.sb 0)
 ·refine WS.fx 9 false (decide_eq_false hp) (WS.cF (WS.ex 0 ?_))
  cases h
  exact fun a w hs=>sqE (lsB rfl (hs.sb 0))
theorem zc6 {L:LC} {m:Nat} {H:AH} {a0:Sl3} {a1_0:Option Addr} {r:Int} (h:z3f L H a0 a1_0=some r) :
  CallS Tryz.prog (NE.plain 148) m 72 #[(Sl3.v a0),(Value.func (.func 172) #[] #[(Value.pointer a1_0)])] H (z4m r) (z51 H r):=by
 refine CallS.mk (args:=[(Sl3.v a0),(Value.func (.func 172) #[] #[(Value.pointer a1_0)])]) Tryz.func72 (B:=B72) (by kernel_rfl) (fun E _=>?_)
 unfold z3f at h
 refine WS.sq (WS.rg (RS.mS 1 [kI 4 0] (RS.dn (WS.nxt (WS.sq (WS.sq (WS.rg (RS.mS 3 [kI 8 0,kI 7 (a0.n:Int),kS 6 a0] (RS.dn ?_)))))))))
 refine WS.nxt (WS.bk 0 ?_)
 obtain ⟨o,hl,h⟩:=bind_some h
 rcases o with v8_5 | r
 ·try dsimp only at h
  refine WS.lI (z3m (L:=L) (E:=E) (m:=m) (H:=H)) (L.ok hl) 0 ?_
  clear hl
  refine fun a w hs=>bkE ((WS.nxt ?_ a w hs))
  refine WS.sq (WS.rg (RS.mS 1 [kI 4 (-1)] (RS.dn (WS.nxt (WS.rt ?_)))))
  cases h
  exact fun a w hs=>rtR (rS hs)
 ·try dsimp only at h
  refine WS.lR (z3m (L:=L) (E:=E) (m:=m) (H:=H)) (L.ok hl) 0 ?_
  cases h
  exact fun a w hq=>bkR (sqR (rtR hq))
def z93:Bool→Value
 | r0=>(Value.bool r0)
def z9d (H:AH):Bool→AH:=fun _=>H
noncomputable def z2g (L:LC) (H:AH) (a0:Sl3) (a1_0:Option Addr):Option Bool :=
 Option.bind (z3f L H a0 a1_0) fun x1 =>
 some (decide (x1≥0))
theorem z9e {L:LC} {m:Nat} {H:AH} {a0:Sl3} {a1_0:Option Addr} {r:Bool} (h:z2g L H a0 a1_0=some r) :
  CallS Tryz.prog (NE.plain 148) m 43 #[(Sl3.v a0),(Value.func (.func 172) #[] #[(Value.pointer a1_0)])] H (z93 r) (z9d H r):=by
 refine CallS.mk (args:=[(Sl3.v a0),(Value.func (.func 172) #[] #[(Value.pointer a1_0)])]) Tryz.func43 (B:=B43) (by kernel_rfl) (fun E _=>?_)
 unfold z2g at h
 refine WS.sq (WS.rg (RS.mS 1 [kB 4 false] (RS.dn (WS.nxt (WS.sq (WS.rg (RS.mS 2 [(6,.val (Value.func (.func 172) #[] #[(Value.pointer a1_0)])),kS 5 a0] ?_)))))))
 obtain ⟨x1,hx,h⟩:=bind_some h
 refine RS.cl (some 7) (v:=(Value.int .i64 x1)) 72 #[(Sl3.v a0),(Value.func (.func 172) #[] #[(Value.pointer a1_0)])] (zc6 hx) (RS.mS 2 [kB 4 (decide (x1≥0)),kB 8 (decide (x1≥0))] (RS.dn (WS.nxt (WS.rt ?_))))
 cases h
 exact fun a w hs=>rtR (rS hs)
noncomputable def B120:Code:=(Tryz.f120.body).getD .skip
def zmo:(Bool×AH)→Value
 | (r0,_)=>(Value.bool r0)
def zok (_:AH):(Bool×AH)→AH:=fun r=>r.2
noncomputable def zj6 (L:LC) (_m:Nat) (H:AH) (a0:Sl3) (a1_0 a1_1:Int) (a1_2:ByteArray) (a1_3:Sl3):Option (Bool×AH) :=
 Option.bind (newB 57 [(Value.int .i64 a1_0),(Value.int .i64 a1_1),(Value.string a1_2),(Sl3.v a1_3)] H) fun (p1,H2) =>
 Option.bind (z2g L H2 a0 (some p1)) fun x3 =>
 some ((!x3),H2)
theorem znr {L:LC} {m:Nat} {H:AH} {a0:Sl3} {a1_0 a1_1:Int} {a1_2:ByteArray} {a1_3:Sl3} {r:(Bool×AH)} (h:zj6 L m H a0 a1_0 a1_1 a1_2 a1_3=some r) :
  CallS Tryz.prog (NE.plain 148) m 120 #[(Sl3.v a0),(Value.agg #[(Value.int .i64 a1_0),(Value.int .i64 a1_1),(Value.string a1_2),(Sl3.v a1_3)])] H (zmo r) (zok H r):=by
 refine CallS.mk (args:=[(Sl3.v a0),(Value.agg #[(Value.int .i64 a1_0),(Value.int .i64 a1_1),(Value.string a1_2),(Sl3.v a1_3)])]) Tryz.func120 (B:=B120) (by kernel_rfl) (fun E _=>?_)
 unfold zj6 at h
 refine WS.sq (WS.rg ?_)
 obtain ⟨⟨p1,H2⟩,hx,h⟩:=bind_some h
 try dsimp only at h
 refine RS.o (H':=H2) (some 3) (Value.pointer (some p1)) (Abs.run_newB (by kernel_rfl) hx) (RS.mS 1 [kB 4 false] (RS.dn (WS.nxt (WS.sq (WS.rg (RS.mS 2 [(6,.val (Value.func (.func 172) #[] #[(Value.pointer (some p1))])),kS 5 a0] ?_))))))
 obtain ⟨x3,hx,h⟩:=bind_some h
 refine RS.cl (some 7) (v:=(Value.bool x3)) 43 #[(Sl3.v a0),(Value.func (.func 172) #[] #[(Value.pointer (some p1))])] (z9e hx) (RS.mS 2 [kB 4 (!x3),kB 8 (!x3)] (RS.dn (WS.nxt (WS.rt ?_))))
 cases h
 exact fun a w hs=>rtR (rS hs)
end Go.Proofs.YtpcckomdlmpckaaGreatDoor
namespace Go.Proofs.YtpcckomdlmpckaaGreatDoor
open Go Go.Abs
set_option maxRecDepth 100000
noncomputable def B83:Code:=(Tryz.f83.body).getD .skip
def zkp:(Int×Int×ByteArray×Sl3×Bool×AH)→Value
 | (r0,r1,r2,r3,r4,_)=>(Value.tuple #[(Value.agg #[(Value.int .i64 r0),(Value.int .i64 r1),(Value.string r2),(Sl3.v r3)]),(Value.bool r4)])
def zkq (_:AH):(Int×Int×ByteArray×Sl3×Bool×AH)→AH:=fun r=>r.2.2.2.2.2
noncomputable def zdc (L:LC) (m:Nat) (H:AH) (a0_0:Int) (_a0_1:ByteArray) (_a0_2:Bool) (_a0_3:Sl3) (_a0_4:Int) (_a0_5:Sl3) (_a0_6 _a0_7:Int) (_a0_8:ByteArray) (_a0_9 _a0_10:Sl3) (_a0_11 a1:Sl3):Option (Int×Int×ByteArray×Sl3×Bool×AH) :=
 if a0_0≤7 then
  none
 else
  if a0_0≤9 then
   Option.bind (idxA 4 a1 0) fun p1 =>
   Option.bind (rd (deI .i64) H (Addr.add p1 0)) fun x2_0 =>
   Option.bind (rd (deI .i64) H (Addr.add p1 1)) fun x2_1 =>
   Option.bind (rd deS H (Addr.add p1 2)) fun x2_2 =>
   Option.bind (rd deSl H (Addr.add p1 3)) fun x2_3 =>
   Option.bind (zbx L) fun (x3_0,x3_1,x3_2,x3_3) =>
   Option.bind (zj6 L m H a1 x2_0 x2_1 x2_2 x2_3) fun (x4,H5) =>
   some (x3_0,x3_1,x3_2,x3_3,x4,H5)
  else
   if a0_0=10 then
    none
   else
    if a0_0=20 then
     none
    else
     if a0_0≤27 then
      none
     else
      if a0_0≤31 then
       none
      else
       if a0_0=34 then
        none
       else
        if a0_0≤33 then
         Option.bind (idxA 4 a1 0) fun p6 =>
         Option.bind (rd (deI .i64) H (Addr.add p6 0)) fun x7 =>
         if x7=4 then
          Option.bind (idxA 4 a1 1) fun p8 =>
          Option.bind (rd (deI .i64) H (Addr.add p8 0)) fun x9_0 =>
          Option.bind (rd (deI .i64) H (Addr.add p8 1)) fun x9_1 =>
          Option.bind (rd deS H (Addr.add p8 2)) fun x9_2 =>
          Option.bind (rd deSl H (Addr.add p8 3)) fun x9_3 =>
          Option.bind (idxA 4 a1 0) fun p10 =>
          Option.bind (rd deSl H (Addr.add p10 3)) fun x11 =>
          Option.bind (idxA 4 x11 0) fun p12 =>
          Option.bind (rd (deI .i64) H (Addr.add p12 0)) fun x13_0 =>
          Option.bind (rd (deI .i64) H (Addr.add p12 1)) fun x13_1 =>
          Option.bind (rd deS H (Addr.add p12 2)) fun x13_2 =>
          Option.bind (rd deSl H (Addr.add p12 3)) fun x13_3 =>
          Option.bind (z9l L H x9_0 x9_1 x9_2 x9_3 x13_0 x13_1 x13_2 x13_3) fun x14 =>
          if x14=true then
           if a0_0=32 then
            Option.bind (idxA 4 a1 0) fun p15 =>
            Option.bind (rd deSl H (Addr.add p15 3)) fun x16 =>
            Option.bind (idxA 4 x16 1) fun p17 =>
            Option.bind (rd (deI .i64) H (Addr.add p17 0)) fun x18_0 =>
            Option.bind (rd (deI .i64) H (Addr.add p17 1)) fun x18_1 =>
            Option.bind (rd deS H (Addr.add p17 2)) fun x18_2 =>
            Option.bind (rd deSl H (Addr.add p17 3)) fun x18_3 =>
            some (x18_0,x18_1,x18_2,x18_3,true,H)
           else
            Option.bind (idxA 4 a1 0) fun p19 =>
            Option.bind (rd (deI .i64) H (Addr.add p19 0)) fun x20_0 =>
            Option.bind (rd (deI .i64) H (Addr.add p19 1)) fun x20_1 =>
            Option.bind (rd deS H (Addr.add p19 2)) fun x20_2 =>
            Option.bind (rd deSl H (Addr.add p19 3)) fun x20_3 =>
            Option.bind (idxA 4 a1 2) fun p21 =>
            Option.bind (rd (deI .i64) H (Addr.add p21 0)) fun x22_0 =>
            Option.bind (rd (deI .i64) H (Addr.add p21 1)) fun x22_1 =>
            Option.bind (rd deS H (Addr.add p21 2)) fun x22_2 =>
            Option.bind (rd deSl H (Addr.add p21 3)) fun x22_3 =>
            Option.bind (idxA 4 a1 0) fun p23 =>
            Option.bind (rd deSl H (Addr.add p23 3)) fun x24 =>
            Option.bind (idxA 4 x24 1) fun p25 =>
            Option.bind (rd (deI .i64) H (Addr.add p25 0)) fun x26_0 =>
            Option.bind (rd (deI .i64) H (Addr.add p25 1)) fun x26_1 =>
            Option.bind (rd deS H (Addr.add p25 2)) fun x26_2 =>
            Option.bind (rd deSl H (Addr.add p25 3)) fun x26_3 =>
            Option.bind (z9l L H x22_0 x22_1 x22_2 x22_3 x26_0 x26_1 x26_2 x26_3) fun x27 =>
            some (x20_0,x20_1,x20_2,x20_3,x27,H)
          else
           none
         else
          none
        else
         none
theorem zl6 {L:LC} {m:Nat} {H:AH} {a0_0:Int} {a0_1:ByteArray} {a0_2:Bool} {a0_3:Sl3} {a0_4:Int} {a0_5:Sl3} {a0_6 a0_7:Int} {a0_8:ByteArray} {a0_9 a0_10:Sl3} {a0_11 a1:Sl3} {r:(Int×Int×ByteArray×Sl3×Bool×AH)} (h:zdc L m H a0_0 a0_1 a0_2 a0_3 a0_4 a0_5 a0_6 a0_7 a0_8 a0_9 a0_10 a0_11 a1=some r) :
  CallS Tryz.prog (NE.plain 148) m 83 #[(Value.agg #[(Value.int .i64 a0_0),(Value.string a0_1),(Value.bool a0_2),(Sl3.v a0_3),(Value.int .i64 a0_4),(Sl3.v a0_5),(Value.int .i64 a0_6),(Value.int .i64 a0_7),(Value.string a0_8),(Sl3.v a0_9),(Sl3.v a0_10),(Sl3.v a0_11)]),(Sl3.v a1)] H (zkp r) (zkq H r):=by
 refine CallS.mk (args:=[(Value.agg #[(Value.int .i64 a0_0),(Value.string a0_1),(Value.bool a0_2),(Sl3.v a0_3),(Value.int .i64 a0_4),(Sl3.v a0_5),(Value.int .i64 a0_6),(Value.int .i64 a0_7),(Value.string a0_8),(Sl3.v a0_9),(Sl3.v a0_10),(Sl3.v a0_11)]),(Sl3.v a1)]) Tryz.func83 (B:=B83) (by kernel_rfl) (fun E _=>?_)
 unfold zdc at h
 refine WS.sq (WS.rg (RS.mL 3 [kB 5 false,kL 4 1 0,kL 2 0 0] ([some (78,[(Value.int .i64 a0_0),(Value.string a0_1),(Value.bool a0_2),(Sl3.v a0_3),(Value.int .i64 a0_4),(Sl3.v a0_5),(Value.int .i64 a0_6),(Value.int .i64 a0_7),(Value.string a0_8),(Sl3.v a0_9),(Sl3.v a0_10),(Sl3.v a0_11)]),some (57,[(Value.int .i64 0),(Value.int .i64 0),(Value.string (⟨#[]⟩:ByteArray)),(Sl3.v Sl3.nil)])]) (RS.dn (WS.nxt (WS.sq (WS.bk 0 (WS.sq (WS.rg (RS.mS 4 [kB 6 (decide (a0_0≤7)),kB 9 (decide (a0_0≤7)),kI 8 a0_0,kL 7 0 0] ?_)))))))))
 refine RS.dn (WS.nxt ?_)
 rcases z0 h with ⟨hp,h⟩ | ⟨hp,h⟩
 ·refine WS.fx 6 true (decide_eq_true hp) (WS.cT ?_)
  cases h
 ·refine WS.fx 6 false (decide_eq_false hp) (WS.cF (WS.sq (WS.rg (RS.mS 4 [kB 14 (decide (a0_0≤9)),kB 17 (decide (a0_0≤9)),kI 16 a0_0,kL 15 0 0] (RS.dn (WS.nxt ?_))))))
  rcases z0 h with ⟨hp,h⟩ | ⟨hp,h⟩
  ·refine WS.fx 14 true (decide_eq_true hp) (WS.cT (WS.sq ?_))
   refine WS.dr [2,3,4] [0,0,0,4,12,31,63,127] 8 (fun hcl=>?_)
   refine DA.tK 2 (some 20) (Sl3.v a1) ?_
   obtain ⟨p1,hx,h⟩:=bind_some h
   refine DA.tD 3 (some 21) (Value.pointer (some p1)) (Abs.det_idx (s:=a1) (k:=.i64) (t:=36) (e:=57) (x:=.tmp 20) (y:=.const (Value.int .i64 0)) (by kernel_rfl) (by kernel_rfl) (by kernel_rfl) (by kernel_rfl) (by kernel_rfl) hx) ?_
   obtain ⟨x2_0,hx0,h⟩:=bind_some h
   obtain ⟨x2_1,hx1,h⟩:=bind_some h
   obtain ⟨x2_2,hx2,h⟩:=bind_some h
   obtain ⟨x2_3,hx3,h⟩:=bind_some h
   refine DA.tD 4 (some 22) (Value.agg #[(Value.int .i64 x2_0),(Value.int .i64 x2_1),(Value.string x2_2),(Sl3.v x2_3)]) (Abs.det_loadA (t:=57) (x:=.tmp 21) (a:=p1) (k:=4) (by kernel_rfl) (by kernel_rfl) (by kernel_rfl) (by kernel_rfl) (z2 (z1 hx0 z5) (z2 (z1 hx1 z5) (z2 (z1 hx2 z9) (z2 (z1 hx3 z3) zd))))) (DA.tP 1 (some 19) (Sl3.v a1) ?_)
   obtain ⟨⟨x3_0,x3_1,x3_2,x3_3⟩,hx,h⟩:=bind_some h
   try dsimp only at h
   refine DA.on 0 (DA.aCj 0 (some 18) false (v:=(Value.agg #[(Value.int .i64 x3_0),(Value.int .i64 x3_1),(Value.string x3_2),(Sl3.v x3_3)])) 119 #[] (zkh hx) ?_)
   obtain ⟨⟨x4,H5⟩,hx,h⟩:=bind_some h
   try dsimp only at h
   refine DA.on 5 (DA.aC 5 (some 23) (v:=(Value.bool x4)) 120 #[(Sl3.v a1),(Value.agg #[(Value.int .i64 x2_0),(Value.int .i64 x2_1),(Value.string x2_2),(Sl3.v x2_3)])] (znr hx) (DA.on 6 (DA.aL 6 none (.val undef) ([some (78,[(Value.int .i64 a0_0),(Value.string a0_1),(Value.bool a0_2),(Sl3.v a0_3),(Value.int .i64 a0_4),(Sl3.v a0_5),(Value.int .i64 a0_6),(Value.int .i64 a0_7),(Value.string a0_8),(Sl3.v a0_9),(Sl3.v a0_10),(Sl3.v a0_11)]),some (57,[(Value.int .i64 x3_0),(Value.int .i64 x3_1),(Value.string x3_2),(Sl3.v x3_3)])]) false (DA.tP 7 (some 5) (Value.bool x4) (DA.dn (WS.nxt (WS.rt ?_)))))))
   cases h
   exact fun a w hs=>bkR (sqR (rtR (rS hs)))
  ·refine WS.fx 14 false (decide_eq_false hp) (WS.cF (WS.sq (WS.rg (RS.mS 4 [kB 24 (decide (a0_0=10)),kB 27 (decide (a0_0=10)),kI 26 a0_0,kL 25 0 0] (RS.dn (WS.nxt ?_))))))
   rcases z0 h with ⟨hp,h⟩ | ⟨hp,h⟩
   ·refine WS.fx 24 true (decide_eq_true hp) (WS.cT ?_)
    cases h
   ·refine WS.fx 24 false (decide_eq_false hp) (WS.cF (WS.sq (WS.rg (RS.mS 4 [kB 45 (decide (a0_0=20)),kB 48 (decide (a0_0=20)),kI 47 a0_0,kL 46 0 0] (RS.dn (WS.nxt ?_))))))
    rcases z0 h with ⟨hp,h⟩ | ⟨hp,h⟩
    ·refine WS.fx 45 true (decide_eq_true hp) (WS.cT ?_)
     cases h
    ·refine WS.fx 45 false (decide_eq_false hp) (WS.cF (WS.sq (WS.rg (RS.mS 4 [kB 50 (decide (a0_0≤27)),kB 53 (decide (a0_0≤27)),kI 52 a0_0,kL 51 0 0] (RS.dn (WS.nxt ?_))))))
     rcases z0 h with ⟨hp,h⟩ | ⟨hp,h⟩
     ·refine WS.fx 50 true (decide_eq_true hp) (WS.cT ?_)
      cases h
     ·refine WS.fx 50 false (decide_eq_false hp) (WS.cF (WS.sq (WS.rg (RS.mS 4 [kB 58 (decide (a0_0≤31)),kB 61 (decide (a0_0≤31)),kI 60 a0_0,kL 59 0 0] (RS.dn (WS.nxt ?_))))))
      rcases z0 h with ⟨hp,h⟩ | ⟨hp,h⟩
      ·refine WS.fx 58 true (decide_eq_true hp) (WS.cT ?_)
       cases h
      ·refine WS.fx 58 false (decide_eq_false hp) (WS.cF (WS.sq (WS.rg (RS.mS 4 [kB 66 (decide (a0_0=34)),kB 69 (decide (a0_0=34)),kI 68 a0_0,kL 67 0 0] (RS.dn (WS.nxt ?_))))))
       rcases z0 h with ⟨hp,h⟩ | ⟨hp,h⟩
       ·refine WS.fx 66 true (decide_eq_true hp) (WS.cT ?_)
        cases h
       ·refine WS.fx 66 false (decide_eq_false hp) (WS.cF (WS.sq (WS.rg (RS.mS 4 [kB 81 (decide (a0_0≤33)),kB 84 (decide (a0_0≤33)),kI 83 a0_0,kL 82 0 0] (RS.dn (WS.nxt ?_))))))
        rcases z0 h with ⟨hp,h⟩ | ⟨hp,h⟩
        ·refine WS.fx 81 true (decide_eq_true hp) (WS.cT (WS.sq (WS.sq ?_)))
         refine WS.dr [0,1,2,3,4,5,6,7,8,9,10,11,12,13,14] [0,1,3,7,15,31,63,127,255,63,575,1599,3647,7743,15935,32767,65535,131071] 18 (fun hcl=>?_)
         refine DA.tK 0 (some 85) (Sl3.v a1) ?_
         obtain ⟨p6,hx,h⟩:=bind_some h
         refine DA.tD 1 (some 86) (Value.pointer (some p6)) (Abs.det_idx (s:=a1) (k:=.i64) (t:=36) (e:=57) (x:=.tmp 85) (y:=.const (Value.int .i64 0)) (by kernel_rfl) (by kernel_rfl) (by kernel_rfl) (by kernel_rfl) (by kernel_rfl) hx) (DA.tK 2 (some 87) (Value.pointer (some (Addr.add p6 0))) ?_)
         obtain ⟨x7,hx,h⟩:=bind_some h
         refine DA.tD 3 (some 88) (Value.int .i64 x7) (Abs.det_load (t:=55) (x:=.tmp 87) (a:=(Addr.add p6 0)) (by kernel_rfl) (by kernel_rfl) (by kernel_rfl) (by kernel_rfl) (z1 hx z5)) (DA.tK 4 (some 89) (Value.bool (!decide (x7=4))) (DA.tK 5 (some 90) (Value.bool (!decide (x7=4))) ?_))
         rcases z0 h with ⟨hp,h⟩ | ⟨hp,h⟩
         ·refine DA.fx 90 false (zj hp) (DA.tK 6 (some 91) (Sl3.v a1) ?_)
          obtain ⟨p8,hx,h⟩:=bind_some h
          refine DA.tD 7 (some 92) (Value.pointer (some p8)) (Abs.det_idx (s:=a1) (k:=.i64) (t:=36) (e:=57) (x:=.tmp 91) (y:=.const (Value.int .i64 1)) (by kernel_rfl) (by kernel_rfl) (by kernel_rfl) (by kernel_rfl) (by kernel_rfl) hx) ?_
          obtain ⟨x9_0,hx0,h⟩:=bind_some h
          obtain ⟨x9_1,hx1,h⟩:=bind_some h
          obtain ⟨x9_2,hx2,h⟩:=bind_some h
          obtain ⟨x9_3,hx3,h⟩:=bind_some h
          refine DA.tD 8 (some 93) (Value.agg #[(Value.int .i64 x9_0),(Value.int .i64 x9_1),(Value.string x9_2),(Sl3.v x9_3)]) (Abs.det_loadA (t:=57) (x:=.tmp 92) (a:=p8) (k:=4) (by kernel_rfl) (by kernel_rfl) (by kernel_rfl) (by kernel_rfl) (z2 (z1 hx0 z5) (z2 (z1 hx1 z5) (z2 (z1 hx2 z9) (z2 (z1 hx3 z3) zd))))) (DA.tK 9 (some 94) (Sl3.v a1) ?_)
          obtain ⟨p10,hx,h⟩:=bind_some h
          refine DA.tD 10 (some 95) (Value.pointer (some p10)) (Abs.det_idx (s:=a1) (k:=.i64) (t:=36) (e:=57) (x:=.tmp 94) (y:=.const (Value.int .i64 0)) (by kernel_rfl) (by kernel_rfl) (by kernel_rfl) (by kernel_rfl) (by kernel_rfl) hx) (DA.tK 11 (some 96) (Value.pointer (some (Addr.add p10 3))) ?_)
          obtain ⟨x11,hx,h⟩:=bind_some h
          refine DA.tD 12 (some 97) (Sl3.v x11) (Abs.det_load (t:=36) (x:=.tmp 96) (a:=(Addr.add p10 3)) (by kernel_rfl) (by kernel_rfl) (by kernel_rfl) (by kernel_rfl) (z1 hx z3)) ?_
          obtain ⟨p12,hx,h⟩:=bind_some h
          refine DA.tD 13 (some 98) (Value.pointer (some p12)) (Abs.det_idx (s:=x11) (k:=.i64) (t:=36) (e:=57) (x:=.tmp 97) (y:=.const (Value.int .i64 0)) (by kernel_rfl) (by kernel_rfl) (by kernel_rfl) (by kernel_rfl) (by kernel_rfl) hx) ?_
          obtain ⟨x13_0,hx0,h⟩:=bind_some h
          obtain ⟨x13_1,hx1,h⟩:=bind_some h
          obtain ⟨x13_2,hx2,h⟩:=bind_some h
          obtain ⟨x13_3,hx3,h⟩:=bind_some h
          refine DA.tD 14 (some 99) (Value.agg #[(Value.int .i64 x13_0),(Value.int .i64 x13_1),(Value.string x13_2),(Sl3.v x13_3)]) (Abs.det_loadA (t:=57) (x:=.tmp 98) (a:=p12) (k:=4) (by kernel_rfl) (by kernel_rfl) (by kernel_rfl) (by kernel_rfl) (z2 (z1 hx0 z5) (z2 (z1 hx1 z5) (z2 (z1 hx2 z9) (z2 (z1 hx3 z3) zd))))) ?_
          obtain ⟨x14,hx,h⟩:=bind_some h
          refine DA.on 15 (DA.aC 15 (some 100) (v:=(Value.bool x14)) 45 #[(Value.agg #[(Value.int .i64 x9_0),(Value.int .i64 x9_1),(Value.string x9_2),(Sl3.v x9_3)]),(Value.agg #[(Value.int .i64 x13_0),(Value.int .i64 x13_1),(Value.string x13_2),(Sl3.v x13_3)])] (z84 hx) (DA.tP 16 (some 101) (Value.bool (!x14)) (DA.tP 17 (some 102) (Value.bool (!x14)) (DA.dn (WS.nxt ?_)))))
          rcases z0 h with ⟨hp,h⟩ | ⟨hp,h⟩
          ·refine WS.fx 102 false (nb_not hp) (WS.cF (WS.sk (WS.nxt (WS.sq (WS.sq (WS.rg (RS.mS 3 [kB 106 (decide (a0_0=32)),kI 105 a0_0,kL 104 0 0] (RS.dn (WS.nxt ?_)))))))))
           rcases z0 h with ⟨hp,h⟩ | ⟨hp,h⟩
           ·refine WS.fx 106 true (decide_eq_true hp) (WS.cT (WS.sq (WS.rg (RS.mS 1 [kS 107 a1] ?_))))
            obtain ⟨p15,hx,h⟩:=bind_some h
            refine RS.ix 108 36 57 (.tmp 107) (.const (Value.int .i64 0)) hx (RS.mS 1 [(109,.val (Value.pointer (some (Addr.add p15 3))))] ?_)
            obtain ⟨x16,hx,h⟩:=bind_some h
            refine RS.ld 110 36 (.tmp 109) (z1 hx z3) ?_
            obtain ⟨p17,hx,h⟩:=bind_some h
            refine RS.ix 111 36 57 (.tmp 110) (.const (Value.int .i64 1)) hx ?_
            obtain ⟨x18_0,hx0,h⟩:=bind_some h
            obtain ⟨x18_1,hx1,h⟩:=bind_some h
            obtain ⟨x18_2,hx2,h⟩:=bind_some h
            obtain ⟨x18_3,hx3,h⟩:=bind_some h
            refine RS.la 112 57 (.tmp 111) 4 (z2 (z1 hx0 z5) (z2 (z1 hx1 z5) (z2 (z1 hx2 z9) (z2 (z1 hx3 z3) zd)))) (RS.mL 2 [kB 5 true] ([some (78,[(Value.int .i64 a0_0),(Value.string a0_1),(Value.bool a0_2),(Sl3.v a0_3),(Value.int .i64 a0_4),(Sl3.v a0_5),(Value.int .i64 a0_6),(Value.int .i64 a0_7),(Value.string a0_8),(Sl3.v a0_9),(Sl3.v a0_10),(Sl3.v a0_11)]),some (57,[(Value.int .i64 x18_0),(Value.int .i64 x18_1),(Value.string x18_2),(Sl3.v x18_3)])]) (RS.dn (WS.nxt (WS.rt ?_))))
            cases h
            exact fun a w hs=>sqR (bkR (sqR (rtR (rS hs))))
           ·refine WS.fx 106 false (decide_eq_false hp) (WS.cF (WS.sk (WS.nxt (WS.sq ?_))))
            refine WS.dr [0,1,2,3,4,5,6,7,8,9,10,11] [0,1,3,0,8,24,0,64,192,448,960,1984,4088,8191,16383] 15 (fun hcl=>?_)
            refine DA.tK 0 (some 113) (Sl3.v a1) ?_
            obtain ⟨p19,hx,h⟩:=bind_some h
            refine DA.tD 1 (some 114) (Value.pointer (some p19)) (Abs.det_idx (s:=a1) (k:=.i64) (t:=36) (e:=57) (x:=.tmp 113) (y:=.const (Value.int .i64 0)) (by kernel_rfl) (by kernel_rfl) (by kernel_rfl) (by kernel_rfl) (by kernel_rfl) hx) ?_
            obtain ⟨x20_0,hx0,h⟩:=bind_some h
            obtain ⟨x20_1,hx1,h⟩:=bind_some h
            obtain ⟨x20_2,hx2,h⟩:=bind_some h
            obtain ⟨x20_3,hx3,h⟩:=bind_some h
            refine DA.tD 2 (some 115) (Value.agg #[(Value.int .i64 x20_0),(Value.int .i64 x20_1),(Value.string x20_2),(Sl3.v x20_3)]) (Abs.det_loadA (t:=57) (x:=.tmp 114) (a:=p19) (k:=4) (by kernel_rfl) (by kernel_rfl) (by kernel_rfl) (by kernel_rfl) (z2 (z1 hx0 z5) (z2 (z1 hx1 z5) (z2 (z1 hx2 z9) (z2 (z1 hx3 z3) zd))))) (DA.tK 3 (some 116) (Sl3.v a1) ?_)
            obtain ⟨p21,hx,h⟩:=bind_some h
            refine DA.tD 4 (some 117) (Value.pointer (some p21)) (Abs.det_idx (s:=a1) (k:=.i64) (t:=36) (e:=57) (x:=.tmp 116) (y:=.const (Value.int .i64 2)) (by kernel_rfl) (by kernel_rfl) (by kernel_rfl) (by kernel_rfl) (by kernel_rfl) hx) ?_
            obtain ⟨x22_0,hx0,h⟩:=bind_some h
            obtain ⟨x22_1,hx1,h⟩:=bind_some h
            obtain ⟨x22_2,hx2,h⟩:=bind_some h
            obtain ⟨x22_3,hx3,h⟩:=bind_some h
            refine DA.tD 5 (some 118) (Value.agg #[(Value.int .i64 x22_0),(Value.int .i64 x22_1),(Value.string x22_2),(Sl3.v x22_3)]) (Abs.det_loadA (t:=57) (x:=.tmp 117) (a:=p21) (k:=4) (by kernel_rfl) (by kernel_rfl) (by kernel_rfl) (by kernel_rfl) (z2 (z1 hx0 z5) (z2 (z1 hx1 z5) (z2 (z1 hx2 z9) (z2 (z1 hx3 z3) zd))))) (DA.tK 6 (some 119) (Sl3.v a1) ?_)
            obtain ⟨p23,hx,h⟩:=bind_some h
            refine DA.tD 7 (some 120) (Value.pointer (some p23)) (Abs.det_idx (s:=a1) (k:=.i64) (t:=36) (e:=57) (x:=.tmp 119) (y:=.const (Value.int .i64 0)) (by kernel_rfl) (by kernel_rfl) (by kernel_rfl) (by kernel_rfl) (by kernel_rfl) hx) (DA.tK 8 (some 121) (Value.pointer (some (Addr.add p23 3))) ?_)
            obtain ⟨x24,hx,h⟩:=bind_some h
            refine DA.tD 9 (some 122) (Sl3.v x24) (Abs.det_load (t:=36) (x:=.tmp 121) (a:=(Addr.add p23 3)) (by kernel_rfl) (by kernel_rfl) (by kernel_rfl) (by kernel_rfl) (z1 hx z3)) ?_
            obtain ⟨p25,hx,h⟩:=bind_some h
            refine DA.tD 10 (some 123) (Value.pointer (some p25)) (Abs.det_idx (s:=x24) (k:=.i64) (t:=36) (e:=57) (x:=.tmp 122) (y:=.const (Value.int .i64 1)) (by kernel_rfl) (by kernel_rfl) (by kernel_rfl) (by kernel_rfl) (by kernel_rfl) hx) ?_
            obtain ⟨x26_0,hx0,h⟩:=bind_some h
            obtain ⟨x26_1,hx1,h⟩:=bind_some h
            obtain ⟨x26_2,hx2,h⟩:=bind_some h
            obtain ⟨x26_3,hx3,h⟩:=bind_some h
            refine DA.tD 11 (some 124) (Value.agg #[(Value.int .i64 x26_0),(Value.int .i64 x26_1),(Value.string x26_2),(Sl3.v x26_3)]) (Abs.det_loadA (t:=57) (x:=.tmp 123) (a:=p25) (k:=4) (by kernel_rfl) (by kernel_rfl) (by kernel_rfl) (by kernel_rfl) (z2 (z1 hx0 z5) (z2 (z1 hx1 z5) (z2 (z1 hx2 z9) (z2 (z1 hx3 z3) zd))))) ?_
            obtain ⟨x27,hx,h⟩:=bind_some h
            refine DA.on 12 (DA.aCj 12 (some 125) false (v:=(Value.bool x27)) 45 #[(Value.agg #[(Value.int .i64 x22_0),(Value.int .i64 x22_1),(Value.string x22_2),(Sl3.v x22_3)]),(Value.agg #[(Value.int .i64 x26_0),(Value.int .i64 x26_1),(Value.string x26_2),(Sl3.v x26_3)])] (z84 hx) (DA.on 13 (DA.aL 13 none (.val undef) ([some (78,[(Value.int .i64 a0_0),(Value.string a0_1),(Value.bool a0_2),(Sl3.v a0_3),(Value.int .i64 a0_4),(Sl3.v a0_5),(Value.int .i64 a0_6),(Value.int .i64 a0_7),(Value.string a0_8),(Sl3.v a0_9),(Sl3.v a0_10),(Sl3.v a0_11)]),some (57,[(Value.int .i64 x20_0),(Value.int .i64 x20_1),(Value.string x20_2),(Sl3.v x20_3)])]) false (DA.tP 14 (some 5) (Value.bool x27) (DA.dn (WS.nxt (WS.rt ?_)))))))
            cases h
            exact fun a w hs=>bkR (sqR (rtR (rS hs)))
          ·refine WS.fx 102 true (zi hp) (WS.cT ?_)
           cases h
         ·refine DA.fx 90 true (ze hp) ?_
          cases h
        ·refine WS.fx 81 false (decide_eq_false hp) (WS.cF ?_)
         cases h
noncomputable def B84:Code:=(Tryz.f84.body).getD .skip
def zef:Bool→Value
 | r0=>(Value.bool r0)
def zeq (H:AH):Bool→AH:=fun _=>H
noncomputable def z60 (_L:LC) (_H:AH) (_a0:Option Addr) (a1_0:Int) (_a1_1:ByteArray) (_a1_2:Bool) (_a1_3:Sl3) (_a1_4:Int) (_a1_5:Sl3) (_a1_6 _a1_7:Int) (_a1_8:ByteArray) (_a1_9 _a1_10 _a1_11:Sl3):Option Bool :=
 if a1_0=24 then
  none
 else
  if a1_0=25 then
   none
  else
   if a1_0=26 then
    none
   else
    some true
theorem zes {L:LC} {m:Nat} {H:AH} {a0:Option Addr} {a1_0:Int} {a1_1:ByteArray} {a1_2:Bool} {a1_3:Sl3} {a1_4:Int} {a1_5:Sl3} {a1_6 a1_7:Int} {a1_8:ByteArray} {a1_9 a1_10 a1_11:Sl3} {r:Bool} (h:z60 L H a0 a1_0 a1_1 a1_2 a1_3 a1_4 a1_5 a1_6 a1_7 a1_8 a1_9 a1_10 a1_11=some r) :
  CallS Tryz.prog (NE.plain 148) m 84 #[(Value.pointer a0),(Value.agg #[(Value.int .i64 a1_0),(Value.string a1_1),(Value.bool a1_2),(Sl3.v a1_3),(Value.int .i64 a1_4),(Sl3.v a1_5),(Value.int .i64 a1_6),(Value.int .i64 a1_7),(Value.string a1_8),(Sl3.v a1_9),(Sl3.v a1_10),(Sl3.v a1_11)])] H (zef r) (zeq H r):=by
 refine CallS.mk (args:=[(Value.pointer a0),(Value.agg #[(Value.int .i64 a1_0),(Value.string a1_1),(Value.bool a1_2),(Sl3.v a1_3),(Value.int .i64 a1_4),(Sl3.v a1_5),(Value.int .i64 a1_6),(Value.int .i64 a1_7),(Value.string a1_8),(Sl3.v a1_9),(Sl3.v a1_10),(Sl3.v a1_11)])]) Tryz.func84 (B:=B84) (by kernel_rfl) (fun E _=>?_)
 unfold z60 at h
 refine WS.sq (WS.rg (RS.mL 2 [kB 4 false,kL 3 0 0] ([some (78,[(Value.int .i64 a1_0),(Value.string a1_1),(Value.bool a1_2),(Sl3.v a1_3),(Value.int .i64 a1_4),(Sl3.v a1_5),(Value.int .i64 a1_6),(Value.int .i64 a1_7),(Value.string a1_8),(Sl3.v a1_9),(Sl3.v a1_10),(Sl3.v a1_11)])]) (RS.dn (WS.nxt (WS.sq (WS.sq (WS.rg (RS.mS 2 [kI 12 a1_0,kL 11 0 0] (RS.dn ?_)))))))))
 refine WS.nxt (WS.bk 0 (WS.sq (WS.rg (RS.mS 2 [kB 13 (decide (a1_0=24)),kB 14 (decide (a1_0=24))] (RS.dn (WS.nxt ?_))))))
 rcases z0 h with ⟨hp,h⟩ | ⟨hp,h⟩
 ·refine WS.fx 13 true (decide_eq_true hp) (WS.cT ?_)
  cases h
 ·refine WS.fx 13 false (decide_eq_false hp) (WS.cF (WS.sq (WS.sq (WS.rg (RS.mS 2 [kB 37 (decide (a1_0=25)),kB 38 (decide (a1_0=25))] (RS.dn (WS.nxt ?_)))))))
  rcases z0 h with ⟨hp,h⟩ | ⟨hp,h⟩
  ·refine WS.fx 37 true (decide_eq_true hp) (WS.cT ?_)
   cases h
  ·refine WS.fx 37 false (decide_eq_false hp) (WS.cF (WS.rg (RS.mS 2 [kB 37 (decide (a1_0=26)),kB 39 (decide (a1_0=26))] (RS.dn (WS.nxt ?_)))))
   rcases z0 h with ⟨hp,h⟩ | ⟨hp,h⟩
   ·refine WS.fx 37 true (decide_eq_true hp) (WS.cT ?_)
    cases h
   ·refine WS.fx 37 false (decide_eq_false hp) (WS.cF (WS.sk ?_))
    refine fun a w hs=>bkN ((WS.nxt ?_ a w hs))
    refine WS.sq (WS.rg (RS.mS 1 [kB 4 true] (RS.dn (WS.nxt (WS.rt ?_)))))
    cases h
    exact fun a w hs=>rtR (rS hs)
noncomputable def B54:Code:=(Tryz.f54.body).getD .skip
def z3q:(Int×Int×ByteArray×Sl3×Int×AH)→Value
 | (r0,r1,r2,r3,r4,_)=>(Value.tuple #[(Value.agg #[(Value.int .i64 r0),(Value.int .i64 r1),(Value.string r2),(Sl3.v r3)]),(Value.int .i64 r4)])
def z4i (_:AH):(Int×Int×ByteArray×Sl3×Int×AH)→AH:=fun r=>r.2.2.2.2.2
noncomputable def z4b (_L:LC) (m:Nat) (a0:Option Addr) (_a1_0:Int) (_a1_1:ByteArray) (_a1_2:Bool) (_a1_3:Sl3) (_a1_4:Int) (_a1_5:Sl3) (_a1_6 _a1_7:Int) (_a1_8:ByteArray) (_a1_9 _a1_10:Sl3) (a1_11 _x1:Sl3) (_x2_0 _x2_1:Int) (_x2_2:ByteArray) (_x2_3:Sl3):(AH×Sl3×Int)→Option (Lp (AH×Sl3×Int) (Int×Int×ByteArray×Sl3×Int×AH)):=fun (H5,v9_6,v30_7) =>
 if v30_7<(a1_11.n:Int) then
  Option.bind (idxA 1 a1_11 v30_7) fun p8 =>
  Option.bind (rd (deI .i64) H5 p8) fun x9 =>
  Option.bind a0 fun q10 =>
  Option.bind (rd deSl H5 (Addr.add q10 3)) fun x11 =>
  Option.bind (idxA 16 x11 x9) fun p12 =>
  Option.bind (rd (deI .i64) H5 (Addr.add (Addr.add p12 12) 0)) fun x13_0 =>
  Option.bind (rd (deI .i64) H5 (Addr.add (Addr.add p12 12) 1)) fun x13_1 =>
  Option.bind (rd deS H5 (Addr.add (Addr.add p12 12) 2)) fun x13_2 =>
  Option.bind (rd deSl H5 (Addr.add (Addr.add p12 12) 3)) fun x13_3 =>
  Option.bind (newR 57 1 #[(Value.int .i64 x13_0),(Value.int .i64 x13_1),(Value.string x13_2),(Sl3.v x13_3)] H5) fun (s14,H15) =>
  Option.bind (appS m 57 4 56 H15 v9_6 s14) fun (s16,H17) =>
  some (.next (H17,s16,(IntKind.i64.wrap (v30_7+1))))
 else
  some (.brk (H5,v9_6,v30_7))
def zdv (_L:LC) (_m:Nat) (a0:Option Addr) (a1_0:Int) (a1_1:ByteArray) (a1_2:Bool) (a1_3:Sl3) (a1_4:Int) (a1_5:Sl3) (a1_6 a1_7:Int) (a1_8:ByteArray) (a1_9 a1_10:Sl3) (a1_11 x1:Sl3) (x2_0 x2_1:Int) (x2_2:ByteArray) (x2_3:Sl3):(AH×Sl3×Int)→KN×Lcs:=fun (_,v9_6,v30_7)=>([kS 9 v9_6,kI 30 v30_7,(0,.val (Value.pointer a0)),kL 3 0 0,kL 4 1 0,kS 6 x1,kL 7 2 0,kS 28 a1_11,kI 29 (a1_11.n:Int)],[some (78,[(Value.int .i64 a1_0),(Value.string a1_1),(Value.bool a1_2),(Sl3.v a1_3),(Value.int .i64 a1_4),(Sl3.v a1_5),(Value.int .i64 a1_6),(Value.int .i64 a1_7),(Value.string a1_8),(Sl3.v a1_9),(Sl3.v a1_10),(Sl3.v a1_11)]),some (57,[(Value.int .i64 0),(Value.int .i64 0),(Value.string (⟨#[]⟩:ByteArray)),(Sl3.v Sl3.nil)]),some (57,[(Value.int .i64 x2_0),(Value.int .i64 x2_1),(Value.string x2_2),(Sl3.v x2_3)])])
noncomputable def z4l (_L:LC) (_a1_0:Int) (_a1_1:ByteArray) (_a1_2:Bool) (_a1_3:Sl3) (_a1_4:Int) (_a1_5:Sl3) (_a1_6 _a1_7:Int) (_a1_8:ByteArray) (_a1_9 _a1_10:Sl3) (_a1_11 _x1:Sl3) (_x2_0 _x2_1:Int) (_x2_2:ByteArray) (_x2_3:Sl3) (_H18:AH) (v9_19:Sl3):(Int×Int×Int×ByteArray×Sl3)→Option (Lp (Int×Int×Int×ByteArray×Sl3) (Int×Int×ByteArray×Sl3×Int×AH)):=fun (v56_22,w1_23,w1_24,w1_25,w1_26) =>
 if v56_22<(v9_19.n:Int) then
  none
 else
  some (.brk (v56_22,w1_23,w1_24,w1_25,w1_26))
def zdh (_L:LC) (a1_0:Int) (a1_1:ByteArray) (a1_2:Bool) (a1_3:Sl3) (a1_4:Int) (a1_5:Sl3) (a1_6 a1_7:Int) (a1_8:ByteArray) (a1_9 a1_10:Sl3) (a1_11 x1:Sl3) (x2_0 x2_1:Int) (x2_2:ByteArray) (x2_3:Sl3) (_H18:AH) (v9_19:Sl3):(Int×Int×Int×ByteArray×Sl3)→KN×Lcs:=fun (v56_22,w1_23,w1_24,w1_25,w1_26)=>([kI 56 v56_22,kL 4 1 0,kS 6 x1,kL 7 2 0,kS 54 v9_19,kI 55 (v9_19.n:Int)],[some (78,[(Value.int .i64 a1_0),(Value.string a1_1),(Value.bool a1_2),(Sl3.v a1_3),(Value.int .i64 a1_4),(Sl3.v a1_5),(Value.int .i64 a1_6),(Value.int .i64 a1_7),(Value.string a1_8),(Sl3.v a1_9),(Sl3.v a1_10),(Sl3.v a1_11)]),some (57,[(Value.int .i64 w1_23),(Value.int .i64 w1_24),(Value.string w1_25),(Sl3.v w1_26)]),some (57,[(Value.int .i64 x2_0),(Value.int .i64 x2_1),(Value.string x2_2),(Sl3.v x2_3)])])
noncomputable def z6m (L:LC) (m:Nat) (H:AH) (a0:Option Addr) (a1_0:Int) (a1_1:ByteArray) (a1_2:Bool) (a1_3:Sl3) (a1_4:Int) (a1_5:Sl3) (a1_6 a1_7:Int) (a1_8:ByteArray) (a1_9 a1_10 a1_11:Sl3):Option (Int×Int×ByteArray×Sl3×Int×AH) :=
 Option.bind (z8r L m H a0 a1_0 a1_1 a1_2 a1_3 a1_4 a1_5 a1_6 a1_7 a1_8 a1_9 a1_10 a1_11) fun (x1,x2_0,x2_1,x2_2,x2_3,x3,H4) =>
 if x3=0 then
  Option.bind (L.run (z4b L m a0 a1_0 a1_1 a1_2 a1_3 a1_4 a1_5 a1_6 a1_7 a1_8 a1_9 a1_10 a1_11 x1 x2_0 x2_1 x2_2 x2_3) (H4,Sl3.nil,0)) fun o=>match o with
  | .inl (H18,v9_19,_) =>
   Option.bind (α:=Bool) (
    if a1_0≥11 then
     some (decide (a1_0≤14))
    else
     some false) fun v53_21 =>
   if v53_21=true then
    Option.bind (L.run (z4l L a1_0 a1_1 a1_2 a1_3 a1_4 a1_5 a1_6 a1_7 a1_8 a1_9 a1_10 a1_11 x1 x2_0 x2_1 x2_2 x2_3 H18 v9_19) (0,0,0,(⟨#[]⟩:ByteArray),Sl3.nil)) fun o=>match o with
    | .inl (_,_,_,_,_) =>
     some (x2_0,x2_1,x2_2,x2_3,0,H18)
    | .inr r=>some r
   else
    Option.bind (zdc L m H18 a1_0 a1_1 a1_2 a1_3 a1_4 a1_5 a1_6 a1_7 a1_8 a1_9 a1_10 a1_11 v9_19) fun (x32_0,x32_1,x32_2,x32_3,x33,H34) =>
    if x33=true then
     if a1_0=42 then
      none
     else
      if x32_0=3 then
       none
      else
       Option.bind (z60 L H34 a0 a1_0 a1_1 a1_2 a1_3 a1_4 a1_5 a1_6 a1_7 a1_8 a1_9 a1_10 a1_11) fun x35 =>
       if x35=true then
        some (x32_0,x32_1,x32_2,x32_3,0,H34)
       else
        none
    else
     none
  | .inr r=>some r
 else
  none
theorem z6g {E H L m a0 a1_0 a1_1 a1_2 a1_3 a1_4 a1_5 a1_6 a1_7 a1_8 a1_9 a1_10 a1_11 x1 x2_0 x2_1 x2_2 x2_3} :LoopF Tryz.prog (NE.plain 148) m E Tryz.f54 ((cfst (csnd (cfst (csnd (csnd (csnd (csnd B54)))))))) (zdv L m a0 a1_0 a1_1 a1_2 a1_3 a1_4 a1_5 a1_6 a1_7 a1_8 a1_9 a1_10 a1_11 x1 x2_0 x2_1 x2_2 x2_3) (fun s=>s.1) 0 z3q (z4i H) (z4b L m a0 a1_0 a1_1 a1_2 a1_3 a1_4 a1_5 a1_6 a1_7 a1_8 a1_9 a1_10 a1_11 x1 x2_0 x2_1 x2_2 x2_3):=by
 rintro ⟨H5,v9_6,v30_7⟩ o h
 unfold z4b at h
 try dsimp only at h
 refine WS.sq (WS.rg (RS.mS 1 [kB 31 (decide (v30_7<(a1_11.n:Int)))] (RS.dn (WS.nxt (WS.sq ?_)))))
 rcases z0 h with ⟨hp,h⟩ | ⟨hp,h⟩
 ·refine WS.fx 31 true (decide_eq_true hp) (WS.cT (WS.sk (WS.nxt (WS.sq (WS.bk 1 (WS.sq (WS.rg ?_)))))))
  obtain ⟨p8,hx,h⟩:=bind_some h
  refine RS.ix 32 41 3 (.tmp 28) (.tmp 30) hx ?_
  obtain ⟨x9,hx,h⟩:=bind_some h
  refine RS.ld 33 3 (.tmp 32) (z1 hx z5) (RS.mS 1 [kI 11 x9] (RS.dn (WS.nxt (WS.rg (RS.mS 2 [(35,.val (Value.pointer a0)),kS 34 v9_6] ?_)))))
  obtain ⟨q10,hx,hq10⟩:=bind_some h
  subst hx
  have h:=hq10
  refine RS.mS 2 [(37,.val (Value.pointer (some (Addr.add q10 3)))),kP 36 q10] ?_
  obtain ⟨x11,hx,h⟩:=bind_some h
  refine RS.ld 38 31 (.tmp 37) (z1 hx z3) (RS.mS 1 [kI 39 x9] ?_)
  obtain ⟨p12,hx,h⟩:=bind_some h
  refine RS.ix 40 31 137 (.tmp 38) (.tmp 39) hx (RS.mS 1 [(41,.val (Value.pointer (some (Addr.add p12 12))))] ?_)
  obtain ⟨x13_0,hx0,h⟩:=bind_some h
  obtain ⟨x13_1,hx1,h⟩:=bind_some h
  obtain ⟨x13_2,hx2,h⟩:=bind_some h
  obtain ⟨x13_3,hx3,h⟩:=bind_some h
  refine RS.la 42 57 (.tmp 41) 4 (z2 (z1 hx0 z5) (z2 (z1 hx1 z5) (z2 (z1 hx2 z9) (z2 (z1 hx3 z3) zd)))) ?_
  obtain ⟨⟨s14,H15⟩,hx,h⟩:=bind_some h
  try dsimp only at h
  refine RS.o (H':=H15) (some 43) (Sl3.v s14) (Abs.run_newR (by kernel_rfl) (by kernel_rfl) hx) ?_
  obtain ⟨⟨s16,H17⟩,hx,h⟩:=bind_some h
  try dsimp only at h
  refine RS.o (H':=H17) (some 44) (Sl3.v s16) (Abs.run_app (x:=.tmp 34) (y:=.tmp 43) (ts:=#[36,36]) (s:=v9_6) (z:=s14) (by kernel_rfl) (by kernel_rfl) (by kernel_rfl) (by kernel_rfl) hx) (RS.mS 1 [kS 9 s16] (RS.dn ?_))
  refine fun a w hs=>bkN ((WS.nxt ?_ a w hs))
  refine WS.rg (RS.mS 2 [kI 30 (IntKind.i64.wrap (v30_7+1)),kI 45 (IntKind.i64.wrap (v30_7+1))] (RS.dn ?_))
  cases h
  exact fun a w hs=>lsN rfl (hs.sb 3)
 ·refine WS.fx 31 false (decide_eq_false hp) (WS.cF (WS.ex 0 ?_))
  cases h
  exact fun a w hs=>sqE (lsB rfl (hs.sb 3))
theorem z6e {E m H L a1_0 a1_1 a1_2 a1_3 a1_4 a1_5 a1_6 a1_7 a1_8 a1_9 a1_10 a1_11 x1 x2_0 x2_1 x2_2 x2_3 H18 v9_19} :LoopF Tryz.prog (NE.plain 148) m E Tryz.f54 ((cfst (csnd (cfst (cfst (csnd (cfst (csnd (csnd (csnd (csnd (csnd B54)))))))))))) (zdh L a1_0 a1_1 a1_2 a1_3 a1_4 a1_5 a1_6 a1_7 a1_8 a1_9 a1_10 a1_11 x1 x2_0 x2_1 x2_2 x2_3 H18 v9_19) (fun _=>H18) 2 z3q (z4i H) (z4l L a1_0 a1_1 a1_2 a1_3 a1_4 a1_5 a1_6 a1_7 a1_8 a1_9 a1_10 a1_11 x1 x2_0 x2_1 x2_2 x2_3 H18 v9_19):=by
 rintro ⟨v56_22,w1_23,w1_24,w1_25,w1_26⟩ o h
 unfold z4l at h
 try dsimp only at h
 refine WS.sq (WS.rg (RS.mS 1 [kB 57 (decide (v56_22<(v9_19.n:Int)))] (RS.dn (WS.nxt (WS.sq ?_)))))
 rcases z0 h with ⟨hp,h⟩ | ⟨hp,h⟩
 ·refine WS.fx 57 true (decide_eq_true hp) (WS.cT ?_)
  cases h
 ·refine WS.fx 57 false (decide_eq_false hp) (WS.cF (WS.ex 2 ?_))
  cases h
  exact fun a w hs=>sqE (lsB rfl (hs.sb 3))
theorem zgs {L:LC} {m:Nat} {H:AH} {a0:Option Addr} {a1_0:Int} {a1_1:ByteArray} {a1_2:Bool} {a1_3:Sl3} {a1_4:Int} {a1_5:Sl3} {a1_6 a1_7:Int} {a1_8:ByteArray} {a1_9 a1_10 a1_11:Sl3} {r:(Int×Int×ByteArray×Sl3×Int×AH)} (h:z6m L m H a0 a1_0 a1_1 a1_2 a1_3 a1_4 a1_5 a1_6 a1_7 a1_8 a1_9 a1_10 a1_11=some r) :
  CallS Tryz.prog (NE.plain 148) m 54 #[(Value.pointer a0),(Value.agg #[(Value.int .i64 a1_0),(Value.string a1_1),(Value.bool a1_2),(Sl3.v a1_3),(Value.int .i64 a1_4),(Sl3.v a1_5),(Value.int .i64 a1_6),(Value.int .i64 a1_7),(Value.string a1_8),(Sl3.v a1_9),(Sl3.v a1_10),(Sl3.v a1_11)])] H (z3q r) (z4i H r):=by
 refine CallS.mk (args:=[(Value.pointer a0),(Value.agg #[(Value.int .i64 a1_0),(Value.string a1_1),(Value.bool a1_2),(Sl3.v a1_3),(Value.int .i64 a1_4),(Sl3.v a1_5),(Value.int .i64 a1_6),(Value.int .i64 a1_7),(Value.string a1_8),(Sl3.v a1_9),(Sl3.v a1_10),(Sl3.v a1_11)])]) Tryz.func54 (B:=B54) (by kernel_rfl) (fun E _=>?_)
 unfold z6m at h
 refine WS.sq (WS.rg (RS.mL 3 [kI 5 0,kL 4 1 0,kL 3 0 0] ([some (78,[(Value.int .i64 a1_0),(Value.string a1_1),(Value.bool a1_2),(Sl3.v a1_3),(Value.int .i64 a1_4),(Sl3.v a1_5),(Value.int .i64 a1_6),(Value.int .i64 a1_7),(Value.string a1_8),(Sl3.v a1_9),(Sl3.v a1_10),(Sl3.v a1_11)]),some (57,[(Value.int .i64 0),(Value.int .i64 0),(Value.string (⟨#[]⟩:ByteArray)),(Sl3.v Sl3.nil)])]) (RS.dn (WS.nxt (WS.sq (WS.rg (RS.mS 2 [kA 18 #[(Value.int .i64 a1_0),(Value.string a1_1),(Value.bool a1_2),(Sl3.v a1_3),(Value.int .i64 a1_4),(Sl3.v a1_5),(Value.int .i64 a1_6),(Value.int .i64 a1_7),(Value.string a1_8),(Sl3.v a1_9),(Sl3.v a1_10),(Sl3.v a1_11)],(17,.val (Value.pointer a0))] ?_)))))))
 obtain ⟨⟨x1,x2_0,x2_1,x2_2,x2_3,x3,H4⟩,hx,h⟩:=bind_some h
 try dsimp only at h
 refine RS.cl (some 19) (v:=(Value.tuple #[(Sl3.v x1),(Value.agg #[(Value.int .i64 x2_0),(Value.int .i64 x2_1),(Value.string x2_2),(Sl3.v x2_3)]),(Value.int .i64 x3)])) 82 #[(Value.pointer a0),(Value.agg #[(Value.int .i64 a1_0),(Value.string a1_1),(Value.bool a1_2),(Sl3.v a1_3),(Value.int .i64 a1_4),(Sl3.v a1_5),(Value.int .i64 a1_6),(Value.int .i64 a1_7),(Value.string a1_8),(Sl3.v a1_9),(Sl3.v a1_10),(Sl3.v a1_11)])] (zij hx) (RS.mL 8 [kI 8 x3,kS 6 x1,kL 7 2 0,kI 22 x3,kA 21 #[(Value.int .i64 x2_0),(Value.int .i64 x2_1),(Value.string x2_2),(Sl3.v x2_3)],kS 20 x1,(16,.val (Value.tuple #[(Sl3.v x1),(Value.agg #[(Value.int .i64 x2_0),(Value.int .i64 x2_1),(Value.string x2_2),(Sl3.v x2_3)]),(Value.int .i64 x3)]))] ([some (78,[(Value.int .i64 a1_0),(Value.string a1_1),(Value.bool a1_2),(Sl3.v a1_3),(Value.int .i64 a1_4),(Sl3.v a1_5),(Value.int .i64 a1_6),(Value.int .i64 a1_7),(Value.string a1_8),(Sl3.v a1_9),(Sl3.v a1_10),(Sl3.v a1_11)]),some (57,[(Value.int .i64 0),(Value.int .i64 0),(Value.string (⟨#[]⟩:ByteArray)),(Sl3.v Sl3.nil)]),some (57,[(Value.int .i64 x2_0),(Value.int .i64 x2_1),(Value.string x2_2),(Sl3.v x2_3)])]) (RS.dn (WS.nxt (WS.sq (WS.sq (WS.rg (RS.mS 2 [kB 24 (!decide (x3=0)),kI 23 x3] (RS.dn (WS.nxt ?_)))))))))
 rcases z0 h with ⟨hp,h⟩ | ⟨hp,h⟩
 ·refine WS.fx 24 false (zj hp) (WS.cF (WS.sk (WS.nxt (WS.sq (WS.rg (RS.mS 1 [kS 9 Sl3.nil] (RS.dn (WS.nxt (WS.sq ?_)))))))))
  refine WS.sq (WS.rg (RS.mS 4 [kI 30 0,kI 29 (a1_11.n:Int),kS 28 a1_11,kL 27 0 11] (RS.dn (WS.nxt (WS.bk 0 ?_)))))
  obtain ⟨o,hl,h⟩:=bind_some h
  rcases o with ⟨H18,v9_19,v30_20⟩ | r
  ·try dsimp only at h
   refine WS.lI (z6g (L:=L) (E:=E) (m:=m) (H:=H)) (L.ok hl) 3 ?_
   clear hl
   refine fun a w hs=>bkE ((WS.nxt ?_ a w hs))
   refine WS.sq ?_
   obtain ⟨v53_21,hx,h⟩:=bind_some h
   refine WS.sq ?_
   refine WS.join ([kB 53 v53_21,(0,.val (Value.pointer a0)),kL 3 0 0,kL 4 1 0,kS 6 x1,kL 7 2 0,kS 9 v9_19]) ([some (78,[(Value.int .i64 a1_0),(Value.string a1_1),(Value.bool a1_2),(Sl3.v a1_3),(Value.int .i64 a1_4),(Sl3.v a1_5),(Value.int .i64 a1_6),(Value.int .i64 a1_7),(Value.string a1_8),(Sl3.v a1_9),(Sl3.v a1_10),(Sl3.v a1_11)]),some (57,[(Value.int .i64 0),(Value.int .i64 0),(Value.string (⟨#[]⟩:ByteArray)),(Sl3.v Sl3.nil)]),some (57,[(Value.int .i64 x2_0),(Value.int .i64 x2_1),(Value.string x2_2),(Sl3.v x2_3)])]) H18 ?_ (fun a w hs=>WS.nxt ?_ a w hs)
   ·clear h; rename _=>h
    refine WS.rg (RS.mS 4 [kB 49 (decide (a1_0≥11)),kB 48 (decide (a1_0≥11)),kI 47 a1_0,kL 46 0 0] ?_)
    rcases z0 h with ⟨hp,h⟩ | ⟨hp,h⟩
    ·refine RS.fx 49 true (decide_eq_true hp) (RS.mS 4 [kB 53 (decide (a1_0≤14)),kB 52 (decide (a1_0≤14)),kI 51 a1_0,kL 50 0 0] (RS.dn ?_))
     cases h
     exact fun a w hs=>(jsN (hs.sb 3))
    ·refine RS.fx 49 false (decide_eq_false hp) (RS.mS 4 [kB 53 false,kU 52,kU 51,kU 50] (RS.dn ?_))
     cases h
     exact fun a w hs=>(jsN (hs.sb 3))
   ·clear hx
    rcases z0 h with ⟨hp,h⟩ | ⟨hp,h⟩
    ·refine WS.fx 53 true hp (WS.cT (WS.sq (WS.sq (WS.rg (RS.mS 3 [kI 56 0,kI 55 (v9_19.n:Int),kS 54 v9_19] (RS.dn (WS.nxt (WS.bk 2 ?_))))))))
     obtain ⟨o,hl,h⟩:=bind_some h
     rcases o with ⟨v56_27,w1_28,w1_29,w1_30,w1_31⟩ | r
     ·try dsimp only at h
      refine WS.lI (z6e (L:=L) (E:=E) (m:=m) (H:=H)) (L.ok hl) 3 ?_
      clear hl
      refine fun a w hs=>bkE ((WS.nxt ?_ a w hs))
      refine WS.sq (WS.rg (RS.mL 3 [kI 5 0,kA 70 #[(Value.int .i64 x2_0),(Value.int .i64 x2_1),(Value.string x2_2),(Sl3.v x2_3)]] ([some (78,[(Value.int .i64 a1_0),(Value.string a1_1),(Value.bool a1_2),(Sl3.v a1_3),(Value.int .i64 a1_4),(Sl3.v a1_5),(Value.int .i64 a1_6),(Value.int .i64 a1_7),(Value.string a1_8),(Sl3.v a1_9),(Sl3.v a1_10),(Sl3.v a1_11)]),some (57,[(Value.int .i64 x2_0),(Value.int .i64 x2_1),(Value.string x2_2),(Sl3.v x2_3)]),some (57,[(Value.int .i64 x2_0),(Value.int .i64 x2_1),(Value.string x2_2),(Sl3.v x2_3)])]) (RS.dn (WS.nxt (WS.rt ?_)))))
      cases h
      exact fun a w hs=>sqR (rtR (rS hs))
     ·try dsimp only at h
      refine WS.lR (z6e (L:=L) (E:=E) (m:=m) (H:=H)) (L.ok hl) 3 ?_
      cases h
      exact fun a w hq=>bkR (sqR (sqR (rtR hq)))
    ·refine WS.fx 53 false (b_not hp) (WS.cF (WS.sk (WS.nxt (WS.sq (WS.rg (RS.mS 2 [kS 73 v9_19,kA 72 #[(Value.int .i64 a1_0),(Value.string a1_1),(Value.bool a1_2),(Sl3.v a1_3),(Value.int .i64 a1_4),(Sl3.v a1_5),(Value.int .i64 a1_6),(Value.int .i64 a1_7),(Value.string a1_8),(Sl3.v a1_9),(Sl3.v a1_10),(Sl3.v a1_11)]] ?_))))))
     obtain ⟨⟨x32_0,x32_1,x32_2,x32_3,x33,H34⟩,hx,h⟩:=bind_some h
     try dsimp only at h
     refine RS.cl (some 74) (v:=(Value.tuple #[(Value.agg #[(Value.int .i64 x32_0),(Value.int .i64 x32_1),(Value.string x32_2),(Sl3.v x32_3)]),(Value.bool x33)])) 83 #[(Value.agg #[(Value.int .i64 a1_0),(Value.string a1_1),(Value.bool a1_2),(Sl3.v a1_3),(Value.int .i64 a1_4),(Sl3.v a1_5),(Value.int .i64 a1_6),(Value.int .i64 a1_7),(Value.string a1_8),(Sl3.v a1_9),(Sl3.v a1_10),(Sl3.v a1_11)]),(Sl3.v v9_19)] (zl6 hx) (RS.mL 6 [kB 15 x33,kL 14 3 0,kB 76 x33,kA 75 #[(Value.int .i64 x32_0),(Value.int .i64 x32_1),(Value.string x32_2),(Sl3.v x32_3)],(71,.val (Value.tuple #[(Value.agg #[(Value.int .i64 x32_0),(Value.int .i64 x32_1),(Value.string x32_2),(Sl3.v x32_3)]),(Value.bool x33)]))] ([some (78,[(Value.int .i64 a1_0),(Value.string a1_1),(Value.bool a1_2),(Sl3.v a1_3),(Value.int .i64 a1_4),(Sl3.v a1_5),(Value.int .i64 a1_6),(Value.int .i64 a1_7),(Value.string a1_8),(Sl3.v a1_9),(Sl3.v a1_10),(Sl3.v a1_11)]),some (57,[(Value.int .i64 0),(Value.int .i64 0),(Value.string (⟨#[]⟩:ByteArray)),(Sl3.v Sl3.nil)]),some (57,[(Value.int .i64 x2_0),(Value.int .i64 x2_1),(Value.string x2_2),(Sl3.v x2_3)]),some (57,[(Value.int .i64 x32_0),(Value.int .i64 x32_1),(Value.string x32_2),(Sl3.v x32_3)])]) (RS.dn (WS.nxt (WS.sq (WS.bk 4 (WS.sq (WS.rg (RS.mS 3 [kB 77 (!x33),kB 79 (!x33),kB 78 x33] (RS.dn ?_)))))))))
     refine WS.nxt ?_
     rcases z0 h with ⟨hp,h⟩ | ⟨hp,h⟩
     ·refine WS.fx 77 false (nb_not hp) (WS.cF (WS.sq ?_))
      refine WS.dr [0,1,2,3,4,5,6,7,8,9,10,11,12,13,14,15,16,17,18,19,20] [0,1,3,7,15,31,63,127,15,271,783,1807,4095,8191,16383,32767,65535,131071,262143,524287,1048575,2097151,4194303,8388607,16777215] 25 (fun hcl=>?_)
      refine DA.tL 0 (some 82) (.loc 0 0) (DA.tL 1 (some 83) (.val (Value.int .i64 a1_0)) (DA.tK 2 (some 84) (Value.bool (decide (a1_0=42))) (DA.tK 3 (some 85) (Value.bool (decide (a1_0=42))) ?_)))
      rcases z0 h with ⟨hp,h⟩ | ⟨hp,h⟩
      ·refine DA.fx 85 true (decide_eq_true hp) ?_
       cases h
      ·refine DA.fx 85 false (decide_eq_false hp) ?_
       refine DA.tskipD 4 (some 86) (by kernel_rfl) (by kernel_rfl) (by kernel_rfl) hcl (fun _ _ _ h=>h) (by kernel_rfl) ?_
       refine DA.tskipD 5 (some 87) (by kernel_rfl) (by kernel_rfl) (by kernel_rfl) hcl (fun _ _ _ h=>h) (by kernel_rfl) ?_
       refine DA.tskipD 6 (some 88) (by kernel_rfl) (by kernel_rfl) (by kernel_rfl) hcl (fun _ _ _ h=>h) (by kernel_rfl) ?_
       refine DA.tskipD 7 (some 89) (by kernel_rfl) (by kernel_rfl) (by kernel_rfl) hcl (fun _ _ _ h=>h) (by kernel_rfl) ?_
       refine DA.tskipD 8 (some 90) (by kernel_rfl) (by kernel_rfl) (by kernel_rfl) hcl (fun _ _ _ h=>h) (by kernel_rfl) ?_
       refine DA.tskipD 9 (some 91) (by kernel_rfl) (by kernel_rfl) (by kernel_rfl) hcl (fun _ _ _ h=>h) (by kernel_rfl) ?_
       refine DA.tskipD 10 (some 92) (by kernel_rfl) (by kernel_rfl) (by kernel_rfl) hcl (fun _ _ _ h=>h) (by kernel_rfl) ?_
       refine DA.tskipD 11 (some 93) (by kernel_rfl) (by kernel_rfl) (by kernel_rfl) hcl (fun _ _ _ h=>h) (by kernel_rfl) ?_
       refine DA.tskipD 12 (some 94) (by kernel_rfl) (by kernel_rfl) (by kernel_rfl) hcl (fun _ _ _ h=>h) (by kernel_rfl) ?_
       refine DA.tK 13 (some 95) (Value.bool false) (DA.tK 14 (some 96) (Value.bool false) (DA.tL 15 (some 97) (.loc 3 0) (DA.tL 16 (some 98) (.val (Value.int .i64 x32_0)) (DA.tK 17 (some 99) (Value.bool (decide (x32_0=3))) (DA.tK 18 (some 100) (Value.bool (decide (x32_0=3))) ?_)))))
       rcases z0 h with ⟨hp,h⟩ | ⟨hp,h⟩
       ·refine DA.fx 100 true (decide_eq_true hp) ?_
        cases h
       ·refine DA.fx 100 false (decide_eq_false hp) ?_
        refine DA.tskipD 19 (some 101) (by kernel_rfl) (by kernel_rfl) (by kernel_rfl) hcl (fun _ _ _ h=>h) (by kernel_rfl) ?_
        refine DA.tskipD 20 (some 102) (by kernel_rfl) (by kernel_rfl) (by kernel_rfl) hcl (fun _ _ _ h=>h) (by kernel_rfl) ?_
        refine DA.tskipP 21 (some 103) (by kernel_rfl) (by kernel_rfl) (by kernel_rfl) hcl (fun _ _ _ h=>h) (by kernel_rfl) ?_
        refine DA.tP 22 (some 104) (Value.bool false) (DA.tP 23 (some 105) (Value.bool false) (DA.tP 24 (some 81) (Value.bool false) (DA.dn (WS.nxt (WS.cF (WS.sq (WS.rg (RS.mS 2 [kA 109 #[(Value.int .i64 a1_0),(Value.string a1_1),(Value.bool a1_2),(Sl3.v a1_3),(Value.int .i64 a1_4),(Sl3.v a1_5),(Value.int .i64 a1_6),(Value.int .i64 a1_7),(Value.string a1_8),(Sl3.v a1_9),(Sl3.v a1_10),(Sl3.v a1_11)],(108,.val (Value.pointer a0))] ?_))))))))
        obtain ⟨x35,hx,h⟩:=bind_some h
        refine RS.cl (some 110) (v:=(Value.bool x35)) 84 #[(Value.pointer a0),(Value.agg #[(Value.int .i64 a1_0),(Value.string a1_1),(Value.bool a1_2),(Sl3.v a1_3),(Value.int .i64 a1_4),(Sl3.v a1_5),(Value.int .i64 a1_6),(Value.int .i64 a1_7),(Value.string a1_8),(Sl3.v a1_9),(Sl3.v a1_10),(Sl3.v a1_11)])] (zes hx) (RS.mS 2 [kB 107 (!x35),kB 111 (!x35)] (RS.dn (WS.nxt ?_)))
        rcases z0 h with ⟨hp,h⟩ | ⟨hp,h⟩
        ·refine WS.fx 107 false (nb_not hp) (WS.cF (WS.sk ?_))
         refine fun a w hs=>bkN ((WS.nxt ?_ a w hs))
         refine WS.sq (WS.rg (RS.mL 3 [kI 5 0,kA 113 #[(Value.int .i64 x32_0),(Value.int .i64 x32_1),(Value.string x32_2),(Sl3.v x32_3)]] ([some (78,[(Value.int .i64 a1_0),(Value.string a1_1),(Value.bool a1_2),(Sl3.v a1_3),(Value.int .i64 a1_4),(Sl3.v a1_5),(Value.int .i64 a1_6),(Value.int .i64 a1_7),(Value.string a1_8),(Sl3.v a1_9),(Sl3.v a1_10),(Sl3.v a1_11)]),some (57,[(Value.int .i64 x32_0),(Value.int .i64 x32_1),(Value.string x32_2),(Sl3.v x32_3)]),some (57,[(Value.int .i64 x2_0),(Value.int .i64 x2_1),(Value.string x2_2),(Sl3.v x2_3)]),some (57,[(Value.int .i64 x32_0),(Value.int .i64 x32_1),(Value.string x32_2),(Sl3.v x32_3)])]) (RS.dn (WS.nxt (WS.rt ?_)))))
         cases h
         exact fun a w hs=>rtR (rS hs)
        ·refine WS.fx 107 true (zi hp) (WS.cT ?_)
         cases h
     ·refine WS.fx 77 true (zi hp) (WS.cT ?_)
      cases h
  ·try dsimp only at h
   refine WS.lR (z6g (L:=L) (E:=E) (m:=m) (H:=H)) (L.ok hl) 3 ?_
   cases h
   exact fun a w hq=>bkR (sqR (rtR hq))
 ·refine WS.fx 24 true (ze hp) (WS.cT ?_)
  cases h
noncomputable def B85:Code:=(Tryz.f85.body).getD .skip
def zl0:AH→Value
 | _=>(Value.tuple #[])
def zma (_:AH):AH→AH:=fun r=>r
noncomputable def zb7 (L:LC) (m:Nat) (H:AH) (a0:Int) (a1:Option Addr):Option AH :=
 Option.bind (z53 L m H a0) fun (x1,H2) =>
 Option.bind (zh L m H2 a1 x1) fun (_,_,H5) =>
 Option.bind (zx L m H5 a1 32) fun (_,H7) =>
 some H7
theorem zg6 {L:LC} {m:Nat} {H:AH} {a0:Int} {a1:Option Addr} {r:AH} (h:zb7 L m H a0 a1=some r) :
  CallS Tryz.prog (NE.plain 148) m 85 #[(Value.int .i64 a0),(Value.pointer a1)] H (zl0 r) (zma H r):=by
 refine CallS.mk (args:=[(Value.int .i64 a0),(Value.pointer a1)]) Tryz.func85 (B:=B85) (by kernel_rfl) (fun E _=>?_)
 unfold zb7 at h
 refine WS.sq (WS.rg (RS.mS 1 [kI 3 a0] ?_))
 obtain ⟨⟨x1,H2⟩,hx,h⟩:=bind_some h
 try dsimp only at h
 refine RS.cl (some 4) (v:=(Value.string x1)) 17 #[(Value.int .i64 a0)] (z7n hx) ?_
 obtain ⟨⟨x3,x4,H5⟩,hx,h⟩:=bind_some h
 try dsimp only at h
 refine RS.cl (some 5) (v:=(Value.tuple #[(Value.int .i64 x3),x4])) 63 #[(Value.pointer a1),(Value.string x1)] (zq hx) (RS.dn (WS.nxt (WS.rg ?_)))
 obtain ⟨⟨x6,H7⟩,hx,h⟩:=bind_some h
 try dsimp only at h
 refine RS.cl (some 6) (v:=x6) 78 #[(Value.pointer a1),(Value.int .u8 32)] (z1q hx) (RS.dn ?_)
 cases h
 exact fun a w hs=>rtN (rS hs)
end Go.Proofs.YtpcckomdlmpckaaGreatDoor
namespace Go.Proofs.YtpcckomdlmpckaaGreatDoor
open Go Go.Abs
set_option maxRecDepth 100000
noncomputable def B55:Code:=(Tryz.f55.body).getD .skip
def zca:(ByteArray×AH)→Value
 | (r0,_)=>(Value.string r0)
def zd9 (_:AH):(ByteArray×AH)→AH:=fun r=>r.2
noncomputable def zde (L:LC) (m:Nat) (_a0_0:Int) (_a0_1:ByteArray) (_a0_2:Bool) (_a0_3:Sl3) (_a0_4:Int) (_a0_5:Sl3) (_a0_6 _a0_7:Int) (_a0_8:ByteArray) (_a0_9 _a0_10 a0_11:Sl3) (p1:Addr):(AH×Int)→Option (Lp (AH×Int) (ByteArray×AH)):=fun (H4,v23_5) =>
 if v23_5<(a0_11.n:Int) then
  Option.bind (idxA 1 a0_11 v23_5) fun p6 =>
  Option.bind (rd (deI .i64) H4 p6) fun x7 =>
  Option.bind (zb7 L m H4 x7 (some p1)) fun H8 =>
  some (.next (H8,(IntKind.i64.wrap (v23_5+1))))
 else
  some (.brk (H4,v23_5))
def zla (_L:LC) (_m:Nat) (a0_0:Int) (a0_1:ByteArray) (a0_2:Bool) (a0_3:Sl3) (a0_4:Int) (a0_5:Sl3) (a0_6 a0_7:Int) (a0_8:ByteArray) (a0_9 a0_10 a0_11:Sl3) (p1:Addr):(AH×Int)→KN×Lcs:=fun (_,v23_5)=>([kI 23 v23_5,kL 1 0 0,kP 3 p1,(4,.val (Value.func (.func 85) #[] #[(Value.pointer (some p1))])),kS 21 a0_11,kI 22 (a0_11.n:Int)],[some (78,[(Value.int .i64 a0_0),(Value.string a0_1),(Value.bool a0_2),(Sl3.v a0_3),(Value.int .i64 a0_4),(Sl3.v a0_5),(Value.int .i64 a0_6),(Value.int .i64 a0_7),(Value.string a0_8),(Sl3.v a0_9),(Sl3.v a0_10),(Sl3.v a0_11)])])
noncomputable def zdw (_L:LC) (_a0_0:Int) (_a0_1:ByteArray) (_a0_2:Bool) (_a0_3:Sl3) (_a0_4:Int) (_a0_5:Sl3) (_a0_6 _a0_7:Int) (_a0_8:ByteArray) (_a0_9 a0_10 _a0_11:Sl3) (_p1:Addr):(AH×Int)→Option (Lp (AH×Int) (ByteArray×AH)):=fun (H11,v34_12) =>
 if v34_12<(a0_10.n:Int) then
  none
 else
  some (.brk (H11,v34_12))
def zkv (_L:LC) (a0_0:Int) (a0_1:ByteArray) (a0_2:Bool) (a0_3:Sl3) (a0_4:Int) (a0_5:Sl3) (a0_6 a0_7:Int) (a0_8:ByteArray) (a0_9 a0_10 a0_11:Sl3) (p1:Addr):(AH×Int)→KN×Lcs:=fun (_,v34_12)=>([kI 34 v34_12,kL 1 0 0,kP 3 p1,(4,.val (Value.func (.func 85) #[] #[(Value.pointer (some p1))])),kS 32 a0_10,kI 33 (a0_10.n:Int)],[some (78,[(Value.int .i64 a0_0),(Value.string a0_1),(Value.bool a0_2),(Sl3.v a0_3),(Value.int .i64 a0_4),(Sl3.v a0_5),(Value.int .i64 a0_6),(Value.int .i64 a0_7),(Value.string a0_8),(Sl3.v a0_9),(Sl3.v a0_10),(Sl3.v a0_11)])])
noncomputable def zjb (L:LC) (m:Nat) (H:AH) (a0_0:Int) (a0_1:ByteArray) (a0_2:Bool) (a0_3:Sl3) (a0_4:Int) (a0_5:Sl3) (a0_6 a0_7:Int) (a0_8:ByteArray) (a0_9 a0_10 a0_11:Sl3):Option (ByteArray×AH) :=
 Option.bind (newB 131 [(Value.pointer none),(Sl3.v Sl3.nil)] H) fun (p1,H2) =>
 Option.bind (zb7 L m H2 a0_0 (some p1)) fun H3 =>
 Option.bind (L.run (zde L m a0_0 a0_1 a0_2 a0_3 a0_4 a0_5 a0_6 a0_7 a0_8 a0_9 a0_10 a0_11 p1) (H3,0)) fun o=>match o with
 | .inl (H9,_) =>
  Option.bind (L.run (zdw L a0_0 a0_1 a0_2 a0_3 a0_4 a0_5 a0_6 a0_7 a0_8 a0_9 a0_10 a0_11 p1) (H9,0)) fun o=>match o with
  | .inl (H13,_) =>
   if a0_0=20 then
    none
   else
    if a0_0=40 then
     none
    else
     if a0_0=34 then
      none
     else
      Option.bind (zw L m H13 (some p1)) fun (x15,H16) =>
      Option.bind (strcat x15 a0_1) fun s17 =>
      some (s17,H16)
  | .inr r=>some r
 | .inr r=>some r
theorem zem {E H L m a0_0 a0_1 a0_2 a0_3 a0_4 a0_5 a0_6 a0_7 a0_8 a0_9 a0_10 a0_11 p1} :LoopF Tryz.prog (NE.plain 148) m E Tryz.f55 ((cfst (csnd (cfst (csnd (csnd (csnd (csnd B55)))))))) (zla L m a0_0 a0_1 a0_2 a0_3 a0_4 a0_5 a0_6 a0_7 a0_8 a0_9 a0_10 a0_11 p1) (fun s=>s.1) 0 zca (zd9 H) (zde L m a0_0 a0_1 a0_2 a0_3 a0_4 a0_5 a0_6 a0_7 a0_8 a0_9 a0_10 a0_11 p1):=by
 rintro ⟨H4,v23_5⟩ o h
 unfold zde at h
 try dsimp only at h
 refine WS.sq (WS.rg (RS.mS 1 [kB 24 (decide (v23_5<(a0_11.n:Int)))] (RS.dn (WS.nxt (WS.sq ?_)))))
 rcases z0 h with ⟨hp,h⟩ | ⟨hp,h⟩
 ·refine WS.fx 24 true (decide_eq_true hp) (WS.cT (WS.sk (WS.nxt (WS.sq (WS.bk 1 (WS.sq (WS.rg ?_)))))))
  obtain ⟨p6,hx,h⟩:=bind_some h
  refine RS.ix 25 41 3 (.tmp 21) (.tmp 23) hx ?_
  obtain ⟨x7,hx,h⟩:=bind_some h
  refine RS.ld 26 3 (.tmp 25) (z1 hx z5) (RS.mS 1 [kI 6 x7] (RS.dn (WS.nxt (WS.rg (RS.mS 2 [kI 28 x7,(27,.val (Value.func (.func 85) #[] #[(Value.pointer (some p1))]))] ?_)))))
  obtain ⟨H8,hx,h⟩:=bind_some h
  refine RS.cl (some 29) (v:=(Value.tuple #[])) 85 #[(Value.int .i64 x7),(Value.pointer (some p1))] (zg6 hx) (RS.dn ?_)
  refine fun a w hs=>bkN ((WS.nxt ?_ a w hs))
  refine WS.rg (RS.mS 2 [kI 23 (IntKind.i64.wrap (v23_5+1)),kI 30 (IntKind.i64.wrap (v23_5+1))] (RS.dn ?_))
  cases h
  exact fun a w hs=>lsN rfl (hs.sb 1)
 ·refine WS.fx 24 false (decide_eq_false hp) (WS.cF (WS.ex 0 ?_))
  cases h
  exact fun a w hs=>sqE (lsB rfl (hs.sb 1))
theorem zea {E m H L a0_0 a0_1 a0_2 a0_3 a0_4 a0_5 a0_6 a0_7 a0_8 a0_9 a0_10 a0_11 p1} :LoopF Tryz.prog (NE.plain 148) m E Tryz.f55 ((cfst (csnd (cfst (csnd (csnd (csnd (csnd (csnd B55))))))))) (zkv L a0_0 a0_1 a0_2 a0_3 a0_4 a0_5 a0_6 a0_7 a0_8 a0_9 a0_10 a0_11 p1) (fun s=>s.1) 2 zca (zd9 H) (zdw L a0_0 a0_1 a0_2 a0_3 a0_4 a0_5 a0_6 a0_7 a0_8 a0_9 a0_10 a0_11 p1):=by
 rintro ⟨H11,v34_12⟩ o h
 unfold zdw at h
 try dsimp only at h
 refine WS.sq (WS.rg (RS.mS 1 [kB 35 (decide (v34_12<(a0_10.n:Int)))] (RS.dn (WS.nxt (WS.sq ?_)))))
 rcases z0 h with ⟨hp,h⟩ | ⟨hp,h⟩
 ·refine WS.fx 35 true (decide_eq_true hp) (WS.cT ?_)
  cases h
 ·refine WS.fx 35 false (decide_eq_false hp) (WS.cF (WS.ex 2 ?_))
  cases h
  exact fun a w hs=>sqE (lsB rfl (hs.sb 1))
theorem zny {L:LC} {m:Nat} {H:AH} {a0_0:Int} {a0_1:ByteArray} {a0_2:Bool} {a0_3:Sl3} {a0_4:Int} {a0_5:Sl3} {a0_6 a0_7:Int} {a0_8:ByteArray} {a0_9 a0_10 a0_11:Sl3} {r:(ByteArray×AH)} (h:zjb L m H a0_0 a0_1 a0_2 a0_3 a0_4 a0_5 a0_6 a0_7 a0_8 a0_9 a0_10 a0_11=some r) :
  CallS Tryz.prog (NE.plain 148) m 55 #[(Value.agg #[(Value.int .i64 a0_0),(Value.string a0_1),(Value.bool a0_2),(Sl3.v a0_3),(Value.int .i64 a0_4),(Sl3.v a0_5),(Value.int .i64 a0_6),(Value.int .i64 a0_7),(Value.string a0_8),(Sl3.v a0_9),(Sl3.v a0_10),(Sl3.v a0_11)])] H (zca r) (zd9 H r):=by
 refine CallS.mk (args:=[(Value.agg #[(Value.int .i64 a0_0),(Value.string a0_1),(Value.bool a0_2),(Sl3.v a0_3),(Value.int .i64 a0_4),(Sl3.v a0_5),(Value.int .i64 a0_6),(Value.int .i64 a0_7),(Value.string a0_8),(Sl3.v a0_9),(Sl3.v a0_10),(Sl3.v a0_11)])]) Tryz.func55 (B:=B55) (by kernel_rfl) (fun E _=>?_)
 unfold zjb at h
 refine WS.sq (WS.rg (RS.mL 2 [kT 2 (⟨#[]⟩:ByteArray),kL 1 0 0] ([some (78,[(Value.int .i64 a0_0),(Value.string a0_1),(Value.bool a0_2),(Sl3.v a0_3),(Value.int .i64 a0_4),(Sl3.v a0_5),(Value.int .i64 a0_6),(Value.int .i64 a0_7),(Value.string a0_8),(Sl3.v a0_9),(Sl3.v a0_10),(Sl3.v a0_11)])]) (RS.dn (WS.nxt (WS.sq (WS.rg ?_))))))
 obtain ⟨⟨p1,H2⟩,hx,h⟩:=bind_some h
 try dsimp only at h
 refine RS.o (H':=H2) (some 3) (Value.pointer (some p1)) (Abs.run_newB (by kernel_rfl) hx) (RS.dn (WS.nxt (WS.sq (WS.rg (RS.mS 2 [(4,.val (Value.func (.func 85) #[] #[(Value.pointer (some p1))])),(15,.val (Value.func (.func 85) #[] #[(Value.pointer (some p1))]))] (RS.dn (WS.nxt (WS.sq (WS.rg ?_)))))))))
 refine RS.mS 3 [kI 18 a0_0,kL 17 0 0,(16,.val (Value.func (.func 85) #[] #[(Value.pointer (some p1))]))] ?_
 obtain ⟨H3,hx,h⟩:=bind_some h
 refine RS.cl (some 19) (v:=(Value.tuple #[])) 85 #[(Value.int .i64 a0_0),(Value.pointer (some p1))] (zg6 hx) (RS.dn (WS.nxt (WS.sq (WS.sq (WS.rg (RS.mS 4 [kI 23 0,kI 22 (a0_11.n:Int),kS 21 a0_11,kL 20 0 11] (RS.dn (WS.nxt (WS.bk 0 ?_)))))))))
 obtain ⟨o,hl,h⟩:=bind_some h
 rcases o with ⟨H9,v23_10⟩ | r
 ·try dsimp only at h
  refine WS.lI (zem (L:=L) (E:=E) (m:=m) (H:=H)) (L.ok hl) 1 ?_
  clear hl
  refine fun a w hs=>bkE ((WS.nxt ?_ a w hs))
  refine WS.sq (WS.sq (WS.rg (RS.mS 4 [kI 34 0,kI 33 (a0_10.n:Int),kS 32 a0_10,kL 31 0 10] (RS.dn (WS.nxt (WS.bk 2 ?_))))))
  obtain ⟨o,hl,h⟩:=bind_some h
  rcases o with ⟨H13,v34_14⟩ | r
  ·try dsimp only at h
   refine WS.lI (zea (L:=L) (E:=E) (m:=m) (H:=H)) (L.ok hl) 1 ?_
   clear hl
   refine fun a w hs=>bkE ((WS.nxt ?_ a w hs))
   refine WS.sq (WS.sq (WS.rg (RS.mS 2 [kI 43 a0_0,kL 42 0 0] (RS.dn (WS.nxt (WS.bk 4 (WS.sq (WS.rg (RS.mS 2 [kB 44 (decide (a0_0=20)),kB 45 (decide (a0_0=20))] ?_)))))))))
   refine RS.dn (WS.nxt ?_)
   rcases z0 h with ⟨hp,h⟩ | ⟨hp,h⟩
   ·refine WS.fx 44 true (decide_eq_true hp) (WS.cT ?_)
    cases h
   ·refine WS.fx 44 false (decide_eq_false hp) (WS.cF (WS.sq (WS.rg (RS.mS 2 [kB 64 (decide (a0_0=40)),kB 65 (decide (a0_0=40))] (RS.dn (WS.nxt ?_))))))
    rcases z0 h with ⟨hp,h⟩ | ⟨hp,h⟩
    ·refine WS.fx 64 true (decide_eq_true hp) (WS.cT ?_)
     cases h
    ·refine WS.fx 64 false (decide_eq_false hp) (WS.cF (WS.sq (WS.rg (RS.mS 2 [kB 84 (decide (a0_0=34)),kB 85 (decide (a0_0=34))] (RS.dn (WS.nxt ?_))))))
     rcases z0 h with ⟨hp,h⟩ | ⟨hp,h⟩
     ·refine WS.fx 84 true (decide_eq_true hp) (WS.cT ?_)
      cases h
     ·refine WS.fx 84 false (decide_eq_false hp) (WS.cF (WS.sk ?_))
      refine fun a w hs=>bkN ((WS.nxt ?_ a w hs))
      refine WS.sq ?_
      obtain ⟨⟨x15,H16⟩,hx_0,h⟩:=bind_some h
      try dsimp only at h
      obtain ⟨s17,hx_3,h⟩:=bind_some h
      refine WS.toone ([kT 2 s17]) ([some (78,[(Value.int .i64 a0_0),(Value.string a0_1),(Value.bool a0_2),(Sl3.v a0_3),(Value.int .i64 a0_4),(Sl3.v a0_5),(Value.int .i64 a0_6),(Value.int .i64 a0_7),(Value.string a0_8),(Sl3.v a0_9),(Sl3.v a0_10),(Sl3.v a0_11)])]) H16 ?_ ?_
      ·clear h
       refine WS.dr [] [0,0,2,7,15] 5 (fun hcl=>?_)
       refine DA.tPL 1 (some 95) (.loc 0 1) ?_
       refine DA.two 0 2 (by kernel_rfl) ?_ ?_
       ·refine DA.aC 0 (some 94) (v:=(Value.string x15)) 51 #[(Value.pointer (some p1))] (zy hx_0) (DA.on 2 (DA.aL 2 (some 96) (.val (Value.string a0_1)) ([some (78,[(Value.int .i64 a0_0),(Value.string a0_1),(Value.bool a0_2),(Sl3.v a0_3),(Value.int .i64 a0_4),(Sl3.v a0_5),(Value.int .i64 a0_6),(Value.int .i64 a0_7),(Value.string a0_8),(Sl3.v a0_9),(Sl3.v a0_10),(Sl3.v a0_11)])]) false (DA.tPx 3 (some 97) (Value.string s17) (Abs.det_strcat (t:=9) (u:=9) (x:=.tmp 94) (y:=.tmp 96) (a:=x15) (b:=a0_1) (by kernel_rfl) (by kernel_rfl) (by kernel_rfl) hx_3) (DA.tP 4 (some 2) (Value.string s17) (DA.dn ?_)))))
        exact fun a w hs=>jsN (hs.sb 1)
       ·refine DA.aL 2 (some 96) (.val (Value.string a0_1)) ([some (78,[(Value.int .i64 a0_0),(Value.string a0_1),(Value.bool a0_2),(Sl3.v a0_3),(Value.int .i64 a0_4),(Sl3.v a0_5),(Value.int .i64 a0_6),(Value.int .i64 a0_7),(Value.string a0_8),(Sl3.v a0_9),(Sl3.v a0_10),(Sl3.v a0_11)])]) false (DA.on 0 (DA.aC 0 (some 94) (v:=(Value.string x15)) 51 #[(Value.pointer (some p1))] (zy hx_0) (DA.tPx 3 (some 97) (Value.string s17) (Abs.det_strcat (t:=9) (u:=9) (x:=.tmp 94) (y:=.tmp 96) (a:=x15) (b:=a0_1) (by kernel_rfl) (by kernel_rfl) (by kernel_rfl) hx_3) (DA.tP 4 (some 2) (Value.string s17) (DA.dn ?_)))))
        exact fun a w hs=>jsN (hs.sb 1)
      ·refine WS.nxt (WS.rt ?_)
       cases h
       exact fun a w hs=>rtR (rS hs)
  ·try dsimp only at h
   refine WS.lR (zea (L:=L) (E:=E) (m:=m) (H:=H)) (L.ok hl) 1 ?_
   cases h
   exact fun a w hq=>bkR (sqR (rtR hq))
 ·try dsimp only at h
  refine WS.lR (zem (L:=L) (E:=E) (m:=m) (H:=H)) (L.ok hl) 1 ?_
  cases h
  exact fun a w hq=>bkR (sqR (rtR hq))
noncomputable def B20:Code:=(Tryz.f20.body).getD .skip
def zhe:(Int×Int×AH)→Value
 | (r0,r1,_)=>(Value.tuple #[(Value.int .i64 r0),(Value.int .i64 r1)])
def zie (_:AH):(Int×Int×AH)→AH:=fun r=>r.2.2
noncomputable def z3j (L:LC) (m:Nat) (H:AH) (a0:Option Addr) (a1_0:Int) (a1_1:ByteArray) (a1_2:Bool) (a1_3:Sl3) (a1_4:Int) (a1_5:Sl3) (a1_6 a1_7:Int) (a1_8:ByteArray) (a1_9 a1_10 a1_11:Sl3):Option (Int×Int×AH) :=
 Option.bind (z17 L H a0) fun x1 =>
 if x1=true then
  Option.bind (z6m L m H a0 a1_0 a1_1 a1_2 a1_3 a1_4 a1_5 a1_6 a1_7 a1_8 a1_9 a1_10 a1_11) fun (x2_0,x2_1,x2_2,x2_3,x3,H4) =>
  if x3=0 then
   Option.bind (zb4 L m H4 a1_0 a1_1 a1_2 a1_3 a1_4 a1_5 a1_6 a1_7 a1_8 a1_9 a1_10 a1_11) fun (x5_0,x5_1,x5_2,x5_3,x5_4,x5_5,x5_6,x5_7,x5_8,x5_9,x5_10,x5_11,H6) =>
   Option.bind (zjb L m H6 x5_0 x5_1 x5_2 x5_3 x5_4 x5_5 x5_6 x5_7 x5_8 x5_9 x5_10 x5_11) fun (x7,H8) =>
   Option.bind a0 fun q9 =>
   Option.bind (rd deM H8 (Addr.add q9 4)) fun x10 =>
   Option.bind (lkM Tryz.prog 32 (deI .i64) H8 x10 (Value.string x7)) fun (_,b12) =>
   if b12=true then
    none
   else
    Option.bind (rd deSl H8 (Addr.add q9 3)) fun x13 =>
    if (x13.n:Int)≥1048576 then
     none
    else
     Option.bind (rd deM H8 (Addr.add q9 4)) fun x14 =>
     Option.bind (rd deSl H8 (Addr.add q9 3)) fun x15 =>
     Option.bind (upM Tryz.prog m 32 H8 x14 (Value.string x7) (Value.int .i64 (x15.n:Int))) fun H16 =>
     Option.bind (rd deSl H16 (Addr.add q9 3)) fun x17 =>
     Option.bind (z6h L (Nat.max m H16.next) H16 x2_0 x2_1 x2_2 x2_3) fun (x18_0,x18_1,x18_2,x18_3,H19) =>
     Option.bind (newS 137 [(Value.int .i64 x5_0),(Value.string x5_1),(Value.bool x5_2),(Sl3.v x5_3),(Value.int .i64 x5_4),(Sl3.v x5_5),(Value.int .i64 x5_6),(Value.int .i64 x5_7),(Value.string x5_8),(Sl3.v x5_9),(Sl3.v x5_10),(Sl3.v x5_11),(Value.int .i64 x18_0),(Value.int .i64 x18_1),(Value.string x18_2),(Sl3.v x18_3)] H19) fun (k20,H21) =>
     Option.bind (appS m 137 16 248 H21 x17 (⟨some ⟨k20,0,none⟩,1,1⟩:Sl3)) fun (s22,H23) =>
     Option.bind (H23.setCell m (Addr.add q9 3) (Sl3.v s22)) fun H24 =>
     Option.bind (rd deSl H24 (Addr.add q9 3)) fun x25 =>
     some ((IntKind.i64.wrap ((x25.n:Int) - 1)),0,H24)
  else
   none
 else
  none
theorem z5x {L:LC} {m:Nat} {H:AH} {a0:Option Addr} {a1_0:Int} {a1_1:ByteArray} {a1_2:Bool} {a1_3:Sl3} {a1_4:Int} {a1_5:Sl3} {a1_6 a1_7:Int} {a1_8:ByteArray} {a1_9 a1_10 a1_11:Sl3} {r:(Int×Int×AH)} (h:z3j L m H a0 a1_0 a1_1 a1_2 a1_3 a1_4 a1_5 a1_6 a1_7 a1_8 a1_9 a1_10 a1_11=some r) :
  CallS Tryz.prog (NE.plain 148) m 20 #[(Value.pointer a0),(Value.agg #[(Value.int .i64 a1_0),(Value.string a1_1),(Value.bool a1_2),(Sl3.v a1_3),(Value.int .i64 a1_4),(Sl3.v a1_5),(Value.int .i64 a1_6),(Value.int .i64 a1_7),(Value.string a1_8),(Sl3.v a1_9),(Sl3.v a1_10),(Sl3.v a1_11)])] H (zhe r) (zie H r):=by
 refine CallS.mk (args:=[(Value.pointer a0),(Value.agg #[(Value.int .i64 a1_0),(Value.string a1_1),(Value.bool a1_2),(Sl3.v a1_3),(Value.int .i64 a1_4),(Sl3.v a1_5),(Value.int .i64 a1_6),(Value.int .i64 a1_7),(Value.string a1_8),(Sl3.v a1_9),(Sl3.v a1_10),(Sl3.v a1_11)])]) Tryz.func20 (B:=B20) (by kernel_rfl) (fun E _=>?_)
 unfold z3j at h
 refine WS.sq (WS.rg (RS.mL 3 [kI 5 0,kI 4 0,kL 3 0 0] ([some (78,[(Value.int .i64 a1_0),(Value.string a1_1),(Value.bool a1_2),(Sl3.v a1_3),(Value.int .i64 a1_4),(Sl3.v a1_5),(Value.int .i64 a1_6),(Value.int .i64 a1_7),(Value.string a1_8),(Sl3.v a1_9),(Sl3.v a1_10),(Sl3.v a1_11)])]) (RS.dn (WS.nxt (WS.sq (WS.sq (WS.rg (RS.mS 1 [(12,.val (Value.pointer a0))] ?_))))))))
 obtain ⟨x1,hx,h⟩:=bind_some h
 refine RS.cl (some 13) (v:=(Value.bool x1)) 46 #[(Value.pointer a0)] (z1c hx) (RS.mS 1 [kB 14 (!x1)] (RS.dn (WS.nxt ?_)))
 rcases z0 h with ⟨hp,h⟩ | ⟨hp,h⟩
 ·refine WS.fx 14 false (nb_not hp) (WS.cF (WS.sk (WS.nxt (WS.sq (WS.rg (RS.mS 2 [kA 17 #[(Value.int .i64 a1_0),(Value.string a1_1),(Value.bool a1_2),(Sl3.v a1_3),(Value.int .i64 a1_4),(Sl3.v a1_5),(Value.int .i64 a1_6),(Value.int .i64 a1_7),(Value.string a1_8),(Sl3.v a1_9),(Sl3.v a1_10),(Sl3.v a1_11)],(16,.val (Value.pointer a0))] ?_))))))
  obtain ⟨⟨x2_0,x2_1,x2_2,x2_3,x3,H4⟩,hx,h⟩:=bind_some h
  try dsimp only at h
  refine RS.cl (some 18) (v:=(Value.tuple #[(Value.agg #[(Value.int .i64 x2_0),(Value.int .i64 x2_1),(Value.string x2_2),(Sl3.v x2_3)]),(Value.int .i64 x3)])) 54 #[(Value.pointer a0),(Value.agg #[(Value.int .i64 a1_0),(Value.string a1_1),(Value.bool a1_2),(Sl3.v a1_3),(Value.int .i64 a1_4),(Sl3.v a1_5),(Value.int .i64 a1_6),(Value.int .i64 a1_7),(Value.string a1_8),(Sl3.v a1_9),(Sl3.v a1_10),(Sl3.v a1_11)])] (zgs hx) (RS.mL 6 [kI 7 x3,kL 6 1 0,kI 20 x3,kA 19 #[(Value.int .i64 x2_0),(Value.int .i64 x2_1),(Value.string x2_2),(Sl3.v x2_3)],(15,.val (Value.tuple #[(Value.agg #[(Value.int .i64 x2_0),(Value.int .i64 x2_1),(Value.string x2_2),(Sl3.v x2_3)]),(Value.int .i64 x3)]))] ([some (78,[(Value.int .i64 a1_0),(Value.string a1_1),(Value.bool a1_2),(Sl3.v a1_3),(Value.int .i64 a1_4),(Sl3.v a1_5),(Value.int .i64 a1_6),(Value.int .i64 a1_7),(Value.string a1_8),(Sl3.v a1_9),(Sl3.v a1_10),(Sl3.v a1_11)]),some (57,[(Value.int .i64 x2_0),(Value.int .i64 x2_1),(Value.string x2_2),(Sl3.v x2_3)])]) (RS.dn (WS.nxt (WS.sq (WS.sq (WS.rg (RS.mS 2 [kB 22 (!decide (x3=0)),kI 21 x3] (RS.dn (WS.nxt ?_)))))))))
  rcases z0 h with ⟨hp,h⟩ | ⟨hp,h⟩
  ·refine WS.fx 22 false (zj hp) (WS.cF (WS.sk (WS.nxt (WS.sq (WS.rg (RS.mS 1 [kA 24 #[(Value.int .i64 a1_0),(Value.string a1_1),(Value.bool a1_2),(Sl3.v a1_3),(Value.int .i64 a1_4),(Sl3.v a1_5),(Value.int .i64 a1_6),(Value.int .i64 a1_7),(Value.string a1_8),(Sl3.v a1_9),(Sl3.v a1_10),(Sl3.v a1_11)]] ?_))))))
   obtain ⟨⟨x5_0,x5_1,x5_2,x5_3,x5_4,x5_5,x5_6,x5_7,x5_8,x5_9,x5_10,x5_11,H6⟩,hx,h⟩:=bind_some h
   try dsimp only at h
   refine RS.cl (some 25) (v:=(Value.agg #[(Value.int .i64 x5_0),(Value.string x5_1),(Value.bool x5_2),(Sl3.v x5_3),(Value.int .i64 x5_4),(Sl3.v x5_5),(Value.int .i64 x5_6),(Value.int .i64 x5_7),(Value.string x5_8),(Sl3.v x5_9),(Sl3.v x5_10),(Sl3.v x5_11)])) 52 #[(Value.agg #[(Value.int .i64 a1_0),(Value.string a1_1),(Value.bool a1_2),(Sl3.v a1_3),(Value.int .i64 a1_4),(Sl3.v a1_5),(Value.int .i64 a1_6),(Value.int .i64 a1_7),(Value.string a1_8),(Sl3.v a1_9),(Sl3.v a1_10),(Sl3.v a1_11)])] (zg5 hx) (RS.mL 2 [kL 8 2 0] ([some (78,[(Value.int .i64 a1_0),(Value.string a1_1),(Value.bool a1_2),(Sl3.v a1_3),(Value.int .i64 a1_4),(Sl3.v a1_5),(Value.int .i64 a1_6),(Value.int .i64 a1_7),(Value.string a1_8),(Sl3.v a1_9),(Sl3.v a1_10),(Sl3.v a1_11)]),some (57,[(Value.int .i64 x2_0),(Value.int .i64 x2_1),(Value.string x2_2),(Sl3.v x2_3)]),some (78,[(Value.int .i64 x5_0),(Value.string x5_1),(Value.bool x5_2),(Sl3.v x5_3),(Value.int .i64 x5_4),(Sl3.v x5_5),(Value.int .i64 x5_6),(Value.int .i64 x5_7),(Value.string x5_8),(Sl3.v x5_9),(Sl3.v x5_10),(Sl3.v x5_11)])]) (RS.dn (WS.nxt (WS.sq (WS.rg (RS.mS 1 [kA 26 #[(Value.int .i64 x5_0),(Value.string x5_1),(Value.bool x5_2),(Sl3.v x5_3),(Value.int .i64 x5_4),(Sl3.v x5_5),(Value.int .i64 x5_6),(Value.int .i64 x5_7),(Value.string x5_8),(Sl3.v x5_9),(Sl3.v x5_10),(Sl3.v x5_11)]] ?_))))))
   obtain ⟨⟨x7,H8⟩,hx,h⟩:=bind_some h
   try dsimp only at h
   refine RS.cl (some 27) (v:=(Value.string x7)) 55 #[(Value.agg #[(Value.int .i64 x5_0),(Value.string x5_1),(Value.bool x5_2),(Sl3.v x5_3),(Value.int .i64 x5_4),(Sl3.v x5_5),(Value.int .i64 x5_6),(Value.int .i64 x5_7),(Value.string x5_8),(Sl3.v x5_9),(Sl3.v x5_10),(Sl3.v x5_11)])] (zny hx) (RS.mS 1 [kT 9 x7] (RS.dn (WS.nxt (WS.sq (WS.sq (WS.rg (RS.mS 1 [(29,.val (Value.pointer a0))] ?_)))))))
   obtain ⟨q9,hx,hq9⟩:=bind_some h
   subst hx
   have h:=hq9
   refine RS.mS 2 [(31,.val (Value.pointer (some (Addr.add q9 4)))),kP 30 q9] ?_
   obtain ⟨x10,hx,h⟩:=bind_some h
   refine RS.ld 32 32 (.tmp 31) (z1 hx z6z) (RS.mS 1 [kT 33 x7] ?_)
   obtain ⟨⟨x11,b12⟩,hx,h⟩:=bind_some h
   try dsimp only at h
   refine RS.o (H':=H8) (some 34) (Value.tuple #[(Value.int .i64 x11),(Value.bool b12)]) (Abs.run_look (t:=32) (x:=.tmp 32) (y:=.tmp 33) (mm:=x10) (k:=(Value.string x7)) (by kernel_rfl) (by kernel_rfl) (by kernel_rfl) (by kernel_rfl) (lkM_eq hx z5)) (RS.mS 5 [kB 11 b12,kI 10 x11,kB 36 b12,kI 35 x11,(28,.val (Value.tuple #[(Value.int .i64 x11),(Value.bool b12)]))] (RS.dn (WS.nxt (WS.sq (WS.rg (RS.mS 1 [kB 37 b12] (RS.dn (WS.nxt ?_))))))))
   rcases z0 h with ⟨hp,h⟩ | ⟨hp,h⟩
   ·refine WS.fx 37 true hp (WS.cT ?_)
    cases h
   ·refine WS.fx 37 false (b_not hp) (WS.cF (WS.sk (WS.nxt (WS.sq (WS.sq (WS.rg (RS.mS 3 [(41,.val (Value.pointer (some (Addr.add q9 3)))),kP 40 q9,kP 39 q9] ?_)))))))
    obtain ⟨x13,hx,h⟩:=bind_some h
    refine RS.ld 42 31 (.tmp 41) (z1 hx z3) (RS.mS 2 [kB 44 (decide ((x13.n:Int)≥1048576)),kI 43 (x13.n:Int)] (RS.dn (WS.nxt ?_)))
    rcases z0 h with ⟨hp,h⟩ | ⟨hp,h⟩
    ·refine WS.fx 44 true (decide_eq_true hp) (WS.cT ?_)
     cases h
    ·refine WS.fx 44 false (decide_eq_false hp) (WS.cF (WS.sk (WS.nxt (WS.sq ?_))))
     refine WS.dr [0,1,2,3,5,6,7,8] [0,1,3,7,0,0,32,96,224,480,1023] 11 (fun hcl=>?_)
     refine DA.tK 0 (some 45) (Value.pointer (some q9)) (DA.tK 1 (some 46) (Value.pointer (some q9)) (DA.tK 2 (some 47) (Value.pointer (some (Addr.add q9 4))) ?_))
     obtain ⟨x14,hx,h⟩:=bind_some h
     refine DA.tD 3 (some 48) (Value.map x14) (Abs.det_load (t:=32) (x:=.tmp 47) (a:=(Addr.add q9 4)) (by kernel_rfl) (by kernel_rfl) (by kernel_rfl) (by kernel_rfl) (z1 hx z6z)) (DA.tK 5 (some 50) (Value.pointer (some q9)) (DA.tK 6 (some 51) (Value.pointer (some q9)) (DA.tK 7 (some 52) (Value.pointer (some (Addr.add q9 3))) ?_)))
     obtain ⟨x15,hx,h⟩:=bind_some h
     refine DA.tD 8 (some 53) (Sl3.v x15) (Abs.det_load (t:=31) (x:=.tmp 52) (a:=(Addr.add q9 3)) (by kernel_rfl) (by kernel_rfl) (by kernel_rfl) (by kernel_rfl) (z1 hx z3)) (DA.tP 4 (some 49) (Value.string x7) (DA.on 9 (DA.aHj (H':=H8) 9 (some 54) false (Value.int .i64 (x15.n:Int)) (by kernel_rfl) ?_)))
     obtain ⟨H16,hx,h⟩:=bind_some h
     refine DA.on 10 (DA.aH (H':=H16) 10 none undef (Abs.run_upM (t:=32) (x:=.tmp 48) (y:=.tmp 49) (z:=.tmp 54) (mm:=x14) (k:=(Value.string x7)) (v:=(Value.int .i64 (x15.n:Int))) (by kernel_rfl) (by kernel_rfl) (by kernel_rfl) (by kernel_rfl) (by kernel_rfl) hx) (DA.dn (WS.nxt (WS.sq ?_))))
     obtain ⟨x17,hx_4,h⟩:=bind_some h
     obtain ⟨⟨x18_0,x18_1,x18_2,x18_3,H19⟩,hx_7,h⟩:=bind_some h
     try dsimp only at h
     obtain ⟨⟨k20,H21⟩,hx_k20,h⟩:=bind_some h
     try dsimp only at h
     obtain ⟨⟨s22,H23⟩,hx_10,h⟩:=bind_some h
     try dsimp only at h
     obtain ⟨H24,hx_13,h⟩:=bind_some h
     refine WS.toone ([kP 0 q9]) ([some (78,[(Value.int .i64 a1_0),(Value.string a1_1),(Value.bool a1_2),(Sl3.v a1_3),(Value.int .i64 a1_4),(Sl3.v a1_5),(Value.int .i64 a1_6),(Value.int .i64 a1_7),(Value.string a1_8),(Sl3.v a1_9),(Sl3.v a1_10),(Sl3.v a1_11)]),some (57,[(Value.int .i64 x2_0),(Value.int .i64 x2_1),(Value.string x2_2),(Sl3.v x2_3)]),some (78,[(Value.int .i64 x5_0),(Value.string x5_1),(Value.bool x5_2),(Sl3.v x5_3),(Value.int .i64 x5_4),(Sl3.v x5_5),(Value.int .i64 x5_6),(Value.int .i64 x5_7),(Value.string x5_8),(Sl3.v x5_9),(Sl3.v x5_10),(Sl3.v x5_11)]),none]) H24 ?_ ?_
     ·clear h
      refine WS.dr [1,2,3,4,6] [0,0,2,6,14,0,0,64,224,480,1022,2047,4095,8191] 14 (fun hcl=>?_)
      refine DA.tK 1 (some 56) (Value.pointer (some q9)) (DA.tK 2 (some 57) (Value.pointer (some q9)) (DA.tK 3 (some 58) (Value.pointer (some (Addr.add q9 3))) (DA.tD 4 (some 59) (Sl3.v x17) (Abs.det_load (t:=31) (x:=.tmp 58) (a:=(Addr.add q9 3)) (by kernel_rfl) (by kernel_rfl) (by kernel_rfl) (by kernel_rfl) (z1 hx_4 z3)) (DA.tL 6 (some 61) (.val (Value.agg #[(Value.int .i64 x2_0),(Value.int .i64 x2_1),(Value.string x2_2),(Sl3.v x2_3)])) (DA.tP 0 (some 55) (Value.pointer (some q9)) ?_)))))
      refine DA.two 5 7 (by kernel_rfl) ?_ ?_
      ·refine DA.aL 5 (some 60) (.val (Value.agg #[(Value.int .i64 x5_0),(Value.string x5_1),(Value.bool x5_2),(Sl3.v x5_3),(Value.int .i64 x5_4),(Sl3.v x5_5),(Value.int .i64 x5_6),(Value.int .i64 x5_7),(Value.string x5_8),(Sl3.v x5_9),(Sl3.v x5_10),(Sl3.v x5_11)])) ([some (78,[(Value.int .i64 a1_0),(Value.string a1_1),(Value.bool a1_2),(Sl3.v a1_3),(Value.int .i64 a1_4),(Sl3.v a1_5),(Value.int .i64 a1_6),(Value.int .i64 a1_7),(Value.string a1_8),(Sl3.v a1_9),(Sl3.v a1_10),(Sl3.v a1_11)]),some (57,[(Value.int .i64 x2_0),(Value.int .i64 x2_1),(Value.string x2_2),(Sl3.v x2_3)]),some (78,[(Value.int .i64 x5_0),(Value.string x5_1),(Value.bool x5_2),(Sl3.v x5_3),(Value.int .i64 x5_4),(Sl3.v x5_5),(Value.int .i64 x5_6),(Value.int .i64 x5_7),(Value.string x5_8),(Sl3.v x5_9),(Sl3.v x5_10),(Sl3.v x5_11)])]) true (DA.on 7 (DA.aCj 7 (some 62) true (v:=(Value.agg #[(Value.int .i64 x18_0),(Value.int .i64 x18_1),(Value.string x18_2),(Sl3.v x18_3)])) 40 #[(Value.agg #[(Value.int .i64 x2_0),(Value.int .i64 x2_1),(Value.string x2_2),(Sl3.v x2_3)])] (z10 hx_7) (DA.on 8 (DA.aHj (H':=H19) 8 (some 63) true (Value.agg #[(Value.int .i64 x5_0),(Value.string x5_1),(Value.bool x5_2),(Sl3.v x5_3),(Value.int .i64 x5_4),(Sl3.v x5_5),(Value.int .i64 x5_6),(Value.int .i64 x5_7),(Value.string x5_8),(Sl3.v x5_9),(Sl3.v x5_10),(Sl3.v x5_11),(Value.int .i64 x18_0),(Value.int .i64 x18_1),(Value.string x18_2),(Sl3.v x18_3)]) (by kernel_rfl) (DA.on 9 (DA.actS 9 (some 64) (.sli 3 1) ([some (78,[(Value.int .i64 a1_0),(Value.string a1_1),(Value.bool a1_2),(Sl3.v a1_3),(Value.int .i64 a1_4),(Sl3.v a1_5),(Value.int .i64 a1_6),(Value.int .i64 a1_7),(Value.string a1_8),(Sl3.v a1_9),(Sl3.v a1_10),(Sl3.v a1_11)]),some (57,[(Value.int .i64 x2_0),(Value.int .i64 x2_1),(Value.string x2_2),(Sl3.v x2_3)]),some (78,[(Value.int .i64 x5_0),(Value.string x5_1),(Value.bool x5_2),(Sl3.v x5_3),(Value.int .i64 x5_4),(Sl3.v x5_5),(Value.int .i64 x5_6),(Value.int .i64 x5_7),(Value.string x5_8),(Sl3.v x5_9),(Sl3.v x5_10),(Sl3.v x5_11)]),some (137,[(Value.int .i64 x5_0),(Value.string x5_1),(Value.bool x5_2),(Sl3.v x5_3),(Value.int .i64 x5_4),(Sl3.v x5_5),(Value.int .i64 x5_6),(Value.int .i64 x5_7),(Value.string x5_8),(Sl3.v x5_9),(Sl3.v x5_10),(Sl3.v x5_11),(Value.int .i64 x18_0),(Value.int .i64 x18_1),(Value.string x18_2),(Sl3.v x18_3)])]) (by kernel_rfl) (by kernel_rfl) (by kernel_rfl) hcl (by kernel_rfl) (by kernel_rfl) (by kernel_rfl) (DA.on 10 (DA.pubK 3 _ _ hx_k20 (by kernel_rfl) rfl rfl (DA.aH (H':=H23) 10 (some 65) (Sl3.v s22) (Abs.run_app (x:=.tmp 59) (y:=.tmp 64) (ts:=#[31,31]) (s:=x17) (z:=(⟨some ⟨k20,0,none⟩,1,1⟩:Sl3)) (by kernel_rfl) (by kernel_rfl) (by kernel_rfl) (by kernel_rfl) hx_10) ?_)))))))))
       refine DA.tP 11 (some 66) (Value.pointer (some q9)) (DA.tP 12 (some 67) (Value.pointer (some (Addr.add q9 3))) (DA.on 13 (DA.aH (H':=H24) 13 none undef (Abs.run_store1 (t:=31) (x:=.tmp 67) (y:=.tmp 65) (a:=(Addr.add q9 3)) (v:=(Sl3.v s22)) (by kernel_rfl) (by kernel_rfl) (by kernel_rfl) (by kernel_rfl) (by kernel_rfl) hx_13) (DA.dn ?_))))
       exact fun a w hs=>jsN (hs.sb 4)
      ·refine DA.aCj 7 (some 62) true (v:=(Value.agg #[(Value.int .i64 x18_0),(Value.int .i64 x18_1),(Value.string x18_2),(Sl3.v x18_3)])) 40 #[(Value.agg #[(Value.int .i64 x2_0),(Value.int .i64 x2_1),(Value.string x2_2),(Sl3.v x2_3)])] (z10 hx_7) (DA.on 5 (DA.aL 5 (some 60) (.val (Value.agg #[(Value.int .i64 x5_0),(Value.string x5_1),(Value.bool x5_2),(Sl3.v x5_3),(Value.int .i64 x5_4),(Sl3.v x5_5),(Value.int .i64 x5_6),(Value.int .i64 x5_7),(Value.string x5_8),(Sl3.v x5_9),(Sl3.v x5_10),(Sl3.v x5_11)])) ([some (78,[(Value.int .i64 a1_0),(Value.string a1_1),(Value.bool a1_2),(Sl3.v a1_3),(Value.int .i64 a1_4),(Sl3.v a1_5),(Value.int .i64 a1_6),(Value.int .i64 a1_7),(Value.string a1_8),(Sl3.v a1_9),(Sl3.v a1_10),(Sl3.v a1_11)]),some (57,[(Value.int .i64 x2_0),(Value.int .i64 x2_1),(Value.string x2_2),(Sl3.v x2_3)]),some (78,[(Value.int .i64 x5_0),(Value.string x5_1),(Value.bool x5_2),(Sl3.v x5_3),(Value.int .i64 x5_4),(Sl3.v x5_5),(Value.int .i64 x5_6),(Value.int .i64 x5_7),(Value.string x5_8),(Sl3.v x5_9),(Sl3.v x5_10),(Sl3.v x5_11)])]) true (DA.on 8 (DA.aHj (H':=H19) 8 (some 63) true (Value.agg #[(Value.int .i64 x5_0),(Value.string x5_1),(Value.bool x5_2),(Sl3.v x5_3),(Value.int .i64 x5_4),(Sl3.v x5_5),(Value.int .i64 x5_6),(Value.int .i64 x5_7),(Value.string x5_8),(Sl3.v x5_9),(Sl3.v x5_10),(Sl3.v x5_11),(Value.int .i64 x18_0),(Value.int .i64 x18_1),(Value.string x18_2),(Sl3.v x18_3)]) (by kernel_rfl) (DA.on 9 (DA.actS 9 (some 64) (.sli 3 1) ([some (78,[(Value.int .i64 a1_0),(Value.string a1_1),(Value.bool a1_2),(Sl3.v a1_3),(Value.int .i64 a1_4),(Sl3.v a1_5),(Value.int .i64 a1_6),(Value.int .i64 a1_7),(Value.string a1_8),(Sl3.v a1_9),(Sl3.v a1_10),(Sl3.v a1_11)]),some (57,[(Value.int .i64 x2_0),(Value.int .i64 x2_1),(Value.string x2_2),(Sl3.v x2_3)]),some (78,[(Value.int .i64 x5_0),(Value.string x5_1),(Value.bool x5_2),(Sl3.v x5_3),(Value.int .i64 x5_4),(Sl3.v x5_5),(Value.int .i64 x5_6),(Value.int .i64 x5_7),(Value.string x5_8),(Sl3.v x5_9),(Sl3.v x5_10),(Sl3.v x5_11)]),some (137,[(Value.int .i64 x5_0),(Value.string x5_1),(Value.bool x5_2),(Sl3.v x5_3),(Value.int .i64 x5_4),(Sl3.v x5_5),(Value.int .i64 x5_6),(Value.int .i64 x5_7),(Value.string x5_8),(Sl3.v x5_9),(Sl3.v x5_10),(Sl3.v x5_11),(Value.int .i64 x18_0),(Value.int .i64 x18_1),(Value.string x18_2),(Sl3.v x18_3)])]) (by kernel_rfl) (by kernel_rfl) (by kernel_rfl) hcl (by kernel_rfl) (by kernel_rfl) (by kernel_rfl) (DA.on 10 (DA.pubK 3 _ _ hx_k20 (by kernel_rfl) rfl rfl (DA.aH (H':=H23) 10 (some 65) (Sl3.v s22) (Abs.run_app (x:=.tmp 59) (y:=.tmp 64) (ts:=#[31,31]) (s:=x17) (z:=(⟨some ⟨k20,0,none⟩,1,1⟩:Sl3)) (by kernel_rfl) (by kernel_rfl) (by kernel_rfl) (by kernel_rfl) hx_10) ?_)))))))))
       refine DA.tP 11 (some 66) (Value.pointer (some q9)) (DA.tP 12 (some 67) (Value.pointer (some (Addr.add q9 3))) (DA.on 13 (DA.aH (H':=H24) 13 none undef (Abs.run_store1 (t:=31) (x:=.tmp 67) (y:=.tmp 65) (a:=(Addr.add q9 3)) (v:=(Sl3.v s22)) (by kernel_rfl) (by kernel_rfl) (by kernel_rfl) (by kernel_rfl) (by kernel_rfl) hx_13) (DA.dn ?_))))
       exact fun a w hs=>jsN (hs.sb 4)
     ·refine WS.nxt (WS.sq (WS.rg (RS.mS 3 [(70,.val (Value.pointer (some (Addr.add q9 3)))),kP 69 q9,kP 68 q9] ?_)))
      obtain ⟨x25,hx,h⟩:=bind_some h
      refine RS.ld 71 31 (.tmp 70) (z1 hx z3) (RS.mS 4 [kI 5 0,kI 4 (IntKind.i64.wrap ((x25.n:Int) - 1)),kI 73 (IntKind.i64.wrap ((x25.n:Int) - 1)),kI 72 (x25.n:Int)] (RS.dn (WS.nxt (WS.rt ?_))))
      cases h
      exact fun a w hs=>rtR (rS hs)
  ·refine WS.fx 22 true (ze hp) (WS.cT ?_)
   cases h
 ·refine WS.fx 14 true (zi hp) (WS.cT ?_)
  cases h
noncomputable def B28:Code:=(Tryz.f28.body).getD .skip
def zgn:(Int×Int×AH)→Value
 | (r0,r1,_)=>(Value.tuple #[(Value.int .i64 r0),(Value.int .i64 r1)])
def zhb (_:AH):(Int×Int×AH)→AH:=fun r=>r.2.2
noncomputable def z4r (L:LC) (m:Nat) (H:AH) (a0:Option Addr) (a1:Int) (a2:Sl3):Option (Int×Int×AH) :=
 Option.bind (z3j L m H a0 a1 (⟨#[]⟩:ByteArray) false Sl3.nil 0 Sl3.nil 0 0 (⟨#[]⟩:ByteArray) Sl3.nil Sl3.nil a2) fun (x1,x2,H3) =>
 some (x1,x2,H3)
theorem z9f {L:LC} {m:Nat} {H:AH} {a0:Option Addr} {a1:Int} {a2:Sl3} {r:(Int×Int×AH)} (h:z4r L m H a0 a1 a2=some r) :
  CallS Tryz.prog (NE.plain 148) m 28 #[(Value.pointer a0),(Value.int .i64 a1),(Sl3.v a2)] H (zgn r) (zhb H r):=by
 refine CallS.mk (args:=[(Value.pointer a0),(Value.int .i64 a1),(Sl3.v a2)]) Tryz.func28 (B:=B28) (by kernel_rfl) (fun E _=>?_)
 unfold z4r at h
 refine WS.sq (WS.rg (RS.mS 2 [kI 7 0,kI 6 0] (RS.dn (WS.nxt (WS.sq (WS.rg (RS.mS 4 [kA 11 #[(Value.int .i64 a1),(Value.string (⟨#[]⟩:ByteArray)),(Value.bool false),(Sl3.v Sl3.nil),(Value.int .i64 0),(Sl3.v Sl3.nil),(Value.int .i64 0),(Value.int .i64 0),(Value.string (⟨#[]⟩:ByteArray)),(Sl3.v Sl3.nil),(Sl3.v Sl3.nil),(Sl3.v a2)],kS 10 a2,kI 9 a1,(8,.val (Value.pointer a0))] ?_)))))))
 obtain ⟨⟨x1,x2,H3⟩,hx,h⟩:=bind_some h
 try dsimp only at h
 refine RS.cl (some 12) (v:=(Value.tuple #[(Value.int .i64 x1),(Value.int .i64 x2)])) 20 #[(Value.pointer a0),(Value.agg #[(Value.int .i64 a1),(Value.string (⟨#[]⟩:ByteArray)),(Value.bool false),(Sl3.v Sl3.nil),(Value.int .i64 0),(Sl3.v Sl3.nil),(Value.int .i64 0),(Value.int .i64 0),(Value.string (⟨#[]⟩:ByteArray)),(Sl3.v Sl3.nil),(Sl3.v Sl3.nil),(Sl3.v a2)])] (z5x hx) (RS.mS 4 [kI 7 x2,kI 6 x1,kI 14 x2,kI 13 x1] (RS.dn (WS.nxt (WS.rt ?_))))
 cases h
 exact fun a w hs=>rtR (rS hs)
noncomputable def B26:Code:=(Tryz.f26.body).getD .skip
def z77:(Int×AH)→Value
 | (r0,_)=>(Value.int .i64 r0)
def z8e (_:AH):(Int×AH)→AH:=fun r=>r.2
noncomputable def z6p (L:LC) (m:Nat) (H:AH) (a0:Option Addr) (a1:Int) (a2:Sl3):Option (Int×AH) :=
 Option.bind a0 fun q1 =>
 Option.bind (rd (deI .i64) H (Addr.add q1 3)) fun x2 =>
 if x2=0 then
  Option.bind (rd deP H (Addr.add q1 0)) fun x3 =>
  Option.bind x3 fun q4 =>
  Option.bind (rd deP H (Addr.add q4 0)) fun x5 =>
  Option.bind (z4r L m H x5 a1 a2) fun (x6,x7,H8) =>
  Option.bind (H8.setCell m (Addr.add q1 3) (Value.int .i64 x7)) fun H9 =>
  some (x6,H9)
 else
  none
theorem zgc {L:LC} {m:Nat} {H:AH} {a0:Option Addr} {a1:Int} {a2:Sl3} {r:(Int×AH)} (h:z6p L m H a0 a1 a2=some r) :
  CallS Tryz.prog (NE.plain 148) m 26 #[(Value.pointer a0),(Value.int .i64 a1),(Sl3.v a2)] H (z77 r) (z8e H r):=by
 refine CallS.mk (args:=[(Value.pointer a0),(Value.int .i64 a1),(Sl3.v a2)]) Tryz.func26 (B:=B26) (by kernel_rfl) (fun E _=>?_)
 unfold z6p at h
 refine WS.sq (WS.rg (RS.mS 1 [kI 6 0] (RS.dn (WS.nxt (WS.sq (WS.sq (WS.rg (RS.mS 1 [(9,.val (Value.pointer a0))] ?_))))))))
 obtain ⟨q1,hx,hq1⟩:=bind_some h
 subst hx
 have h:=hq1
 refine RS.mS 2 [(11,.val (Value.pointer (some (Addr.add q1 3)))),kP 10 q1] ?_
 obtain ⟨x2,hx,h⟩:=bind_some h
 refine RS.ld 12 23 (.tmp 11) (z1 hx z5) (RS.mS 1 [kB 13 (!decide (x2=0))] (RS.dn (WS.nxt ?_)))
 rcases z0 h with ⟨hp,h⟩ | ⟨hp,h⟩
 ·refine WS.fx 13 false (zj hp) (WS.cF (WS.sk (WS.nxt (WS.sq (WS.rg (RS.mS 3 [(17,.val (Value.pointer (some (Addr.add q1 0)))),kP 16 q1,kP 15 q1] ?_))))))
  obtain ⟨x3,hx,h⟩:=bind_some h
  refine RS.ld 18 51 (.tmp 17) (z1 hx zr) ?_
  obtain ⟨q4,hx,hq4⟩:=bind_some h
  subst hx
  have h:=hq4
  refine RS.mS 2 [(20,.val (Value.pointer (some (Addr.add q4 0)))),kP 19 q4] ?_
  obtain ⟨x5,hx,h⟩:=bind_some h
  refine RS.ld 21 22 (.tmp 20) (z1 hx zr) (RS.mS 2 [kS 23 a2,kI 22 a1] ?_)
  obtain ⟨⟨x6,x7,H8⟩,hx,h⟩:=bind_some h
  try dsimp only at h
  refine RS.cl (some 24) (v:=(Value.tuple #[(Value.int .i64 x6),(Value.int .i64 x7)])) 28 #[(Value.pointer x5),(Value.int .i64 a1),(Sl3.v a2)] (z9f hx) (RS.mS 5 [kI 8 x7,kI 7 x6,kI 26 x7,kI 25 x6,(14,.val (Value.tuple #[(Value.int .i64 x6),(Value.int .i64 x7)]))] (RS.dn (WS.nxt (WS.sq (WS.rg (RS.mS 4 [(30,.val (Value.pointer (some (Addr.add q1 3)))),kP 29 q1,kI 28 x7,kP 27 q1] ?_))))))
  obtain ⟨H9,hx,h⟩:=bind_some h
  refine RS.o (H':=H9) none undef (Abs.run_store1 (t:=23) (x:=.tmp 30) (y:=.tmp 28) (a:=(Addr.add q1 3)) (v:=(Value.int .i64 x7)) (by kernel_rfl) (by kernel_rfl) (by kernel_rfl) (by kernel_rfl) (by kernel_rfl) hx) (RS.dn (WS.nxt (WS.sq (WS.rg (RS.mS 2 [kI 6 x6,kI 31 x6] (RS.dn (WS.nxt (WS.rt ?_))))))))
  cases h
  exact fun a w hs=>rtR (rS hs)
 ·refine WS.fx 13 true (ze hp) (WS.cT ?_)
  cases h
noncomputable def B27:Code:=(Tryz.f27.body).getD .skip
def z3u:AH→Value
 | _=>(Value.tuple #[])
def z4e (_:AH):AH→AH:=fun r=>r
noncomputable def z4h (L:LC) (m:Nat) (_a0:Option Addr) (a1:Sl3) (p1:Addr):(AH×Int)→Option (Lp (AH×Int) AH):=fun (H3,v9_4) =>
 if v9_4<(a1.n:Int) then
  Option.bind (idxA 1 a1 v9_4) fun p5 =>
  Option.bind (rd (deI .i64) H3 p5) fun x6 =>
  Option.bind (z53 L m H3 x6) fun (x7,H8) =>
  Option.bind (strcat x7 (⟨#[32]⟩:ByteArray)) fun s9 =>
  Option.bind (zh L m H8 (some p1) s9) fun (_,_,H12) =>
  some (.next (H12,(IntKind.i64.wrap (v9_4+1))))
 else
  some (.brk (H3,v9_4))
def zdy (_L:LC) (_m:Nat) (a0:Option Addr) (a1:Sl3) (p1:Addr):(AH×Int)→KN×Lcs:=fun (_,v9_4)=>([kI 9 v9_4,(0,.val (Value.pointer a0)),kS 1 a1,kP 4 p1,kS 7 a1,kI 8 (a1.n:Int)],[])
noncomputable def z6r (L:LC) (m:Nat) (H:AH) (a0:Option Addr) (a1:Sl3):Option AH :=
 Option.bind (newB 131 [(Value.pointer none),(Sl3.v Sl3.nil)] H) fun (p1,H2) =>
 Option.bind (L.run (z4h L m a0 a1 p1) (H2,0)) fun o=>match o with
 | .inl (H13,_) =>
  Option.bind a0 fun q15 =>
  Option.bind (rd (deI .i64) H13 (Addr.add q15 3)) fun x16 =>
  if x16=0 then
   Option.bind (rd deM H13 (Addr.add q15 2)) fun x17 =>
   Option.bind (zw L (Nat.max m H13.next) H13 (some p1)) fun (x18,H19) =>
   Option.bind (lk1 Tryz.prog 32 (deI .i64) H19 x17 (Value.string x18)) fun x20 =>
   if x20 > 0 then
    none
   else
    none
  else
   none
 | .inr r=>some r
theorem z6f {E H L m a0 a1 p1} :LoopF Tryz.prog (NE.plain 148) m E Tryz.f27 ((cfst (csnd (cfst (csnd B27))))) (zdy L m a0 a1 p1) (fun s=>s.1) 0 z3u (z4e H) (z4h L m a0 a1 p1):=by
 rintro ⟨H3,v9_4⟩ o h
 unfold z4h at h
 try dsimp only at h
 refine WS.sq (WS.rg (RS.mS 1 [kB 10 (decide (v9_4<(a1.n:Int)))] (RS.dn (WS.nxt (WS.sq ?_)))))
 rcases z0 h with ⟨hp,h⟩ | ⟨hp,h⟩
 ·refine WS.fx 10 true (decide_eq_true hp) (WS.cT (WS.sk (WS.nxt (WS.sq (WS.bk 1 (WS.sq (WS.rg ?_)))))))
  obtain ⟨p5,hx,h⟩:=bind_some h
  refine RS.ix 11 41 3 (.tmp 7) (.tmp 9) hx ?_
  obtain ⟨x6,hx,h⟩:=bind_some h
  refine RS.ld 12 3 (.tmp 11) (z1 hx z5) (RS.mS 1 [kI 6 x6] (RS.dn (WS.nxt (WS.rg (RS.mS 1 [kI 13 x6] ?_)))))
  obtain ⟨⟨x7,H8⟩,hx,h⟩:=bind_some h
  try dsimp only at h
  refine RS.cl (some 14) (v:=(Value.string x7)) 17 #[(Value.int .i64 x6)] (z7n hx) ?_
  obtain ⟨s9,hx,h⟩:=bind_some h
  refine RS.o (H':=H8) (some 15) (Value.string s9) (Abs.run_strcat (t:=9) (u:=9) (x:=.tmp 14) (y:=.const (Value.string (⟨#[32]⟩:ByteArray))) (a:=x7) (b:=(⟨#[32]⟩:ByteArray)) (by kernel_rfl) (by kernel_rfl) (by kernel_rfl) hx) ?_
  obtain ⟨⟨x10,x11,H12⟩,hx,h⟩:=bind_some h
  try dsimp only at h
  refine RS.cl (some 16) (v:=(Value.tuple #[(Value.int .i64 x10),x11])) 63 #[(Value.pointer (some p1)),(Value.string s9)] (zq hx) (RS.dn ?_)
  refine fun a w hs=>bkN ((WS.nxt ?_ a w hs))
  refine WS.rg (RS.mS 2 [kI 9 (IntKind.i64.wrap (v9_4+1)),kI 17 (IntKind.i64.wrap (v9_4+1))] (RS.dn ?_))
  cases h
  exact fun a w hs=>lsN rfl (hs.sb 0)
 ·refine WS.fx 10 false (decide_eq_false hp) (WS.cF (WS.ex 0 ?_))
  cases h
  exact fun a w hs=>sqE (lsB rfl (hs.sb 0))
theorem zgj {L:LC} {m:Nat} {H:AH} {a0:Option Addr} {a1:Sl3} {r:AH} (h:z6r L m H a0 a1=some r) :
  CallS Tryz.prog (NE.plain 148) m 27 #[(Value.pointer a0),(Sl3.v a1)] H (z3u r) (z4e H r):=by
 refine CallS.mk (args:=[(Value.pointer a0),(Sl3.v a1)]) Tryz.func27 (B:=B27) (by kernel_rfl) (fun E _=>?_)
 unfold z6r at h
 refine WS.sq (WS.rg ?_)
 obtain ⟨⟨p1,H2⟩,hx,h⟩:=bind_some h
 try dsimp only at h
 refine RS.o (H':=H2) (some 4) (Value.pointer (some p1)) (Abs.run_newB (by kernel_rfl) hx) (RS.dn (WS.nxt (WS.sq (WS.sq (WS.rg (RS.mS 3 [kI 9 0,kI 8 (a1.n:Int),kS 7 a1] (RS.dn (WS.nxt (WS.bk 0 ?_)))))))))
 obtain ⟨o,hl,h⟩:=bind_some h
 rcases o with ⟨H13,v9_14⟩ | r
 ·try dsimp only at h
  refine WS.lI (z6f (L:=L) (E:=E) (m:=m) (H:=H)) (L.ok hl) 0 ?_
  clear hl
  refine fun a w hs=>bkE ((WS.nxt ?_ a w hs))
  refine WS.sq (WS.sq ?_)
  refine WS.dr [0,1,2,3,4,5,6,7,8,9] [0,1,3,7,15,31,63,127,255,511,63,2047,4095,8191] 14 (fun hcl=>?_)
  refine DA.tK 0 (some 18) (Value.pointer a0) ?_
  obtain ⟨q15,hx,hq15⟩:=bind_some h
  subst hx
  have h:=hq15
  refine DA.tK 1 (some 19) (Value.pointer (some q15)) (DA.tK 2 (some 20) (Value.pointer (some (Addr.add q15 3))) ?_)
  obtain ⟨x16,hx,h⟩:=bind_some h
  refine DA.tD 3 (some 21) (Value.int .i64 x16) (Abs.det_load (t:=23) (x:=.tmp 20) (a:=(Addr.add q15 3)) (by kernel_rfl) (by kernel_rfl) (by kernel_rfl) (by kernel_rfl) (z1 hx z5)) (DA.tK 4 (some 22) (Value.bool (!decide (x16=0))) (DA.tK 5 (some 23) (Value.bool (!decide (x16=0))) ?_))
  rcases z0 h with ⟨hp,h⟩ | ⟨hp,h⟩
  ·refine DA.fx 23 false (zj hp) (DA.tK 6 (some 24) (Value.pointer (some q15)) (DA.tK 7 (some 25) (Value.pointer (some q15)) (DA.tK 8 (some 26) (Value.pointer (some (Addr.add q15 2))) ?_)))
   obtain ⟨x17,hx,h⟩:=bind_some h
   refine DA.tD 9 (some 27) (Value.map x17) (Abs.det_load (t:=32) (x:=.tmp 26) (a:=(Addr.add q15 2)) (by kernel_rfl) (by kernel_rfl) (by kernel_rfl) (by kernel_rfl) (z1 hx z6z)) ?_
   obtain ⟨⟨x18,H19⟩,hx,h⟩:=bind_some h
   try dsimp only at h
   refine DA.on 10 (DA.aCj 10 (some 28) false (v:=(Value.string x18)) 51 #[(Value.pointer (some p1))] (zy hx) ?_)
   obtain ⟨x20,hx,h⟩:=bind_some h
   refine DA.on 11 (DA.aH (H':=H19) 11 (some 29) (Value.int .i64 x20) (Abs.run_look (t:=32) (x:=.tmp 27) (y:=.tmp 28) (mm:=x17) (k:=(Value.string x18)) (by kernel_rfl) (by kernel_rfl) (by kernel_rfl) (by kernel_rfl) (lk1_eq hx z5)) (DA.tP 12 (some 30) (Value.bool (decide (x20 > 0))) (DA.tP 13 (some 31) (Value.bool (decide (x20 > 0))) (DA.dn (WS.nxt ?_)))))
   rcases z0 h with ⟨hp,h⟩ | ⟨hp,h⟩
   ·refine WS.fx 31 true (decide_eq_true hp) (WS.cT ?_)
    cases h
   ·refine WS.fx 31 false (decide_eq_false hp) (WS.cF ?_)
    cases h
  ·refine DA.fx 23 true (ze hp) ?_
   cases h
 ·try dsimp only at h
  refine WS.lR (z6f (L:=L) (E:=E) (m:=m) (H:=H)) (L.ok hl) 0 ?_
  cases h
  exact fun a w hq=>bkR (sqR (rtR hq))
noncomputable def B22:Code:=(Tryz.f22.body).getD .skip
def zbn:AH→Value
 | _=>(Value.tuple #[])
def zcg (_:AH):AH→AH:=fun r=>r
noncomputable def z2i (L:LC):Nat→FuncId→Array Value→AH→Option (Value×AH) :=
 (orO (orF 17 (dcC (dcI .i64) dcN) fun m H (a0,_)=>(z53 L m H a0).map fun r=>(zc4 r,zd4 H r))
  (orO (orF 19 (dcC dcP (dcC (dcI .i64) dcN)) fun m H (a0,(a1,_))=>(z20 L m H a0 a1).map fun r=>(z4c r,z4x H r))
  (orO (orF 26 (dcC dcP (dcC (dcI .i64) (dcC dcSl dcN))) fun m H (a0,(a1,(a2,_)))=>(z6p L m H a0 a1 a2).map fun r=>(z77 r,z8e H r))
  (orO (orF 27 (dcC dcP (dcC dcSl dcN)) fun m H (a0,(a1,_))=>(z6r L m H a0 a1).map fun r=>(z3u r,z4e H r))
  (orO (orF 51 (dcC dcP dcN) fun m H (a0,_)=>(zw L m H a0).map fun r=>(z3w r,z4o H r))
  (orO (orF 63 (dcC dcP (dcC dcS dcN)) fun m H (a0,(a1,_))=>(zh L m H a0 a1).map fun r=>(z2l r,z30 H r))
  orN))))))
noncomputable def z7a (L:LC) (m:Nat) (H:AH) (a0:Option Addr):Option AH :=
 byRun Tryz.prog 148 (z2i L) m 22 #[(Value.pointer a0)] H (dcT dcN) fun _ H2=>H2
theorem z9j {L:LC}:OrOK Tryz.prog (NE.plain 148) (z2i L):=by
 unfold z2i
 refine orO_ok (orF_ok fun m H ⟨a0,_⟩ v H' h=>by
  obtain ⟨r,h1,rfl,rfl⟩:=z3p h
  exact z7n h1) ?_
 refine orO_ok (orF_ok fun m H ⟨a0,⟨a1,_⟩⟩ v H' h=>by
  obtain ⟨r,h1,rfl,rfl⟩:=z3p h
  exact z2x h1) ?_
 refine orO_ok (orF_ok fun m H ⟨a0,⟨a1,⟨a2,_⟩⟩⟩ v H' h=>by
  obtain ⟨r,h1,rfl,rfl⟩:=z3p h
  exact zgc h1) ?_
 refine orO_ok (orF_ok fun m H ⟨a0,⟨a1,_⟩⟩ v H' h=>by
  obtain ⟨r,h1,rfl,rfl⟩:=z3p h
  exact zgj h1) ?_
 refine orO_ok (orF_ok fun m H ⟨a0,_⟩ v H' h=>by
  obtain ⟨r,h1,rfl,rfl⟩:=z3p h
  exact zy h1) ?_
 refine orO_ok (orF_ok fun m H ⟨a0,⟨a1,_⟩⟩ v H' h=>by
  obtain ⟨r,h1,rfl,rfl⟩:=z3p h
  exact zq h1) ?_
 exact orN_ok
theorem zcl {L:LC} {m:Nat} {H:AH} {a0:Option Addr} {r:AH} (h:z7a L m H a0=some r) :
  CallS Tryz.prog (NE.plain 148) m 22 #[(Value.pointer a0)] H (zbn r) (zcg H r):=by
 obtain ⟨_,H2,rfl,hc⟩:=zn7 z9j Tryz.func22 (show Tryz.f22.body=some B22 by kernel_rfl) h
 exact hc
noncomputable def B23:Code:=(Tryz.f23.body).getD .skip
def zds:AH→Value
 | _=>(Value.tuple #[])
def ze3 (_:AH):AH→AH:=fun r=>r
noncomputable def z37 (L:LC):Nat→FuncId→Array Value→AH→Option (Value×AH) :=
 (orO (orF 19 (dcC dcP (dcC (dcI .i64) dcN)) fun m H (a0,(a1,_))=>(z20 L m H a0 a1).map fun r=>(z4c r,z4x H r))
  (orO (orF 42 (dcC dcP (dcC (dcI .i64) dcN)) fun m H (a0,(a1,_))=>(z2z L m H a0 a1).map fun r=>(z8l r,z9m H r))
  (orO (orF 57 (dcC (dcG (dcC (dcI .i64) (dcC (dcI .i64) (dcC dcS (dcC dcSl dcN))))) dcN) fun m H ((a0_0,(a0_1,(a0_2,(a0_3,_)))),_)=>(zcy L m H a0_0 a0_1 a0_2 a0_3).map fun r=>(zg1 r,zhr H r))
  orN)))
noncomputable def z9v (L:LC) (m:Nat) (H:AH) (a0:Option Addr) (a1:Option Nat):Option AH :=
 byRun Tryz.prog 148 (z37 L) m 23 #[(Value.pointer a0),(Value.map a1)] H (dcT dcN) fun _ H2=>H2
theorem zb8 {L:LC}:OrOK Tryz.prog (NE.plain 148) (z37 L):=by
 unfold z37
 refine orO_ok (orF_ok fun m H ⟨a0,⟨a1,_⟩⟩ v H' h=>by
  obtain ⟨r,h1,rfl,rfl⟩:=z3p h
  exact z2x h1) ?_
 refine orO_ok (orF_ok fun m H ⟨a0,⟨a1,_⟩⟩ v H' h=>by
  obtain ⟨r,h1,rfl,rfl⟩:=z3p h
  exact z52 h1) ?_
 refine orO_ok (orF_ok fun m H ⟨⟨a0_0,⟨a0_1,⟨a0_2,⟨a0_3,_⟩⟩⟩⟩,_⟩ v H' h=>by
  obtain ⟨r,h1,rfl,rfl⟩:=z3p h
  exact zgx h1) ?_
 exact orN_ok
theorem zen {L:LC} {m:Nat} {H:AH} {a0:Option Addr} {a1:Option Nat} {r:AH} (h:z9v L m H a0 a1=some r) :
  CallS Tryz.prog (NE.plain 148) m 23 #[(Value.pointer a0),(Value.map a1)] H (zds r) (ze3 H r):=by
 obtain ⟨_,H2,rfl,hc⟩:=zn7 zb8 Tryz.func23 (show Tryz.f23.body=some B23 by kernel_rfl) h
 exact hc
end Go.Proofs.YtpcckomdlmpckaaGreatDoor
namespace Go.Proofs.YtpcckomdlmpckaaGreatDoor
open Go Go.Abs
set_option maxRecDepth 100000
noncomputable def B8:Code:=(Tryz.f8.body).getD .skip
def zbw:(Sl3×Int×AH)→Value
 | (r0,r1,_)=>(Value.tuple #[(Sl3.v r0),(Value.int .i64 r1)])
def zcx (_:AH):(Sl3×Int×AH)→AH:=fun r=>r.2.2
noncomputable def z7w (L:LC) (m:Nat) (_p6:Addr) (x12_0 x12_1 x12_2:Sl3) (_q14:Addr) (x15:Sl3):(AH×Int)→Option (Lp (AH×Int) (Sl3×Int×AH)):=fun (H16,v45_17) =>
 if v45_17<(x15.n:Int) then
  Option.bind (idxA 4 x15 v45_17) fun p18 =>
  Option.bind (rd (deI .i64) H16 (Addr.add p18 0)) fun x19_0 =>
  Option.bind (rd (deI .i64) H16 (Addr.add p18 1)) fun x19_1 =>
  Option.bind (rd deS H16 (Addr.add p18 2)) fun x19_2 =>
  Option.bind (rd deSl H16 (Addr.add p18 3)) fun x19_3 =>
  Option.bind (z5k L m H16 x12_0 x12_1 x12_2 x19_0 x19_1 x19_2 x19_3) fun (_,x21,H22) =>
  if x21=true then
   none
  else
   some (.next (H22,(IntKind.i64.wrap (v45_17+1))))
 else
  some (.brk (H16,v45_17))
def zgy (_L:LC) (_m:Nat) (p6:Addr) (x12_0 x12_1 x12_2:Sl3) (q14:Addr) (x15:Sl3):(AH×Int)→KN×Lcs:=fun (_,v45_17)=>([kI 45 v45_17,kP 6 q14,kL 8 0 0,kL 10 1 0,kS 43 x15,kI 44 (x15.n:Int)],[some (83,[(Value.pointer (some p6))]),some (30,[(Sl3.v x12_0),(Sl3.v x12_1),(Sl3.v x12_2)])])
noncomputable def z7l (L:LC) (m:Nat) (H:AH) (a0:Option Addr) (a1:Sl3):Option (Sl3×Int×AH) :=
 Option.bind (z44 L m H a0 a1) fun (x1,x2,H3) =>
 if x2=0 then
  Option.bind (newM H3) fun (p4,H5) =>
  Option.bind (newB 85 [(Value.pointer x1),(Sl3.v Sl3.nil),(Value.map (some p4)),(Value.int .i64 0)] H5) fun (p6,H7) =>
  Option.bind (z3s L m H7 (some p6)) fun (x8,H9) =>
  Option.bind (z7a L m H9 (some p6)) fun H10 =>
  Option.bind (z9v L m H10 (some p6) x8) fun H11 =>
  Option.bind (z5i L m H11 a0) fun (x12_0,x12_1,x12_2,H13) =>
  Option.bind x1 fun q14 =>
  Option.bind (rd deSl H13 (Addr.add q14 3)) fun x15 =>
  Option.bind (L.run (z7w L m p6 x12_0 x12_1 x12_2 q14 x15) (H13,0)) fun o=>match o with
  | .inl (H23,_) =>
   Option.bind (rd (deI .i64) H23 (Addr.add p6 3)) fun x25 =>
   if x25=0 then
    Option.bind (rd deSl H23 (Addr.add p6 1)) fun x26 =>
    some (x26,0,H23)
   else
    none
  | .inr r=>some r
 else
  some (Sl3.nil,x2,H3)
theorem z9u {E H L m p6 x12_0 x12_1 x12_2 q14 x15} :LoopF Tryz.prog (NE.plain 148) m E Tryz.f8 ((cfst (csnd (cfst (csnd (csnd (csnd (csnd (csnd (csnd (csnd (csnd B8)))))))))))) (zgy L m p6 x12_0 x12_1 x12_2 q14 x15) (fun s=>s.1) 0 zbw (zcx H) (z7w L m p6 x12_0 x12_1 x12_2 q14 x15):=by
 rintro ⟨H16,v45_17⟩ o h
 unfold z7w at h
 try dsimp only at h
 refine WS.sq (WS.rg (RS.mS 1 [kB 46 (decide (v45_17<(x15.n:Int)))] (RS.dn (WS.nxt (WS.sq ?_)))))
 rcases z0 h with ⟨hp,h⟩ | ⟨hp,h⟩
 ·refine WS.fx 46 true (decide_eq_true hp) (WS.cT (WS.sk (WS.nxt (WS.sq (WS.bk 1 (WS.sq (WS.rg ?_)))))))
  obtain ⟨p18,hx,h⟩:=bind_some h
  refine RS.ix 47 36 57 (.tmp 43) (.tmp 45) hx ?_
  obtain ⟨x19_0,hx0,h⟩:=bind_some h
  obtain ⟨x19_1,hx1,h⟩:=bind_some h
  obtain ⟨x19_2,hx2,h⟩:=bind_some h
  obtain ⟨x19_3,hx3,h⟩:=bind_some h
  refine RS.la 48 57 (.tmp 47) 4 (z2 (z1 hx0 z5) (z2 (z1 hx1 z5) (z2 (z1 hx2 z9) (z2 (z1 hx3 z3) zd)))) (RS.mL 2 [kL 12 2 0] ([some (83,[(Value.pointer (some p6))]),some (30,[(Sl3.v x12_0),(Sl3.v x12_1),(Sl3.v x12_2)]),some (57,[(Value.int .i64 x19_0),(Value.int .i64 x19_1),(Value.string x19_2),(Sl3.v x19_3)])]) (RS.dn (WS.nxt (WS.sq (WS.rg (RS.mS 2 [kA 51 #[(Value.int .i64 x19_0),(Value.int .i64 x19_1),(Value.string x19_2),(Sl3.v x19_3)],kA 50 #[(Sl3.v x12_0),(Sl3.v x12_1),(Sl3.v x12_2)]] ?_))))))
  obtain ⟨⟨x20,x21,H22⟩,hx,h⟩:=bind_some h
  try dsimp only at h
  refine RS.cl (some 52) (v:=(Value.tuple #[(Value.string x20),(Value.bool x21)])) 16 #[(Value.agg #[(Sl3.v x12_0),(Sl3.v x12_1),(Sl3.v x12_2)]),(Value.agg #[(Value.int .i64 x19_0),(Value.int .i64 x19_1),(Value.string x19_2),(Sl3.v x19_3)])] (zav hx) (RS.mL 6 [kB 14 x21,kL 13 3 0,kB 54 x21,kT 53 x20,(49,.val (Value.tuple #[(Value.string x20),(Value.bool x21)]))] ([some (83,[(Value.pointer (some p6))]),some (30,[(Sl3.v x12_0),(Sl3.v x12_1),(Sl3.v x12_2)]),some (57,[(Value.int .i64 x19_0),(Value.int .i64 x19_1),(Value.string x19_2),(Sl3.v x19_3)]),some (9,[(Value.string x20)])]) (RS.dn (WS.nxt (WS.sq (WS.sq (WS.rg (RS.mS 2 [kB 56 (!x21),kB 55 x21] (RS.dn (WS.nxt ?_)))))))))
  rcases z0 h with ⟨hp,h⟩ | ⟨hp,h⟩
  ·refine WS.fx 56 false (nb_not hp) (WS.cF ?_)
   cases h
  ·refine WS.fx 56 true (zi hp) (WS.cT (WS.ex 1 ?_))
   refine fun a w hs=>sqE (bkE ((WS.nxt ?_ a w hs)))
   refine WS.rg (RS.mS 2 [kI 45 (IntKind.i64.wrap (v45_17+1)),kI 98 (IntKind.i64.wrap (v45_17+1))] (RS.dn ?_))
   cases h
   exact fun a w hs=>lsN rfl (hs.sb 2)
 ·refine WS.fx 46 false (decide_eq_false hp) (WS.cF (WS.ex 0 ?_))
  cases h
  exact fun a w hs=>sqE (lsB rfl (hs.sb 2))
theorem zcv {L:LC} {m:Nat} {H:AH} {a0:Option Addr} {a1:Sl3} {r:(Sl3×Int×AH)} (h:z7l L m H a0 a1=some r) :
  CallS Tryz.prog (NE.plain 148) m 8 #[(Value.pointer a0),(Sl3.v a1)] H (zbw r) (zcx H r):=by
 refine CallS.mk (args:=[(Value.pointer a0),(Sl3.v a1)]) Tryz.func8 (B:=B8) (by kernel_rfl) (fun E _=>?_)
 unfold z7l at h
 refine WS.sq (WS.rg (RS.mS 2 [kI 5 0,kS 4 Sl3.nil] (RS.dn (WS.nxt (WS.sq (WS.rg (RS.mS 2 [kS 20 a1,(19,.val (Value.pointer a0))] ?_)))))))
 obtain ⟨⟨x1,x2,H3⟩,hx,h⟩:=bind_some h
 try dsimp only at h
 refine RS.cl (some 21) (v:=(Value.tuple #[(Value.pointer x1),(Value.int .i64 x2)])) 12 #[(Value.pointer a0),(Sl3.v a1)] (z5h hx) (RS.mS 5 [kI 7 x2,(6,.val (Value.pointer x1)),kI 23 x2,(22,.val (Value.pointer x1)),(18,.val (Value.tuple #[(Value.pointer x1),(Value.int .i64 x2)]))] (RS.dn (WS.nxt (WS.sq (WS.sq (WS.rg (RS.mS 2 [kB 25 (!decide (x2=0)),kI 24 x2] (RS.dn (WS.nxt ?_)))))))))
 rcases z0 h with ⟨hp,h⟩ | ⟨hp,h⟩
 ·refine WS.fx 25 false (zj hp) (WS.cF (WS.sk (WS.nxt (WS.sq (WS.rg (RS.mS 1 [(27,.val (Value.pointer x1))] ?_))))))
  obtain ⟨⟨p4,H5⟩,hx,h⟩:=bind_some h
  try dsimp only at h
  refine RS.o (H':=H5) (some 28) (Value.map (some p4)) (Abs.run_newM (by kernel_rfl) hx) (RS.mS 1 [kA 29 #[(Value.pointer x1),(Sl3.v Sl3.nil),(Value.map (some p4)),(Value.int .i64 0)]] ?_)
  obtain ⟨⟨p6,H7⟩,hx,h⟩:=bind_some h
  try dsimp only at h
  refine RS.o (H':=H7) (some 30) (Value.pointer (some p6)) (Abs.run_newB (by kernel_rfl) hx) (RS.mL 2 [kL 8 0 0] ([some (83,[(Value.pointer (some p6))])]) (RS.dn (WS.nxt (WS.sq (WS.rg (RS.mS 1 [kP 31 p6] ?_))))))
  obtain ⟨⟨x8,H9⟩,hx,h⟩:=bind_some h
  try dsimp only at h
  refine RS.cl (some 32) (v:=(Value.map x8)) 21 #[(Value.pointer (some p6))] (zcf hx) (RS.mS 1 [(9,.val (Value.map x8))] (RS.dn (WS.nxt (WS.sq (WS.rg (RS.mS 1 [kP 33 p6] ?_))))))
  obtain ⟨H10,hx,h⟩:=bind_some h
  refine RS.cl (some 34) (v:=(Value.tuple #[])) 22 #[(Value.pointer (some p6))] (zcl hx) (RS.dn (WS.nxt (WS.sq (WS.rg (RS.mS 2 [(36,.val (Value.map x8)),kP 35 p6] ?_)))))
  obtain ⟨H11,hx,h⟩:=bind_some h
  refine RS.cl (some 37) (v:=(Value.tuple #[])) 23 #[(Value.pointer (some p6)),(Value.map x8)] (zen hx) (RS.dn (WS.nxt (WS.sq (WS.rg (RS.mS 1 [(38,.val (Value.pointer a0))] ?_)))))
  obtain ⟨⟨x12_0,x12_1,x12_2,H13⟩,hx,h⟩:=bind_some h
  try dsimp only at h
  refine RS.cl (some 39) (v:=(Value.agg #[(Sl3.v x12_0),(Sl3.v x12_1),(Sl3.v x12_2)])) 14 #[(Value.pointer a0)] (zay hx) (RS.mL 2 [kL 10 1 0] ([some (83,[(Value.pointer (some p6))]),some (30,[(Sl3.v x12_0),(Sl3.v x12_1),(Sl3.v x12_2)])]) (RS.dn (WS.nxt (WS.sq (WS.sq (WS.rg (RS.mS 1 [(40,.val (Value.pointer x1))] ?_)))))))
  obtain ⟨q14,hx,hq14⟩:=bind_some h
  subst hx
  have h:=hq14
  refine RS.mS 2 [(42,.val (Value.pointer (some (Addr.add q14 3)))),kP 41 q14] ?_
  obtain ⟨x15,hx,h⟩:=bind_some h
  refine RS.ld 43 36 (.tmp 42) (z1 hx z3) (RS.mS 2 [kI 45 0,kI 44 (x15.n:Int)] (RS.dn (WS.nxt (WS.bk 0 ?_))))
  obtain ⟨o,hl,h⟩:=bind_some h
  rcases o with ⟨H23,v45_24⟩ | r
  ·try dsimp only at h
   refine WS.lI (z9u (L:=L) (E:=E) (m:=m) (H:=H)) (L.ok hl) 2 ?_
   clear hl
   refine fun a w hs=>bkE ((WS.nxt ?_ a w hs))
   refine WS.sq (WS.sq (WS.rg (RS.mS 3 [(101,.val (Value.pointer (some (Addr.add p6 3)))),kP 100 p6,kP 99 p6] ?_)))
   obtain ⟨x25,hx,h⟩:=bind_some h
   refine RS.ld 102 23 (.tmp 101) (z1 hx z5) (RS.mS 1 [kB 103 (!decide (x25=0))] (RS.dn (WS.nxt ?_)))
   rcases z0 h with ⟨hp,h⟩ | ⟨hp,h⟩
   ·refine WS.fx 103 false (zj hp) (WS.cF (WS.sk (WS.nxt (WS.sq (WS.rg (RS.mS 3 [(110,.val (Value.pointer (some (Addr.add p6 1)))),kP 109 p6,kP 108 p6] ?_))))))
    obtain ⟨x26,hx,h⟩:=bind_some h
    refine RS.ld 111 44 (.tmp 110) (z1 hx z3) (RS.mS 2 [kI 5 0,kS 4 x26] (RS.dn (WS.nxt (WS.rt ?_))))
    cases h
    exact fun a w hs=>rtR (rS hs)
   ·refine WS.fx 103 true (ze hp) (WS.cT ?_)
    cases h
  ·try dsimp only at h
   refine WS.lR (z9u (L:=L) (E:=E) (m:=m) (H:=H)) (L.ok hl) 2 ?_
   cases h
   exact fun a w hq=>bkR (sqR (rtR hq))
 ·refine WS.fx 25 true (ze hp) (WS.cT (WS.sq (WS.rg (RS.mS 3 [kI 5 x2,kS 4 Sl3.nil,kI 26 x2] (RS.dn (WS.nxt (WS.rt ?_)))))))
  cases h
  exact fun a w hs=>sqR (rtR (rS hs))
noncomputable def B9:Code:=(Tryz.f9.body).getD .skip
def zkn:(Bool×AH)→Value
 | (r0,_)=>(Value.bool r0)
def zl5 (_:AH):(Bool×AH)→AH:=fun r=>r.2
noncomputable def zda (L:LC) (m:Nat) (H:AH):Option (Bool×AH) :=
 Option.bind (newR 57 2 #[(Value.int .i64 2),(Value.int .i64 0),(Value.string (⟨#[]⟩:ByteArray)),(Sl3.v Sl3.nil),(Value.int .i64 2),(Value.int .i64 0),(Value.string (⟨#[]⟩:ByteArray)),(Sl3.v Sl3.nil)] H) fun (s1,H2) =>
 Option.bind (newR 66 2 #[(Value.string (⟨#[97]⟩:ByteArray)),(Sl3.v Sl3.nil),(Value.int .i64 4),(Value.int .i64 0),(Value.string (⟨#[]⟩:ByteArray)),(Sl3.v s1),(Value.string (⟨#[120]⟩:ByteArray)),(Sl3.v Sl3.nil),(Value.int .i64 2),(Value.int .i64 0),(Value.string (⟨#[]⟩:ByteArray)),(Sl3.v Sl3.nil)] H2) fun (s3,H4) =>
 Option.bind (zf1 L m H4 Sl3.nil Sl3.nil s3) fun (x5,x6,H7) =>
 match x5 with
 | none =>
  none
 | some q8 =>
  if x6=0 then
   Option.bind (z3j L m H7 (some q8) 11 (⟨#[97]⟩:ByteArray) false Sl3.nil 0 Sl3.nil 0 0 (⟨#[]⟩:ByteArray) Sl3.nil Sl3.nil Sl3.nil) fun (x9,_,H11) =>
   Option.bind (z3j L m H11 (some q8) 11 (⟨#[120]⟩:ByteArray) false Sl3.nil 0 Sl3.nil 0 0 (⟨#[]⟩:ByteArray) Sl3.nil Sl3.nil Sl3.nil) fun (x12,_,H14) =>
   Option.bind (newR 3 3 #[(Value.int .i64 x9),(Value.int .i64 x12),(Value.int .i64 x12)] H14) fun (s15,H16) =>
   Option.bind (z4r L m H16 (some q8) 33 s15) fun (x17,_,H19) =>
   Option.bind (newR 3 1 #[(Value.int .i64 x17)] H19) fun (s20,H21) =>
   Option.bind (z7l L m H21 (some q8) s20) fun (x22,x23,H24) =>
   if x23=0 then
    if (x22.n:Int)=1 then
     Option.bind (idxA 1 x22 0) fun p25 =>
     Option.bind (rd deSl H24 p25) fun x26 =>
     if (x26.n:Int)=1 then
      Option.bind (idxA 1 x22 0) fun p27 =>
      Option.bind (rd deSl H24 p27) fun x28 =>
      Option.bind (idxA 1 x28 0) fun p29 =>
      Option.bind (rd (deI .i64) H24 p29) fun x30 =>
      Option.bind (z2y L m H24 (some q8) x30) fun (x31,x32,H33) =>
      if x32=0 then
       some ((x31.toList == (⟨#[40,61,32,40,115,101,108,101,99,116,32,40,115,116,111,114,101,32,97,32,120,32,120,41,32,120,41,32,120,41]⟩:ByteArray).toList),H33)
      else
       none
     else
      none
    else
     none
   else
    none
  else
   none
theorem zkr {L:LC} {m:Nat} {H:AH} {r:(Bool×AH)} (h:zda L m H=some r) :
  CallS Tryz.prog (NE.plain 148) m 9 #[] H (zkn r) (zl5 H r):=by
 refine CallS.mk (args:=[]) Tryz.func9 (B:=B9) (by kernel_rfl) (fun E _=>?_)
 unfold zda at h
 refine WS.sq (WS.rg (RS.mS 1 [kB 0 false] (RS.dn (WS.nxt (WS.sq (WS.rg (RS.mL 3 [kL 1 0 0,kA 14 #[(Value.int .i64 2),(Value.int .i64 0),(Value.string (⟨#[]⟩:ByteArray)),(Sl3.v Sl3.nil)]] ([some (57,[(Value.int .i64 2),(Value.int .i64 0),(Value.string (⟨#[]⟩:ByteArray)),(Sl3.v Sl3.nil)])]) (RS.dn (WS.nxt ?_)))))))))
 refine WS.sq (WS.rg (RS.mS 2 [kA 17 #[(Value.int .i64 2),(Value.int .i64 0),(Value.string (⟨#[]⟩:ByteArray)),(Sl3.v Sl3.nil)],kA 16 #[(Value.int .i64 2),(Value.int .i64 0),(Value.string (⟨#[]⟩:ByteArray)),(Sl3.v Sl3.nil)]] ?_))
 obtain ⟨⟨s1,H2⟩,hx,h⟩:=bind_some h
 try dsimp only at h
 refine RS.o (H':=H2) (some 18) (Sl3.v s1) (Abs.run_newR (by kernel_rfl) (by kernel_rfl) hx) (RS.mS 4 [kA 22 #[(Value.string (⟨#[120]⟩:ByteArray)),(Sl3.v Sl3.nil),(Value.int .i64 2),(Value.int .i64 0),(Value.string (⟨#[]⟩:ByteArray)),(Sl3.v Sl3.nil)],kA 21 #[(Value.int .i64 2),(Value.int .i64 0),(Value.string (⟨#[]⟩:ByteArray)),(Sl3.v Sl3.nil)],kA 20 #[(Value.string (⟨#[97]⟩:ByteArray)),(Sl3.v Sl3.nil),(Value.int .i64 4),(Value.int .i64 0),(Value.string (⟨#[]⟩:ByteArray)),(Sl3.v s1)],kA 19 #[(Value.int .i64 4),(Value.int .i64 0),(Value.string (⟨#[]⟩:ByteArray)),(Sl3.v s1)]] ?_)
 obtain ⟨⟨s3,H4⟩,hx,h⟩:=bind_some h
 try dsimp only at h
 refine RS.o (H':=H4) (some 23) (Sl3.v s3) (Abs.run_newR (by kernel_rfl) (by kernel_rfl) hx) (RS.mS 1 [kA 24 #[(Sl3.v Sl3.nil),(Sl3.v Sl3.nil),(Sl3.v s3)]] ?_)
 obtain ⟨⟨x5,x6,H7⟩,hx,h⟩:=bind_some h
 try dsimp only at h
 refine RS.cl (some 25) (v:=(Value.tuple #[(Value.pointer x5),(Value.int .i64 x6)])) 4 #[(Value.agg #[(Sl3.v Sl3.nil),(Sl3.v Sl3.nil),(Sl3.v s3)])] (zis hx) (RS.mS 5 [kI 3 x6,(2,.val (Value.pointer x5)),kI 27 x6,(26,.val (Value.pointer x5)),(15,.val (Value.tuple #[(Value.pointer x5),(Value.int .i64 x6)]))] (RS.dn (WS.nxt (WS.sq (WS.sq (WS.rg (RS.mS 1 [(28,.val (Value.pointer x5))] ?_)))))))
 rcases x5 with _ | q8
 ·try dsimp only at h
  cases h
 ·try dsimp only at h
  refine RS.mS 5 [kB 33 (!decide (x6=0)),kB 32 (!decide (x6=0)),kI 31 x6,kB 30 false,kB 29 false] (RS.dn (WS.nxt ?_))
  rcases z0 h with ⟨hp,h⟩ | ⟨hp,h⟩
  ·refine WS.fx 33 false (zj hp) (WS.cF (WS.sk (WS.nxt (WS.sq (WS.rg (RS.mS 2 [kA 36 #[(Value.int .i64 11),(Value.string (⟨#[97]⟩:ByteArray)),(Value.bool false),(Sl3.v Sl3.nil),(Value.int .i64 0),(Sl3.v Sl3.nil),(Value.int .i64 0),(Value.int .i64 0),(Value.string (⟨#[]⟩:ByteArray)),(Sl3.v Sl3.nil),(Sl3.v Sl3.nil),(Sl3.v Sl3.nil)],kP 35 q8] ?_))))))
   obtain ⟨⟨x9,x10,H11⟩,hx,h⟩:=bind_some h
   try dsimp only at h
   refine RS.cl (some 37) (v:=(Value.tuple #[(Value.int .i64 x9),(Value.int .i64 x10)])) 20 #[(Value.pointer (some q8)),(Value.agg #[(Value.int .i64 11),(Value.string (⟨#[97]⟩:ByteArray)),(Value.bool false),(Sl3.v Sl3.nil),(Value.int .i64 0),(Sl3.v Sl3.nil),(Value.int .i64 0),(Value.int .i64 0),(Value.string (⟨#[]⟩:ByteArray)),(Sl3.v Sl3.nil),(Sl3.v Sl3.nil),(Sl3.v Sl3.nil)])] (z5x hx) (RS.mS 5 [kI 5 x10,kI 4 x9,kI 39 x10,kI 38 x9,(34,.val (Value.tuple #[(Value.int .i64 x9),(Value.int .i64 x10)]))] (RS.dn (WS.nxt (WS.sq (WS.rg (RS.mS 2 [kA 42 #[(Value.int .i64 11),(Value.string (⟨#[120]⟩:ByteArray)),(Value.bool false),(Sl3.v Sl3.nil),(Value.int .i64 0),(Sl3.v Sl3.nil),(Value.int .i64 0),(Value.int .i64 0),(Value.string (⟨#[]⟩:ByteArray)),(Sl3.v Sl3.nil),(Sl3.v Sl3.nil),(Sl3.v Sl3.nil)],kP 41 q8] ?_))))))
   obtain ⟨⟨x12,x13,H14⟩,hx,h⟩:=bind_some h
   try dsimp only at h
   refine RS.cl (some 43) (v:=(Value.tuple #[(Value.int .i64 x12),(Value.int .i64 x13)])) 20 #[(Value.pointer (some q8)),(Value.agg #[(Value.int .i64 11),(Value.string (⟨#[120]⟩:ByteArray)),(Value.bool false),(Sl3.v Sl3.nil),(Value.int .i64 0),(Sl3.v Sl3.nil),(Value.int .i64 0),(Value.int .i64 0),(Value.string (⟨#[]⟩:ByteArray)),(Sl3.v Sl3.nil),(Sl3.v Sl3.nil),(Sl3.v Sl3.nil)])] (z5x hx) (RS.mS 5 [kI 7 x13,kI 6 x12,kI 45 x13,kI 44 x12,(40,.val (Value.tuple #[(Value.int .i64 x12),(Value.int .i64 x13)]))] (RS.dn (WS.nxt (WS.sq (WS.rg (RS.mS 4 [kI 50 x12,kI 49 x12,kI 48 x9,kP 47 q8] ?_))))))
   obtain ⟨⟨s15,H16⟩,hx,h⟩:=bind_some h
   try dsimp only at h
   refine RS.o (H':=H16) (some 51) (Sl3.v s15) (Abs.run_newR (by kernel_rfl) (by kernel_rfl) hx) ?_
   obtain ⟨⟨x17,x18,H19⟩,hx,h⟩:=bind_some h
   try dsimp only at h
   refine RS.cl (some 52) (v:=(Value.tuple #[(Value.int .i64 x17),(Value.int .i64 x18)])) 28 #[(Value.pointer (some q8)),(Value.int .i64 33),(Sl3.v s15)] (z9f hx) (RS.mS 5 [kI 9 x18,kI 8 x17,kI 54 x18,kI 53 x17,(46,.val (Value.tuple #[(Value.int .i64 x17),(Value.int .i64 x18)]))] (RS.dn (WS.nxt (WS.sq (WS.rg (RS.mS 2 [kI 57 x17,kP 56 q8] ?_))))))
   obtain ⟨⟨s20,H21⟩,hx,h⟩:=bind_some h
   try dsimp only at h
   refine RS.o (H':=H21) (some 58) (Sl3.v s20) (Abs.run_newR (by kernel_rfl) (by kernel_rfl) hx) ?_
   obtain ⟨⟨x22,x23,H24⟩,hx,h⟩:=bind_some h
   try dsimp only at h
   refine RS.cl (some 59) (v:=(Value.tuple #[(Sl3.v x22),(Value.int .i64 x23)])) 8 #[(Value.pointer (some q8)),(Sl3.v s20)] (zcv hx) (RS.mS 5 [kI 11 x23,kS 10 x22,kI 61 x23,kS 60 x22,(55,.val (Value.tuple #[(Sl3.v x22),(Value.int .i64 x23)]))] (RS.dn (WS.nxt (WS.sq (WS.sq (WS.rg (RS.mS 3 [kB 64 (!decide (x23=0)),kB 63 (!decide (x23=0)),kI 62 x23] ?_)))))))
   rcases z0 h with ⟨hp,h⟩ | ⟨hp,h⟩
   ·refine RS.fx 64 false (zj hp) (RS.mS 5 [kB 69 (!decide ((x22.n:Int)=1)),kB 68 (!decide ((x22.n:Int)=1)),kB 67 (!decide ((x22.n:Int)=1)),kI 66 (x22.n:Int),kS 65 x22] ?_)
    rcases z0 h with ⟨hp,h⟩ | ⟨hp,h⟩
    ·refine RS.fx 69 false (zj hp) (RS.mS 1 [kS 70 x22] ?_)
     obtain ⟨p25,hx,h⟩:=bind_some h
     refine RS.ix 71 44 41 (.tmp 70) (.const (Value.int .i64 0)) hx ?_
     obtain ⟨x26,hx,h⟩:=bind_some h
     refine RS.ld 72 41 (.tmp 71) (z1 hx z3) (RS.mS 3 [kB 75 (!decide ((x26.n:Int)=1)),kB 74 (!decide ((x26.n:Int)=1)),kI 73 (x26.n:Int)] (RS.dn (WS.nxt ?_)))
     rcases z0 h with ⟨hp,h⟩ | ⟨hp,h⟩
     ·refine WS.fx 75 false (zj hp) (WS.cF (WS.sk (WS.nxt (WS.sq (WS.rg (RS.mS 2 [kS 78 x22,kP 77 q8] ?_))))))
      obtain ⟨p27,hx,h⟩:=bind_some h
      refine RS.ix 79 44 41 (.tmp 78) (.const (Value.int .i64 0)) hx ?_
      obtain ⟨x28,hx,h⟩:=bind_some h
      refine RS.ld 80 41 (.tmp 79) (z1 hx z3) ?_
      obtain ⟨p29,hx,h⟩:=bind_some h
      refine RS.ix 81 41 3 (.tmp 80) (.const (Value.int .i64 0)) hx ?_
      obtain ⟨x30,hx,h⟩:=bind_some h
      refine RS.ld 82 3 (.tmp 81) (z1 hx z5) ?_
      obtain ⟨⟨x31,x32,H33⟩,hx,h⟩:=bind_some h
      try dsimp only at h
      refine RS.cl (some 83) (v:=(Value.tuple #[(Value.string x31),(Value.int .i64 x32)])) 18 #[(Value.pointer (some q8)),(Value.int .i64 x30)] (z57 hx) (RS.mS 5 [kI 13 x32,kT 12 x31,kI 85 x32,kT 84 x31,(76,.val (Value.tuple #[(Value.string x31),(Value.int .i64 x32)]))] (RS.dn (WS.nxt (WS.sq (WS.rg (RS.mS 3 [kB 88 (decide (x32=0)),kB 87 (decide (x32=0)),kI 86 x32] ?_))))))
      rcases z0 h with ⟨hp,h⟩ | ⟨hp,h⟩
      ·refine RS.fx 88 true (decide_eq_true hp) (RS.mS 4 [kB 0 (x31.toList == (⟨#[40,61,32,40,115,101,108,101,99,116,32,40,115,116,111,114,101,32,97,32,120,32,120,41,32,120,41,32,120,41]⟩:ByteArray).toList),kB 91 (x31.toList == (⟨#[40,61,32,40,115,101,108,101,99,116,32,40,115,116,111,114,101,32,97,32,120,32,120,41,32,120,41,32,120,41]⟩:ByteArray).toList),kB 90 (x31.toList == (⟨#[40,61,32,40,115,101,108,101,99,116,32,40,115,116,111,114,101,32,97,32,120,32,120,41,32,120,41,32,120,41]⟩:ByteArray).toList),kT 89 x31] (RS.dn (WS.nxt (WS.rt ?_))))
       cases h
       exact fun a w hs=>rtR (rS hs)
      ·refine RS.fx 88 false (decide_eq_false hp) ?_
       cases h
     ·refine WS.fx 75 true (ze hp) (WS.cT ?_)
      cases h
    ·refine RS.fx 69 true (ze hp) ?_
     cases h
   ·refine RS.fx 64 true (ze hp) ?_
    cases h
  ·refine WS.fx 33 true (ze hp) (WS.cT ?_)
   cases h
noncomputable def B3:Code:=(Tryz.f3.body).getD .skip
def z54:(Bool×AH)→Value
 | (r0,_)=>(Value.bool r0)
def z5m (_:AH):(Bool×AH)→AH:=fun r=>r.2
noncomputable def z2o (L:LC) (m:Nat) (q4:Addr) (s7:Sl3):(AH×Int)→Option (Lp (AH×Int) (Bool×AH)):=fun (H9,v34_10) =>
 if v34_10<(s7.n:Int) then
  Option.bind (idxA 1 s7 v34_10) fun p11 =>
  Option.bind (rd deP H9 p11) fun x12 =>
  Option.bind (newR 3 1 #[anyV] H9) fun (s13,H14) =>
  Option.bind (zbq L m H14 x12 s13) fun (_,x16,H17) =>
  Option.bind (newR 3 1 #[anyV] H17) fun (s18,H19) =>
  Option.bind (z6t L m H19 x12 s18) fun (_,x21,H22) =>
  Option.bind (newR 3 1 #[anyV] H22) fun (s23,H24) =>
  Option.bind (z9b L m H24 x12 (some q4) s23) fun (_,x26,H27) =>
  Option.bind (z9b L m H27 (some q4) x12 Sl3.nil) fun (_,x29,H30) =>
  Option.bind (newR 3 1 #[anyV] H30) fun (s31,H32) =>
  Option.bind (z7l L m H32 x12 s31) fun (_,x34,H35) =>
  if x16=4 then
   if x21=4 then
    if x26=4 then
     if x29=4 then
      if x34=4 then
       some (.next (H35,(IntKind.i64.wrap (v34_10+1))))
      else
       none
     else
      none
    else
     none
   else
    none
  else
   none
 else
  some (.brk (H9,v34_10))
def zag (_L:LC) (_m:Nat) (q4:Addr) (s7:Sl3):(AH×Int)→KN×Lcs:=fun (_,v34_10)=>([kI 34 v34_10,(0,.val anyV),kP 4 q4,kS 32 s7,kI 33 (s7.n:Int)],[])
noncomputable def z28 (L:LC) (m:Nat) (H:AH):Option (Bool×AH) :=
 Option.bind (zf1 L m H Sl3.nil Sl3.nil Sl3.nil) fun (x1,x2,H3) =>
 match x1 with
 | none =>
  none
 | some q4 =>
  if x2=0 then
   Option.bind (newB 34 [(Sl3.v Sl3.nil),(Sl3.v Sl3.nil),(Sl3.v Sl3.nil),(Sl3.v Sl3.nil),(Value.map none)] H3) fun (p5,H6) =>
   Option.bind (newR 22 2 #[(Value.pointer none),(Value.pointer (some p5))] H6) fun (s7,H8) =>
   Option.bind (L.run (z2o L m q4 s7) (H8,0)) fun o=>match o with
   | .inl (H36,_) =>
    Option.bind (zda L m H36) fun (x38,H39) =>
    some (x38,H39)
   | .inr r=>some r
  else
   none
theorem z41 {E H L m q4 s7} :LoopF Tryz.prog (NE.plain 148) m E Tryz.f3 ((cfst (csnd (cfst (csnd (csnd (csnd (csnd B3)))))))) (zag L m q4 s7) (fun s=>s.1) 0 z54 (z5m H) (z2o L m q4 s7):=by
 rintro ⟨H9,v34_10⟩ o h
 unfold z2o at h
 try dsimp only at h
 refine WS.sq (WS.rg (RS.mS 1 [kB 35 (decide (v34_10<(s7.n:Int)))] (RS.dn (WS.nxt (WS.sq ?_)))))
 rcases z0 h with ⟨hp,h⟩ | ⟨hp,h⟩
 ·refine WS.fx 35 true (decide_eq_true hp) (WS.cT (WS.sk (WS.nxt (WS.sq (WS.bk 1 (WS.sq (WS.rg ?_)))))))
  obtain ⟨p11,hx,h⟩:=bind_some h
  refine RS.ix 36 35 22 (.tmp 32) (.tmp 34) hx ?_
  obtain ⟨x12,hx,h⟩:=bind_some h
  refine RS.ld 37 22 (.tmp 36) (z1 hx zr) (RS.mS 1 [(7,.val (Value.pointer x12))] (RS.dn (WS.nxt (WS.sq (WS.rg (RS.mS 2 [(40,.val anyV),(39,.val (Value.pointer x12))] ?_))))))
  obtain ⟨⟨s13,H14⟩,hx,h⟩:=bind_some h
  try dsimp only at h
  refine RS.o (H':=H14) (some 41) (Sl3.v s13) (Abs.run_newR (by kernel_rfl) (by kernel_rfl) hx) ?_
  obtain ⟨⟨x15,x16,H17⟩,hx,h⟩:=bind_some h
  try dsimp only at h
  refine RS.cl (some 42) (v:=(Value.tuple #[(Sl3.v x15),(Value.int .i64 x16)])) 5 #[(Value.pointer x12),(Sl3.v s13)] (zkf hx) (RS.mS 5 [kI 9 x16,kS 8 x15,kI 44 x16,kS 43 x15,(38,.val (Value.tuple #[(Sl3.v x15),(Value.int .i64 x16)]))] (RS.dn (WS.nxt (WS.sq (WS.rg (RS.mS 2 [(47,.val anyV),(46,.val (Value.pointer x12))] ?_))))))
  obtain ⟨⟨s18,H19⟩,hx,h⟩:=bind_some h
  try dsimp only at h
  refine RS.o (H':=H19) (some 48) (Sl3.v s18) (Abs.run_newR (by kernel_rfl) (by kernel_rfl) hx) ?_
  obtain ⟨⟨x20,x21,H22⟩,hx,h⟩:=bind_some h
  try dsimp only at h
  refine RS.cl (some 49) (v:=(Value.tuple #[(Sl3.v x20),(Value.int .i64 x21)])) 6 #[(Value.pointer x12),(Sl3.v s18)] (zgo hx) (RS.mS 5 [kI 11 x21,kS 10 x20,kI 51 x21,kS 50 x20,(45,.val (Value.tuple #[(Sl3.v x20),(Value.int .i64 x21)]))] (RS.dn (WS.nxt (WS.sq (WS.rg (RS.mS 3 [(55,.val anyV),kP 54 q4,(53,.val (Value.pointer x12))] ?_))))))
  obtain ⟨⟨s23,H24⟩,hx,h⟩:=bind_some h
  try dsimp only at h
  refine RS.o (H':=H24) (some 56) (Sl3.v s23) (Abs.run_newR (by kernel_rfl) (by kernel_rfl) hx) ?_
  obtain ⟨⟨x25,x26,H27⟩,hx,h⟩:=bind_some h
  try dsimp only at h
  refine RS.cl (some 57) (v:=(Value.tuple #[(Sl3.v x25),(Value.int .i64 x26)])) 7 #[(Value.pointer x12),(Value.pointer (some q4)),(Sl3.v s23)] (zep hx) (RS.mS 5 [kI 13 x26,kS 12 x25,kI 59 x26,kS 58 x25,(52,.val (Value.tuple #[(Sl3.v x25),(Value.int .i64 x26)]))] (RS.dn (WS.nxt (WS.sq (WS.rg (RS.mS 2 [(62,.val (Value.pointer x12)),kP 61 q4] ?_))))))
  obtain ⟨⟨x28,x29,H30⟩,hx,h⟩:=bind_some h
  try dsimp only at h
  refine RS.cl (some 63) (v:=(Value.tuple #[(Sl3.v x28),(Value.int .i64 x29)])) 7 #[(Value.pointer (some q4)),(Value.pointer x12),(Sl3.v Sl3.nil)] (zep hx) (RS.mS 5 [kI 15 x29,kS 14 x28,kI 65 x29,kS 64 x28,(60,.val (Value.tuple #[(Sl3.v x28),(Value.int .i64 x29)]))] (RS.dn (WS.nxt (WS.sq (WS.rg (RS.mS 2 [(68,.val anyV),(67,.val (Value.pointer x12))] ?_))))))
  obtain ⟨⟨s31,H32⟩,hx,h⟩:=bind_some h
  try dsimp only at h
  refine RS.o (H':=H32) (some 69) (Sl3.v s31) (Abs.run_newR (by kernel_rfl) (by kernel_rfl) hx) ?_
  obtain ⟨⟨x33,x34,H35⟩,hx,h⟩:=bind_some h
  try dsimp only at h
  refine RS.cl (some 70) (v:=(Value.tuple #[(Sl3.v x33),(Value.int .i64 x34)])) 8 #[(Value.pointer x12),(Sl3.v s31)] (zcv hx) (RS.mS 5 [kI 17 x34,kS 16 x33,kI 72 x34,kS 71 x33,(66,.val (Value.tuple #[(Sl3.v x33),(Value.int .i64 x34)]))] (RS.dn (WS.nxt (WS.sq (WS.rg (RS.mS 3 [kB 75 (!decide (x16=4)),kB 74 (!decide (x16=4)),kI 73 x16] ?_))))))
  rcases z0 h with ⟨hp,h⟩ | ⟨hp,h⟩
  ·refine RS.fx 75 false (zj hp) (RS.mS 4 [kB 79 (!decide (x21=4)),kB 78 (!decide (x21=4)),kB 77 (!decide (x21=4)),kI 76 x21] ?_)
   rcases z0 h with ⟨hp,h⟩ | ⟨hp,h⟩
   ·refine RS.fx 79 false (zj hp) (RS.mS 4 [kB 83 (!decide (x26=4)),kB 82 (!decide (x26=4)),kB 81 (!decide (x26=4)),kI 80 x26] ?_)
    rcases z0 h with ⟨hp,h⟩ | ⟨hp,h⟩
    ·refine RS.fx 83 false (zj hp) (RS.mS 4 [kB 87 (!decide (x29=4)),kB 86 (!decide (x29=4)),kB 85 (!decide (x29=4)),kI 84 x29] ?_)
     rcases z0 h with ⟨hp,h⟩ | ⟨hp,h⟩
     ·refine RS.fx 87 false (zj hp) (RS.mS 3 [kB 90 (!decide (x34=4)),kB 89 (!decide (x34=4)),kI 88 x34] (RS.dn (WS.nxt ?_)))
      rcases z0 h with ⟨hp,h⟩ | ⟨hp,h⟩
      ·refine WS.fx 90 false (zj hp) (WS.cF (WS.sk ?_))
       refine fun a w hs=>bkN ((WS.nxt ?_ a w hs))
       refine WS.rg (RS.mS 2 [kI 34 (IntKind.i64.wrap (v34_10+1)),kI 91 (IntKind.i64.wrap (v34_10+1))] (RS.dn ?_))
       cases h
       exact fun a w hs=>lsN rfl (hs.sb 0)
      ·refine WS.fx 90 true (ze hp) (WS.cT ?_)
       cases h
     ·refine RS.fx 87 true (ze hp) ?_
      cases h
    ·refine RS.fx 83 true (ze hp) ?_
     cases h
   ·refine RS.fx 79 true (ze hp) ?_
    cases h
  ·refine RS.fx 75 true (ze hp) ?_
   cases h
 ·refine WS.fx 35 false (decide_eq_false hp) (WS.cF (WS.ex 0 ?_))
  cases h
  exact fun a w hs=>sqE (lsB rfl (hs.sb 0))
theorem zck {L:LC} {m:Nat} {H:AH} {r:(Bool×AH)} (h:z28 L m H=some r) :
  CallS Tryz.prog (NE.plain 148) m 3 #[anyV] H (z54 r) (z5m H r):=by
 refine CallS.mk (args:=[anyV]) Tryz.func3 (B:=B3) (by kernel_rfl) (fun E _=>?_)
 unfold z28 at h
 refine WS.sq (WS.rg (RS.mS 1 [kB 2 false] (RS.dn (WS.nxt (WS.sq (WS.rg (RS.mS 1 [(3,.val (Value.pointer none))] (RS.dn (WS.nxt ?_)))))))))
 refine WS.sq (WS.rg (RS.mS 1 [kA 19 #[(Sl3.v Sl3.nil),(Sl3.v Sl3.nil),(Sl3.v Sl3.nil)]] ?_))
 obtain ⟨⟨x1,x2,H3⟩,hx,h⟩:=bind_some h
 try dsimp only at h
 refine RS.cl (some 20) (v:=(Value.tuple #[(Value.pointer x1),(Value.int .i64 x2)])) 4 #[(Value.agg #[(Sl3.v Sl3.nil),(Sl3.v Sl3.nil),(Sl3.v Sl3.nil)])] (zis hx) (RS.mS 5 [kI 5 x2,(4,.val (Value.pointer x1)),kI 22 x2,(21,.val (Value.pointer x1)),(18,.val (Value.tuple #[(Value.pointer x1),(Value.int .i64 x2)]))] (RS.dn (WS.nxt (WS.sq (WS.sq (WS.rg (RS.mS 1 [(23,.val (Value.pointer x1))] ?_)))))))
 rcases x1 with _ | q4
 ·try dsimp only at h
  cases h
 ·try dsimp only at h
  refine RS.mS 5 [kB 28 (!decide (x2=0)),kB 27 (!decide (x2=0)),kI 26 x2,kB 25 false,kB 24 false] (RS.dn (WS.nxt ?_))
  rcases z0 h with ⟨hp,h⟩ | ⟨hp,h⟩
  ·refine WS.fx 28 false (zj hp) (WS.cF (WS.sk (WS.nxt (WS.sq (WS.sq (WS.rg (RS.mS 2 [kA 30 #[(Sl3.v Sl3.nil),(Sl3.v Sl3.nil),(Sl3.v Sl3.nil),(Sl3.v Sl3.nil),(Value.map none)],(29,.val (Value.pointer none))] ?_)))))))
   obtain ⟨⟨p5,H6⟩,hx,h⟩:=bind_some h
   try dsimp only at h
   refine RS.o (H':=H6) (some 31) (Value.pointer (some p5)) (Abs.run_newB (by kernel_rfl) hx) ?_
   obtain ⟨⟨s7,H8⟩,hx,h⟩:=bind_some h
   try dsimp only at h
   refine RS.o (H':=H8) (some 32) (Sl3.v s7) (Abs.run_newR (by kernel_rfl) (by kernel_rfl) hx) (RS.mS 2 [kI 34 0,kI 33 (s7.n:Int)] (RS.dn (WS.nxt (WS.bk 0 ?_))))
   obtain ⟨o,hl,h⟩:=bind_some h
   rcases o with ⟨H36,v34_37⟩ | r
   ·try dsimp only at h
    refine WS.lI (z41 (L:=L) (E:=E) (m:=m) (H:=H)) (L.ok hl) 0 ?_
    clear hl
    refine fun a w hs=>bkE ((WS.nxt ?_ a w hs))
    refine WS.sq (WS.rg ?_)
    obtain ⟨⟨x38,H39⟩,hx,h⟩:=bind_some h
    try dsimp only at h
    refine RS.cl (some 92) (v:=(Value.bool x38)) 9 #[] (zkr hx) (RS.mS 1 [kB 2 x38] (RS.dn (WS.nxt (WS.rt ?_))))
    cases h
    exact fun a w hs=>rtR (rS hs)
   ·try dsimp only at h
    refine WS.lR (z41 (L:=L) (E:=E) (m:=m) (H:=H)) (L.ok hl) 0 ?_
    cases h
    exact fun a w hq=>bkR (sqR (rtR hq))
  ·refine WS.fx 28 true (ze hp) (WS.cT ?_)
   cases h
end Go.Proofs.YtpcckomdlmpckaaGreatDoor
namespace Go.Proofs.YtpcckomdlmpckaaGreatDoor
open Go Go.Abs
set_option maxRecDepth 100000
theorem own:ownKnob Tryz.prog.godebug=none:=by kernel_rfl
theorem laidOut:laidOutB Tryz.prog=true:=by kernel_rfl
theorem zpc:globalsB Tryz.prog=true:=by kernel_rfl
theorem sane:Sane Tryz.prog (NE.plain 148):=zqu (fun _ _ _ _=>rfl) (by kernel_rfl) (by kernel_rfl) (fun x w=>by kernel_rfl)
theorem zrd (os:Os) (args:Array Value):laidMet Tryz.prog Rows.arraysNobodyRow.laid ((laidW2 Tryz.prog Rows.arraysNobodyRow.laid os).forCall (fun _ _=>0) ⟨#[],args,[]⟩).memory :=
 laidMet_of_run3 8 (by kernel_rfl) (by kernel_rfl) (by kernel_rfl)
def tabs:List Tab:=[(1,282,((zsOf Rows.laid_strings_asciiSpace).map fun z=>Value.int .u8 z).toArray),(5,295,((zsOf Rows.laid_math_bits_deBruijn64tab).map fun z=>Value.int .u8 z).toArray),(4,294,((zsOf Rows.laid_math_bits_deBruijn32tab).map fun z=>Value.int .u8 z).toArray),(0,249,((zsOf Rows.laid_internal_strconv_uint64pow10).map fun z=>Value.int .u64 z).toArray)]
theorem zrt:tabsB Tryz.prog tabs=true:=by kernel_rfl
theorem zr4 (W:World) (hL:laidMet Tryz.prog Rows.arraysNobodyRow.laid W) (hsh:W.ShapedOpen Tryz.prog):∀x∈tabs,∃fr,W.heap[x.1]? = some (.cells x.2.2 x.2.1 fr):=by
 intro x hx
 simp only [tabs,List.mem_cons,List.not_mem_nil,or_false] at hx
 rcases hx with rfl | rfl | rfl | rfl
 ·exact zi9 (name := "strings.asciiSpace") (te:=5) (n:=256) (t:=282) hL (by kernel_rfl) (by kernel_rfl) (by kernel_rfl) (by kernel_rfl) (by kernel_rfl) (by kernel_rfl) (by kernel_rfl) (of_decide_eq_true (by kernel_rfl)) (by kernel_rfl) hsh
 ·exact zi9 (name := "math/bits.deBruijn64tab") (te:=5) (n:=64) (t:=295) hL (by kernel_rfl) (by kernel_rfl) (by kernel_rfl) (by kernel_rfl) (by kernel_rfl) (by kernel_rfl) (by kernel_rfl) (of_decide_eq_true (by kernel_rfl)) (by kernel_rfl) hsh
 ·exact zi9 (name := "math/bits.deBruijn32tab") (te:=5) (n:=32) (t:=294) hL (by kernel_rfl) (by kernel_rfl) (by kernel_rfl) (by kernel_rfl) (by kernel_rfl) (by kernel_rfl) (by kernel_rfl) (of_decide_eq_true (by kernel_rfl)) (by kernel_rfl) hsh
 ·exact zi9 (name := "internal/strconv.uint64pow10") (te:=139) (n:=20) (t:=249) hL (by kernel_rfl) (by kernel_rfl) (by kernel_rfl) (by kernel_rfl) (by kernel_rfl) (by kernel_rfl) (by kernel_rfl) (of_decide_eq_true (by kernel_rfl)) (by kernel_rfl) hsh
end Go.Proofs.YtpcckomdlmpckaaGreatDoor
namespace Go.Proofs.YtpcckomdlmpckaaGreatDoor
open Go Go.Abs
set_option maxRecDepth 100000
noncomputable def lc:LC:=LCn 100000 1000
set_option maxHeartbeats 0 in
theorem zp2:(z28 lc 11 (startH Tryz.prog tabs)).map (·.1)=some true:=by kernel_rfl
end Go.Proofs.YtpcckomdlmpckaaGreatDoor
namespace Go.Proofs.YtpcckomdlmpckaaGreatDoor
open Go Go.Abs
set_option maxRecDepth 100000
theorem znt:∃H',CallS Tryz.prog (NE.plain 148) Tryz.prog.globals.size 3 (Tryz.f3.params.map (anyArg Tryz.prog)) (startH Tryz.prog tabs) (.bool true) H':=by
 have hrun:=zp2
 generalize hq:z28 lc 11 (startH Tryz.prog tabs)=q at hrun
 cases q with
 | none=>cases hrun
 | some r =>
  obtain ⟨b,H'⟩:=r
  simp only [Option.map_some,Option.some.injEq] at hrun
  subst hrun
  refine ⟨H',?_⟩
  have h:=@zck lc 11 (startH Tryz.prog tabs) (true,H') hq
  have e1:Tryz.prog.globals.size=11:=by kernel_rfl
  have e2:Tryz.f3.params.map (anyArg Tryz.prog)=#[anyV]:=by kernel_rfl
  rw [e1,e2]
  exact h
theorem zlu (os:Os) (started:os.Started) (H:Type) (enc:TypeId×Value→H) :
  ReturnsInHanded {} Tryz.checked os 3 .any (fun w args=>(Rows.arraysNobodySpec.pre enc Tryz.prog Tryz.f3 [] false w args∧laidMet Tryz.prog Rows.arraysNobodyRow.laid w)∧sizedMet enc Tryz.prog Tryz.f3 (OpenSpec.ofChange Rows.arraysNobodySpec) false w args)
   (Rows.arraysNobodySpec.post enc Tryz.prog Tryz.f3 false true false false) :=
 zmw (C:=Tryz.checked) (X:=fun w _=>laidMet Tryz.prog Rows.arraysNobodyRow.laid w) own started (by kernel_rfl) Tryz.func3 (by kernel_rfl) sane zpc laidOut
  (by kernel_rfl) rfl (by kernel_rfl)
  (fun ds hds=>by
   have h1:ds.length=1:=hds
   match ds,h1 with
   | [d0],_=>exact ⟨rfl,rfl,rfl⟩)
  zrt (fun _ _ _ hh h=>h.of_heap hh) (fun W _ hL hsh=>zr4 W hL hsh) znt
  (znq (enc:=enc) (C:=Tryz.checked) (os:=os) (X:=fun w _=>laidMet Tryz.prog Rows.arraysNobodyRow.laid w) (laidW2 Tryz.prog Rows.arraysNobodyRow.laid os) #[.int .i64 0] 8 rfl (by kernel_rfl) (by kernel_rfl) (by kernel_rfl) (by kernel_rfl) (by kernel_rfl) (zrd os _))
end Go.Proofs.YtpcckomdlmpckaaGreatDoor
namespace Go.Proofs.YtpcckomdlmpckaaGreatDoor
open Go Go.Abs
set_option maxRecDepth 100000
theorem an {a b:Bool} (h:a=true) (k:b=true):(a&&b)=true:=by rw [h,k]; rfl
theorem jf0:(Rows.arraysNobodyRow.wf (OpenSpec.ofChange Rows.arraysNobodySpec))=true:=by kernel_rfl
theorem jf1:(laidOutB Tryz.pinned.checked.prog)=true:=by kernel_rfl
theorem jf2:(mapsRowed Tryz.pinned.checked.prog)=true:=by kernel_rfl
theorem jf3:(Tryz.f3.params.all (Tryz.pinned.checked.prog.readableRec ·))=true:=by kernel_rfl
theorem jf4:(namedTie Tryz.pinned.checked.prog Rows.arraysNobodyRow.named Rows.arraysNobodySpec.vars)=true:=by kernel_rfl
theorem jf5:((Rows.arraysNobodyRow.stops == []))=true:=by kernel_rfl
theorem jf6:((Tryz.pinned.checked.prog.stops == []))=true:=by kernel_rfl
theorem jf7:((Rows.arraysNobodyRow.knobs == []))=true:=by kernel_rfl
theorem jf8:((Tryz.pinned.checked.prog.stopKnobs == []))=true:=by kernel_rfl
theorem jf9:((Rows.arraysNobodyRow.inPlace == Tryz.pinned.checked.prog.inPlace 3))=true:=by kernel_rfl
theorem jf10:((Rows.arraysNobodyRow.unfollowed == Tryz.pinned.checked.prog.unfollowed 3))=true:=by kernel_rfl
theorem jf11:((Rows.arraysNobodyRow.recurses == Tryz.pinned.checked.prog.recurses 3))=true:=by kernel_rfl
theorem jf12:((Rows.arraysNobodyRow.named == Tryz.pinned.checked.prog.varsNamed 3))=true:=by kernel_rfl
theorem jf13:((Rows.arraysNobodyRow.maps == (Tryz.f3.params.toList++Rows.arraysNobodySpec.plain.varTypes Tryz.pinned.checked.prog).any (Tryz.pinned.checked.prog.mapsRec ·)))=true:=by kernel_rfl
theorem jf14:((Rows.arraysNobodyRow.ifaces == (Tryz.f3.params.toList++Rows.arraysNobodySpec.plain.varTypes Tryz.pinned.checked.prog).any (Tryz.pinned.checked.prog.ifacesRec ·)))=true:=by kernel_rfl
theorem jf15:((Rows.arraysNobodyRow.mapsOut == Tryz.pinned.checked.prog.mapsAmong Tryz.f3.resultTypes.toList))=true:=by kernel_rfl
theorem jf16:((Rows.arraysNobodyRow.loops == (Tryz.f3.params.toList++Rows.arraysNobodySpec.plain.varTypes Tryz.pinned.checked.prog).any (Tryz.pinned.checked.prog.loopsFrom ·)))=true:=by kernel_rfl
theorem jf17:((Rows.arraysNobodyRow.wideKeys == (Tryz.f3.params.toList++Rows.arraysNobodySpec.plain.varTypes Tryz.pinned.checked.prog++Tryz.f3.resultTypes.toList).any (Tryz.pinned.checked.prog.wideKeysFrom ·)))=true:=by kernel_rfl
theorem jf18:(Rows.arraysNobodySpec.vars.all (Tryz.pinned.checked.prog.varReadable ·))=true:=by kernel_rfl
theorem jf19:(Tryz.f3.resultTypes.all (fun t=>Tryz.pinned.checked.prog.readableRec t&&decide (t<Tryz.pinned.checked.prog.types.size)))=true:=by kernel_rfl
theorem jf20:((Rows.arraysNobodyRow.ifacesOut == Tryz.f3.resultTypes.toList.any (Tryz.pinned.checked.prog.ifacesRec ·)))=true:=by kernel_rfl
theorem jf21:((Rows.arraysNobodyRow.loopsOut == Tryz.f3.resultTypes.toList.any (Tryz.pinned.checked.prog.loopsFrom ·)))=true:=by kernel_rfl
theorem jf22:((Rows.arraysNobodyRow.plainKeys == Tryz.pinned.checked.prog.plainKeys))=true:=by kernel_rfl
theorem jf23:(Rows.arraysNobodyRow.shortTexts.isNone)=true:=by kernel_rfl
theorem jf24:(Tryz.pinned.checked.prog.stopsHeard)=true:=by kernel_rfl
theorem jf25:(Tryz.pinned.checked.prog.mayEnter)=true:=by kernel_rfl
theorem jf26:((Rows.arraysNobodyRow.lifted == Tryz.pinned.checked.prog.liftsFinal))=true:=by kernel_rfl
theorem jf27:((Tryz.pinned.checked.prog.make == some Rows.arraysNobodyRow.make))=true:=by kernel_rfl
theorem jf28:((Rows.arraysNobodyRow.kinds == (if Rows.arraysNobodyRow.domain.isEmpty then [] else Tryz.f3.params.toList.map fun t=>match Tryz.pinned.checked.prog.underlying t with | some (.int k)=>some k | _=>none)))=true:=by kernel_rfl
theorem jf29:((Rows.arraysNobodyRow.pinned == Rows.arraysNobodyRow.pinnedBy))=true:=by kernel_rfl
theorem jf30:((Rows.arraysNobodyRow.veiled == (Tryz.f3.params.toList++Rows.arraysNobodySpec.plain.varTypes Tryz.pinned.checked.prog++Tryz.f3.resultTypes.toList).any (Tryz.pinned.checked.prog.veiledRec ·)))=true:=by kernel_rfl
theorem jf31:(Rows.arraysNobodyRow.veiledFits Tryz.pinned.checked.prog Tryz.f3.params.toList (Tryz.f3.params.toList++Rows.arraysNobodySpec.plain.varTypes Tryz.pinned.checked.prog++Tryz.f3.resultTypes.toList))=true:=by kernel_rfl
theorem joined:joinedFacts Tryz.pinned.checked.prog 3 Tryz.f3 Rows.arraysNobodySpec Rows.arraysNobodyRow=true:=by
 unfold joinedFacts
 exact (an (an (an (an (an (an (an (an (an (an (an (an (an (an (an (an (an (an (an (an (an (an (an (an (an (an (an (an (an (an (an jf0 jf1) jf2) jf3) jf4) jf5) jf6) jf7) jf8) jf9) jf10) jf11) jf12) jf13) jf14) jf15) jf16) jf17) jf18) jf19) jf20) jf21) jf22) jf23) jf24) jf25) jf26) jf27) jf28) jf29) jf30) jf31)
theorem zo7:Rows.ArraysNobodySaid :=
 OpenClaim.holds_of_wide 3 Tryz.f3 rfl rfl rfl rfl rfl rfl rfl ⟨rfl,rfl,rfl,rfl,rfl⟩ rfl rfl rfl rfl rfl (by kernel_rfl) Tryz.func3 joined
  (of_decide_eq_true (by kernel_rfl)) (by unfold Func.isWrapper; first | (rw [if_pos (by decide +kernel)]; kernel_rfl) | (rw [if_neg (by decide +kernel)]; exact ⟨rfl,rfl⟩))
  (fun os started H enc _=>zlu os started H enc)
end Go.Proofs.YtpcckomdlmpckaaGreatDoor
namespace Go.Proofs.YtpcckomdlmpckaaGreatDoor
open Go Go.Abs
set_option maxRecDepth 100000
theorem sw0:Tryz.prog.wantsStandIn 3=false:=by kernel_rfl
theorem standIns:∀t∈Tryz.f3.params.toList,Tryz.prog.wantsStandIn t=false:=by
 have hp:Tryz.f3.params.toList=[3]:=by kernel_rfl
 rw [hp]
 intro t ht
 simp only [List.mem_cons,List.not_mem_nil,or_false] at ht
 rcases ht with rfl
 ·exact sw0
theorem named:Tryz.prog.funcNamed "tribunal/tribunallaw20.ArraysNobody"=some 3:=by kernel_rfl
theorem looks:false=Tryz.pinned.checked.prog.looks []:=by kernel_rfl
theorem goesBy:false=Rows.arraysNobodyRow.goesBy Tryz.pinned.checked.prog:=by kernel_rfl
theorem arraysNobody_holds:Rows.ArraysNobodyCardSaid :=
 Claim7.holds_tied_plain_at .later [] _ _ _ _
  zo7 (fun _ h=>by cases h) (by kernel_rfl) (fun _ h=>by cases h) arraysNobody_row_tie rfl ⟨rfl,rfl⟩ (by kernel_rfl) rfl
  (fun f fn hf hfn=>by
   obtain rfl:f=3:=Option.some.inj (named.symm.trans hf) |>.symm
   obtain rfl:fn=Tryz.f3:=(Option.some.inj (Tryz.func3.symm.trans hfn)).symm
   exact ⟨looks,fun j t ht=>standIns t (by simpa using Array.mem_of_getElem? ht)⟩)
  goesBy
#print axioms arraysNobody_holds
end Go.Proofs.YtpcckomdlmpckaaGreatDoor
