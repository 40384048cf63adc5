/- EvalNobody is proved: at every input the call returns true and its arguments read as before. No condition beyond the row's own (five listed tables of Go's library as the text lays them). -/
import Derived.Test.YtdlnojjpbmibdaaGreatDoorNb4
import Derived.Test.YtdlnojjpbmibdaaGreatDoorTie
import Derived.Test.YtdlnojjpbmibdaaGreatDoorCards
import Derived.Test.YtdlnojjpbmibdaaGreatDoorChecked
namespace Go.Proofs.YtdlnojjpbmibdaaGreatDoor
open Go Go.Abs
set_option maxRecDepth 100000
def zet:Bool→Value
 | r0=>(Value.bool r0)
def zg8 (H:AH):Bool→AH:=fun _=>H
noncomputable def B47:Code:=(Tryz.f47.body).getD .skip
noncomputable def z9r (_L:LC) (H:AH) (_a0_0:Bool) (a0_1:Sl3) (_a1_0:Bool) (a1_1:Sl3):Int→Option (Lp Int Bool):=fun v5_1 =>
 if v5_1<(a0_1.n:Int) then
  Option.bind (idxA 1 a0_1 v5_1) fun p2 =>
  Option.bind (rd (deI .u64) H p2) fun x3 =>
  Option.bind (idxA 1 a1_1 v5_1) fun p4 =>
  Option.bind (rd (deI .u64) H p4) fun x5 =>
  if x3=x5 then
   some (.next (IntKind.i64.wrap (v5_1+1)))
  else
   none
 else
  some (.brk v5_1)
def zjy (_L:LC) (_H:AH) (a0_0:Bool) (a0_1:Sl3) (a1_0:Bool) (a1_1:Sl3):Int→KN×Lcs:=fun v5_1=>([kI 5 v5_1,kL 2 0 0,kL 3 1 0],[some (57,[(Value.bool a0_0),(Sl3.v a0_1)]),some (57,[(Value.bool a1_0),(Sl3.v a1_1)])])
noncomputable def zf0 (L:LC) (H:AH) (a0_0:Bool) (a0_1:Sl3) (a1_0:Bool) (a1_1:Sl3):Option Bool :=
 if (a0_0 == a1_0)=true then
  if (a0_1.n:Int)=(a1_1.n:Int) then
   Option.bind (L.run (z9r L H a0_0 a0_1 a1_0 a1_1) 0) fun o=>match o with
   | .inl _ =>
    some true
   | .inr r=>some r
  else
   none
 else
  none
theorem zbo {E m L H a0_0 a0_1 a1_0 a1_1} :LoopF Tryz.prog (NE.plain 167) m E Tryz.f47 ((cfst (csnd (cfst (csnd (csnd B47)))))) (zjy L H a0_0 a0_1 a1_0 a1_1) (fun _=>H) 0 zet (zg8 H) (z9r L H a0_0 a0_1 a1_0 a1_1):=by
 rintro v5_1 o h
 unfold z9r at h
 try dsimp only at h
 refine WS.sq (WS.sq (WS.rg (RS.mS 5 [kB 24 (decide (v5_1<(a0_1.n:Int))),kI 23 (a0_1.n:Int),kS 22 a0_1,kL 21 0 1,kI 20 v5_1] (RS.dn (WS.nxt ?_)))))
 rcases z0 h with ⟨hp,h⟩ | ⟨hp,h⟩
 ·refine WS.fx 24 true (decide_eq_true hp) (WS.cT (WS.sk (WS.nxt (WS.sq (WS.bk 1 (WS.sq ?_))))))
  refine WS.dr [0,1,2,3,4,5,6,7,8,9] [0,1,0,7,15,0,32,0,224,480,1023] 11 (fun hcl=>?_)
  refine DA.tL 0 (some 27) (.loc 0 1) (DA.tL 1 (some 28) (.val (Sl3.v a0_1)) (DA.tK 2 (some 29) (Value.int .i64 v5_1) ?_))
  obtain ⟨p2,hx,h⟩:=bind_some h
  refine DA.tD 3 (some 30) (Value.pointer (some p2)) (Abs.det_idx (s:=a0_1) (k:=.i64) (t:=55) (e:=112) (x:=.tmp 28) (y:=.tmp 29) (by kernel_rfl) (by kernel_rfl) (by kernel_rfl) (by kernel_rfl) (by kernel_rfl) hx) ?_
  obtain ⟨x3,hx,h⟩:=bind_some h
  refine DA.tD 4 (some 31) (Value.int .u64 x3) (Abs.det_load (t:=112) (x:=.tmp 30) (a:=p2) (by kernel_rfl) (by kernel_rfl) (by kernel_rfl) (by kernel_rfl) (z1 hx z5)) (DA.tL 5 (some 32) (.loc 1 1) (DA.tL 6 (some 33) (.val (Sl3.v a1_1)) (DA.tK 7 (some 34) (Value.int .i64 v5_1) ?_)))
  obtain ⟨p4,hx,h⟩:=bind_some h
  refine DA.tD 8 (some 35) (Value.pointer (some p4)) (Abs.det_idx (s:=a1_1) (k:=.i64) (t:=55) (e:=112) (x:=.tmp 33) (y:=.tmp 34) (by kernel_rfl) (by kernel_rfl) (by kernel_rfl) (by kernel_rfl) (by kernel_rfl) hx) ?_
  obtain ⟨x5,hx,h⟩:=bind_some h
  refine DA.tD 9 (some 36) (Value.int .u64 x5) (Abs.det_load (t:=112) (x:=.tmp 35) (a:=p4) (by kernel_rfl) (by kernel_rfl) (by kernel_rfl) (by kernel_rfl) (z1 hx z5)) (DA.tP 10 (some 37) (Value.bool (!decide (x3=x5))) (DA.dn (WS.nxt ?_)))
  rcases z0 h with ⟨hp,h⟩ | ⟨hp,h⟩
  ·refine WS.fx 37 false (zh hp) (WS.cF (WS.sk ?_))
   refine fun a w hs=>bkN ((WS.nxt ?_ a w hs))
   refine WS.rg (RS.mS 3 [kI 5 (IntKind.i64.wrap (v5_1+1)),kI 26 (IntKind.i64.wrap (v5_1+1)),kI 25 v5_1] (RS.dn ?_))
   cases h
   exact fun a w hs=>lsN rfl (hs.sb 2)
  ·refine WS.fx 37 true (ze hp) (WS.cT ?_)
   cases h
 ·refine WS.fx 24 false (decide_eq_false hp) (WS.cF (WS.ex 0 ?_))
  cases h
  exact fun a w hs=>sqE (lsB rfl (hs.sb 2))
theorem znh {L:LC} {m:Nat} {H:AH} {a0_0:Bool} {a0_1:Sl3} {a1_0:Bool} {a1_1:Sl3} {r:Bool} (h:zf0 L H a0_0 a0_1 a1_0 a1_1=some r) :
  CallS Tryz.prog (NE.plain 167) m 47 #[(Value.agg #[(Value.bool a0_0),(Sl3.v a0_1)]),(Value.agg #[(Value.bool a1_0),(Sl3.v a1_1)])] H (zet r) (zg8 H r):=by
 refine CallS.mk (args:=[(Value.agg #[(Value.bool a0_0),(Sl3.v a0_1)]),(Value.agg #[(Value.bool a1_0),(Sl3.v a1_1)])]) Tryz.func47 (B:=B47) (by kernel_rfl) (fun E _=>?_)
 unfold zf0 at h
 refine WS.sq (WS.rg (RS.mL 3 [kB 4 false,kL 3 1 0,kL 2 0 0] ([some (57,[(Value.bool a0_0),(Sl3.v a0_1)]),some (57,[(Value.bool a1_0),(Sl3.v a1_1)])]) (RS.dn (WS.nxt (WS.sq (WS.sq (WS.rg (RS.mS 6 [kB 11 (!(a0_0 == a1_0)),kB 10 (!(a0_0 == a1_0)),kB 9 a1_0,kL 8 1 0,kB 7 a0_0,kL 6 0 0] ?_))))))))
 rcases z0 h with ⟨hp,h⟩ | ⟨hp,h⟩
 ·refine RS.fx 11 false (nb_not hp) (RS.mS 8 [kB 19 (!decide ((a0_1.n:Int)=(a1_1.n:Int))),kB 18 (!decide ((a0_1.n:Int)=(a1_1.n:Int))),kI 17 (a1_1.n:Int),kS 16 a1_1,kL 15 1 1,kI 14 (a0_1.n:Int),kS 13 a0_1,kL 12 0 1] (RS.dn (WS.nxt ?_)))
  rcases z0 h with ⟨hp,h⟩ | ⟨hp,h⟩
  ·refine WS.fx 19 false (zh hp) (WS.cF (WS.sk (WS.nxt (WS.sq (WS.sq (WS.rg (RS.mS 1 [kI 5 0] (RS.dn (WS.nxt ?_)))))))))
   refine WS.bk 0 ?_
   obtain ⟨o,hl,h⟩:=bind_some h
   rcases o with v5_6 | r
   ·try dsimp only at h
    refine WS.lI (zbo (L:=L) (E:=E) (m:=m) (H:=H)) (L.ok hl) 2 ?_
    clear hl
    refine fun a w hs=>bkE ((WS.nxt ?_ a w hs))
    refine WS.sq (WS.rg (RS.mS 1 [kB 4 true] (RS.dn (WS.nxt (WS.rt ?_)))))
    cases h
    exact fun a w hs=>rtR (rS hs)
   ·try dsimp only at h
    refine WS.lR (zbo (L:=L) (E:=E) (m:=m) (H:=H)) (L.ok hl) 2 ?_
    cases h
    exact fun a w hq=>bkR (sqR (rtR hq))
  ·refine WS.fx 19 true (ze hp) (WS.cT ?_)
   cases h
 ·refine RS.fx 11 true (za hp) ?_
  cases h
def zcg:Bool→Value
 | r0=>(Value.bool r0)
def zdr (H:AH):Bool→AH:=fun _=>H
noncomputable def B48:Code:=(Tryz.f48.body).getD .skip
noncomputable def z8c (_L:LC) (_H:AH) (a0 _a1:Sl3):Int→Option (Lp Int Bool):=fun v5_1 =>
 if v5_1<(a0.n:Int) then
  none
 else
  some (.brk v5_1)
def zit (_L:LC) (_H:AH) (a0 a1:Sl3):Int→KN×Lcs:=fun v5_1=>([kI 5 v5_1,kS 0 a0,kS 1 a1],[])
noncomputable def zd4 (L:LC) (H:AH) (a0 a1:Sl3):Option Bool :=
 if (a0.n:Int)=(a1.n:Int) then
  Option.bind (L.run (z8c L H a0 a1) 0) fun o=>match o with
  | .inl _ =>
   some true
  | .inr r=>some r
 else
  none
theorem zaf {E m L H a0 a1} :LoopF Tryz.prog (NE.plain 167) m E Tryz.f48 ((cfst (csnd (cfst (csnd (csnd B48)))))) (zit L H a0 a1) (fun _=>H) 0 zcg (zdr H) (z8c L H a0 a1):=by
 rintro v5_1 o h
 unfold z8c at h
 try dsimp only at h
 refine WS.sq (WS.sq (WS.rg (RS.mS 4 [kB 14 (decide (v5_1<(a0.n:Int))),kI 13 (a0.n:Int),kS 12 a0,kI 11 v5_1] (RS.dn (WS.nxt ?_)))))
 rcases z0 h with ⟨hp,h⟩ | ⟨hp,h⟩
 ·refine WS.fx 14 true (decide_eq_true hp) (WS.cT ?_)
  cases h
 ·refine WS.fx 14 false (decide_eq_false hp) (WS.cF (WS.ex 0 ?_))
  cases h
  exact fun a w hs=>sqE (lsB rfl (hs.sb 0))
theorem zlz {L:LC} {m:Nat} {H:AH} {a0 a1:Sl3} {r:Bool} (h:zd4 L H a0 a1=some r) :
  CallS Tryz.prog (NE.plain 167) m 48 #[(Sl3.v a0),(Sl3.v a1)] H (zcg r) (zdr H r):=by
 refine CallS.mk (args:=[(Sl3.v a0),(Sl3.v a1)]) Tryz.func48 (B:=B48) (by kernel_rfl) (fun E _=>?_)
 unfold zd4 at h
 refine WS.sq (WS.rg (RS.mS 1 [kB 4 false] (RS.dn (WS.nxt (WS.sq (WS.sq (WS.rg (RS.mS 5 [kB 10 (!decide ((a0.n:Int)=(a1.n:Int))),kI 9 (a1.n:Int),kS 8 a1,kI 7 (a0.n:Int),kS 6 a0] (RS.dn ?_)))))))))
 refine WS.nxt ?_
 rcases z0 h with ⟨hp,h⟩ | ⟨hp,h⟩
 ·refine WS.fx 10 false (zh hp) (WS.cF (WS.sk (WS.nxt (WS.sq (WS.sq (WS.rg (RS.mS 1 [kI 5 0] (RS.dn (WS.nxt ?_)))))))))
  refine WS.bk 0 ?_
  obtain ⟨o,hl,h⟩:=bind_some h
  rcases o with v5_2 | r
  ·try dsimp only at h
   refine WS.lI (zaf (L:=L) (E:=E) (m:=m) (H:=H)) (L.ok hl) 0 ?_
   clear hl
   refine fun a w hs=>bkE ((WS.nxt ?_ a w hs))
   refine WS.sq (WS.rg (RS.mS 1 [kB 4 true] (RS.dn (WS.nxt (WS.rt ?_)))))
   cases h
   exact fun a w hs=>rtR (rS hs)
  ·try dsimp only at h
   refine WS.lR (zaf (L:=L) (E:=E) (m:=m) (H:=H)) (L.ok hl) 0 ?_
   cases h
   exact fun a w hq=>bkR (sqR (rtR hq))
 ·refine WS.fx 10 true (ze hp) (WS.cT ?_)
  cases h
def z4q:Bool→Value
 | r0=>(Value.bool r0)
def z5p (H:AH):Bool→AH:=fun _=>H
noncomputable def B49:Code:=(Tryz.f49.body).getD .skip
noncomputable def z9m (_L:LC) (_H:AH) (_a0_0 _a0_1:Int) (_a0_2:ByteArray) (a0_3:Sl3) (_a1_0 _a1_1:Int) (_a1_2:ByteArray) (_a1_3:Sl3):Int→Option (Lp Int Bool):=fun v5_1 =>
 if v5_1<(a0_3.n:Int) then
  none
 else
  some (.brk v5_1)
def zkk (_L:LC) (_H:AH) (a0_0 a0_1:Int) (a0_2:ByteArray) (a0_3:Sl3) (a1_0 a1_1:Int) (a1_2:ByteArray) (a1_3:Sl3):Int→KN×Lcs:=fun v5_1=>([kI 5 v5_1,kL 2 0 0,kL 3 1 0],[some (47,[(Value.int .i64 a0_0),(Value.int .i64 a0_1),(Value.string a0_2),(Sl3.v a0_3)]),some (47,[(Value.int .i64 a1_0),(Value.int .i64 a1_1),(Value.string a1_2),(Sl3.v a1_3)])])
noncomputable def z6y (L:LC) (H:AH) (a0_0 a0_1:Int) (a0_2:ByteArray) (a0_3:Sl3) (a1_0 a1_1:Int) (a1_2:ByteArray) (a1_3:Sl3):Option Bool :=
 if a0_0=a1_0 then
  if a0_1=a1_1 then
   if (a0_2.toList == a1_2.toList)=true then
    if (a0_3.n:Int)=(a1_3.n:Int) then
     Option.bind (L.run (z9m L H a0_0 a0_1 a0_2 a0_3 a1_0 a1_1 a1_2 a1_3) 0) fun o=>match o with
     | .inl _ =>
      some true
     | .inr r=>some r
    else
     none
   else
    none
  else
   none
 else
  none
noncomputable def zdo (L:LC) (n:Nat):(AH→Int→Int→ByteArray→Sl3→Int→Int→ByteArray→Sl3→Option Bool):=Nat.rec (motive:=fun _=>(AH→Int→Int→ByteArray→Sl3→Int→Int→ByteArray→Sl3→Option Bool)) (fun _ _ _ _ _ _ _ _ _=>none) (fun _ _=>z6y L) n
noncomputable def zlc (L:LC) (H:AH) (a0_0 a0_1:Int) (a0_2:ByteArray) (a0_3:Sl3) (a1_0 a1_1:Int) (a1_2:ByteArray) (a1_3:Sl3):Option Bool:=(zdo L L.fuel) H a0_0 a0_1 a0_2 a0_3 a1_0 a1_1 a1_2 a1_3
theorem zbz {E m L H a0_0 a0_1 a0_2 a0_3 a1_0 a1_1 a1_2 a1_3} :LoopF Tryz.prog (NE.plain 167) m E Tryz.f49 ((cfst (csnd (cfst (csnd (csnd B49)))))) (zkk L H a0_0 a0_1 a0_2 a0_3 a1_0 a1_1 a1_2 a1_3) (fun _=>H) 0 z4q (z5p H) (z9m L H a0_0 a0_1 a0_2 a0_3 a1_0 a1_1 a1_2 a1_3):=by
 rintro v5_1 o h
 unfold z9m at h
 try dsimp only at h
 refine WS.sq (WS.sq (WS.rg (RS.mS 5 [kB 38 (decide (v5_1<(a0_3.n:Int))),kI 37 (a0_3.n:Int),kS 36 a0_3,kL 35 0 3,kI 34 v5_1] (RS.dn (WS.nxt ?_)))))
 rcases z0 h with ⟨hp,h⟩ | ⟨hp,h⟩
 ·refine WS.fx 38 true (decide_eq_true hp) (WS.cT ?_)
  cases h
 ·refine WS.fx 38 false (decide_eq_false hp) (WS.cF (WS.ex 0 ?_))
  cases h
  exact fun a w hs=>sqE (lsB rfl (hs.sb 2))
theorem zho {L:LC} {m:Nat} {H:AH} {a0_0 a0_1:Int} {a0_2:ByteArray} {a0_3:Sl3} {a1_0 a1_1:Int} {a1_2:ByteArray} {a1_3:Sl3} {r:Bool} (h:z6y L H a0_0 a0_1 a0_2 a0_3 a1_0 a1_1 a1_2 a1_3=some r) :
  CallS Tryz.prog (NE.plain 167) m 49 #[(Value.agg #[(Value.int .i64 a0_0),(Value.int .i64 a0_1),(Value.string a0_2),(Sl3.v a0_3)]),(Value.agg #[(Value.int .i64 a1_0),(Value.int .i64 a1_1),(Value.string a1_2),(Sl3.v a1_3)])] H (z4q r) (z5p H r):=by
 refine CallS.mk (args:=[(Value.agg #[(Value.int .i64 a0_0),(Value.int .i64 a0_1),(Value.string a0_2),(Sl3.v a0_3)]),(Value.agg #[(Value.int .i64 a1_0),(Value.int .i64 a1_1),(Value.string a1_2),(Sl3.v a1_3)])]) Tryz.func49 (B:=B49) (by kernel_rfl) (fun E _=>?_)
 unfold z6y at h
 refine WS.sq (WS.rg (RS.mL 3 [kB 4 false,kL 3 1 0,kL 2 0 0] ([some (47,[(Value.int .i64 a0_0),(Value.int .i64 a0_1),(Value.string a0_2),(Sl3.v a0_3)]),some (47,[(Value.int .i64 a1_0),(Value.int .i64 a1_1),(Value.string a1_2),(Sl3.v a1_3)])]) (RS.dn (WS.nxt (WS.sq (WS.sq (WS.rg (RS.mS 6 [kB 11 (!decide (a0_0=a1_0)),kB 10 (!decide (a0_0=a1_0)),kI 9 a1_0,kL 8 1 0,kI 7 a0_0,kL 6 0 0] ?_))))))))
 rcases z0 h with ⟨hp,h⟩ | ⟨hp,h⟩
 ·refine RS.fx 11 false (zh hp) (RS.mS 7 [kB 18 (!decide (a0_1=a1_1)),kB 17 (!decide (a0_1=a1_1)),kB 16 (!decide (a0_1=a1_1)),kI 15 a1_1,kL 14 1 1,kI 13 a0_1,kL 12 0 1] ?_)
  rcases z0 h with ⟨hp,h⟩ | ⟨hp,h⟩
  ·refine RS.fx 18 false (zh hp) (RS.mS 7 [kB 25 (!(a0_2.toList == a1_2.toList)),kB 24 (!(a0_2.toList == a1_2.toList)),kB 23 (!(a0_2.toList == a1_2.toList)),kT 22 a1_2,kL 21 1 2,kT 20 a0_2,kL 19 0 2] ?_)
   rcases z0 h with ⟨hp,h⟩ | ⟨hp,h⟩
   ·refine RS.fx 25 false (nb_not hp) (RS.mS 8 [kB 33 (!decide ((a0_3.n:Int)=(a1_3.n:Int))),kB 32 (!decide ((a0_3.n:Int)=(a1_3.n:Int))),kI 31 (a1_3.n:Int),kS 30 a1_3,kL 29 1 3,kI 28 (a0_3.n:Int),kS 27 a0_3,kL 26 0 3] (RS.dn (WS.nxt ?_)))
    rcases z0 h with ⟨hp,h⟩ | ⟨hp,h⟩
    ·refine WS.fx 33 false (zh hp) (WS.cF (WS.sk (WS.nxt (WS.sq (WS.sq (WS.rg (RS.mS 1 [kI 5 0] (RS.dn (WS.nxt ?_)))))))))
     refine WS.bk 0 ?_
     obtain ⟨o,hl,h⟩:=bind_some h
     rcases o with v5_2 | r
     ·try dsimp only at h
      refine WS.lI (zbz (L:=L) (E:=E) (m:=m) (H:=H)) (L.ok hl) 2 ?_
      clear hl
      refine fun a w hs=>bkE ((WS.nxt ?_ a w hs))
      refine WS.sq (WS.rg (RS.mS 1 [kB 4 true] (RS.dn (WS.nxt (WS.rt ?_)))))
      cases h
      exact fun a w hs=>rtR (rS hs)
     ·try dsimp only at h
      refine WS.lR (zbz (L:=L) (E:=E) (m:=m) (H:=H)) (L.ok hl) 2 ?_
      cases h
      exact fun a w hq=>bkR (sqR (rtR hq))
    ·refine WS.fx 33 true (ze hp) (WS.cT ?_)
     cases h
   ·refine RS.fx 25 true (za hp) ?_
    cases h
  ·refine RS.fx 18 true (ze hp) ?_
   cases h
 ·refine RS.fx 11 true (ze hp) ?_
  cases h
theorem zis {L:LC}:∀n,(∀(m:Nat) (H:AH) (a0_0 a0_1:Int) (a0_2:ByteArray) (a0_3:Sl3) (a1_0 a1_1:Int) (a1_2:ByteArray) (a1_3:Sl3) (r:Bool),((zdo L n)) H a0_0 a0_1 a0_2 a0_3 a1_0 a1_1 a1_2 a1_3=some r→CallS Tryz.prog (NE.plain 167) m 49 #[(Value.agg #[(Value.int .i64 a0_0),(Value.int .i64 a0_1),(Value.string a0_2),(Sl3.v a0_3)]),(Value.agg #[(Value.int .i64 a1_0),(Value.int .i64 a1_1),(Value.string a1_2),(Sl3.v a1_3)])] H (z4q r) (z5p H r)):=by
 intro n
 induction n with
 | zero=>exact (fun _ _ _ _ _ _ _ _ _ _ _ h=>(Option.some_ne_none _ h.symm).elim)
 | succ n ih=>exact (fun _ _ _ _ _ _ _ _ _ _ _ h=>zho (L:=L)  h)
theorem zmt {L:LC} {m:Nat} {H:AH} {a0_0 a0_1:Int} {a0_2:ByteArray} {a0_3:Sl3} {a1_0 a1_1:Int} {a1_2:ByteArray} {a1_3:Sl3} {r:Bool} (h:zlc L H a0_0 a0_1 a0_2 a0_3 a1_0 a1_1 a1_2 a1_3=some r) :
  CallS Tryz.prog (NE.plain 167) m 49 #[(Value.agg #[(Value.int .i64 a0_0),(Value.int .i64 a0_1),(Value.string a0_2),(Sl3.v a0_3)]),(Value.agg #[(Value.int .i64 a1_0),(Value.int .i64 a1_1),(Value.string a1_2),(Sl3.v a1_3)])] H (z4q r) (z5p H r) :=
 (zis _) _ _ _ _ _ _ _ _ _ _ _ h
def z4x:Bool→Value
 | r0=>(Value.bool r0)
def z5q (H:AH):Bool→AH:=fun _=>H
def z3w:Bool→Value
 | r0=>(Value.bool r0)
def z4n (H:AH):Bool→AH:=fun _=>H
noncomputable def B21:Code:=(Tryz.f21.body).getD .skip
noncomputable def za6 (_L:LC) (_H:AH) (_a0_0:Int) (_a0_1 _a0_2:Bool) (_a0_3:Sl3) (_a0_4:Int) (_a0_5:Sl3) (_a0_6:ByteArray) (_a0_7 _a0_8 _a0_9:Int) (_a0_10:ByteArray) (_a0_11 _a0_12:Sl3) (a0_13 _a0_14:Sl3) (_a1_0:Int) (_a1_1 _a1_2:Bool) (_a1_3:Sl3) (_a1_4:Int) (_a1_5:Sl3) (_a1_6:ByteArray) (_a1_7 _a1_8 _a1_9:Int) (_a1_10:ByteArray) (_a1_11 _a1_12:Sl3) (_a1_13 _a1_14:Sl3):Int→Option (Lp Int Bool):=fun v5_6 =>
 if v5_6<(a0_13.n:Int) then
  none
 else
  some (.brk v5_6)
def zke (_L:LC) (_H:AH) (a0_0:Int) (a0_1 a0_2:Bool) (a0_3:Sl3) (a0_4:Int) (a0_5:Sl3) (a0_6:ByteArray) (a0_7 a0_8 a0_9:Int) (a0_10:ByteArray) (a0_11 a0_12:Sl3) (a0_13 a0_14:Sl3) (a1_0:Int) (a1_1 a1_2:Bool) (a1_3:Sl3) (a1_4:Int) (a1_5:Sl3) (a1_6:ByteArray) (a1_7 a1_8 a1_9:Int) (a1_10:ByteArray) (a1_11 a1_12:Sl3) (a1_13 a1_14:Sl3):Int→KN×Lcs:=fun v5_6=>([kI 5 v5_6,kL 2 0 0,kL 3 1 0],[some (75,[(Value.int .i64 a0_0),(Value.bool a0_1),(Value.bool a0_2),(Sl3.v a0_3),(Value.int .i64 a0_4),(Sl3.v a0_5),(Value.string a0_6),(Value.int .i64 a0_7),(Value.int .i64 a0_8),(Value.int .i64 a0_9),(Value.string a0_10),(Sl3.v a0_11),(Sl3.v a0_12),(Sl3.v a0_13),(Sl3.v a0_14)]),some (75,[(Value.int .i64 a1_0),(Value.bool a1_1),(Value.bool a1_2),(Sl3.v a1_3),(Value.int .i64 a1_4),(Sl3.v a1_5),(Value.string a1_6),(Value.int .i64 a1_7),(Value.int .i64 a1_8),(Value.int .i64 a1_9),(Value.string a1_10),(Sl3.v a1_11),(Sl3.v a1_12),(Sl3.v a1_13),(Sl3.v a1_14)])])
noncomputable def z7b (L:LC) (rec_ref11_Alike:AH→Sl3→Sl3→Option Bool) (H:AH) (a0_0:Int) (a0_1 a0_2:Bool) (a0_3:Sl3) (a0_4:Int) (a0_5:Sl3) (a0_6:ByteArray) (a0_7 a0_8 a0_9:Int) (a0_10:ByteArray) (a0_11 a0_12:Sl3) (a0_13 a0_14:Sl3) (a1_0:Int) (a1_1 a1_2:Bool) (a1_3:Sl3) (a1_4:Int) (a1_5:Sl3) (a1_6:ByteArray) (a1_7 a1_8 a1_9:Int) (a1_10:ByteArray) (a1_11 a1_12:Sl3) (a1_13 a1_14:Sl3):Option Bool :=
 if a0_0=a1_0 then
  if (a0_1 == a1_1)=true then
   if (a0_6.toList == a1_6.toList)=true then
    if a0_7=a1_7 then
     Option.bind (zf0 L H a0_2 a0_3 a1_2 a1_3) fun x1 =>
     if x1=true then
      if a0_4=a1_4 then
       Option.bind (zd4 L H a0_5 a1_5) fun x2 =>
       if x2=true then
        Option.bind (zlc L H a0_8 a0_9 a0_10 a0_11 a1_8 a1_9 a1_10 a1_11) fun x3 =>
        if x3=true then
         Option.bind (rec_ref11_Alike H a0_12 a1_12) fun x4 =>
         if x4=true then
          Option.bind (rec_ref11_Alike H a0_14 a1_14) fun x5 =>
          if x5=true then
           if (a0_13.n:Int)=(a1_13.n:Int) then
            Option.bind (L.run (za6 L H a0_0 a0_1 a0_2 a0_3 a0_4 a0_5 a0_6 a0_7 a0_8 a0_9 a0_10 a0_11 a0_12 a0_13 a0_14 a1_0 a1_1 a1_2 a1_3 a1_4 a1_5 a1_6 a1_7 a1_8 a1_9 a1_10 a1_11 a1_12 a1_13 a1_14) 0) fun o=>match o with
            | .inl _ =>
             some true
            | .inr r=>some r
           else
            none
          else
           none
         else
          none
        else
         none
       else
        none
      else
       none
     else
      none
    else
     none
   else
    none
  else
   none
 else
  none
noncomputable def B50:Code:=(Tryz.f50.body).getD .skip
noncomputable def z81 (_L:LC) (_H:AH) (a0 _a1:Sl3):Int→Option (Lp Int Bool):=fun v5_1 =>
 if v5_1<(a0.n:Int) then
  none
 else
  some (.brk v5_1)
def ziq (_L:LC) (_H:AH) (a0 a1:Sl3):Int→KN×Lcs:=fun v5_1=>([kI 5 v5_1,kS 0 a0,kS 1 a1],[])
noncomputable def z6a (L:LC) (H:AH) (a0 a1:Sl3):Option Bool :=
 if (a0.n:Int)=(a1.n:Int) then
  Option.bind (L.run (z81 L H a0 a1) 0) fun o=>match o with
  | .inl _ =>
   some true
  | .inr r=>some r
 else
  none
noncomputable def z89 (L:LC) (n:Nat):(AH→Int→Bool→Bool→Sl3→Int→Sl3→ByteArray→Int→Int→Int→ByteArray→Sl3→Sl3→Sl3→Sl3→Int→Bool→Bool→Sl3→Int→Sl3→ByteArray→Int→Int→Int→ByteArray→Sl3→Sl3→Sl3→Sl3→Option Bool)×(AH→Sl3→Sl3→Option Bool):=Nat.rec (motive:=fun _=>(AH→Int→Bool→Bool→Sl3→Int→Sl3→ByteArray→Int→Int→Int→ByteArray→Sl3→Sl3→Sl3→Sl3→Int→Bool→Bool→Sl3→Int→Sl3→ByteArray→Int→Int→Int→ByteArray→Sl3→Sl3→Sl3→Sl3→Option Bool)×(AH→Sl3→Sl3→Option Bool)) ((fun _ _ _ _ _ _ _ _ _ _ _ _ _ _ _ _ _ _ _ _ _ _ _ _ _ _ _ _ _ _ _=>none),(fun _ _ _=>none)) (fun _ p=>(z7b L p.2,z6a L)) n
noncomputable def zfz (L:LC) (H:AH) (a0_0:Int) (a0_1 a0_2:Bool) (a0_3:Sl3) (a0_4:Int) (a0_5:Sl3) (a0_6:ByteArray) (a0_7 a0_8 a0_9:Int) (a0_10:ByteArray) (a0_11 a0_12:Sl3) (a0_13 a0_14:Sl3) (a1_0:Int) (a1_1 a1_2:Bool) (a1_3:Sl3) (a1_4:Int) (a1_5:Sl3) (a1_6:ByteArray) (a1_7 a1_8 a1_9:Int) (a1_10:ByteArray) (a1_11 a1_12:Sl3) (a1_13 a1_14:Sl3):Option Bool:=((z89 L L.fuel).1) H a0_0 a0_1 a0_2 a0_3 a0_4 a0_5 a0_6 a0_7 a0_8 a0_9 a0_10 a0_11 a0_12 a0_13 a0_14 a1_0 a1_1 a1_2 a1_3 a1_4 a1_5 a1_6 a1_7 a1_8 a1_9 a1_10 a1_11 a1_12 a1_13 a1_14
theorem zbc {E m L H a0_0 a0_1 a0_2 a0_3 a0_4 a0_5 a0_6 a0_7 a0_8 a0_9 a0_10 a0_11 a0_12 a0_13 a0_14 a1_0 a1_1 a1_2 a1_3 a1_4 a1_5 a1_6 a1_7 a1_8 a1_9 a1_10 a1_11 a1_12 a1_13 a1_14} :LoopF Tryz.prog (NE.plain 167) m E Tryz.f21 ((cfst (csnd (cfst (csnd (csnd (csnd B21))))))) (zke L H a0_0 a0_1 a0_2 a0_3 a0_4 a0_5 a0_6 a0_7 a0_8 a0_9 a0_10 a0_11 a0_12 a0_13 a0_14 a1_0 a1_1 a1_2 a1_3 a1_4 a1_5 a1_6 a1_7 a1_8 a1_9 a1_10 a1_11 a1_12 a1_13 a1_14) (fun _=>H) 0 z4x (z5q H) (za6 L H a0_0 a0_1 a0_2 a0_3 a0_4 a0_5 a0_6 a0_7 a0_8 a0_9 a0_10 a0_11 a0_12 a0_13 a0_14 a1_0 a1_1 a1_2 a1_3 a1_4 a1_5 a1_6 a1_7 a1_8 a1_9 a1_10 a1_11 a1_12 a1_13 a1_14):=by
 rintro v5_6 o h
 unfold za6 at h
 try dsimp only at h
 refine WS.sq (WS.sq (WS.rg (RS.mS 5 [kB 94 (decide (v5_6<(a0_13.n:Int))),kI 93 (a0_13.n:Int),kS 92 a0_13,kL 91 0 13,kI 90 v5_6] (RS.dn (WS.nxt ?_)))))
 rcases z0 h with ⟨hp,h⟩ | ⟨hp,h⟩
 ·refine WS.fx 94 true (decide_eq_true hp) (WS.cT ?_)
  cases h
 ·refine WS.fx 94 false (decide_eq_false hp) (WS.cF (WS.ex 0 ?_))
  cases h
  exact fun a w hs=>sqE (lsB rfl (hs.sb 2))
theorem zib {L:LC} {rec_ref11_Alike:AH→Sl3→Sl3→Option Bool} (hrec_ref11_Alike:∀(m:Nat) (H:AH) (a0 a1:Sl3) (r:Bool),rec_ref11_Alike H a0 a1=some r→CallS Tryz.prog (NE.plain 167) m 50 #[(Sl3.v a0),(Sl3.v a1)] H (z3w r) (z4n H r)) {m:Nat} {H:AH} {a0_0:Int} {a0_1 a0_2:Bool} {a0_3:Sl3} {a0_4:Int} {a0_5:Sl3} {a0_6:ByteArray} {a0_7 a0_8 a0_9:Int} {a0_10:ByteArray} {a0_11 a0_12:Sl3} {a0_13 a0_14:Sl3} {a1_0:Int} {a1_1 a1_2:Bool} {a1_3:Sl3} {a1_4:Int} {a1_5:Sl3} {a1_6:ByteArray} {a1_7 a1_8 a1_9:Int} {a1_10:ByteArray} {a1_11 a1_12:Sl3} {a1_13 a1_14:Sl3} {r:Bool} (h:z7b L rec_ref11_Alike H a0_0 a0_1 a0_2 a0_3 a0_4 a0_5 a0_6 a0_7 a0_8 a0_9 a0_10 a0_11 a0_12 a0_13 a0_14 a1_0 a1_1 a1_2 a1_3 a1_4 a1_5 a1_6 a1_7 a1_8 a1_9 a1_10 a1_11 a1_12 a1_13 a1_14=some r) :
  CallS Tryz.prog (NE.plain 167) m 21 #[(Value.agg #[(Value.int .i64 a0_0),(Value.bool a0_1),(Value.bool a0_2),(Sl3.v a0_3),(Value.int .i64 a0_4),(Sl3.v a0_5),(Value.string a0_6),(Value.int .i64 a0_7),(Value.int .i64 a0_8),(Value.int .i64 a0_9),(Value.string a0_10),(Sl3.v a0_11),(Sl3.v a0_12),(Sl3.v a0_13),(Sl3.v a0_14)]),(Value.agg #[(Value.int .i64 a1_0),(Value.bool a1_1),(Value.bool a1_2),(Sl3.v a1_3),(Value.int .i64 a1_4),(Sl3.v a1_5),(Value.string a1_6),(Value.int .i64 a1_7),(Value.int .i64 a1_8),(Value.int .i64 a1_9),(Value.string a1_10),(Sl3.v a1_11),(Sl3.v a1_12),(Sl3.v a1_13),(Sl3.v a1_14)])] H (z4x r) (z5q H r):=by
 refine CallS.mk (args:=[(Value.agg #[(Value.int .i64 a0_0),(Value.bool a0_1),(Value.bool a0_2),(Sl3.v a0_3),(Value.int .i64 a0_4),(Sl3.v a0_5),(Value.string a0_6),(Value.int .i64 a0_7),(Value.int .i64 a0_8),(Value.int .i64 a0_9),(Value.string a0_10),(Sl3.v a0_11),(Sl3.v a0_12),(Sl3.v a0_13),(Sl3.v a0_14)]),(Value.agg #[(Value.int .i64 a1_0),(Value.bool a1_1),(Value.bool a1_2),(Sl3.v a1_3),(Value.int .i64 a1_4),(Sl3.v a1_5),(Value.string a1_6),(Value.int .i64 a1_7),(Value.int .i64 a1_8),(Value.int .i64 a1_9),(Value.string a1_10),(Sl3.v a1_11),(Sl3.v a1_12),(Sl3.v a1_13),(Sl3.v a1_14)])]) Tryz.func21 (B:=B21) (by kernel_rfl) (fun E _=>?_)
 unfold z7b at h
 refine WS.sq (WS.rg (RS.mL 3 [kB 4 false,kL 3 1 0,kL 2 0 0] ([some (75,[(Value.int .i64 a0_0),(Value.bool a0_1),(Value.bool a0_2),(Sl3.v a0_3),(Value.int .i64 a0_4),(Sl3.v a0_5),(Value.string a0_6),(Value.int .i64 a0_7),(Value.int .i64 a0_8),(Value.int .i64 a0_9),(Value.string a0_10),(Sl3.v a0_11),(Sl3.v a0_12),(Sl3.v a0_13),(Sl3.v a0_14)]),some (75,[(Value.int .i64 a1_0),(Value.bool a1_1),(Value.bool a1_2),(Sl3.v a1_3),(Value.int .i64 a1_4),(Sl3.v a1_5),(Value.string a1_6),(Value.int .i64 a1_7),(Value.int .i64 a1_8),(Value.int .i64 a1_9),(Value.string a1_10),(Sl3.v a1_11),(Sl3.v a1_12),(Sl3.v a1_13),(Sl3.v a1_14)])]) (RS.dn (WS.nxt (WS.sq (WS.sq (WS.rg (RS.mS 6 [kB 11 (!decide (a0_0=a1_0)),kB 10 (!decide (a0_0=a1_0)),kI 9 a1_0,kL 8 1 0,kI 7 a0_0,kL 6 0 0] ?_))))))))
 rcases z0 h with ⟨hp,h⟩ | ⟨hp,h⟩
 ·refine RS.fx 11 false (zh hp) (RS.mS 7 [kB 18 (!(a0_1 == a1_1)),kB 17 (!(a0_1 == a1_1)),kB 16 (!(a0_1 == a1_1)),kB 15 a1_1,kL 14 1 1,kB 13 a0_1,kL 12 0 1] ?_)
  rcases z0 h with ⟨hp,h⟩ | ⟨hp,h⟩
  ·refine RS.fx 18 false (nb_not hp) (RS.mS 7 [kB 25 (!(a0_6.toList == a1_6.toList)),kB 24 (!(a0_6.toList == a1_6.toList)),kB 23 (!(a0_6.toList == a1_6.toList)),kT 22 a1_6,kL 21 1 6,kT 20 a0_6,kL 19 0 6] ?_)
   rcases z0 h with ⟨hp,h⟩ | ⟨hp,h⟩
   ·refine RS.fx 25 false (nb_not hp) (RS.mS 7 [kB 32 (!decide (a0_7=a1_7)),kB 31 (!decide (a0_7=a1_7)),kB 30 (!decide (a0_7=a1_7)),kI 29 a1_7,kL 28 1 7,kI 27 a0_7,kL 26 0 7] ?_)
    rcases z0 h with ⟨hp,h⟩ | ⟨hp,h⟩
    ·refine RS.fx 32 false (zh hp) (RS.mS 4 [kA 36 #[(Value.bool a1_2),(Sl3.v a1_3)],kL 35 1 2,kA 34 #[(Value.bool a0_2),(Sl3.v a0_3)],kL 33 0 2] ?_)
     obtain ⟨x1,hx,h⟩:=bind_some h
     refine RS.cl (some 37) (v:=(Value.bool x1)) 47 #[(Value.agg #[(Value.bool a0_2),(Sl3.v a0_3)]),(Value.agg #[(Value.bool a1_2),(Sl3.v a1_3)])] (znh hx) (RS.mS 3 [kB 40 (!x1),kB 39 (!x1),kB 38 (!x1)] ?_)
     rcases z0 h with ⟨hp,h⟩ | ⟨hp,h⟩
     ·refine RS.fx 40 false (nb_not hp) (RS.mS 9 [kB 49 (!decide (a0_4=a1_4)),kB 48 (!decide (a0_4=a1_4)),kB 47 (!decide (a0_4=a1_4)),kI 46 a1_4,kL 45 1 4,kL 44 1 4,kI 43 a0_4,kL 42 0 4,kL 41 0 4] ?_)
      rcases z0 h with ⟨hp,h⟩ | ⟨hp,h⟩
      ·refine RS.fx 49 false (zh hp) (RS.mS 6 [kS 55 a1_5,kL 54 1 5,kL 53 1 4,kS 52 a0_5,kL 51 0 5,kL 50 0 4] ?_)
       obtain ⟨x2,hx,h⟩:=bind_some h
       refine RS.cl (some 56) (v:=(Value.bool x2)) 48 #[(Sl3.v a0_5),(Sl3.v a1_5)] (zlz hx) (RS.mS 3 [kB 59 (!x2),kB 58 (!x2),kB 57 (!x2)] ?_)
       rcases z0 h with ⟨hp,h⟩ | ⟨hp,h⟩
       ·refine RS.fx 59 false (nb_not hp) (RS.mS 4 [kA 63 #[(Value.int .i64 a1_8),(Value.int .i64 a1_9),(Value.string a1_10),(Sl3.v a1_11)],kL 62 1 8,kA 61 #[(Value.int .i64 a0_8),(Value.int .i64 a0_9),(Value.string a0_10),(Sl3.v a0_11)],kL 60 0 8] ?_)
        obtain ⟨x3,hx,h⟩:=bind_some h
        refine RS.cl (some 64) (v:=(Value.bool x3)) 49 #[(Value.agg #[(Value.int .i64 a0_8),(Value.int .i64 a0_9),(Value.string a0_10),(Sl3.v a0_11)]),(Value.agg #[(Value.int .i64 a1_8),(Value.int .i64 a1_9),(Value.string a1_10),(Sl3.v a1_11)])] (zmt hx) (RS.mS 2 [kB 66 (!x3),kB 65 (!x3)] (RS.dn (WS.nxt ?_)))
        rcases z0 h with ⟨hp,h⟩ | ⟨hp,h⟩
        ·refine WS.fx 66 false (nb_not hp) (WS.cF (WS.sk (WS.nxt (WS.sq (WS.sq (WS.rg (RS.mS 4 [kS 70 a1_12,kL 69 1 12,kS 68 a0_12,kL 67 0 12] ?_)))))))
         obtain ⟨x4,hx,h⟩:=bind_some h
         refine RS.cl (some 71) (v:=(Value.bool x4)) 50 #[(Sl3.v a0_12),(Sl3.v a1_12)] (hrec_ref11_Alike _ _ _ _ _ hx) (RS.mS 2 [kB 73 (!x4),kB 72 (!x4)] ?_)
         rcases z0 h with ⟨hp,h⟩ | ⟨hp,h⟩
         ·refine RS.fx 73 false (nb_not hp) (RS.mS 4 [kS 77 a1_14,kL 76 1 14,kS 75 a0_14,kL 74 0 14] ?_)
          obtain ⟨x5,hx,h⟩:=bind_some h
          refine RS.cl (some 78) (v:=(Value.bool x5)) 50 #[(Sl3.v a0_14),(Sl3.v a1_14)] (hrec_ref11_Alike _ _ _ _ _ hx) (RS.mS 3 [kB 81 (!x5),kB 80 (!x5),kB 79 (!x5)] ?_)
          rcases z0 h with ⟨hp,h⟩ | ⟨hp,h⟩
          ·refine RS.fx 81 false (nb_not hp) (RS.mS 8 [kB 89 (!decide ((a0_13.n:Int)=(a1_13.n:Int))),kB 88 (!decide ((a0_13.n:Int)=(a1_13.n:Int))),kI 87 (a1_13.n:Int),kS 86 a1_13,kL 85 1 13,kI 84 (a0_13.n:Int),kS 83 a0_13,kL 82 0 13] (RS.dn (WS.nxt ?_)))
           rcases z0 h with ⟨hp,h⟩ | ⟨hp,h⟩
           ·refine WS.fx 89 false (zh hp) (WS.cF (WS.sk (WS.nxt (WS.sq (WS.sq (WS.rg (RS.mS 1 [kI 5 0] (RS.dn (WS.nxt ?_)))))))))
            refine WS.bk 0 ?_
            obtain ⟨o,hl,h⟩:=bind_some h
            rcases o with v5_7 | r
            ·try dsimp only at h
             refine WS.lI (zbc (L:=L) (E:=E) (m:=m) (H:=H)) (L.ok hl) 2 ?_
             clear hl
             refine fun a w hs=>bkE ((WS.nxt ?_ a w hs))
             refine WS.sq (WS.rg (RS.mS 1 [kB 4 true] (RS.dn (WS.nxt (WS.rt ?_)))))
             cases h
             exact fun a w hs=>rtR (rS hs)
            ·try dsimp only at h
             refine WS.lR (zbc (L:=L) (E:=E) (m:=m) (H:=H)) (L.ok hl) 2 ?_
             cases h
             exact fun a w hq=>bkR (sqR (rtR hq))
           ·refine WS.fx 89 true (ze hp) (WS.cT ?_)
            cases h
          ·refine RS.fx 81 true (za hp) ?_
           cases h
         ·refine RS.fx 73 true (za hp) ?_
          cases h
        ·refine WS.fx 66 true (za hp) (WS.cT ?_)
         cases h
       ·refine RS.fx 59 true (za hp) ?_
        cases h
      ·refine RS.fx 49 true (ze hp) ?_
       cases h
     ·refine RS.fx 40 true (za hp) ?_
      cases h
    ·refine RS.fx 32 true (ze hp) ?_
     cases h
   ·refine RS.fx 25 true (za hp) ?_
    cases h
  ·refine RS.fx 18 true (za hp) ?_
   cases h
 ·refine RS.fx 11 true (ze hp) ?_
  cases h
theorem za9 {E m L H a0 a1} :LoopF Tryz.prog (NE.plain 167) m E Tryz.f50 ((cfst (csnd (cfst (csnd (csnd B50)))))) (ziq L H a0 a1) (fun _=>H) 0 z3w (z4n H) (z81 L H a0 a1):=by
 rintro v5_1 o h
 unfold z81 at h
 try dsimp only at h
 refine WS.sq (WS.sq (WS.rg (RS.mS 4 [kB 14 (decide (v5_1<(a0.n:Int))),kI 13 (a0.n:Int),kS 12 a0,kI 11 v5_1] (RS.dn (WS.nxt ?_)))))
 rcases z0 h with ⟨hp,h⟩ | ⟨hp,h⟩
 ·refine WS.fx 14 true (decide_eq_true hp) (WS.cT ?_)
  cases h
 ·refine WS.fx 14 false (decide_eq_false hp) (WS.cF (WS.ex 0 ?_))
  cases h
  exact fun a w hs=>sqE (lsB rfl (hs.sb 0))
theorem zgi {L:LC} {m:Nat} {H:AH} {a0 a1:Sl3} {r:Bool} (h:z6a L H a0 a1=some r) :
  CallS Tryz.prog (NE.plain 167) m 50 #[(Sl3.v a0),(Sl3.v a1)] H (z3w r) (z4n H r):=by
 refine CallS.mk (args:=[(Sl3.v a0),(Sl3.v a1)]) Tryz.func50 (B:=B50) (by kernel_rfl) (fun E _=>?_)
 unfold z6a at h
 refine WS.sq (WS.rg (RS.mS 1 [kB 4 false] (RS.dn (WS.nxt (WS.sq (WS.sq (WS.rg (RS.mS 5 [kB 10 (!decide ((a0.n:Int)=(a1.n:Int))),kI 9 (a1.n:Int),kS 8 a1,kI 7 (a0.n:Int),kS 6 a0] (RS.dn ?_)))))))))
 refine WS.nxt ?_
 rcases z0 h with ⟨hp,h⟩ | ⟨hp,h⟩
 ·refine WS.fx 10 false (zh hp) (WS.cF (WS.sk (WS.nxt (WS.sq (WS.sq (WS.rg (RS.mS 1 [kI 5 0] (RS.dn (WS.nxt ?_)))))))))
  refine WS.bk 0 ?_
  obtain ⟨o,hl,h⟩:=bind_some h
  rcases o with v5_2 | r
  ·try dsimp only at h
   refine WS.lI (za9 (L:=L) (E:=E) (m:=m) (H:=H)) (L.ok hl) 0 ?_
   clear hl
   refine fun a w hs=>bkE ((WS.nxt ?_ a w hs))
   refine WS.sq (WS.rg (RS.mS 1 [kB 4 true] (RS.dn (WS.nxt (WS.rt ?_)))))
   cases h
   exact fun a w hs=>rtR (rS hs)
  ·try dsimp only at h
   refine WS.lR (za9 (L:=L) (E:=E) (m:=m) (H:=H)) (L.ok hl) 0 ?_
   cases h
   exact fun a w hq=>bkR (sqR (rtR hq))
 ·refine WS.fx 10 true (ze hp) (WS.cT ?_)
  cases h
theorem zj1 {L:LC}:∀n,(∀(m:Nat) (H:AH) (a0_0:Int) (a0_1 a0_2:Bool) (a0_3:Sl3) (a0_4:Int) (a0_5:Sl3) (a0_6:ByteArray) (a0_7 a0_8 a0_9:Int) (a0_10:ByteArray) (a0_11 a0_12:Sl3) (a0_13 a0_14:Sl3) (a1_0:Int) (a1_1 a1_2:Bool) (a1_3:Sl3) (a1_4:Int) (a1_5:Sl3) (a1_6:ByteArray) (a1_7 a1_8 a1_9:Int) (a1_10:ByteArray) (a1_11 a1_12:Sl3) (a1_13 a1_14:Sl3) (r:Bool),((z89 L n).1) H a0_0 a0_1 a0_2 a0_3 a0_4 a0_5 a0_6 a0_7 a0_8 a0_9 a0_10 a0_11 a0_12 a0_13 a0_14 a1_0 a1_1 a1_2 a1_3 a1_4 a1_5 a1_6 a1_7 a1_8 a1_9 a1_10 a1_11 a1_12 a1_13 a1_14=some r→CallS Tryz.prog (NE.plain 167) m 21 #[(Value.agg #[(Value.int .i64 a0_0),(Value.bool a0_1),(Value.bool a0_2),(Sl3.v a0_3),(Value.int .i64 a0_4),(Sl3.v a0_5),(Value.string a0_6),(Value.int .i64 a0_7),(Value.int .i64 a0_8),(Value.int .i64 a0_9),(Value.string a0_10),(Sl3.v a0_11),(Sl3.v a0_12),(Sl3.v a0_13),(Sl3.v a0_14)]),(Value.agg #[(Value.int .i64 a1_0),(Value.bool a1_1),(Value.bool a1_2),(Sl3.v a1_3),(Value.int .i64 a1_4),(Sl3.v a1_5),(Value.string a1_6),(Value.int .i64 a1_7),(Value.int .i64 a1_8),(Value.int .i64 a1_9),(Value.string a1_10),(Sl3.v a1_11),(Sl3.v a1_12),(Sl3.v a1_13),(Sl3.v a1_14)])] H (z4x r) (z5q H r))∧(∀(m:Nat) (H:AH) (a0 a1:Sl3) (r:Bool),((z89 L n).2) H a0 a1=some r→CallS Tryz.prog (NE.plain 167) m 50 #[(Sl3.v a0),(Sl3.v a1)] H (z3w r) (z4n H r)):=by
 intro n
 induction n with
 | zero=>exact ⟨(fun _ _ _ _ _ _ _ _ _ _ _ _ _ _ _ _ _ _ _ _ _ _ _ _ _ _ _ _ _ _ _ _ _ h=>(Option.some_ne_none _ h.symm).elim),(fun _ _ _ _ _ h=>(Option.some_ne_none _ h.symm).elim)⟩
 | succ n ih=>exact ⟨(fun _ _ _ _ _ _ _ _ _ _ _ _ _ _ _ _ _ _ _ _ _ _ _ _ _ _ _ _ _ _ _ _ _ h=>zib (L:=L) ih.2 h),(fun _ _ _ _ _ h=>zgi (L:=L)  h)⟩
theorem zgc {L:LC} {m:Nat} {H:AH} {a0_0:Int} {a0_1 a0_2:Bool} {a0_3:Sl3} {a0_4:Int} {a0_5:Sl3} {a0_6:ByteArray} {a0_7 a0_8 a0_9:Int} {a0_10:ByteArray} {a0_11 a0_12:Sl3} {a0_13 a0_14:Sl3} {a1_0:Int} {a1_1 a1_2:Bool} {a1_3:Sl3} {a1_4:Int} {a1_5:Sl3} {a1_6:ByteArray} {a1_7 a1_8 a1_9:Int} {a1_10:ByteArray} {a1_11 a1_12:Sl3} {a1_13 a1_14:Sl3} {r:Bool} (h:zfz L H a0_0 a0_1 a0_2 a0_3 a0_4 a0_5 a0_6 a0_7 a0_8 a0_9 a0_10 a0_11 a0_12 a0_13 a0_14 a1_0 a1_1 a1_2 a1_3 a1_4 a1_5 a1_6 a1_7 a1_8 a1_9 a1_10 a1_11 a1_12 a1_13 a1_14=some r) :
  CallS Tryz.prog (NE.plain 167) m 21 #[(Value.agg #[(Value.int .i64 a0_0),(Value.bool a0_1),(Value.bool a0_2),(Sl3.v a0_3),(Value.int .i64 a0_4),(Sl3.v a0_5),(Value.string a0_6),(Value.int .i64 a0_7),(Value.int .i64 a0_8),(Value.int .i64 a0_9),(Value.string a0_10),(Sl3.v a0_11),(Sl3.v a0_12),(Sl3.v a0_13),(Sl3.v a0_14)]),(Value.agg #[(Value.int .i64 a1_0),(Value.bool a1_1),(Value.bool a1_2),(Sl3.v a1_3),(Value.int .i64 a1_4),(Sl3.v a1_5),(Value.string a1_6),(Value.int .i64 a1_7),(Value.int .i64 a1_8),(Value.int .i64 a1_9),(Value.string a1_10),(Sl3.v a1_11),(Sl3.v a1_12),(Sl3.v a1_13),(Sl3.v a1_14)])] H (z4x r) (z5q H r) :=
 ((zj1 _).1) _ _ _ _ _ _ _ _ _ _ _ _ _ _ _ _ _ _ _ _ _ _ _ _ _ _ _ _ _ _ _ _ _ h
def zhx:(Sl3×Sl3×Sl3×AH)→Value
 | (r0,r1,r2,_)=>(Value.agg #[(Sl3.v r0),(Sl3.v r1),(Sl3.v r2)])
def zig (_:AH):(Sl3×Sl3×Sl3×AH)→AH:=fun r=>r.2.2.2
noncomputable def B10:Code:=(Tryz.f10.body).getD .skip
noncomputable def z8o (L:LC) (m:Nat) (H:AH) (a0:Option Addr):Option (Sl3×Sl3×Sl3×AH) :=
 Option.bind (z12 L H a0) fun x1 =>
 if x1=true then
  Option.bind a0 fun q2 =>
  Option.bind (rd deSl H (Addr.add (Addr.add q2 0) 0)) fun x3_0 =>
  Option.bind (rd deSl H (Addr.add (Addr.add q2 0) 1)) fun x3_1 =>
  Option.bind (rd deSl H (Addr.add (Addr.add q2 0) 2)) fun x3_2 =>
  Option.bind (z75 L m H x3_0 x3_1 x3_2) fun (x4_0,x4_1,x4_2,H5) =>
  some (x4_0,x4_1,x4_2,H5)
 else
  none
theorem zih {L:LC} {m:Nat} {H:AH} {a0:Option Addr} {r:(Sl3×Sl3×Sl3×AH)} (h:z8o L m H a0=some r) :
  CallS Tryz.prog (NE.plain 167) m 10 #[(Value.pointer a0)] H (zhx r) (zig H r):=by
 refine CallS.mk (args:=[(Value.pointer a0)]) Tryz.func10 (B:=B10) (by kernel_rfl) (fun E _=>?_)
 unfold z8o at h
 refine WS.sq (WS.rg (RS.mL 1 [kL 2 0 0] ([some (37,[(Sl3.v Sl3.nil),(Sl3.v Sl3.nil),(Sl3.v Sl3.nil)])]) (RS.dn (WS.nxt (WS.sq (WS.sq (WS.rg (RS.mS 1 [(3,.val (Value.pointer a0))] ?_))))))))
 obtain ⟨x1,hx,h⟩:=bind_some h
 refine RS.cl (some 4) (v:=(Value.bool x1)) 22 #[(Value.pointer a0)] (z15 hx) (RS.mS 1 [kB 5 (!x1)] (RS.dn (WS.nxt ?_)))
 rcases z0 h with ⟨hp,h⟩ | ⟨hp,h⟩
 ·refine WS.fx 5 false (nb_not hp) (WS.cF (WS.sk (WS.nxt (WS.sq (WS.rg (RS.mS 1 [(7,.val (Value.pointer a0))] ?_))))))
  obtain ⟨q2,hx,hq2⟩:=bind_some h
  subst hx
  have h:=hq2
  refine RS.mS 2 [(9,.val (Value.pointer (some (Addr.add q2 0)))),kP 8 q2] ?_
  obtain ⟨x3_0,hx0,h⟩:=bind_some h
  obtain ⟨x3_1,hx1,h⟩:=bind_some h
  obtain ⟨x3_2,hx2,h⟩:=bind_some h
  refine RS.la 10 37 (.tmp 9) 3 (z2 (z1 hx0 z3) (z2 (z1 hx1 z3) (z2 (z1 hx2 z3) zm))) ?_
  obtain ⟨⟨x4_0,x4_1,x4_2,H5⟩,hx,h⟩:=bind_some h
  try dsimp only at h
  refine RS.cl (some 11) (v:=(Value.agg #[(Sl3.v x4_0),(Sl3.v x4_1),(Sl3.v x4_2)])) 27 #[(Value.agg #[(Sl3.v x3_0),(Sl3.v x3_1),(Sl3.v x3_2)])] (zch hx) (RS.mL 1 [] ([some (37,[(Sl3.v x4_0),(Sl3.v x4_1),(Sl3.v x4_2)])]) (RS.dn (WS.nxt (WS.rt ?_))))
  cases h
  exact fun a w hs=>rtR (rS hs)
 ·refine WS.fx 5 true (za hp) (WS.cT ?_)
  cases h
def z4z:(Sl3×Int×Int×ByteArray×Sl3×Bool)→Value
 | (r0,r1,r2,r3,r4,r5)=>(Value.tuple #[(Sl3.v r0),(Value.agg #[(Value.int .i64 r1),(Value.int .i64 r2),(Value.string r3),(Sl3.v r4)]),(Value.bool r5)])
def z5d (H:AH):(Sl3×Int×Int×ByteArray×Sl3×Bool)→AH:=fun _=>H
noncomputable def B124:Code:=(Tryz.f124.body).getD .skip
noncomputable def z2m (_L:LC) (H:AH) (_a0_0 _a0_1:Sl3) (a0_2 _a0_3:Sl3) (a1:ByteArray):(Int×Int×Int×ByteArray×Sl3)→Option (Lp (Int×Int×Int×ByteArray×Sl3) (Sl3×Int×Int×ByteArray×Sl3×Bool)):=fun (v13_1,w1_2,w1_3,w1_4,w1_5) =>
 if v13_1<(a0_2.n:Int) then
  Option.bind (idxA 6 a0_2 v13_1) fun p6 =>
  Option.bind (rd deS H (Addr.add p6 0)) fun x7_0 =>
  Option.bind (rd deSl H (Addr.add p6 1)) fun x7_1 =>
  Option.bind (rd (deI .i64) H (Addr.add p6 2)) fun x7_2 =>
  Option.bind (rd (deI .i64) H (Addr.add p6 3)) fun x7_3 =>
  Option.bind (rd deS H (Addr.add p6 4)) fun x7_4 =>
  Option.bind (rd deSl H (Addr.add p6 5)) fun x7_5 =>
  if (x7_0.toList == a1.toList)=true then
   some (.ret (x7_1,x7_2,x7_3,x7_4,x7_5,true))
  else
   some (.next ((IntKind.i64.wrap (v13_1+1)),w1_2,w1_3,w1_4,w1_5))
 else
  none
def zao (_L:LC) (_H:AH) (a0_0 a0_1:Sl3) (a0_2 a0_3:Sl3) (a1:ByteArray):(Int×Int×Int×ByteArray×Sl3)→KN×Lcs:=fun (v13_1,w1_2,w1_3,w1_4,w1_5)=>([kI 13 v13_1,kT 1 a1,kL 5 1 0,kS 11 a0_2,kI 12 (a0_2.n:Int)],[some (66,[(Sl3.v a0_0),(Sl3.v a0_1),(Sl3.v a0_2),(Sl3.v a0_3)]),some (47,[(Value.int .i64 w1_2),(Value.int .i64 w1_3),(Value.string w1_4),(Sl3.v w1_5)])])
noncomputable def z3j (L:LC) (H:AH) (a0_0 a0_1:Sl3) (a0_2 a0_3:Sl3) (a1:ByteArray):Option (Sl3×Int×Int×ByteArray×Sl3×Bool) :=
 Option.bind (L.run (z2m L H a0_0 a0_1 a0_2 a0_3 a1) (0,0,0,(⟨#[]⟩:ByteArray),Sl3.nil)) fun o=>match o with
 | .inl (_,_,_,_,_) =>
  some (Sl3.nil,0,0,(⟨#[]⟩:ByteArray),Sl3.nil,false)
 | .inr r=>some r
theorem z42 {E m L H a0_0 a0_1 a0_2 a0_3 a1} :LoopF Tryz.prog (NE.plain 167) m E Tryz.f124 ((cfst (csnd (cfst (csnd B124))))) (zao L H a0_0 a0_1 a0_2 a0_3 a1) (fun _=>H) 0 z4z (z5d H) (z2m L H a0_0 a0_1 a0_2 a0_3 a1):=by
 rintro ⟨v13_1,w1_2,w1_3,w1_4,w1_5⟩ o h
 unfold z2m at h
 try dsimp only at h
 refine WS.sq (WS.rg (RS.mS 1 [kB 14 (decide (v13_1<(a0_2.n:Int)))] (RS.dn (WS.nxt (WS.sq ?_)))))
 rcases z0 h with ⟨hp,h⟩ | ⟨hp,h⟩
 ·refine WS.fx 14 true (decide_eq_true hp) (WS.cT (WS.sk (WS.nxt (WS.sq (WS.bk 1 (WS.sq (WS.rg ?_)))))))
  obtain ⟨p6,hx,h⟩:=bind_some h
  refine RS.ix 15 35 84 (.tmp 11) (.tmp 13) hx ?_
  obtain ⟨x7_0,hx0,h⟩:=bind_some h
  obtain ⟨x7_1,hx1,h⟩:=bind_some h
  obtain ⟨x7_2,hx2,h⟩:=bind_some h
  obtain ⟨x7_3,hx3,h⟩:=bind_some h
  obtain ⟨x7_4,hx4,h⟩:=bind_some h
  obtain ⟨x7_5,hx5,h⟩:=bind_some h
  refine RS.la 16 84 (.tmp 15) 6 (z2 (z1 hx0 z9) (z2 (z1 hx1 z3) (z2 (z1 hx2 z5) (z2 (z1 hx3 z5) (z2 (z1 hx4 z9) (z2 (z1 hx5 z3) zm)))))) (RS.mL 2 [kL 8 2 0] ([some (66,[(Sl3.v a0_0),(Sl3.v a0_1),(Sl3.v a0_2),(Sl3.v a0_3)]),some (47,[(Value.int .i64 w1_2),(Value.int .i64 w1_3),(Value.string w1_4),(Sl3.v w1_5)]),some (84,[(Value.string x7_0),(Sl3.v x7_1),(Value.int .i64 x7_2),(Value.int .i64 x7_3),(Value.string x7_4),(Sl3.v x7_5)])]) (RS.dn (WS.nxt (WS.sq (WS.rg (RS.mS 4 [kB 20 (x7_0.toList == a1.toList),kT 19 a1,kT 18 x7_0,kL 17 2 0] (RS.dn (WS.nxt ?_))))))))
  rcases z0 h with ⟨hp,h⟩ | ⟨hp,h⟩
  ·refine WS.fx 20 true hp (WS.cT (WS.sq ?_))
   refine WS.dr [0,1,2,3] [0,1,0,4,3,31,63] 7 (fun hcl=>?_)
   refine DA.tL 0 (some 21) (.loc 2 1) (DA.tL 1 (some 22) (.val (Sl3.v x7_1)) (DA.tL 2 (some 23) (.loc 2 2) (DA.tL 3 (some 24) (.val (Value.agg #[(Value.int .i64 x7_2),(Value.int .i64 x7_3),(Value.string x7_4),(Sl3.v x7_5)])) (DA.tP 4 (some 4) (Sl3.v x7_1) (DA.on 5 (DA.aL 5 none (.val undef) ([some (66,[(Sl3.v a0_0),(Sl3.v a0_1),(Sl3.v a0_2),(Sl3.v a0_3)]),some (47,[(Value.int .i64 x7_2),(Value.int .i64 x7_3),(Value.string x7_4),(Sl3.v x7_5)]),some (84,[(Value.string x7_0),(Sl3.v x7_1),(Value.int .i64 x7_2),(Value.int .i64 x7_3),(Value.string x7_4),(Sl3.v x7_5)])]) false (DA.tP 6 (some 6) (Value.bool true) (DA.dn (WS.nxt ?_)))))))))
   refine WS.rt ?_
   cases h
   exact fun a w hs=>bkR (sqR (lsR rfl (rS hs)))
  ·refine WS.fx 20 false (b_not hp) (WS.cF (WS.sk ?_))
   refine fun a w hs=>bkN ((WS.nxt ?_ a w hs))
   refine WS.rg (RS.mS 2 [kI 13 (IntKind.i64.wrap (v13_1+1)),kI 25 (IntKind.i64.wrap (v13_1+1))] (RS.dn ?_))
   cases h
   exact fun a w hs=>lsN rfl (hs.sb 2)
 ·refine WS.fx 14 false (decide_eq_false hp) (WS.cF ?_)
  cases h
theorem zdk {L:LC} {m:Nat} {H:AH} {a0_0 a0_1:Sl3} {a0_2 a0_3:Sl3} {a1:ByteArray} {r:(Sl3×Int×Int×ByteArray×Sl3×Bool)} (h:z3j L H a0_0 a0_1 a0_2 a0_3 a1=some r) :
  CallS Tryz.prog (NE.plain 167) m 124 #[(Value.agg #[(Sl3.v a0_0),(Sl3.v a0_1),(Sl3.v a0_2),(Sl3.v a0_3)]),(Value.string a1)] H (z4z r) (z5d H r):=by
 refine CallS.mk (args:=[(Value.agg #[(Sl3.v a0_0),(Sl3.v a0_1),(Sl3.v a0_2),(Sl3.v a0_3)]),(Value.string a1)]) Tryz.func124 (B:=B124) (by kernel_rfl) (fun E _=>?_)
 unfold z3j at h
 refine WS.sq (WS.rg (RS.mL 4 [kB 6 false,kL 5 1 0,kS 4 Sl3.nil,kL 2 0 0] ([some (66,[(Sl3.v a0_0),(Sl3.v a0_1),(Sl3.v a0_2),(Sl3.v a0_3)]),some (47,[(Value.int .i64 0),(Value.int .i64 0),(Value.string (⟨#[]⟩:ByteArray)),(Sl3.v Sl3.nil)])]) (RS.dn (WS.nxt (WS.sq (WS.sq (WS.rg (RS.mS 5 [kI 13 0,kI 12 (a0_2.n:Int),kS 11 a0_2,kL 10 0 2,kL 9 0 0] (RS.dn ?_)))))))))
 refine WS.nxt (WS.bk 0 ?_)
 obtain ⟨o,hl,h⟩:=bind_some h
 rcases o with ⟨v13_8,w1_9,w1_10,w1_11,w1_12⟩ | r
 ·try dsimp only at h
  refine WS.lI (z42 (L:=L) (E:=E) (m:=m) (H:=H)) (L.ok hl) 2 ?_
  clear hl
  refine fun a w hs=>bkE ((WS.nxt ?_ a w hs))
  refine WS.sq (WS.rg (RS.mL 4 [kB 6 false,kS 4 Sl3.nil,kA 26 #[(Value.int .i64 0),(Value.int .i64 0),(Value.string (⟨#[]⟩:ByteArray)),(Sl3.v Sl3.nil)]] ([some (66,[(Sl3.v a0_0),(Sl3.v a0_1),(Sl3.v a0_2),(Sl3.v a0_3)]),some (47,[(Value.int .i64 0),(Value.int .i64 0),(Value.string (⟨#[]⟩:ByteArray)),(Sl3.v Sl3.nil)])]) (RS.dn (WS.nxt (WS.rt ?_)))))
  cases h
  exact fun a w hs=>rtR (rS hs)
 ·try dsimp only at h
  refine WS.lR (z42 (L:=L) (E:=E) (m:=m) (H:=H)) (L.ok hl) 2 ?_
  cases h
  exact fun a w hq=>bkR (sqR (rtR hq))
def zgl:(Sl3×Int×Int×ByteArray×Sl3×Bool×AH)→Value
 | (r0,r1,r2,r3,r4,r5,_)=>(Value.tuple #[(Sl3.v r0),(Value.agg #[(Value.int .i64 r1),(Value.int .i64 r2),(Value.string r3),(Sl3.v r4)]),(Value.bool r5)])
def zi0 (_:AH):(Sl3×Int×Int×ByteArray×Sl3×Bool×AH)→AH:=fun r=>r.2.2.2.2.2.2
noncomputable def B77:Code:=(Tryz.f77.body).getD .skip
noncomputable def z78 (L:LC) (_m:Nat) (H:AH) (a0_0 a0_1:Sl3) (a0_2 a0_3:Sl3) (a1:ByteArray):Option (Sl3×Int×Int×ByteArray×Sl3×Bool×AH) :=
 Option.bind (z3j L H a0_0 a0_1 a0_2 a0_3 a1) fun (x1,x2_0,x2_1,x2_2,x2_3,x3) =>
 if x3=true then
  some (x1,x2_0,x2_1,x2_2,x2_3,true,H)
 else
  none
theorem zhe {L:LC} {m:Nat} {H:AH} {a0_0 a0_1:Sl3} {a0_2 a0_3:Sl3} {a1:ByteArray} {r:(Sl3×Int×Int×ByteArray×Sl3×Bool×AH)} (h:z78 L m H a0_0 a0_1 a0_2 a0_3 a1=some r) :
  CallS Tryz.prog (NE.plain 167) m 77 #[(Value.agg #[(Sl3.v a0_0),(Sl3.v a0_1),(Sl3.v a0_2),(Sl3.v a0_3)]),(Value.string a1)] H (zgl r) (zi0 H r):=by
 refine CallS.mk (args:=[(Value.agg #[(Sl3.v a0_0),(Sl3.v a0_1),(Sl3.v a0_2),(Sl3.v a0_3)]),(Value.string a1)]) Tryz.func77 (B:=B77) (by kernel_rfl) (fun E _=>?_)
 unfold z78 at h
 refine WS.sq (WS.rg (RS.mL 4 [kB 6 false,kL 5 1 0,kS 4 Sl3.nil,kL 2 0 0] ([some (66,[(Sl3.v a0_0),(Sl3.v a0_1),(Sl3.v a0_2),(Sl3.v a0_3)]),some (47,[(Value.int .i64 0),(Value.int .i64 0),(Value.string (⟨#[]⟩:ByteArray)),(Sl3.v Sl3.nil)])]) (RS.dn (WS.nxt (WS.sq (WS.sq (WS.rg (RS.mS 2 [kT 12 a1,kA 11 #[(Sl3.v a0_0),(Sl3.v a0_1),(Sl3.v a0_2),(Sl3.v a0_3)]] ?_))))))))
 obtain ⟨⟨x1,x2_0,x2_1,x2_2,x2_3,x3⟩,hx,h⟩:=bind_some h
 try dsimp only at h
 refine RS.cl (some 13) (v:=(Value.tuple #[(Sl3.v x1),(Value.agg #[(Value.int .i64 x2_0),(Value.int .i64 x2_1),(Value.string x2_2),(Sl3.v x2_3)]),(Value.bool x3)])) 124 #[(Value.agg #[(Sl3.v a0_0),(Sl3.v a0_1),(Sl3.v a0_2),(Sl3.v a0_3)]),(Value.string a1)] (zdk hx) (RS.mL 8 [kB 9 x3,kS 7 x1,kL 8 2 0,kB 16 x3,kA 15 #[(Value.int .i64 x2_0),(Value.int .i64 x2_1),(Value.string x2_2),(Sl3.v x2_3)],kS 14 x1,(10,.val (Value.tuple #[(Sl3.v x1),(Value.agg #[(Value.int .i64 x2_0),(Value.int .i64 x2_1),(Value.string x2_2),(Sl3.v x2_3)]),(Value.bool x3)]))] ([some (66,[(Sl3.v a0_0),(Sl3.v a0_1),(Sl3.v a0_2),(Sl3.v a0_3)]),some (47,[(Value.int .i64 0),(Value.int .i64 0),(Value.string (⟨#[]⟩:ByteArray)),(Sl3.v Sl3.nil)]),some (47,[(Value.int .i64 x2_0),(Value.int .i64 x2_1),(Value.string x2_2),(Sl3.v x2_3)])]) (RS.dn (WS.nxt (WS.sq (WS.rg (RS.mS 1 [kB 17 x3] (RS.dn (WS.nxt ?_))))))))
 rcases z0 h with ⟨hp,h⟩ | ⟨hp,h⟩
 ·refine WS.fx 17 true hp (WS.cT (WS.sq ?_))
  refine WS.dr [1] [0,0,1,7,15] 5 (fun hcl=>?_)
  refine DA.tL 1 (some 19) (.val (Value.agg #[(Value.int .i64 x2_0),(Value.int .i64 x2_1),(Value.string x2_2),(Sl3.v x2_3)])) (DA.tP 0 (some 18) (Sl3.v x1) (DA.tP 2 (some 4) (Sl3.v x1) (DA.on 3 (DA.aL 3 none (.val undef) ([some (66,[(Sl3.v a0_0),(Sl3.v a0_1),(Sl3.v a0_2),(Sl3.v a0_3)]),some (47,[(Value.int .i64 x2_0),(Value.int .i64 x2_1),(Value.string x2_2),(Sl3.v x2_3)]),some (47,[(Value.int .i64 x2_0),(Value.int .i64 x2_1),(Value.string x2_2),(Sl3.v x2_3)])]) false (DA.tP 4 (some 6) (Value.bool true) (DA.dn (WS.nxt (WS.rt ?_))))))))
  cases h
  exact fun a w hs=>sqR (rtR (rS hs))
 ·refine WS.fx 17 false (b_not hp) (WS.cF ?_)
  cases h
def zlq:(Int×AH)→Value
 | (r0,_)=>(Value.int .i64 r0)
def zn3 (_:AH):(Int×AH)→AH:=fun r=>r.2
noncomputable def B160:Code:=(Tryz.f160.body).getD .skip
noncomputable def zf5 (L:LC) (m:Nat) (H:AH) (a0_0 a0_1:Int) (a0_2:ByteArray) (a0_3 a1_0:Sl3) (a1_1 a1_2:Sl3):Option (Int×AH) :=
 Option.bind (zcp L (Nat.max m H.next) H a1_0 a1_1 a1_2) fun (x1,H2) =>
 Option.bind (z41 L H2 x1 a0_0 a0_1 a0_2 a0_3) fun x3 =>
 some (x3,H2)
theorem zni {L:LC} {m:Nat} {H:AH} {a0_0 a0_1:Int} {a0_2:ByteArray} {a0_3 a1_0:Sl3} {a1_1 a1_2:Sl3} {r:(Int×AH)} (h:zf5 L m H a0_0 a0_1 a0_2 a0_3 a1_0 a1_1 a1_2=some r) :
  CallS Tryz.prog (NE.plain 167) m 160 #[(Value.agg #[(Value.int .i64 a0_0),(Value.int .i64 a0_1),(Value.string a0_2),(Sl3.v a0_3)]),(Value.agg #[(Sl3.v a1_0),(Sl3.v a1_1),(Sl3.v a1_2)])] H (zlq r) (zn3 H r):=by
 refine CallS.mk (args:=[(Value.agg #[(Value.int .i64 a0_0),(Value.int .i64 a0_1),(Value.string a0_2),(Sl3.v a0_3)]),(Value.agg #[(Sl3.v a1_0),(Sl3.v a1_1),(Sl3.v a1_2)])]) Tryz.func160 (B:=B160) (by kernel_rfl) (fun E _=>?_)
 unfold zf5 at h
 refine WS.sq (WS.rg (RS.mL 3 [kI 4 0,kL 3 1 0,kL 2 0 0] ([some (47,[(Value.int .i64 a0_0),(Value.int .i64 a0_1),(Value.string a0_2),(Sl3.v a0_3)]),some (37,[(Sl3.v a1_0),(Sl3.v a1_1),(Sl3.v a1_2)])]) (RS.dn (WS.nxt (WS.sq ?_)))))
 refine WS.dr [0,2] [0,1,0,7,15] 5 (fun hcl=>?_)
 refine DA.tL 0 (some 5) (.val (Value.agg #[(Sl3.v a1_0),(Sl3.v a1_1),(Sl3.v a1_2)])) (DA.tL 2 (some 7) (.val (Value.agg #[(Value.int .i64 a0_0),(Value.int .i64 a0_1),(Value.string a0_2),(Sl3.v a0_3)])) ?_)
 obtain ⟨⟨x1,H2⟩,hx,h⟩:=bind_some h
 try dsimp only at h
 refine DA.on 1 (DA.aCj 1 (some 6) false (v:=(Value.pointer x1)) 71 #[(Value.agg #[(Sl3.v a1_0),(Sl3.v a1_1),(Sl3.v a1_2)])] (zi1 hx) ?_)
 obtain ⟨x3,hx,h⟩:=bind_some h
 refine DA.on 3 (DA.aC 3 (some 8) (v:=(Value.int .i64 x3)) 116 #[(Value.pointer x1),(Value.agg #[(Value.int .i64 a0_0),(Value.int .i64 a0_1),(Value.string a0_2),(Sl3.v a0_3)])] (z8y hx) (DA.tP 4 (some 4) (Value.int .i64 x3) (DA.dn (WS.nxt (WS.rt ?_)))))
 cases h
 exact fun a w hs=>rtR (rS hs)
end Go.Proofs.YtdlnojjpbmibdaaGreatDoor
namespace Go.Proofs.YtdlnojjpbmibdaaGreatDoor
open Go Go.Abs
set_option maxRecDepth 100000
def zeb:((Option Addr)×Int×AH)→Value
 | (r0,r1,_)=>(Value.tuple #[(Value.pointer r0),(Value.int .i64 r1)])
def zg4 (_:AH):((Option Addr)×Int×AH)→AH:=fun r=>r.2.2
noncomputable def B147:Code:=(Tryz.f147.body).getD .skip
noncomputable def z9f (_L:LC) (_a0_0 _a0_1:Int) (_a0_2:ByteArray) (_a0_3 _a1_0:Sl3) (a1_1 _a1_2:Sl3) (_p7:Addr):(AH×Int)→Option (Lp (AH×Int) ((Option Addr)×Int×AH)):=fun (H9,v29_10) =>
 if v29_10<(a1_1.n:Int) then
  none
 else
  some (.brk (H9,v29_10))
def zjq (_L:LC) (a0_0 a0_1:Int) (a0_2:ByteArray) (a0_3 a1_0:Sl3) (a1_1 a1_2:Sl3) (p7:Addr):(AH×Int)→KN×Lcs:=fun (_,v29_10)=>([kI 29 v29_10,kP 8 p7,kS 27 a1_1,kI 28 (a1_1.n:Int)],[some (47,[(Value.int .i64 a0_0),(Value.int .i64 a0_1),(Value.string a0_2),(Sl3.v a0_3)]),some (37,[(Sl3.v a1_0),(Sl3.v a1_1),(Sl3.v a1_2)])])
noncomputable def zev (L:LC) (m:Nat) (H:AH) (a0_0 a0_1:Int) (a0_2:ByteArray) (a0_3 a1_0:Sl3) (a1_1 a1_2:Sl3):Option ((Option Addr)×Int×AH) :=
 Option.bind (z3b L m H a1_0 a1_1 a1_2) fun (x1,H2) =>
 if x1=0 then
  Option.bind (zf5 L m H2 a0_0 a0_1 a0_2 a0_3 a1_0 a1_1 a1_2) fun (x3,H4) =>
  if x3=0 then
   Option.bind (newM H4) fun (p5,H6) =>
   Option.bind (newB 286 [(Sl3.v a1_0),(Sl3.v a1_1),(Sl3.v a1_2),(Value.map (some p5))] H6) fun (p7,H8) =>
   Option.bind (L.run (z9f L a0_0 a0_1 a0_2 a0_3 a1_0 a1_1 a1_2 p7) (H8,0)) fun o=>match o with
   | .inl (H11,_) =>
    some ((some p7),0,H11)
   | .inr r=>some r
  else
   none
 else
  none
theorem zbh {E m H L a0_0 a0_1 a0_2 a0_3 a1_0 a1_1 a1_2 p7} :LoopF Tryz.prog (NE.plain 167) m E Tryz.f147 ((cfst (csnd (cfst (csnd (csnd (csnd (csnd B147)))))))) (zjq L a0_0 a0_1 a0_2 a0_3 a1_0 a1_1 a1_2 p7) (fun s=>s.1) 0 zeb (zg4 H) (z9f L a0_0 a0_1 a0_2 a0_3 a1_0 a1_1 a1_2 p7):=by
 rintro ⟨H9,v29_10⟩ o h
 unfold z9f at h
 try dsimp only at h
 refine WS.sq (WS.rg (RS.mS 1 [kB 30 (decide (v29_10<(a1_1.n:Int)))] (RS.dn (WS.nxt (WS.sq ?_)))))
 rcases z0 h with ⟨hp,h⟩ | ⟨hp,h⟩
 ·refine WS.fx 30 true (decide_eq_true hp) (WS.cT ?_)
  cases h
 ·refine WS.fx 30 false (decide_eq_false hp) (WS.cF (WS.ex 0 ?_))
  cases h
  exact fun a w hs=>sqE (lsB rfl (hs.sb 2))
theorem zmu {L:LC} {m:Nat} {H:AH} {a0_0 a0_1:Int} {a0_2:ByteArray} {a0_3 a1_0:Sl3} {a1_1 a1_2:Sl3} {r:((Option Addr)×Int×AH)} (h:zev L m H a0_0 a0_1 a0_2 a0_3 a1_0 a1_1 a1_2=some r) :
  CallS Tryz.prog (NE.plain 167) m 147 #[(Value.agg #[(Value.int .i64 a0_0),(Value.int .i64 a0_1),(Value.string a0_2),(Sl3.v a0_3)]),(Value.agg #[(Sl3.v a1_0),(Sl3.v a1_1),(Sl3.v a1_2)])] H (zeb r) (zg4 H r):=by
 refine CallS.mk (args:=[(Value.agg #[(Value.int .i64 a0_0),(Value.int .i64 a0_1),(Value.string a0_2),(Sl3.v a0_3)]),(Value.agg #[(Sl3.v a1_0),(Sl3.v a1_1),(Sl3.v a1_2)])]) Tryz.func147 (B:=B147) (by kernel_rfl) (fun E _=>?_)
 unfold zev at h
 refine WS.sq (WS.rg (RS.mL 4 [kI 5 0,(4,.val (Value.pointer none)),kL 3 1 0,kL 2 0 0] ([some (47,[(Value.int .i64 a0_0),(Value.int .i64 a0_1),(Value.string a0_2),(Sl3.v a0_3)]),some (37,[(Sl3.v a1_0),(Sl3.v a1_1),(Sl3.v a1_2)])]) (RS.dn (WS.nxt (WS.sq (WS.sq (WS.rg (RS.mS 1 [kA 11 #[(Sl3.v a1_0),(Sl3.v a1_1),(Sl3.v a1_2)]] ?_))))))))
 obtain ⟨⟨x1,H2⟩,hx,h⟩:=bind_some h
 try dsimp only at h
 refine RS.cl (some 12) (v:=(Value.int .i64 x1)) 28 #[(Value.agg #[(Sl3.v a1_0),(Sl3.v a1_1),(Sl3.v a1_2)])] (z65 hx) (RS.mS 1 [kI 6 x1] (RS.dn (WS.nxt (WS.sq (WS.rg (RS.mS 2 [kB 14 (!decide (x1=0)),kI 13 x1] (RS.dn (WS.nxt ?_))))))))
 rcases z0 h with ⟨hp,h⟩ | ⟨hp,h⟩
 ·refine WS.fx 14 false (zh hp) (WS.cF (WS.sk (WS.nxt (WS.sq (WS.sq (WS.rg (RS.mS 2 [kA 17 #[(Sl3.v a1_0),(Sl3.v a1_1),(Sl3.v a1_2)],kA 16 #[(Value.int .i64 a0_0),(Value.int .i64 a0_1),(Value.string a0_2),(Sl3.v a0_3)]] ?_)))))))
  obtain ⟨⟨x3,H4⟩,hx,h⟩:=bind_some h
  try dsimp only at h
  refine RS.cl (some 18) (v:=(Value.int .i64 x3)) 160 #[(Value.agg #[(Value.int .i64 a0_0),(Value.int .i64 a0_1),(Value.string a0_2),(Sl3.v a0_3)]),(Value.agg #[(Sl3.v a1_0),(Sl3.v a1_1),(Sl3.v a1_2)])] (zni hx) (RS.mS 1 [kI 7 x3] (RS.dn (WS.nxt (WS.sq (WS.rg (RS.mS 2 [kB 20 (!decide (x3=0)),kI 19 x3] (RS.dn (WS.nxt ?_))))))))
  rcases z0 h with ⟨hp,h⟩ | ⟨hp,h⟩
  ·refine WS.fx 20 false (zh hp) (WS.cF (WS.sk (WS.nxt (WS.sq (WS.rg (RS.mS 1 [kA 22 #[(Sl3.v a1_0),(Sl3.v a1_1),(Sl3.v a1_2)]] ?_))))))
   obtain ⟨⟨p5,H6⟩,hx,h⟩:=bind_some h
   try dsimp only at h
   refine RS.o (H':=H6) (some 23) (Value.map (some p5)) (Abs.run_newM (by kernel_rfl) hx) (RS.mS 1 [kA 24 #[(Sl3.v a1_0),(Sl3.v a1_1),(Sl3.v a1_2),(Value.map (some p5))]] ?_)
   obtain ⟨⟨p7,H8⟩,hx,h⟩:=bind_some h
   try dsimp only at h
   refine RS.o (H':=H8) (some 25) (Value.pointer (some p7)) (Abs.run_newB (by kernel_rfl) hx) (RS.mS 1 [kP 8 p7] (RS.dn (WS.nxt (WS.sq (WS.sq (WS.rg (RS.mS 4 [kI 29 0,kI 28 (a1_1.n:Int),kS 27 a1_1,kL 26 1 1] (RS.dn (WS.nxt ?_)))))))))
   refine WS.bk 0 ?_
   obtain ⟨o,hl,h⟩:=bind_some h
   rcases o with ⟨H11,v29_12⟩ | r
   ·try dsimp only at h
    refine WS.lI (zbh (L:=L) (E:=E) (m:=m) (H:=H)) (L.ok hl) 2 ?_
    clear hl
    refine fun a w hs=>bkE ((WS.nxt ?_ a w hs))
    refine WS.sq (WS.rg (RS.mS 3 [kI 5 0,kP 4 p7,kP 41 p7] (RS.dn (WS.nxt (WS.rt ?_)))))
    cases h
    exact fun a w hs=>rtR (rS hs)
   ·try dsimp only at h
    refine WS.lR (zbh (L:=L) (E:=E) (m:=m) (H:=H)) (L.ok hl) 2 ?_
    cases h
    exact fun a w hq=>bkR (sqR (rtR hq))
  ·refine WS.fx 20 true (ze hp) (WS.cT ?_)
   cases h
 ·refine WS.fx 14 true (ze hp) (WS.cT ?_)
  cases h
def z1m:Int→Value
 | r0=>(Value.int .i64 r0)
def z1w (H:AH):Int→AH:=fun _=>H
noncomputable def B221:Code:=(Tryz.f221.body).getD .skip
noncomputable def z84 (_L:LC) (_H:AH) (_a0_0:Int) (_a0_1 _a0_2:Bool) (_a0_3:Sl3) (_a0_4:Int) (_a0_5:Sl3) (_a0_6:ByteArray) (_a0_7 _a0_8 _a0_9:Int) (_a0_10:ByteArray) (_a0_11 a0_12:Sl3) (_a0_13 _a0_14:Sl3):(Int×Int)→Option (Lp (Int×Int) Int):=fun (v3_1,v13_2) =>
 if v13_2<(a0_12.n:Int) then
  none
 else
  some (.brk (v3_1,v13_2))
def zix (_L:LC) (_H:AH) (a0_0:Int) (a0_1 a0_2:Bool) (a0_3:Sl3) (a0_4:Int) (a0_5:Sl3) (a0_6:ByteArray) (a0_7 a0_8 a0_9:Int) (a0_10:ByteArray) (a0_11 a0_12:Sl3) (a0_13 a0_14:Sl3):(Int×Int)→KN×Lcs:=fun (v3_1,v13_2)=>([kI 3 v3_1,kI 13 v13_2,kL 1 0 0,kS 11 a0_12,kI 12 (a0_12.n:Int)],[some (75,[(Value.int .i64 a0_0),(Value.bool a0_1),(Value.bool a0_2),(Sl3.v a0_3),(Value.int .i64 a0_4),(Sl3.v a0_5),(Value.string a0_6),(Value.int .i64 a0_7),(Value.int .i64 a0_8),(Value.int .i64 a0_9),(Value.string a0_10),(Sl3.v a0_11),(Sl3.v a0_12),(Sl3.v a0_13),(Sl3.v a0_14)])])
noncomputable def z8g (_L:LC) (_H:AH) (_a0_0:Int) (_a0_1 _a0_2:Bool) (_a0_3:Sl3) (_a0_4:Int) (_a0_5:Sl3) (_a0_6:ByteArray) (_a0_7 _a0_8 _a0_9:Int) (_a0_10:ByteArray) (_a0_11 _a0_12:Sl3) (a0_13 _a0_14:Sl3):(Int×Int)→Option (Lp (Int×Int) Int):=fun (v3_5,v28_6) =>
 if v28_6<(a0_13.n:Int) then
  none
 else
  some (.brk (v3_5,v28_6))
def zj0 (_L:LC) (_H:AH) (a0_0:Int) (a0_1 a0_2:Bool) (a0_3:Sl3) (a0_4:Int) (a0_5:Sl3) (a0_6:ByteArray) (a0_7 a0_8 a0_9:Int) (a0_10:ByteArray) (a0_11 a0_12:Sl3) (a0_13 a0_14:Sl3):(Int×Int)→KN×Lcs:=fun (v3_5,v28_6)=>([kI 3 v3_5,kI 28 v28_6,kL 1 0 0,kS 26 a0_13,kI 27 (a0_13.n:Int)],[some (75,[(Value.int .i64 a0_0),(Value.bool a0_1),(Value.bool a0_2),(Sl3.v a0_3),(Value.int .i64 a0_4),(Sl3.v a0_5),(Value.string a0_6),(Value.int .i64 a0_7),(Value.int .i64 a0_8),(Value.int .i64 a0_9),(Value.string a0_10),(Sl3.v a0_11),(Sl3.v a0_12),(Sl3.v a0_13),(Sl3.v a0_14)])])
noncomputable def z88 (_L:LC) (_H:AH) (_a0_0:Int) (_a0_1 _a0_2:Bool) (_a0_3:Sl3) (_a0_4:Int) (_a0_5:Sl3) (_a0_6:ByteArray) (_a0_7 _a0_8 _a0_9:Int) (_a0_10:ByteArray) (_a0_11 _a0_12:Sl3) (_a0_13 a0_14:Sl3):(Int×Int)→Option (Lp (Int×Int) Int):=fun (v3_9,v52_10) =>
 if v52_10<(a0_14.n:Int) then
  none
 else
  some (.brk (v3_9,v52_10))
def zij (_L:LC) (_H:AH) (a0_0:Int) (a0_1 a0_2:Bool) (a0_3:Sl3) (a0_4:Int) (a0_5:Sl3) (a0_6:ByteArray) (a0_7 a0_8 a0_9:Int) (a0_10:ByteArray) (a0_11 a0_12:Sl3) (a0_13 a0_14:Sl3):(Int×Int)→KN×Lcs:=fun (v3_9,v52_10)=>([kI 3 v3_9,kI 52 v52_10,kS 50 a0_14,kI 51 (a0_14.n:Int)],[some (75,[(Value.int .i64 a0_0),(Value.bool a0_1),(Value.bool a0_2),(Sl3.v a0_3),(Value.int .i64 a0_4),(Sl3.v a0_5),(Value.string a0_6),(Value.int .i64 a0_7),(Value.int .i64 a0_8),(Value.int .i64 a0_9),(Value.string a0_10),(Sl3.v a0_11),(Sl3.v a0_12),(Sl3.v a0_13),(Sl3.v a0_14)])])
noncomputable def z6c (L:LC) (H:AH) (a0_0:Int) (a0_1 a0_2:Bool) (a0_3:Sl3) (a0_4:Int) (a0_5:Sl3) (a0_6:ByteArray) (a0_7 a0_8 a0_9:Int) (a0_10:ByteArray) (a0_11 a0_12:Sl3) (a0_13 a0_14:Sl3):Option Int :=
 Option.bind (L.run (z84 L H a0_0 a0_1 a0_2 a0_3 a0_4 a0_5 a0_6 a0_7 a0_8 a0_9 a0_10 a0_11 a0_12 a0_13 a0_14) (1,0)) fun o=>match o with
 | .inl (v3_3,_) =>
  Option.bind (L.run (z8g L H a0_0 a0_1 a0_2 a0_3 a0_4 a0_5 a0_6 a0_7 a0_8 a0_9 a0_10 a0_11 a0_12 a0_13 a0_14) (v3_3,0)) fun o=>match o with
  | .inl (v3_7,_) =>
   Option.bind (L.run (z88 L H a0_0 a0_1 a0_2 a0_3 a0_4 a0_5 a0_6 a0_7 a0_8 a0_9 a0_10 a0_11 a0_12 a0_13 a0_14) (v3_7,0)) fun o=>match o with
   | .inl (v3_11,_) =>
    some v3_11
   | .inr r=>some r
  | .inr r=>some r
 | .inr r=>some r
noncomputable def zcd (L:LC) (n:Nat):(AH→Int→Bool→Bool→Sl3→Int→Sl3→ByteArray→Int→Int→Int→ByteArray→Sl3→Sl3→Sl3→Sl3→Option Int):=Nat.rec (motive:=fun _=>(AH→Int→Bool→Bool→Sl3→Int→Sl3→ByteArray→Int→Int→Int→ByteArray→Sl3→Sl3→Sl3→Sl3→Option Int)) (fun _ _ _ _ _ _ _ _ _ _ _ _ _ _ _ _=>none) (fun _ _=>z6c L) n
noncomputable def zjj (L:LC) (H:AH) (a0_0:Int) (a0_1 a0_2:Bool) (a0_3:Sl3) (a0_4:Int) (a0_5:Sl3) (a0_6:ByteArray) (a0_7 a0_8 a0_9:Int) (a0_10:ByteArray) (a0_11 a0_12:Sl3) (a0_13 a0_14:Sl3):Option Int:=(zcd L L.fuel) H a0_0 a0_1 a0_2 a0_3 a0_4 a0_5 a0_6 a0_7 a0_8 a0_9 a0_10 a0_11 a0_12 a0_13 a0_14
theorem zag {E m L H a0_0 a0_1 a0_2 a0_3 a0_4 a0_5 a0_6 a0_7 a0_8 a0_9 a0_10 a0_11 a0_12 a0_13 a0_14} :LoopF Tryz.prog (NE.plain 167) m E Tryz.f221 ((cfst (csnd (cfst (csnd (csnd B221)))))) (zix L H a0_0 a0_1 a0_2 a0_3 a0_4 a0_5 a0_6 a0_7 a0_8 a0_9 a0_10 a0_11 a0_12 a0_13 a0_14) (fun _=>H) 0 z1m (z1w H) (z84 L H a0_0 a0_1 a0_2 a0_3 a0_4 a0_5 a0_6 a0_7 a0_8 a0_9 a0_10 a0_11 a0_12 a0_13 a0_14):=by
 rintro ⟨v3_1,v13_2⟩ o h
 unfold z84 at h
 try dsimp only at h
 refine WS.sq (WS.rg (RS.mS 1 [kB 14 (decide (v13_2<(a0_12.n:Int)))] (RS.dn (WS.nxt (WS.sq ?_)))))
 rcases z0 h with ⟨hp,h⟩ | ⟨hp,h⟩
 ·refine WS.fx 14 true (decide_eq_true hp) (WS.cT ?_)
  cases h
 ·refine WS.fx 14 false (decide_eq_false hp) (WS.cF (WS.ex 0 ?_))
  cases h
  exact fun a w hs=>sqE (lsB rfl (hs.sb 1))
theorem zae {E m L H a0_0 a0_1 a0_2 a0_3 a0_4 a0_5 a0_6 a0_7 a0_8 a0_9 a0_10 a0_11 a0_12 a0_13 a0_14} :LoopF Tryz.prog (NE.plain 167) m E Tryz.f221 ((cfst (csnd (cfst (csnd (csnd (csnd B221))))))) (zj0 L H a0_0 a0_1 a0_2 a0_3 a0_4 a0_5 a0_6 a0_7 a0_8 a0_9 a0_10 a0_11 a0_12 a0_13 a0_14) (fun _=>H) 2 z1m (z1w H) (z8g L H a0_0 a0_1 a0_2 a0_3 a0_4 a0_5 a0_6 a0_7 a0_8 a0_9 a0_10 a0_11 a0_12 a0_13 a0_14):=by
 rintro ⟨v3_5,v28_6⟩ o h
 unfold z8g at h
 try dsimp only at h
 refine WS.sq (WS.rg (RS.mS 1 [kB 29 (decide (v28_6<(a0_13.n:Int)))] (RS.dn (WS.nxt (WS.sq ?_)))))
 rcases z0 h with ⟨hp,h⟩ | ⟨hp,h⟩
 ·refine WS.fx 29 true (decide_eq_true hp) (WS.cT ?_)
  cases h
 ·refine WS.fx 29 false (decide_eq_false hp) (WS.cF (WS.ex 2 ?_))
  cases h
  exact fun a w hs=>sqE (lsB rfl (hs.sb 1))
theorem zab {E m L H a0_0 a0_1 a0_2 a0_3 a0_4 a0_5 a0_6 a0_7 a0_8 a0_9 a0_10 a0_11 a0_12 a0_13 a0_14} :LoopF Tryz.prog (NE.plain 167) m E Tryz.f221 ((cfst (csnd (cfst (csnd (csnd (csnd (csnd B221)))))))) (zij L H a0_0 a0_1 a0_2 a0_3 a0_4 a0_5 a0_6 a0_7 a0_8 a0_9 a0_10 a0_11 a0_12 a0_13 a0_14) (fun _=>H) 4 z1m (z1w H) (z88 L H a0_0 a0_1 a0_2 a0_3 a0_4 a0_5 a0_6 a0_7 a0_8 a0_9 a0_10 a0_11 a0_12 a0_13 a0_14):=by
 rintro ⟨v3_9,v52_10⟩ o h
 unfold z88 at h
 try dsimp only at h
 refine WS.sq (WS.rg (RS.mS 1 [kB 53 (decide (v52_10<(a0_14.n:Int)))] (RS.dn (WS.nxt (WS.sq ?_)))))
 rcases z0 h with ⟨hp,h⟩ | ⟨hp,h⟩
 ·refine WS.fx 53 true (decide_eq_true hp) (WS.cT ?_)
  cases h
 ·refine WS.fx 53 false (decide_eq_false hp) (WS.cF (WS.ex 4 ?_))
  cases h
  exact fun a w hs=>sqE (lsB rfl (hs.sb 1))
theorem zgj {L:LC} {m:Nat} {H:AH} {a0_0:Int} {a0_1 a0_2:Bool} {a0_3:Sl3} {a0_4:Int} {a0_5:Sl3} {a0_6:ByteArray} {a0_7 a0_8 a0_9:Int} {a0_10:ByteArray} {a0_11 a0_12:Sl3} {a0_13 a0_14:Sl3} {r:Int} (h:z6c L H a0_0 a0_1 a0_2 a0_3 a0_4 a0_5 a0_6 a0_7 a0_8 a0_9 a0_10 a0_11 a0_12 a0_13 a0_14=some r) :
  CallS Tryz.prog (NE.plain 167) m 221 #[(Value.agg #[(Value.int .i64 a0_0),(Value.bool a0_1),(Value.bool a0_2),(Sl3.v a0_3),(Value.int .i64 a0_4),(Sl3.v a0_5),(Value.string a0_6),(Value.int .i64 a0_7),(Value.int .i64 a0_8),(Value.int .i64 a0_9),(Value.string a0_10),(Sl3.v a0_11),(Sl3.v a0_12),(Sl3.v a0_13),(Sl3.v a0_14)])] H (z1m r) (z1w H r):=by
 refine CallS.mk (args:=[(Value.agg #[(Value.int .i64 a0_0),(Value.bool a0_1),(Value.bool a0_2),(Sl3.v a0_3),(Value.int .i64 a0_4),(Sl3.v a0_5),(Value.string a0_6),(Value.int .i64 a0_7),(Value.int .i64 a0_8),(Value.int .i64 a0_9),(Value.string a0_10),(Sl3.v a0_11),(Sl3.v a0_12),(Sl3.v a0_13),(Sl3.v a0_14)])]) Tryz.func221 (B:=B221) (by kernel_rfl) (fun E _=>?_)
 unfold z6c at h
 refine WS.sq (WS.rg (RS.mL 2 [kI 2 0,kL 1 0 0] ([some (75,[(Value.int .i64 a0_0),(Value.bool a0_1),(Value.bool a0_2),(Sl3.v a0_3),(Value.int .i64 a0_4),(Sl3.v a0_5),(Value.string a0_6),(Value.int .i64 a0_7),(Value.int .i64 a0_8),(Value.int .i64 a0_9),(Value.string a0_10),(Sl3.v a0_11),(Sl3.v a0_12),(Sl3.v a0_13),(Sl3.v a0_14)])]) (RS.dn (WS.nxt (WS.sq (WS.rg (RS.mS 1 [kI 3 1] (RS.dn (WS.nxt ?_)))))))))
 refine WS.sq (WS.sq (WS.rg (RS.mS 4 [kI 13 0,kI 12 (a0_12.n:Int),kS 11 a0_12,kL 10 0 12] (RS.dn (WS.nxt (WS.bk 0 ?_))))))
 obtain ⟨o,hl,h⟩:=bind_some h
 rcases o with ⟨v3_3,v13_4⟩ | r
 ·try dsimp only at h
  refine WS.lI (zag (L:=L) (E:=E) (m:=m) (H:=H)) (L.ok hl) 1 ?_
  clear hl
  refine fun a w hs=>bkE ((WS.nxt ?_ a w hs))
  refine WS.sq (WS.sq (WS.rg (RS.mS 4 [kI 28 0,kI 27 (a0_13.n:Int),kS 26 a0_13,kL 25 0 13] (RS.dn (WS.nxt (WS.bk 2 ?_))))))
  obtain ⟨o,hl,h⟩:=bind_some h
  rcases o with ⟨v3_7,v28_8⟩ | r
  ·try dsimp only at h
   refine WS.lI (zae (L:=L) (E:=E) (m:=m) (H:=H)) (L.ok hl) 1 ?_
   clear hl
   refine fun a w hs=>bkE ((WS.nxt ?_ a w hs))
   refine WS.sq (WS.sq (WS.rg (RS.mS 4 [kI 52 0,kI 51 (a0_14.n:Int),kS 50 a0_14,kL 49 0 14] (RS.dn (WS.nxt (WS.bk 4 ?_))))))
   obtain ⟨o,hl,h⟩:=bind_some h
   rcases o with ⟨v3_11,v52_12⟩ | r
   ·try dsimp only at h
    refine WS.lI (zab (L:=L) (E:=E) (m:=m) (H:=H)) (L.ok hl) 1 ?_
    clear hl
    refine fun a w hs=>bkE ((WS.nxt ?_ a w hs))
    refine WS.sq (WS.rg (RS.mS 2 [kI 2 v3_11,kI 64 v3_11] (RS.dn (WS.nxt (WS.rt ?_)))))
    cases h
    exact fun a w hs=>rtR (rS hs)
   ·try dsimp only at h
    refine WS.lR (zab (L:=L) (E:=E) (m:=m) (H:=H)) (L.ok hl) 1 ?_
    cases h
    exact fun a w hq=>bkR (sqR (rtR hq))
  ·try dsimp only at h
   refine WS.lR (zae (L:=L) (E:=E) (m:=m) (H:=H)) (L.ok hl) 1 ?_
   cases h
   exact fun a w hq=>bkR (sqR (rtR hq))
 ·try dsimp only at h
  refine WS.lR (zag (L:=L) (E:=E) (m:=m) (H:=H)) (L.ok hl) 1 ?_
  cases h
  exact fun a w hq=>bkR (sqR (rtR hq))
theorem zhd {L:LC}:∀n,(∀(m:Nat) (H:AH) (a0_0:Int) (a0_1 a0_2:Bool) (a0_3:Sl3) (a0_4:Int) (a0_5:Sl3) (a0_6:ByteArray) (a0_7 a0_8 a0_9:Int) (a0_10:ByteArray) (a0_11 a0_12:Sl3) (a0_13 a0_14:Sl3) (r:Int),((zcd L n)) H a0_0 a0_1 a0_2 a0_3 a0_4 a0_5 a0_6 a0_7 a0_8 a0_9 a0_10 a0_11 a0_12 a0_13 a0_14=some r→CallS Tryz.prog (NE.plain 167) m 221 #[(Value.agg #[(Value.int .i64 a0_0),(Value.bool a0_1),(Value.bool a0_2),(Sl3.v a0_3),(Value.int .i64 a0_4),(Sl3.v a0_5),(Value.string a0_6),(Value.int .i64 a0_7),(Value.int .i64 a0_8),(Value.int .i64 a0_9),(Value.string a0_10),(Sl3.v a0_11),(Sl3.v a0_12),(Sl3.v a0_13),(Sl3.v a0_14)])] H (z1m r) (z1w H r)):=by
 intro n
 induction n with
 | zero=>exact (fun _ _ _ _ _ _ _ _ _ _ _ _ _ _ _ _ _ _ h=>(Option.some_ne_none _ h.symm).elim)
 | succ n ih=>exact (fun _ _ _ _ _ _ _ _ _ _ _ _ _ _ _ _ _ _ h=>zgj (L:=L)  h)
theorem zls {L:LC} {m:Nat} {H:AH} {a0_0:Int} {a0_1 a0_2:Bool} {a0_3:Sl3} {a0_4:Int} {a0_5:Sl3} {a0_6:ByteArray} {a0_7 a0_8 a0_9:Int} {a0_10:ByteArray} {a0_11 a0_12:Sl3} {a0_13 a0_14:Sl3} {r:Int} (h:zjj L H a0_0 a0_1 a0_2 a0_3 a0_4 a0_5 a0_6 a0_7 a0_8 a0_9 a0_10 a0_11 a0_12 a0_13 a0_14=some r) :
  CallS Tryz.prog (NE.plain 167) m 221 #[(Value.agg #[(Value.int .i64 a0_0),(Value.bool a0_1),(Value.bool a0_2),(Sl3.v a0_3),(Value.int .i64 a0_4),(Sl3.v a0_5),(Value.string a0_6),(Value.int .i64 a0_7),(Value.int .i64 a0_8),(Value.int .i64 a0_9),(Value.string a0_10),(Sl3.v a0_11),(Sl3.v a0_12),(Sl3.v a0_13),(Sl3.v a0_14)])] H (z1m r) (z1w H r) :=
 (zhd _) _ _ _ _ _ _ _ _ _ _ _ _ _ _ _ _ _ _ h
def zdx:Value→Value
 | r0=>r0
def zg5 (H:AH):Value→AH:=fun _=>H
noncomputable def B238:Code:=(Tryz.f238.body).getD .skip
noncomputable def zfp (L:LC) (H:AH) (a0_0:Int) (a0_1 a0_2:Bool) (a0_3:Sl3) (a0_4:Int) (a0_5:Sl3) (a0_6:ByteArray) (a0_7 a0_8 a0_9:Int) (a0_10:ByteArray) (a0_11 a0_12:Sl3) (a0_13 a0_14:Sl3):Option Value :=
 if a0_0=1 then
  none
 else
  if a0_0=2 then
   if a0_1=true then
    none
   else
    if a0_4=0 then
     if a0_7=0 then
      if (IntKind.i64.wrap ((IntKind.i64.wrap ((IntKind.i64.wrap ((IntKind.i64.wrap ((IntKind.i64.wrap ((Sl3.nil.n:Int)+(a0_5.n:Int)))+(a0_6.size:Int)))+(a0_12.n:Int)))+(a0_13.n:Int)))+(a0_14.n:Int)))=0 then
       Option.bind (zcq L H a0_8 a0_9 a0_10 a0_11 0 0 (⟨#[]⟩:ByteArray) Sl3.nil) fun x1 =>
       if x1=true then
        if a0_0=1 then
         none
        else
         if a0_0=2 then
          Option.bind (gOp1 Tryz.prog (opsOf (cfst (cfst (csnd (csnd (csnd (cfst (csnd (cfst (csnd (csnd (csnd (csnd (csnd B238)))))))))))))) 3 [(98,.val (Value.agg #[(Value.bool a0_2),(Sl3.v a0_3)]))] deV H) fun x2 =>
          some x2
         else
          none
       else
        none
      else
       none
     else
      none
    else
     none
  else
   none
theorem zmy {L:LC} {m:Nat} {H:AH} {a0_0:Int} {a0_1 a0_2:Bool} {a0_3:Sl3} {a0_4:Int} {a0_5:Sl3} {a0_6:ByteArray} {a0_7 a0_8 a0_9:Int} {a0_10:ByteArray} {a0_11 a0_12:Sl3} {a0_13 a0_14:Sl3} {r:Value} (h:zfp L H a0_0 a0_1 a0_2 a0_3 a0_4 a0_5 a0_6 a0_7 a0_8 a0_9 a0_10 a0_11 a0_12 a0_13 a0_14=some r) :
  CallS Tryz.prog (NE.plain 167) m 238 #[(Value.agg #[(Value.int .i64 a0_0),(Value.bool a0_1),(Value.bool a0_2),(Sl3.v a0_3),(Value.int .i64 a0_4),(Sl3.v a0_5),(Value.string a0_6),(Value.int .i64 a0_7),(Value.int .i64 a0_8),(Value.int .i64 a0_9),(Value.string a0_10),(Sl3.v a0_11),(Sl3.v a0_12),(Sl3.v a0_13),(Sl3.v a0_14)])] H (zdx r) (zg5 H r):=by
 refine CallS.mk (args:=[(Value.agg #[(Value.int .i64 a0_0),(Value.bool a0_1),(Value.bool a0_2),(Sl3.v a0_3),(Value.int .i64 a0_4),(Sl3.v a0_5),(Value.string a0_6),(Value.int .i64 a0_7),(Value.int .i64 a0_8),(Value.int .i64 a0_9),(Value.string a0_10),(Sl3.v a0_11),(Sl3.v a0_12),(Sl3.v a0_13),(Sl3.v a0_14)])]) Tryz.func238 (B:=B238) (by kernel_rfl) (fun E _=>?_)
 unfold zfp at h
 refine WS.sq (WS.rg (RS.mL 2 [(2,.val Value.nilIface),kL 1 0 0] ([some (75,[(Value.int .i64 a0_0),(Value.bool a0_1),(Value.bool a0_2),(Sl3.v a0_3),(Value.int .i64 a0_4),(Sl3.v a0_5),(Value.string a0_6),(Value.int .i64 a0_7),(Value.int .i64 a0_8),(Value.int .i64 a0_9),(Value.string a0_10),(Sl3.v a0_11),(Sl3.v a0_12),(Sl3.v a0_13),(Sl3.v a0_14)])]) (RS.dn (WS.nxt (WS.sq (WS.rg (RS.mL 3 [kL 3 1 0,kA 5 #[(Value.int .i64 a0_0),(Value.bool a0_1),(Value.bool a0_2),(Sl3.v a0_3),(Value.int .i64 a0_4),(Sl3.v a0_5),(Value.string a0_6),(Value.int .i64 a0_7),(Value.int .i64 a0_8),(Value.int .i64 a0_9),(Value.string a0_10),(Sl3.v a0_11),(Sl3.v a0_12),(Sl3.v a0_13),(Sl3.v a0_14)]] ([some (75,[(Value.int .i64 a0_0),(Value.bool a0_1),(Value.bool a0_2),(Sl3.v a0_3),(Value.int .i64 a0_4),(Sl3.v a0_5),(Value.string a0_6),(Value.int .i64 a0_7),(Value.int .i64 a0_8),(Value.int .i64 a0_9),(Value.string a0_10),(Sl3.v a0_11),(Sl3.v a0_12),(Sl3.v a0_13),(Sl3.v a0_14)]),some (75,[(Value.int .i64 a0_0),(Value.bool a0_1),(Value.bool a0_2),(Sl3.v a0_3),(Value.int .i64 a0_4),(Sl3.v a0_5),(Value.string a0_6),(Value.int .i64 a0_7),(Value.int .i64 a0_8),(Value.int .i64 a0_9),(Value.string a0_10),(Sl3.v a0_11),(Sl3.v a0_12),(Sl3.v a0_13),(Sl3.v a0_14)])]) (RS.dn (WS.nxt ?_)))))))))
 refine WS.sq (WS.sq (WS.rg (RS.mS 2 [kI 7 a0_0,kL 6 0 0] (RS.dn (WS.nxt (WS.bk 0 (WS.sq (WS.rg (RS.mS 2 [kB 8 (decide (a0_0=1)),kB 9 (decide (a0_0=1))] ?_)))))))))
 refine RS.dn (WS.nxt ?_)
 rcases z0 h with ⟨hp,h⟩ | ⟨hp,h⟩
 ·refine WS.fx 8 true (decide_eq_true hp) (WS.cT ?_)
  cases h
 ·refine WS.fx 8 false (decide_eq_false hp) (WS.cF (WS.sq (WS.rg (RS.mS 2 [kB 11 (decide (a0_0=2)),kB 12 (decide (a0_0=2))] (RS.dn (WS.nxt ?_))))))
  rcases z0 h with ⟨hp,h⟩ | ⟨hp,h⟩
  ·refine WS.fx 11 true (decide_eq_true hp) (WS.cT (WS.rg (RS.mL 3 [kL 14 1 2,kA 13 #[(Value.bool false),(Sl3.v Sl3.nil)]] ([some (75,[(Value.int .i64 a0_0),(Value.bool a0_1),(Value.bool a0_2),(Sl3.v a0_3),(Value.int .i64 a0_4),(Sl3.v a0_5),(Value.string a0_6),(Value.int .i64 a0_7),(Value.int .i64 a0_8),(Value.int .i64 a0_9),(Value.string a0_10),(Sl3.v a0_11),(Sl3.v a0_12),(Sl3.v a0_13),(Sl3.v a0_14)]),some (75,[(Value.int .i64 a0_0),(Value.bool a0_1),(Value.bool false),(Sl3.v Sl3.nil),(Value.int .i64 a0_4),(Sl3.v a0_5),(Value.string a0_6),(Value.int .i64 a0_7),(Value.int .i64 a0_8),(Value.int .i64 a0_9),(Value.string a0_10),(Sl3.v a0_11),(Sl3.v a0_12),(Sl3.v a0_13),(Sl3.v a0_14)])]) (RS.dn ?_))))
   refine fun a w hs=>bkN ((WS.nxt ?_ a w hs))
   refine WS.sq (WS.rg (RS.mS 26 [kI 4 (IntKind.i64.wrap ((IntKind.i64.wrap ((IntKind.i64.wrap ((IntKind.i64.wrap ((IntKind.i64.wrap ((Sl3.nil.n:Int)+(a0_5.n:Int)))+(a0_6.size:Int)))+(a0_12.n:Int)))+(a0_13.n:Int)))+(a0_14.n:Int))),kI 57 (IntKind.i64.wrap ((IntKind.i64.wrap ((IntKind.i64.wrap ((IntKind.i64.wrap ((IntKind.i64.wrap ((Sl3.nil.n:Int)+(a0_5.n:Int)))+(a0_6.size:Int)))+(a0_12.n:Int)))+(a0_13.n:Int)))+(a0_14.n:Int))),kI 56 (a0_14.n:Int),kS 55 a0_14,kL 54 1 14,kI 53 (IntKind.i64.wrap ((IntKind.i64.wrap ((IntKind.i64.wrap ((IntKind.i64.wrap ((Sl3.nil.n:Int)+(a0_5.n:Int)))+(a0_6.size:Int)))+(a0_12.n:Int)))+(a0_13.n:Int))),kI 52 (a0_13.n:Int),kS 51 a0_13,kL 50 1 13,kI 49 (IntKind.i64.wrap ((IntKind.i64.wrap ((IntKind.i64.wrap ((Sl3.nil.n:Int)+(a0_5.n:Int)))+(a0_6.size:Int)))+(a0_12.n:Int))),kI 48 (a0_12.n:Int),kS 47 a0_12,kL 46 1 12,kI 45 (IntKind.i64.wrap ((IntKind.i64.wrap ((Sl3.nil.n:Int)+(a0_5.n:Int)))+(a0_6.size:Int))),kI 44 (a0_6.size:Int),kT 43 a0_6,kL 42 1 6,kI 41 (IntKind.i64.wrap ((Sl3.nil.n:Int)+(a0_5.n:Int))),kI 40 (a0_5.n:Int),kS 39 a0_5,kL 38 1 5,kL 37 1 4,kI 36 (Sl3.nil.n:Int),kS 35 Sl3.nil,kL 34 1 3,kL 33 1 2] (RS.dn (WS.nxt (WS.sq (WS.sq (WS.rg (RS.mS 3 [kB 60 a0_1,kB 59 a0_1,kL 58 1 1] ?_))))))))
   rcases z0 h with ⟨hp,h⟩ | ⟨hp,h⟩
   ·refine RS.fx 60 true hp ?_
    cases h
   ·refine RS.fx 60 false (b_not hp) (RS.mS 11 [kB 71 (!decide (a0_4=0)),kB 70 (!decide (a0_4=0)),kB 69 (!decide (a0_4=0)),kI 68 a0_4,kL 67 1 4,kL 66 1 4,kB 65 false,kB 64 false,kB 63 false,kL 62 1 2,kL 61 1 2] ?_)
    rcases z0 h with ⟨hp,h⟩ | ⟨hp,h⟩
    ·refine RS.fx 71 false (zh hp) (RS.mS 5 [kB 76 (!decide (a0_7=0)),kB 75 (!decide (a0_7=0)),kB 74 (!decide (a0_7=0)),kI 73 a0_7,kL 72 1 7] ?_)
     rcases z0 h with ⟨hp,h⟩ | ⟨hp,h⟩
     ·refine RS.fx 76 false (zh hp) (RS.mS 4 [kB 80 (!decide ((IntKind.i64.wrap ((IntKind.i64.wrap ((IntKind.i64.wrap ((IntKind.i64.wrap ((IntKind.i64.wrap ((Sl3.nil.n:Int)+(a0_5.n:Int)))+(a0_6.size:Int)))+(a0_12.n:Int)))+(a0_13.n:Int)))+(a0_14.n:Int)))=0)),kB 79 (!decide ((IntKind.i64.wrap ((IntKind.i64.wrap ((IntKind.i64.wrap ((IntKind.i64.wrap ((IntKind.i64.wrap ((Sl3.nil.n:Int)+(a0_5.n:Int)))+(a0_6.size:Int)))+(a0_12.n:Int)))+(a0_13.n:Int)))+(a0_14.n:Int)))=0)),kB 78 (!decide ((IntKind.i64.wrap ((IntKind.i64.wrap ((IntKind.i64.wrap ((IntKind.i64.wrap ((IntKind.i64.wrap ((Sl3.nil.n:Int)+(a0_5.n:Int)))+(a0_6.size:Int)))+(a0_12.n:Int)))+(a0_13.n:Int)))+(a0_14.n:Int)))=0)),kI 77 (IntKind.i64.wrap ((IntKind.i64.wrap ((IntKind.i64.wrap ((IntKind.i64.wrap ((IntKind.i64.wrap ((Sl3.nil.n:Int)+(a0_5.n:Int)))+(a0_6.size:Int)))+(a0_12.n:Int)))+(a0_13.n:Int)))+(a0_14.n:Int)))] ?_)
      rcases z0 h with ⟨hp,h⟩ | ⟨hp,h⟩
      ·refine RS.fx 80 false (zh hp) (RS.mS 3 [kA 83 #[(Value.int .i64 0),(Value.int .i64 0),(Value.string (⟨#[]⟩:ByteArray)),(Sl3.v Sl3.nil)],kA 82 #[(Value.int .i64 a0_8),(Value.int .i64 a0_9),(Value.string a0_10),(Sl3.v a0_11)],kL 81 1 8] ?_)
       obtain ⟨x1,hx,h⟩:=bind_some h
       refine RS.cl (some 84) (v:=(Value.bool x1)) 52 #[(Value.agg #[(Value.int .i64 a0_8),(Value.int .i64 a0_9),(Value.string a0_10),(Sl3.v a0_11)]),(Value.agg #[(Value.int .i64 0),(Value.int .i64 0),(Value.string (⟨#[]⟩:ByteArray)),(Sl3.v Sl3.nil)])] (zbw hx) (RS.mS 2 [kB 86 (!x1),kB 85 (!x1)] (RS.dn (WS.nxt ?_)))
       rcases z0 h with ⟨hp,h⟩ | ⟨hp,h⟩
       ·refine WS.fx 86 false (nb_not hp) (WS.cF (WS.sk (WS.nxt (WS.sq (WS.sq (WS.rg (RS.mS 2 [kI 88 a0_0,kL 87 0 0] (RS.dn (WS.nxt ?_)))))))))
        refine WS.bk 1 (WS.sq (WS.rg (RS.mS 2 [kB 89 (decide (a0_0=1)),kB 90 (decide (a0_0=1))] (RS.dn (WS.nxt ?_)))))
        rcases z0 h with ⟨hp,h⟩ | ⟨hp,h⟩
        ·refine WS.fx 89 true (decide_eq_true hp) (WS.cT ?_)
         cases h
        ·refine WS.fx 89 false (decide_eq_false hp) (WS.cF (WS.sq (WS.rg (RS.mS 2 [kB 94 (decide (a0_0=2)),kB 95 (decide (a0_0=2))] (RS.dn (WS.nxt ?_))))))
         rcases z0 h with ⟨hp,h⟩ | ⟨hp,h⟩
         ·refine WS.fx 94 true (decide_eq_true hp) (WS.cT (WS.sq (WS.rg (RS.mS 3 [kA 98 #[(Value.bool a0_2),(Sl3.v a0_3)],kA 97 #[(Value.bool a0_2),(Sl3.v a0_3)],kL 96 0 2] ?_))))
          obtain ⟨x2,hx,h⟩:=bind_some h
          refine RS.o (H':=H) (some 99) x2 (zjp hx zsy (by kernel_rfl) (by kernel_rfl)) (RS.mS 1 [(2,.val x2)] (RS.dn (WS.nxt (WS.rt ?_))))
          cases h
          exact fun a w hs=>bkR (sqR (rtR (rS hs)))
         ·refine WS.fx 94 false (decide_eq_false hp) (WS.cF ?_)
          cases h
       ·refine WS.fx 86 true (za hp) (WS.cT ?_)
        cases h
      ·refine RS.fx 80 true (ze hp) ?_
       cases h
     ·refine RS.fx 76 true (ze hp) ?_
      cases h
    ·refine RS.fx 71 true (ze hp) ?_
     cases h
  ·refine WS.fx 11 false (decide_eq_false hp) (WS.cF ?_)
   cases h
def zin:(Bool×AH)→Value
 | (r0,_)=>(Value.bool r0)
def zjl (_:AH):(Bool×AH)→AH:=fun r=>r.2
noncomputable def B222:Code:=(Tryz.f222.body).getD .skip
noncomputable def z50 (L:LC):Nat→FuncId→Array Value→AH→Option (Value×AH) :=
 (orO (orF 56 (dcC (dcG (dcC dcB (dcC dcSl dcN))) dcN) fun m H ((a0_0,(a0_1,_)),_)=>(z7f L m H a0_0 a0_1).map fun r=>(z8f r,z9j H r))
  (orO (orF 238 (dcC (dcG (dcC (dcI .i64) (dcC dcB (dcC dcB (dcC dcSl (dcC (dcI .i64) (dcC dcSl (dcC dcS (dcC (dcI .i64) (dcC (dcI .i64) (dcC (dcI .i64) (dcC dcS (dcC dcSl (dcC dcSl (dcC dcSl (dcC dcSl dcN)))))))))))))))) dcN) fun _ H ((a0_0,(a0_1,(a0_2,(a0_3,(a0_4,(a0_5,(a0_6,(a0_7,(a0_8,(a0_9,(a0_10,(a0_11,(a0_12,(a0_13,(a0_14,_))))))))))))))),_)=>(zfp L H a0_0 a0_1 a0_2 a0_3 a0_4 a0_5 a0_6 a0_7 a0_8 a0_9 a0_10 a0_11 a0_12 a0_13 a0_14).map fun r=>(zdx r,zg5 H r))
  orN))
noncomputable def zg7 (L:LC) (m:Nat) (H:AH) (a0:Option Addr) (a1_0:Int) (a1_1 a1_2:Bool) (a1_3:Sl3) (a1_4:Int) (a1_5:Sl3) (a1_6:ByteArray) (a1_7 a1_8 a1_9:Int) (a1_10:ByteArray) (a1_11 a1_12:Sl3) (a1_13 a1_14:Sl3) (a2_0 a2_1:Int) (a2_2:ByteArray) (a2_3:Sl3):Option (Bool×AH) :=
 byRun Tryz.prog 167 (z50 L) m 222 #[(Value.pointer a0),(Value.agg #[(Value.int .i64 a1_0),(Value.bool a1_1),(Value.bool a1_2),(Sl3.v a1_3),(Value.int .i64 a1_4),(Sl3.v a1_5),(Value.string a1_6),(Value.int .i64 a1_7),(Value.int .i64 a1_8),(Value.int .i64 a1_9),(Value.string a1_10),(Sl3.v a1_11),(Sl3.v a1_12),(Sl3.v a1_13),(Sl3.v a1_14)]),(Value.agg #[(Value.int .i64 a2_0),(Value.int .i64 a2_1),(Value.string a2_2),(Sl3.v a2_3)])] H dcB fun r H2=>(r,H2)
theorem zfr {L:LC}:OrOK Tryz.prog (NE.plain 167) (z50 L):=by
 unfold z50
 refine orO_ok (orF_ok fun m H ⟨⟨a0_0,⟨a0_1,_⟩⟩,_⟩ v H' h=>by
  obtain ⟨r,h1,rfl,rfl⟩:=z4m h
  exact z9y h1) ?_
 refine orO_ok (orF_ok fun m H ⟨⟨a0_0,⟨a0_1,⟨a0_2,⟨a0_3,⟨a0_4,⟨a0_5,⟨a0_6,⟨a0_7,⟨a0_8,⟨a0_9,⟨a0_10,⟨a0_11,⟨a0_12,⟨a0_13,⟨a0_14,_⟩⟩⟩⟩⟩⟩⟩⟩⟩⟩⟩⟩⟩⟩⟩,_⟩ v H' h=>by
  obtain ⟨r,h1,rfl,rfl⟩:=z4m h
  exact zmy h1) ?_
 exact orN_ok
theorem zjx {L:LC} {m:Nat} {H:AH} {a0:Option Addr} {a1_0:Int} {a1_1 a1_2:Bool} {a1_3:Sl3} {a1_4:Int} {a1_5:Sl3} {a1_6:ByteArray} {a1_7 a1_8 a1_9:Int} {a1_10:ByteArray} {a1_11 a1_12:Sl3} {a1_13 a1_14:Sl3} {a2_0 a2_1:Int} {a2_2:ByteArray} {a2_3:Sl3} {r:(Bool×AH)} (h:zg7 L m H a0 a1_0 a1_1 a1_2 a1_3 a1_4 a1_5 a1_6 a1_7 a1_8 a1_9 a1_10 a1_11 a1_12 a1_13 a1_14 a2_0 a2_1 a2_2 a2_3=some r) :
  CallS Tryz.prog (NE.plain 167) m 222 #[(Value.pointer a0),(Value.agg #[(Value.int .i64 a1_0),(Value.bool a1_1),(Value.bool a1_2),(Sl3.v a1_3),(Value.int .i64 a1_4),(Sl3.v a1_5),(Value.string a1_6),(Value.int .i64 a1_7),(Value.int .i64 a1_8),(Value.int .i64 a1_9),(Value.string a1_10),(Sl3.v a1_11),(Sl3.v a1_12),(Sl3.v a1_13),(Sl3.v a1_14)]),(Value.agg #[(Value.int .i64 a2_0),(Value.int .i64 a2_1),(Value.string a2_2),(Sl3.v a2_3)])] H (zin r) (zjl H r):=by
 obtain ⟨r,H2,rfl,hc⟩:=znm zfr Tryz.func222 (show Tryz.f222.body=some B222 by kernel_rfl) h
 exact hc
def zew:(Int×AH)→Value
 | (r0,_)=>(Value.int .i64 r0)
def zh0 (_:AH):(Int×AH)→AH:=fun r=>r.2
noncomputable def B178:Code:=(Tryz.f178.body).getD .skip
noncomputable def z6b (L:LC) (m:Nat) (H:AH) (a0:Option Addr) (a1_0:Int) (a1_1 a1_2:Bool) (a1_3:Sl3) (a1_4:Int) (a1_5:Sl3) (a1_6:ByteArray) (a1_7 a1_8 a1_9:Int) (a1_10:ByteArray) (a1_11 a1_12:Sl3) (a1_13 a1_14:Sl3) (a2_0 a2_1:Int) (a2_2:ByteArray) (a2_3:Sl3):Option (Int×AH) :=
 Option.bind (zjj L H a1_0 a1_1 a1_2 a1_3 a1_4 a1_5 a1_6 a1_7 a1_8 a1_9 a1_10 a1_11 a1_12 a1_13 a1_14) fun x1 =>
 if x1 > 65536 then
  none
 else
  Option.bind (zg7 L m H a0 a1_0 a1_1 a1_2 a1_3 a1_4 a1_5 a1_6 a1_7 a1_8 a1_9 a1_10 a1_11 a1_12 a1_13 a1_14 a2_0 a2_1 a2_2 a2_3) fun (x2,H3) =>
  if x2=true then
   some (0,H3)
  else
   none
theorem zgu {L:LC} {m:Nat} {H:AH} {a0:Option Addr} {a1_0:Int} {a1_1 a1_2:Bool} {a1_3:Sl3} {a1_4:Int} {a1_5:Sl3} {a1_6:ByteArray} {a1_7 a1_8 a1_9:Int} {a1_10:ByteArray} {a1_11 a1_12:Sl3} {a1_13 a1_14:Sl3} {a2_0 a2_1:Int} {a2_2:ByteArray} {a2_3:Sl3} {r:(Int×AH)} (h:z6b L m H a0 a1_0 a1_1 a1_2 a1_3 a1_4 a1_5 a1_6 a1_7 a1_8 a1_9 a1_10 a1_11 a1_12 a1_13 a1_14 a2_0 a2_1 a2_2 a2_3=some r) :
  CallS Tryz.prog (NE.plain 167) m 178 #[(Value.pointer a0),(Value.agg #[(Value.int .i64 a1_0),(Value.bool a1_1),(Value.bool a1_2),(Sl3.v a1_3),(Value.int .i64 a1_4),(Sl3.v a1_5),(Value.string a1_6),(Value.int .i64 a1_7),(Value.int .i64 a1_8),(Value.int .i64 a1_9),(Value.string a1_10),(Sl3.v a1_11),(Sl3.v a1_12),(Sl3.v a1_13),(Sl3.v a1_14)]),(Value.agg #[(Value.int .i64 a2_0),(Value.int .i64 a2_1),(Value.string a2_2),(Sl3.v a2_3)])] H (zew r) (zh0 H r):=by
 refine CallS.mk (args:=[(Value.pointer a0),(Value.agg #[(Value.int .i64 a1_0),(Value.bool a1_1),(Value.bool a1_2),(Sl3.v a1_3),(Value.int .i64 a1_4),(Sl3.v a1_5),(Value.string a1_6),(Value.int .i64 a1_7),(Value.int .i64 a1_8),(Value.int .i64 a1_9),(Value.string a1_10),(Sl3.v a1_11),(Sl3.v a1_12),(Sl3.v a1_13),(Sl3.v a1_14)]),(Value.agg #[(Value.int .i64 a2_0),(Value.int .i64 a2_1),(Value.string a2_2),(Sl3.v a2_3)])]) Tryz.func178 (B:=B178) (by kernel_rfl) (fun E _=>?_)
 unfold z6b at h
 refine WS.sq (WS.rg (RS.mL 3 [kI 6 0,kL 5 1 0,kL 4 0 0] ([some (75,[(Value.int .i64 a1_0),(Value.bool a1_1),(Value.bool a1_2),(Sl3.v a1_3),(Value.int .i64 a1_4),(Sl3.v a1_5),(Value.string a1_6),(Value.int .i64 a1_7),(Value.int .i64 a1_8),(Value.int .i64 a1_9),(Value.string a1_10),(Sl3.v a1_11),(Sl3.v a1_12),(Sl3.v a1_13),(Sl3.v a1_14)]),some (47,[(Value.int .i64 a2_0),(Value.int .i64 a2_1),(Value.string a2_2),(Sl3.v a2_3)])]) (RS.dn (WS.nxt (WS.sq (WS.sq (WS.rg (RS.mS 1 [kA 7 #[(Value.int .i64 a1_0),(Value.bool a1_1),(Value.bool a1_2),(Sl3.v a1_3),(Value.int .i64 a1_4),(Sl3.v a1_5),(Value.string a1_6),(Value.int .i64 a1_7),(Value.int .i64 a1_8),(Value.int .i64 a1_9),(Value.string a1_10),(Sl3.v a1_11),(Sl3.v a1_12),(Sl3.v a1_13),(Sl3.v a1_14)]] ?_))))))))
 obtain ⟨x1,hx,h⟩:=bind_some h
 refine RS.cl (some 8) (v:=(Value.int .i64 x1)) 221 #[(Value.agg #[(Value.int .i64 a1_0),(Value.bool a1_1),(Value.bool a1_2),(Sl3.v a1_3),(Value.int .i64 a1_4),(Sl3.v a1_5),(Value.string a1_6),(Value.int .i64 a1_7),(Value.int .i64 a1_8),(Value.int .i64 a1_9),(Value.string a1_10),(Sl3.v a1_11),(Sl3.v a1_12),(Sl3.v a1_13),(Sl3.v a1_14)])] (zls hx) (RS.mS 1 [kB 9 (decide (x1 > 65536))] (RS.dn (WS.nxt ?_)))
 rcases z0 h with ⟨hp,h⟩ | ⟨hp,h⟩
 ·refine WS.fx 9 true (decide_eq_true hp) (WS.cT ?_)
  cases h
 ·refine WS.fx 9 false (decide_eq_false hp) (WS.cF (WS.sk (WS.nxt (WS.sq (WS.sq (WS.rg (RS.mS 3 [kA 12 #[(Value.int .i64 a2_0),(Value.int .i64 a2_1),(Value.string a2_2),(Sl3.v a2_3)],kA 11 #[(Value.int .i64 a1_0),(Value.bool a1_1),(Value.bool a1_2),(Sl3.v a1_3),(Value.int .i64 a1_4),(Sl3.v a1_5),(Value.string a1_6),(Value.int .i64 a1_7),(Value.int .i64 a1_8),(Value.int .i64 a1_9),(Value.string a1_10),(Sl3.v a1_11),(Sl3.v a1_12),(Sl3.v a1_13),(Sl3.v a1_14)],(10,.val (Value.pointer a0))] ?_)))))))
  obtain ⟨⟨x2,H3⟩,hx,h⟩:=bind_some h
  try dsimp only at h
  refine RS.cl (some 13) (v:=(Value.bool x2)) 222 #[(Value.pointer a0),(Value.agg #[(Value.int .i64 a1_0),(Value.bool a1_1),(Value.bool a1_2),(Sl3.v a1_3),(Value.int .i64 a1_4),(Sl3.v a1_5),(Value.string a1_6),(Value.int .i64 a1_7),(Value.int .i64 a1_8),(Value.int .i64 a1_9),(Value.string a1_10),(Sl3.v a1_11),(Sl3.v a1_12),(Sl3.v a1_13),(Sl3.v a1_14)]),(Value.agg #[(Value.int .i64 a2_0),(Value.int .i64 a2_1),(Value.string a2_2),(Sl3.v a2_3)])] (zjx hx) (RS.mS 1 [kB 14 (!x2)] (RS.dn (WS.nxt ?_)))
  rcases z0 h with ⟨hp,h⟩ | ⟨hp,h⟩
  ·refine WS.fx 14 false (nb_not hp) (WS.cF (WS.sk (WS.nxt (WS.sq (WS.rg (RS.mS 1 [kI 6 0] (RS.dn (WS.nxt (WS.rt ?_)))))))))
   cases h
   exact fun a w hs=>rtR (rS hs)
  ·refine WS.fx 14 true (za hp) (WS.cT ?_)
   cases h
def zl3:(Int×AH)→Value
 | (r0,_)=>(Value.int .i64 r0)
def zm2 (_:AH):(Int×AH)→AH:=fun r=>r.2
noncomputable def B126:Code:=(Tryz.f126.body).getD .skip
noncomputable def zcv (L:LC) (m:Nat) (H:AH) (a0_0:Int) (a0_1 a0_2:Bool) (a0_3:Sl3) (a0_4:Int) (a0_5:Sl3) (a0_6:ByteArray) (a0_7 a0_8 a0_9:Int) (a0_10:ByteArray) (a0_11 a0_12:Sl3) (a0_13 a0_14:Sl3) (a1_0 a1_1:Int) (a1_2:ByteArray) (a1_3 a2_0:Sl3) (a2_1 a2_2:Sl3):Option (Int×AH) :=
 Option.bind (zev L m H a1_0 a1_1 a1_2 a1_3 a2_0 a2_1 a2_2) fun (x1,x2,H3) =>
 if x2=0 then
  Option.bind (z6b L m H3 x1 a0_0 a0_1 a0_2 a0_3 a0_4 a0_5 a0_6 a0_7 a0_8 a0_9 a0_10 a0_11 a0_12 a0_13 a0_14 a1_0 a1_1 a1_2 a1_3) fun (x4,H5) =>
  some (x4,H5)
 else
  none
theorem zm6 {L:LC} {m:Nat} {H:AH} {a0_0:Int} {a0_1 a0_2:Bool} {a0_3:Sl3} {a0_4:Int} {a0_5:Sl3} {a0_6:ByteArray} {a0_7 a0_8 a0_9:Int} {a0_10:ByteArray} {a0_11 a0_12:Sl3} {a0_13 a0_14:Sl3} {a1_0 a1_1:Int} {a1_2:ByteArray} {a1_3 a2_0:Sl3} {a2_1 a2_2:Sl3} {r:(Int×AH)} (h:zcv L m H a0_0 a0_1 a0_2 a0_3 a0_4 a0_5 a0_6 a0_7 a0_8 a0_9 a0_10 a0_11 a0_12 a0_13 a0_14 a1_0 a1_1 a1_2 a1_3 a2_0 a2_1 a2_2=some r) :
  CallS Tryz.prog (NE.plain 167) m 126 #[(Value.agg #[(Value.int .i64 a0_0),(Value.bool a0_1),(Value.bool a0_2),(Sl3.v a0_3),(Value.int .i64 a0_4),(Sl3.v a0_5),(Value.string a0_6),(Value.int .i64 a0_7),(Value.int .i64 a0_8),(Value.int .i64 a0_9),(Value.string a0_10),(Sl3.v a0_11),(Sl3.v a0_12),(Sl3.v a0_13),(Sl3.v a0_14)]),(Value.agg #[(Value.int .i64 a1_0),(Value.int .i64 a1_1),(Value.string a1_2),(Sl3.v a1_3)]),(Value.agg #[(Sl3.v a2_0),(Sl3.v a2_1),(Sl3.v a2_2)])] H (zl3 r) (zm2 H r):=by
 refine CallS.mk (args:=[(Value.agg #[(Value.int .i64 a0_0),(Value.bool a0_1),(Value.bool a0_2),(Sl3.v a0_3),(Value.int .i64 a0_4),(Sl3.v a0_5),(Value.string a0_6),(Value.int .i64 a0_7),(Value.int .i64 a0_8),(Value.int .i64 a0_9),(Value.string a0_10),(Sl3.v a0_11),(Sl3.v a0_12),(Sl3.v a0_13),(Sl3.v a0_14)]),(Value.agg #[(Value.int .i64 a1_0),(Value.int .i64 a1_1),(Value.string a1_2),(Sl3.v a1_3)]),(Value.agg #[(Sl3.v a2_0),(Sl3.v a2_1),(Sl3.v a2_2)])]) Tryz.func126 (B:=B126) (by kernel_rfl) (fun E _=>?_)
 unfold zcv at h
 refine WS.sq (WS.rg (RS.mL 4 [kI 6 0,kL 5 2 0,kL 4 1 0,kL 3 0 0] ([some (75,[(Value.int .i64 a0_0),(Value.bool a0_1),(Value.bool a0_2),(Sl3.v a0_3),(Value.int .i64 a0_4),(Sl3.v a0_5),(Value.string a0_6),(Value.int .i64 a0_7),(Value.int .i64 a0_8),(Value.int .i64 a0_9),(Value.string a0_10),(Sl3.v a0_11),(Sl3.v a0_12),(Sl3.v a0_13),(Sl3.v a0_14)]),some (47,[(Value.int .i64 a1_0),(Value.int .i64 a1_1),(Value.string a1_2),(Sl3.v a1_3)]),some (37,[(Sl3.v a2_0),(Sl3.v a2_1),(Sl3.v a2_2)])]) (RS.dn (WS.nxt (WS.sq (WS.rg (RS.mS 2 [kA 11 #[(Sl3.v a2_0),(Sl3.v a2_1),(Sl3.v a2_2)],kA 10 #[(Value.int .i64 a1_0),(Value.int .i64 a1_1),(Value.string a1_2),(Sl3.v a1_3)]] ?_)))))))
 obtain ⟨⟨x1,x2,H3⟩,hx,h⟩:=bind_some h
 try dsimp only at h
 refine RS.cl (some 12) (v:=(Value.tuple #[(Value.pointer x1),(Value.int .i64 x2)])) 147 #[(Value.agg #[(Value.int .i64 a1_0),(Value.int .i64 a1_1),(Value.string a1_2),(Sl3.v a1_3)]),(Value.agg #[(Sl3.v a2_0),(Sl3.v a2_1),(Sl3.v a2_2)])] (zmu hx) (RS.mS 5 [kI 8 x2,(7,.val (Value.pointer x1)),kI 14 x2,(13,.val (Value.pointer x1)),(9,.val (Value.tuple #[(Value.pointer x1),(Value.int .i64 x2)]))] (RS.dn (WS.nxt (WS.sq (WS.sq (WS.rg (RS.mS 2 [kB 16 (!decide (x2=0)),kI 15 x2] (RS.dn (WS.nxt ?_)))))))))
 rcases z0 h with ⟨hp,h⟩ | ⟨hp,h⟩
 ·refine WS.fx 16 false (zh hp) (WS.cF (WS.sk (WS.nxt (WS.sq (WS.rg (RS.mS 3 [kA 20 #[(Value.int .i64 a1_0),(Value.int .i64 a1_1),(Value.string a1_2),(Sl3.v a1_3)],kA 19 #[(Value.int .i64 a0_0),(Value.bool a0_1),(Value.bool a0_2),(Sl3.v a0_3),(Value.int .i64 a0_4),(Sl3.v a0_5),(Value.string a0_6),(Value.int .i64 a0_7),(Value.int .i64 a0_8),(Value.int .i64 a0_9),(Value.string a0_10),(Sl3.v a0_11),(Sl3.v a0_12),(Sl3.v a0_13),(Sl3.v a0_14)],(18,.val (Value.pointer x1))] ?_))))))
  obtain ⟨⟨x4,H5⟩,hx,h⟩:=bind_some h
  try dsimp only at h
  refine RS.cl (some 21) (v:=(Value.int .i64 x4)) 178 #[(Value.pointer x1),(Value.agg #[(Value.int .i64 a0_0),(Value.bool a0_1),(Value.bool a0_2),(Sl3.v a0_3),(Value.int .i64 a0_4),(Sl3.v a0_5),(Value.string a0_6),(Value.int .i64 a0_7),(Value.int .i64 a0_8),(Value.int .i64 a0_9),(Value.string a0_10),(Sl3.v a0_11),(Sl3.v a0_12),(Sl3.v a0_13),(Sl3.v a0_14)]),(Value.agg #[(Value.int .i64 a1_0),(Value.int .i64 a1_1),(Value.string a1_2),(Sl3.v a1_3)])] (zgu hx) (RS.mS 1 [kI 6 x4] (RS.dn (WS.nxt (WS.rt ?_))))
  cases h
  exact fun a w hs=>rtR (rS hs)
 ·refine WS.fx 16 true (ze hp) (WS.cT ?_)
  cases h
def zik:(Bool×AH)→Value
 | (r0,_)=>(Value.bool r0)
def zk5 (_:AH):(Bool×AH)→AH:=fun r=>r.2
noncomputable def B78:Code:=(Tryz.f78.body).getD .skip
noncomputable def z3a (L:LC) (m:Nat) (H:AH) (a0_0 a0_1:Sl3) (a0_2 _a0_3:Sl3) (a1_0:Int) (a1_1 a1_2:Bool) (a1_3:Sl3) (a1_4:Int) (a1_5:Sl3) (a1_6:ByteArray) (a1_7 a1_8 a1_9:Int) (a1_10:ByteArray) (a1_11 a1_12:Sl3) (a1_13 a1_14:Sl3) (a2_0 a2_1:Int) (a2_2:ByteArray) (a2_3:Sl3):Option (Bool×AH) :=
 Option.bind (zcv L m H a1_0 a1_1 a1_2 a1_3 a1_4 a1_5 a1_6 a1_7 a1_8 a1_9 a1_10 a1_11 a1_12 a1_13 a1_14 a2_0 a2_1 a2_2 a2_3 a0_0 a0_1 a0_2) fun (x1,H2) =>
 some ((decide (x1=0)),H2)
theorem z67 {L:LC} {m:Nat} {H:AH} {a0_0 a0_1:Sl3} {a0_2 a0_3:Sl3} {a1_0:Int} {a1_1 a1_2:Bool} {a1_3:Sl3} {a1_4:Int} {a1_5:Sl3} {a1_6:ByteArray} {a1_7 a1_8 a1_9:Int} {a1_10:ByteArray} {a1_11 a1_12:Sl3} {a1_13 a1_14:Sl3} {a2_0 a2_1:Int} {a2_2:ByteArray} {a2_3:Sl3} {r:(Bool×AH)} (h:z3a L m H a0_0 a0_1 a0_2 a0_3 a1_0 a1_1 a1_2 a1_3 a1_4 a1_5 a1_6 a1_7 a1_8 a1_9 a1_10 a1_11 a1_12 a1_13 a1_14 a2_0 a2_1 a2_2 a2_3=some r) :
  CallS Tryz.prog (NE.plain 167) m 78 #[(Value.agg #[(Sl3.v a0_0),(Sl3.v a0_1),(Sl3.v a0_2),(Sl3.v a0_3)]),(Value.agg #[(Value.int .i64 a1_0),(Value.bool a1_1),(Value.bool a1_2),(Sl3.v a1_3),(Value.int .i64 a1_4),(Sl3.v a1_5),(Value.string a1_6),(Value.int .i64 a1_7),(Value.int .i64 a1_8),(Value.int .i64 a1_9),(Value.string a1_10),(Sl3.v a1_11),(Sl3.v a1_12),(Sl3.v a1_13),(Sl3.v a1_14)]),(Value.agg #[(Value.int .i64 a2_0),(Value.int .i64 a2_1),(Value.string a2_2),(Sl3.v a2_3)])] H (zik r) (zk5 H r):=by
 refine CallS.mk (args:=[(Value.agg #[(Sl3.v a0_0),(Sl3.v a0_1),(Sl3.v a0_2),(Sl3.v a0_3)]),(Value.agg #[(Value.int .i64 a1_0),(Value.bool a1_1),(Value.bool a1_2),(Sl3.v a1_3),(Value.int .i64 a1_4),(Sl3.v a1_5),(Value.string a1_6),(Value.int .i64 a1_7),(Value.int .i64 a1_8),(Value.int .i64 a1_9),(Value.string a1_10),(Sl3.v a1_11),(Sl3.v a1_12),(Sl3.v a1_13),(Sl3.v a1_14)]),(Value.agg #[(Value.int .i64 a2_0),(Value.int .i64 a2_1),(Value.string a2_2),(Sl3.v a2_3)])]) Tryz.func78 (B:=B78) (by kernel_rfl) (fun E _=>?_)
 unfold z3a at h
 refine WS.sq (WS.rg (RS.mL 4 [kB 6 false,kL 5 2 0,kL 4 1 0,kL 3 0 0] ([some (66,[(Sl3.v a0_0),(Sl3.v a0_1),(Sl3.v a0_2),(Sl3.v a0_3)]),some (75,[(Value.int .i64 a1_0),(Value.bool a1_1),(Value.bool a1_2),(Sl3.v a1_3),(Value.int .i64 a1_4),(Sl3.v a1_5),(Value.string a1_6),(Value.int .i64 a1_7),(Value.int .i64 a1_8),(Value.int .i64 a1_9),(Value.string a1_10),(Sl3.v a1_11),(Sl3.v a1_12),(Sl3.v a1_13),(Sl3.v a1_14)]),some (47,[(Value.int .i64 a2_0),(Value.int .i64 a2_1),(Value.string a2_2),(Sl3.v a2_3)])]) (RS.dn (WS.nxt (WS.sq (WS.rg (RS.mS 4 [kA 10 #[(Sl3.v a0_0),(Sl3.v a0_1),(Sl3.v a0_2)],kL 9 0 0,kA 8 #[(Value.int .i64 a2_0),(Value.int .i64 a2_1),(Value.string a2_2),(Sl3.v a2_3)],kA 7 #[(Value.int .i64 a1_0),(Value.bool a1_1),(Value.bool a1_2),(Sl3.v a1_3),(Value.int .i64 a1_4),(Sl3.v a1_5),(Value.string a1_6),(Value.int .i64 a1_7),(Value.int .i64 a1_8),(Value.int .i64 a1_9),(Value.string a1_10),(Sl3.v a1_11),(Sl3.v a1_12),(Sl3.v a1_13),(Sl3.v a1_14)]] ?_)))))))
 obtain ⟨⟨x1,H2⟩,hx,h⟩:=bind_some h
 try dsimp only at h
 refine RS.cl (some 11) (v:=(Value.int .i64 x1)) 126 #[(Value.agg #[(Value.int .i64 a1_0),(Value.bool a1_1),(Value.bool a1_2),(Sl3.v a1_3),(Value.int .i64 a1_4),(Sl3.v a1_5),(Value.string a1_6),(Value.int .i64 a1_7),(Value.int .i64 a1_8),(Value.int .i64 a1_9),(Value.string a1_10),(Sl3.v a1_11),(Sl3.v a1_12),(Sl3.v a1_13),(Sl3.v a1_14)]),(Value.agg #[(Value.int .i64 a2_0),(Value.int .i64 a2_1),(Value.string a2_2),(Sl3.v a2_3)]),(Value.agg #[(Sl3.v a0_0),(Sl3.v a0_1),(Sl3.v a0_2)])] (zm6 hx) (RS.mS 2 [kB 6 (decide (x1=0)),kB 12 (decide (x1=0))] (RS.dn (WS.nxt (WS.rt ?_))))
 cases h
 exact fun a w hs=>rtR (rS hs)
end Go.Proofs.YtdlnojjpbmibdaaGreatDoor
namespace Go.Proofs.YtdlnojjpbmibdaaGreatDoor
open Go Go.Abs
set_option maxRecDepth 100000
def z4j:(Bool×AH)→Value
 | (r0,_)=>(Value.bool r0)
def z54 (_:AH):(Bool×AH)→AH:=fun r=>r.2
noncomputable def B29:Code:=(Tryz.f29.body).getD .skip
noncomputable def z57 (L:LC) (m:Nat) (a0_0 a0_1:Sl3) (a0_2 a0_3:Sl3) (_a1_0:ByteArray) (_a1_1:Sl3) (_a1_2:Int) (_a1_3 _a1_4:Bool) (_a1_5:Sl3) (_a1_6:Int) (_a1_7:Sl3) (_a1_8:ByteArray) (_a1_9 _a1_10 _a1_11:Int) (_a1_12:ByteArray) (_a1_13 _a1_14:Sl3) (_a1_15 _a1_16 x1:Sl3) (_x2_0 _x2_1:Int) (_x2_2:ByteArray) (_x2_3:Sl3) (_v33_8:Int) (x10_0:Sl3) (_x10_1:Int) (_x10_2 _x10_3:Bool) (_x10_4:Sl3) (_x10_5:Int) (_x10_6:Sl3) (_x10_7:ByteArray) (_x10_8 _x10_9 _x10_10:Int) (_x10_11:ByteArray) (_x10_12 _x10_13:Sl3) (_x10_14 _x10_15:Sl3):(AH×Int)→Option (Lp (AH×Int) (Bool×AH)):=fun (H13,v54_14) =>
 if v54_14<(x10_0.n:Int) then
  Option.bind (idxA 15 x10_0 v54_14) fun p15 =>
  Option.bind (rd (deI .i64) H13 (Addr.add p15 0)) fun x16_0 =>
  Option.bind (rd deB H13 (Addr.add p15 1)) fun x16_1 =>
  Option.bind (rd deB H13 (Addr.add p15 2)) fun x16_2 =>
  Option.bind (rd deSl H13 (Addr.add p15 3)) fun x16_3 =>
  Option.bind (rd (deI .i64) H13 (Addr.add p15 4)) fun x16_4 =>
  Option.bind (rd deSl H13 (Addr.add p15 5)) fun x16_5 =>
  Option.bind (rd deS H13 (Addr.add p15 6)) fun x16_6 =>
  Option.bind (rd (deI .i64) H13 (Addr.add p15 7)) fun x16_7 =>
  Option.bind (rd (deI .i64) H13 (Addr.add p15 8)) fun x16_8 =>
  Option.bind (rd (deI .i64) H13 (Addr.add p15 9)) fun x16_9 =>
  Option.bind (rd deS H13 (Addr.add p15 10)) fun x16_10 =>
  Option.bind (rd deSl H13 (Addr.add p15 11)) fun x16_11 =>
  Option.bind (rd deSl H13 (Addr.add p15 12)) fun x16_12 =>
  Option.bind (rd deSl H13 (Addr.add p15 13)) fun x16_13 =>
  Option.bind (rd deSl H13 (Addr.add p15 14)) fun x16_14 =>
  Option.bind (idxA 4 x1 v54_14) fun p17 =>
  Option.bind (rd (deI .i64) H13 (Addr.add p17 0)) fun x18_0 =>
  Option.bind (rd (deI .i64) H13 (Addr.add p17 1)) fun x18_1 =>
  Option.bind (rd deS H13 (Addr.add p17 2)) fun x18_2 =>
  Option.bind (rd deSl H13 (Addr.add p17 3)) fun x18_3 =>
  Option.bind (z3a L m H13 a0_0 a0_1 a0_2 a0_3 x16_0 x16_1 x16_2 x16_3 x16_4 x16_5 x16_6 x16_7 x16_8 x16_9 x16_10 x16_11 x16_12 x16_13 x16_14 x18_0 x18_1 x18_2 x18_3) fun (x19,H20) =>
  if x19=true then
   some (.next (H20,(IntKind.i64.wrap (v54_14+1))))
  else
   none
 else
  some (.brk (H13,v54_14))
def zey (_L:LC) (_m:Nat) (a0_0 a0_1:Sl3) (a0_2 a0_3:Sl3) (a1_0:ByteArray) (a1_1:Sl3) (a1_2:Int) (a1_3 a1_4:Bool) (a1_5:Sl3) (a1_6:Int) (a1_7:Sl3) (a1_8:ByteArray) (a1_9 a1_10 a1_11:Int) (a1_12:ByteArray) (a1_13 a1_14:Sl3) (a1_15 a1_16 x1:Sl3) (x2_0 x2_1:Int) (x2_2:ByteArray) (x2_3:Sl3) (v33_8:Int) (x10_0:Sl3) (x10_1:Int) (x10_2 x10_3:Bool) (x10_4:Sl3) (x10_5:Int) (x10_6:Sl3) (x10_7:ByteArray) (x10_8 x10_9 x10_10:Int) (x10_11:ByteArray) (x10_12 x10_13:Sl3) (x10_14 x10_15:Sl3):(AH×Int)→KN×Lcs:=fun (_,v54_14)=>([kI 54 v54_14,kL 2 0 0,kS 5 x1,kL 6 2 0,kS 31 a1_1,kI 32 (a1_1.n:Int),kI 33 v33_8,kS 52 x10_0,kI 53 (x10_0.n:Int)],[some (66,[(Sl3.v a0_0),(Sl3.v a0_1),(Sl3.v a0_2),(Sl3.v a0_3)]),some (89,[(Value.string a1_0),(Sl3.v a1_1),(Value.int .i64 a1_2),(Value.bool a1_3),(Value.bool a1_4),(Sl3.v a1_5),(Value.int .i64 a1_6),(Sl3.v a1_7),(Value.string a1_8),(Value.int .i64 a1_9),(Value.int .i64 a1_10),(Value.int .i64 a1_11),(Value.string a1_12),(Sl3.v a1_13),(Sl3.v a1_14),(Sl3.v a1_15),(Sl3.v a1_16)]),some (47,[(Value.int .i64 x2_0),(Value.int .i64 x2_1),(Value.string x2_2),(Sl3.v x2_3)]),some (91,[(Sl3.v x10_0),(Value.int .i64 x10_1),(Value.bool x10_2),(Value.bool x10_3),(Sl3.v x10_4),(Value.int .i64 x10_5),(Sl3.v x10_6),(Value.string x10_7),(Value.int .i64 x10_8),(Value.int .i64 x10_9),(Value.int .i64 x10_10),(Value.string x10_11),(Sl3.v x10_12),(Sl3.v x10_13),(Sl3.v x10_14),(Sl3.v x10_15)])])
noncomputable def z52 (L:LC) (m:Nat) (a0_0 a0_1:Sl3) (a0_2 a0_3:Sl3) (a1_0:ByteArray) (a1_1:Sl3) (a1_2:Int) (a1_3 a1_4:Bool) (a1_5:Sl3) (a1_6:Int) (a1_7:Sl3) (a1_8:ByteArray) (a1_9 a1_10 a1_11:Int) (a1_12:ByteArray) (a1_13 a1_14:Sl3) (a1_15 a1_16 x1:Sl3) (x2_0 x2_1:Int) (x2_2:ByteArray) (x2_3:Sl3):(AH×Int)→Option (Lp (AH×Int) (Bool×AH)):=fun (H7,v33_8) =>
 if v33_8<(a1_1.n:Int) then
  Option.bind (idxA 16 a1_1 v33_8) fun p9 =>
  Option.bind (rd deSl H7 (Addr.add p9 0)) fun x10_0 =>
  Option.bind (rd (deI .i64) H7 (Addr.add p9 1)) fun x10_1 =>
  Option.bind (rd deB H7 (Addr.add p9 2)) fun x10_2 =>
  Option.bind (rd deB H7 (Addr.add p9 3)) fun x10_3 =>
  Option.bind (rd deSl H7 (Addr.add p9 4)) fun x10_4 =>
  Option.bind (rd (deI .i64) H7 (Addr.add p9 5)) fun x10_5 =>
  Option.bind (rd deSl H7 (Addr.add p9 6)) fun x10_6 =>
  Option.bind (rd deS H7 (Addr.add p9 7)) fun x10_7 =>
  Option.bind (rd (deI .i64) H7 (Addr.add p9 8)) fun x10_8 =>
  Option.bind (rd (deI .i64) H7 (Addr.add p9 9)) fun x10_9 =>
  Option.bind (rd (deI .i64) H7 (Addr.add p9 10)) fun x10_10 =>
  Option.bind (rd deS H7 (Addr.add p9 11)) fun x10_11 =>
  Option.bind (rd deSl H7 (Addr.add p9 12)) fun x10_12 =>
  Option.bind (rd deSl H7 (Addr.add p9 13)) fun x10_13 =>
  Option.bind (rd deSl H7 (Addr.add p9 14)) fun x10_14 =>
  Option.bind (rd deSl H7 (Addr.add p9 15)) fun x10_15 =>
  if (x10_0.n:Int)=(x1.n:Int) then
   Option.bind (z3a L m H7 a0_0 a0_1 a0_2 a0_3 x10_1 x10_2 x10_3 x10_4 x10_5 x10_6 x10_7 x10_8 x10_9 x10_10 x10_11 x10_12 x10_13 x10_14 x10_15 x2_0 x2_1 x2_2 x2_3) fun (x11,H12) =>
   if x11=true then
    Option.bind (L.run (z57 L m a0_0 a0_1 a0_2 a0_3 a1_0 a1_1 a1_2 a1_3 a1_4 a1_5 a1_6 a1_7 a1_8 a1_9 a1_10 a1_11 a1_12 a1_13 a1_14 a1_15 a1_16 x1 x2_0 x2_1 x2_2 x2_3 v33_8 x10_0 x10_1 x10_2 x10_3 x10_4 x10_5 x10_6 x10_7 x10_8 x10_9 x10_10 x10_11 x10_12 x10_13 x10_14 x10_15) (H12,0)) fun o=>match o with
    | .inl (H21,_) =>
     some (.next (H21,(IntKind.i64.wrap (v33_8+1))))
    | .inr r=>some (.ret r)
   else
    none
  else
   none
 else
  some (.brk (H7,v33_8))
def zf2 (_L:LC) (_m:Nat) (a0_0 a0_1:Sl3) (a0_2 a0_3:Sl3) (a1_0:ByteArray) (a1_1:Sl3) (a1_2:Int) (a1_3 a1_4:Bool) (a1_5:Sl3) (a1_6:Int) (a1_7:Sl3) (a1_8:ByteArray) (a1_9 a1_10 a1_11:Int) (a1_12:ByteArray) (a1_13 a1_14:Sl3) (a1_15 a1_16 x1:Sl3) (x2_0 x2_1:Int) (x2_2:ByteArray) (x2_3:Sl3):(AH×Int)→KN×Lcs:=fun (_,v33_8)=>([kI 33 v33_8,kL 2 0 0,kS 5 x1,kL 6 2 0,kS 31 a1_1,kI 32 (a1_1.n:Int)],[some (66,[(Sl3.v a0_0),(Sl3.v a0_1),(Sl3.v a0_2),(Sl3.v a0_3)]),some (89,[(Value.string a1_0),(Sl3.v a1_1),(Value.int .i64 a1_2),(Value.bool a1_3),(Value.bool a1_4),(Sl3.v a1_5),(Value.int .i64 a1_6),(Sl3.v a1_7),(Value.string a1_8),(Value.int .i64 a1_9),(Value.int .i64 a1_10),(Value.int .i64 a1_11),(Value.string a1_12),(Sl3.v a1_13),(Sl3.v a1_14),(Sl3.v a1_15),(Sl3.v a1_16)]),some (47,[(Value.int .i64 x2_0),(Value.int .i64 x2_1),(Value.string x2_2),(Sl3.v x2_3)])])
noncomputable def z8l (L:LC) (m:Nat) (H:AH) (a0_0 a0_1:Sl3) (a0_2 a0_3:Sl3) (a1_0:ByteArray) (a1_1:Sl3) (a1_2:Int) (a1_3 a1_4:Bool) (a1_5:Sl3) (a1_6:Int) (a1_7:Sl3) (a1_8:ByteArray) (a1_9 a1_10 a1_11:Int) (a1_12:ByteArray) (a1_13 a1_14:Sl3) (a1_15 a1_16:Sl3):Option (Bool×AH) :=
 Option.bind (z78 L m H a0_0 a0_1 a0_2 a0_3 a1_0) fun (x1,x2_0,x2_1,x2_2,x2_3,x3,H4) =>
 if x3=true then
  Option.bind (z3a L m H4 a0_0 a0_1 a0_2 a0_3 a1_2 a1_3 a1_4 a1_5 a1_6 a1_7 a1_8 a1_9 a1_10 a1_11 a1_12 a1_13 a1_14 a1_15 a1_16 x2_0 x2_1 x2_2 x2_3) fun (x5,H6) =>
  if x5=true then
   Option.bind (L.run (z52 L m a0_0 a0_1 a0_2 a0_3 a1_0 a1_1 a1_2 a1_3 a1_4 a1_5 a1_6 a1_7 a1_8 a1_9 a1_10 a1_11 a1_12 a1_13 a1_14 a1_15 a1_16 x1 x2_0 x2_1 x2_2 x2_3) (H6,0)) fun o=>match o with
   | .inl (H23,_) =>
    some (true,H23)
   | .inr r=>some r
  else
   none
 else
  none
theorem z70 {E H L m a0_0 a0_1 a0_2 a0_3 a1_0 a1_1 a1_2 a1_3 a1_4 a1_5 a1_6 a1_7 a1_8 a1_9 a1_10 a1_11 a1_12 a1_13 a1_14 a1_15 a1_16 x1 x2_0 x2_1 x2_2 x2_3 v33_8 x10_0 x10_1 x10_2 x10_3 x10_4 x10_5 x10_6 x10_7 x10_8 x10_9 x10_10 x10_11 x10_12 x10_13 x10_14 x10_15} :LoopF Tryz.prog (NE.plain 167) m E Tryz.f29 ((cfst (csnd (csnd (csnd (cfst (cfst (csnd (csnd (cfst (cfst (csnd (cfst (csnd (csnd (csnd B29)))))))))))))))) (zey L m a0_0 a0_1 a0_2 a0_3 a1_0 a1_1 a1_2 a1_3 a1_4 a1_5 a1_6 a1_7 a1_8 a1_9 a1_10 a1_11 a1_12 a1_13 a1_14 a1_15 a1_16 x1 x2_0 x2_1 x2_2 x2_3 v33_8 x10_0 x10_1 x10_2 x10_3 x10_4 x10_5 x10_6 x10_7 x10_8 x10_9 x10_10 x10_11 x10_12 x10_13 x10_14 x10_15) (fun s=>s.1) 2 z4j (z54 H) (z57 L m a0_0 a0_1 a0_2 a0_3 a1_0 a1_1 a1_2 a1_3 a1_4 a1_5 a1_6 a1_7 a1_8 a1_9 a1_10 a1_11 a1_12 a1_13 a1_14 a1_15 a1_16 x1 x2_0 x2_1 x2_2 x2_3 v33_8 x10_0 x10_1 x10_2 x10_3 x10_4 x10_5 x10_6 x10_7 x10_8 x10_9 x10_10 x10_11 x10_12 x10_13 x10_14 x10_15):=by
 rintro ⟨H13,v54_14⟩ o h
 unfold z57 at h
 try dsimp only at h
 refine WS.sq (WS.rg (RS.mS 1 [kB 55 (decide (v54_14<(x10_0.n:Int)))] (RS.dn (WS.nxt (WS.sq ?_)))))
 rcases z0 h with ⟨hp,h⟩ | ⟨hp,h⟩
 ·refine WS.fx 55 true (decide_eq_true hp) (WS.cT (WS.sk (WS.nxt (WS.sq (WS.bk 3 (WS.sq (WS.rg (RS.mS 1 [kI 56 v54_14] ?_))))))))
  obtain ⟨p15,hx,h⟩:=bind_some h
  refine RS.ix 57 26 75 (.tmp 52) (.tmp 54) hx ?_
  obtain ⟨x16_0,hx0,h⟩:=bind_some h
  obtain ⟨x16_1,hx1,h⟩:=bind_some h
  obtain ⟨x16_2,hx2,h⟩:=bind_some h
  obtain ⟨x16_3,hx3,h⟩:=bind_some h
  obtain ⟨x16_4,hx4,h⟩:=bind_some h
  obtain ⟨x16_5,hx5,h⟩:=bind_some h
  obtain ⟨x16_6,hx6,h⟩:=bind_some h
  obtain ⟨x16_7,hx7,h⟩:=bind_some h
  obtain ⟨x16_8,hx8,h⟩:=bind_some h
  obtain ⟨x16_9,hx9,h⟩:=bind_some h
  obtain ⟨x16_10,hx10,h⟩:=bind_some h
  obtain ⟨x16_11,hx11,h⟩:=bind_some h
  obtain ⟨x16_12,hx12,h⟩:=bind_some h
  obtain ⟨x16_13,hx13,h⟩:=bind_some h
  obtain ⟨x16_14,hx14,h⟩:=bind_some h
  refine RS.la 58 75 (.tmp 57) 15 (z2 (z1 hx0 z5) (z2 (z1 hx1 z13) (z2 (z1 hx2 z13) (z2 (z1 hx3 z3) (z2 (z1 hx4 z5) (z2 (z1 hx5 z3) (z2 (z1 hx6 z9) (z2 (z1 hx7 z5) (z2 (z1 hx8 z5) (z2 (z1 hx9 z5) (z2 (z1 hx10 z9) (z2 (z1 hx11 z3) (z2 (z1 hx12 z3) (z2 (z1 hx13 z3) (z2 (z1 hx14 z3) zm))))))))))))))) (RS.mL 3 [kI 10 v54_14,kL 11 4 0] ([some (66,[(Sl3.v a0_0),(Sl3.v a0_1),(Sl3.v a0_2),(Sl3.v a0_3)]),some (89,[(Value.string a1_0),(Sl3.v a1_1),(Value.int .i64 a1_2),(Value.bool a1_3),(Value.bool a1_4),(Sl3.v a1_5),(Value.int .i64 a1_6),(Sl3.v a1_7),(Value.string a1_8),(Value.int .i64 a1_9),(Value.int .i64 a1_10),(Value.int .i64 a1_11),(Value.string a1_12),(Sl3.v a1_13),(Sl3.v a1_14),(Sl3.v a1_15),(Sl3.v a1_16)]),some (47,[(Value.int .i64 x2_0),(Value.int .i64 x2_1),(Value.string x2_2),(Sl3.v x2_3)]),some (91,[(Sl3.v x10_0),(Value.int .i64 x10_1),(Value.bool x10_2),(Value.bool x10_3),(Sl3.v x10_4),(Value.int .i64 x10_5),(Sl3.v x10_6),(Value.string x10_7),(Value.int .i64 x10_8),(Value.int .i64 x10_9),(Value.int .i64 x10_10),(Value.string x10_11),(Sl3.v x10_12),(Sl3.v x10_13),(Sl3.v x10_14),(Sl3.v x10_15)]),some (75,[(Value.int .i64 x16_0),(Value.bool x16_1),(Value.bool x16_2),(Sl3.v x16_3),(Value.int .i64 x16_4),(Sl3.v x16_5),(Value.string x16_6),(Value.int .i64 x16_7),(Value.int .i64 x16_8),(Value.int .i64 x16_9),(Value.string x16_10),(Sl3.v x16_11),(Sl3.v x16_12),(Sl3.v x16_13),(Sl3.v x16_14)])]) (RS.dn (WS.nxt (WS.sq ?_))))
  refine WS.dr [0,1,2,3,4,5] [0,0,0,0,12,28,63,127] 8 (fun hcl=>?_)
  refine DA.tL 0 (some 59) (.val (Value.agg #[(Sl3.v a0_0),(Sl3.v a0_1),(Sl3.v a0_2),(Sl3.v a0_3)])) (DA.tL 1 (some 60) (.val (Value.agg #[(Value.int .i64 x16_0),(Value.bool x16_1),(Value.bool x16_2),(Sl3.v x16_3),(Value.int .i64 x16_4),(Sl3.v x16_5),(Value.string x16_6),(Value.int .i64 x16_7),(Value.int .i64 x16_8),(Value.int .i64 x16_9),(Value.string x16_10),(Sl3.v x16_11),(Sl3.v x16_12),(Sl3.v x16_13),(Sl3.v x16_14)])) (DA.tK 2 (some 61) (Sl3.v x1) (DA.tK 3 (some 62) (Value.int .i64 v54_14) ?_)))
  obtain ⟨p17,hx,h⟩:=bind_some h
  refine DA.tD 4 (some 63) (Value.pointer (some p17)) (Abs.det_idx (s:=x1) (k:=.i64) (t:=45) (e:=47) (x:=.tmp 61) (y:=.tmp 62) (by kernel_rfl) (by kernel_rfl) (by kernel_rfl) (by kernel_rfl) (by kernel_rfl) hx) ?_
  obtain ⟨x18_0,hx0,h⟩:=bind_some h
  obtain ⟨x18_1,hx1,h⟩:=bind_some h
  obtain ⟨x18_2,hx2,h⟩:=bind_some h
  obtain ⟨x18_3,hx3,h⟩:=bind_some h
  refine DA.tD 5 (some 64) (Value.agg #[(Value.int .i64 x18_0),(Value.int .i64 x18_1),(Value.string x18_2),(Sl3.v x18_3)]) (Abs.det_loadA (t:=47) (x:=.tmp 63) (a:=p17) (k:=4) (by kernel_rfl) (by kernel_rfl) (by kernel_rfl) (by kernel_rfl) (z2 (z1 hx0 z5) (z2 (z1 hx1 z5) (z2 (z1 hx2 z9) (z2 (z1 hx3 z3) zm))))) ?_
  obtain ⟨⟨x19,H20⟩,hx,h⟩:=bind_some h
  try dsimp only at h
  refine DA.on 6 (DA.aC 6 (some 65) (v:=(Value.bool x19)) 78 #[(Value.agg #[(Sl3.v a0_0),(Sl3.v a0_1),(Sl3.v a0_2),(Sl3.v a0_3)]),(Value.agg #[(Value.int .i64 x16_0),(Value.bool x16_1),(Value.bool x16_2),(Sl3.v x16_3),(Value.int .i64 x16_4),(Sl3.v x16_5),(Value.string x16_6),(Value.int .i64 x16_7),(Value.int .i64 x16_8),(Value.int .i64 x16_9),(Value.string x16_10),(Sl3.v x16_11),(Sl3.v x16_12),(Sl3.v x16_13),(Sl3.v x16_14)]),(Value.agg #[(Value.int .i64 x18_0),(Value.int .i64 x18_1),(Value.string x18_2),(Sl3.v x18_3)])] (z67 hx) (DA.tP 7 (some 66) (Value.bool (!x19)) (DA.dn (WS.nxt ?_))))
  rcases z0 h with ⟨hp,h⟩ | ⟨hp,h⟩
  ·refine WS.fx 66 false (nb_not hp) (WS.cF (WS.sk ?_))
   refine fun a w hs=>bkN ((WS.nxt ?_ a w hs))
   refine WS.rg (RS.mS 2 [kI 54 (IntKind.i64.wrap (v54_14+1)),kI 67 (IntKind.i64.wrap (v54_14+1))] (RS.dn ?_))
   cases h
   exact fun a w hs=>lsN rfl (hs.sb 4)
  ·refine WS.fx 66 true (za hp) (WS.cT ?_)
   cases h
 ·refine WS.fx 55 false (decide_eq_false hp) (WS.cF (WS.ex 2 ?_))
  cases h
  exact fun a w hs=>sqE (lsB rfl (hs.sb 4))
theorem z6x {E H L m a0_0 a0_1 a0_2 a0_3 a1_0 a1_1 a1_2 a1_3 a1_4 a1_5 a1_6 a1_7 a1_8 a1_9 a1_10 a1_11 a1_12 a1_13 a1_14 a1_15 a1_16 x1 x2_0 x2_1 x2_2 x2_3} :LoopF Tryz.prog (NE.plain 167) m E Tryz.f29 ((cfst (csnd (cfst (csnd (csnd (csnd B29))))))) (zf2 L m a0_0 a0_1 a0_2 a0_3 a1_0 a1_1 a1_2 a1_3 a1_4 a1_5 a1_6 a1_7 a1_8 a1_9 a1_10 a1_11 a1_12 a1_13 a1_14 a1_15 a1_16 x1 x2_0 x2_1 x2_2 x2_3) (fun s=>s.1) 0 z4j (z54 H) (z52 L m a0_0 a0_1 a0_2 a0_3 a1_0 a1_1 a1_2 a1_3 a1_4 a1_5 a1_6 a1_7 a1_8 a1_9 a1_10 a1_11 a1_12 a1_13 a1_14 a1_15 a1_16 x1 x2_0 x2_1 x2_2 x2_3):=by
 rintro ⟨H7,v33_8⟩ o h
 unfold z52 at h
 try dsimp only at h
 refine WS.sq (WS.rg (RS.mS 1 [kB 34 (decide (v33_8<(a1_1.n:Int)))] (RS.dn (WS.nxt (WS.sq ?_)))))
 rcases z0 h with ⟨hp,h⟩ | ⟨hp,h⟩
 ·refine WS.fx 34 true (decide_eq_true hp) (WS.cT (WS.sk (WS.nxt (WS.sq (WS.bk 1 (WS.sq (WS.rg ?_)))))))
  obtain ⟨p9,hx,h⟩:=bind_some h
  refine RS.ix 35 87 91 (.tmp 31) (.tmp 33) hx ?_
  obtain ⟨x10_0,hx0,h⟩:=bind_some h
  obtain ⟨x10_1,hx1,h⟩:=bind_some h
  obtain ⟨x10_2,hx2,h⟩:=bind_some h
  obtain ⟨x10_3,hx3,h⟩:=bind_some h
  obtain ⟨x10_4,hx4,h⟩:=bind_some h
  obtain ⟨x10_5,hx5,h⟩:=bind_some h
  obtain ⟨x10_6,hx6,h⟩:=bind_some h
  obtain ⟨x10_7,hx7,h⟩:=bind_some h
  obtain ⟨x10_8,hx8,h⟩:=bind_some h
  obtain ⟨x10_9,hx9,h⟩:=bind_some h
  obtain ⟨x10_10,hx10,h⟩:=bind_some h
  obtain ⟨x10_11,hx11,h⟩:=bind_some h
  obtain ⟨x10_12,hx12,h⟩:=bind_some h
  obtain ⟨x10_13,hx13,h⟩:=bind_some h
  obtain ⟨x10_14,hx14,h⟩:=bind_some h
  obtain ⟨x10_15,hx15,h⟩:=bind_some h
  refine RS.la 36 91 (.tmp 35) 16 (z2 (z1 hx0 z3) (z2 (z1 hx1 z5) (z2 (z1 hx2 z13) (z2 (z1 hx3 z13) (z2 (z1 hx4 z3) (z2 (z1 hx5 z5) (z2 (z1 hx6 z3) (z2 (z1 hx7 z9) (z2 (z1 hx8 z5) (z2 (z1 hx9 z5) (z2 (z1 hx10 z5) (z2 (z1 hx11 z9) (z2 (z1 hx12 z3) (z2 (z1 hx13 z3) (z2 (z1 hx14 z3) (z2 (z1 hx15 z3) zm)))))))))))))))) (RS.mL 2 [kL 9 3 0] ([some (66,[(Sl3.v a0_0),(Sl3.v a0_1),(Sl3.v a0_2),(Sl3.v a0_3)]),some (89,[(Value.string a1_0),(Sl3.v a1_1),(Value.int .i64 a1_2),(Value.bool a1_3),(Value.bool a1_4),(Sl3.v a1_5),(Value.int .i64 a1_6),(Sl3.v a1_7),(Value.string a1_8),(Value.int .i64 a1_9),(Value.int .i64 a1_10),(Value.int .i64 a1_11),(Value.string a1_12),(Sl3.v a1_13),(Sl3.v a1_14),(Sl3.v a1_15),(Sl3.v a1_16)]),some (47,[(Value.int .i64 x2_0),(Value.int .i64 x2_1),(Value.string x2_2),(Sl3.v x2_3)]),some (91,[(Sl3.v x10_0),(Value.int .i64 x10_1),(Value.bool x10_2),(Value.bool x10_3),(Sl3.v x10_4),(Value.int .i64 x10_5),(Sl3.v x10_6),(Value.string x10_7),(Value.int .i64 x10_8),(Value.int .i64 x10_9),(Value.int .i64 x10_10),(Value.string x10_11),(Sl3.v x10_12),(Sl3.v x10_13),(Sl3.v x10_14),(Sl3.v x10_15)])]) (RS.dn (WS.nxt (WS.sq (WS.sq (WS.rg (RS.mS 7 [kB 43 (!decide ((x10_0.n:Int)=(x1.n:Int))),kB 42 (!decide ((x10_0.n:Int)=(x1.n:Int))),kI 41 (x1.n:Int),kS 40 x1,kI 39 (x10_0.n:Int),kS 38 x10_0,kL 37 3 0] ?_)))))))
  rcases z0 h with ⟨hp,h⟩ | ⟨hp,h⟩
  ·refine RS.fx 43 false (zh hp) (RS.mS 4 [kA 47 #[(Value.int .i64 x2_0),(Value.int .i64 x2_1),(Value.string x2_2),(Sl3.v x2_3)],kA 46 #[(Value.int .i64 x10_1),(Value.bool x10_2),(Value.bool x10_3),(Sl3.v x10_4),(Value.int .i64 x10_5),(Sl3.v x10_6),(Value.string x10_7),(Value.int .i64 x10_8),(Value.int .i64 x10_9),(Value.int .i64 x10_10),(Value.string x10_11),(Sl3.v x10_12),(Sl3.v x10_13),(Sl3.v x10_14),(Sl3.v x10_15)],kL 45 3 1,kA 44 #[(Sl3.v a0_0),(Sl3.v a0_1),(Sl3.v a0_2),(Sl3.v a0_3)]] ?_)
   obtain ⟨⟨x11,H12⟩,hx,h⟩:=bind_some h
   try dsimp only at h
   refine RS.cl (some 48) (v:=(Value.bool x11)) 78 #[(Value.agg #[(Sl3.v a0_0),(Sl3.v a0_1),(Sl3.v a0_2),(Sl3.v a0_3)]),(Value.agg #[(Value.int .i64 x10_1),(Value.bool x10_2),(Value.bool x10_3),(Sl3.v x10_4),(Value.int .i64 x10_5),(Sl3.v x10_6),(Value.string x10_7),(Value.int .i64 x10_8),(Value.int .i64 x10_9),(Value.int .i64 x10_10),(Value.string x10_11),(Sl3.v x10_12),(Sl3.v x10_13),(Sl3.v x10_14),(Sl3.v x10_15)]),(Value.agg #[(Value.int .i64 x2_0),(Value.int .i64 x2_1),(Value.string x2_2),(Sl3.v x2_3)])] (z67 hx) (RS.mS 2 [kB 50 (!x11),kB 49 (!x11)] (RS.dn (WS.nxt ?_)))
   rcases z0 h with ⟨hp,h⟩ | ⟨hp,h⟩
   ·refine WS.fx 50 false (nb_not hp) (WS.cF (WS.sk (WS.nxt (WS.sq (WS.rg (RS.mS 4 [kI 54 0,kI 53 (x10_0.n:Int),kS 52 x10_0,kL 51 3 0] (RS.dn (WS.nxt (WS.bk 2 ?_)))))))))
    obtain ⟨o,hl,h⟩:=bind_some h
    rcases o with ⟨H21,v54_22⟩ | r
    ·try dsimp only at h
     refine WS.lI (z70 (L:=L) (E:=E) (m:=m) (H:=H)) (L.ok hl) 4 ?_
     clear hl
     refine fun a w hs=>bkE (bkN ((WS.nxt ?_ a w hs)))
     refine WS.rg (RS.mS 2 [kI 33 (IntKind.i64.wrap (v33_8+1)),kI 68 (IntKind.i64.wrap (v33_8+1))] (RS.dn ?_))
     cases h
     exact fun a w hs=>lsN rfl (hs.sb 3)
    ·try dsimp only at h
     refine WS.lR (z70 (L:=L) (E:=E) (m:=m) (H:=H)) (L.ok hl) 4 ?_
     cases h
     exact fun a w hq=>bkR (bkR (sqR (lsR rfl hq)))
   ·refine WS.fx 50 true (za hp) (WS.cT ?_)
    cases h
  ·refine RS.fx 43 true (ze hp) ?_
   cases h
 ·refine WS.fx 34 false (decide_eq_false hp) (WS.cF (WS.ex 0 ?_))
  cases h
  exact fun a w hs=>sqE (lsB rfl (hs.sb 3))
theorem ziy {L:LC} {m:Nat} {H:AH} {a0_0 a0_1:Sl3} {a0_2 a0_3:Sl3} {a1_0:ByteArray} {a1_1:Sl3} {a1_2:Int} {a1_3 a1_4:Bool} {a1_5:Sl3} {a1_6:Int} {a1_7:Sl3} {a1_8:ByteArray} {a1_9 a1_10 a1_11:Int} {a1_12:ByteArray} {a1_13 a1_14:Sl3} {a1_15 a1_16:Sl3} {r:(Bool×AH)} (h:z8l L m H a0_0 a0_1 a0_2 a0_3 a1_0 a1_1 a1_2 a1_3 a1_4 a1_5 a1_6 a1_7 a1_8 a1_9 a1_10 a1_11 a1_12 a1_13 a1_14 a1_15 a1_16=some r) :
  CallS Tryz.prog (NE.plain 167) m 29 #[(Value.agg #[(Sl3.v a0_0),(Sl3.v a0_1),(Sl3.v a0_2),(Sl3.v a0_3)]),(Value.agg #[(Value.string a1_0),(Sl3.v a1_1),(Value.int .i64 a1_2),(Value.bool a1_3),(Value.bool a1_4),(Sl3.v a1_5),(Value.int .i64 a1_6),(Sl3.v a1_7),(Value.string a1_8),(Value.int .i64 a1_9),(Value.int .i64 a1_10),(Value.int .i64 a1_11),(Value.string a1_12),(Sl3.v a1_13),(Sl3.v a1_14),(Sl3.v a1_15),(Sl3.v a1_16)])] H (z4j r) (z54 H r):=by
 refine CallS.mk (args:=[(Value.agg #[(Sl3.v a0_0),(Sl3.v a0_1),(Sl3.v a0_2),(Sl3.v a0_3)]),(Value.agg #[(Value.string a1_0),(Sl3.v a1_1),(Value.int .i64 a1_2),(Value.bool a1_3),(Value.bool a1_4),(Sl3.v a1_5),(Value.int .i64 a1_6),(Sl3.v a1_7),(Value.string a1_8),(Value.int .i64 a1_9),(Value.int .i64 a1_10),(Value.int .i64 a1_11),(Value.string a1_12),(Sl3.v a1_13),(Sl3.v a1_14),(Sl3.v a1_15),(Sl3.v a1_16)])]) Tryz.func29 (B:=B29) (by kernel_rfl) (fun E _=>?_)
 unfold z8l at h
 refine WS.sq (WS.rg (RS.mL 3 [kB 4 false,kL 3 1 0,kL 2 0 0] ([some (66,[(Sl3.v a0_0),(Sl3.v a0_1),(Sl3.v a0_2),(Sl3.v a0_3)]),some (89,[(Value.string a1_0),(Sl3.v a1_1),(Value.int .i64 a1_2),(Value.bool a1_3),(Value.bool a1_4),(Sl3.v a1_5),(Value.int .i64 a1_6),(Sl3.v a1_7),(Value.string a1_8),(Value.int .i64 a1_9),(Value.int .i64 a1_10),(Value.int .i64 a1_11),(Value.string a1_12),(Sl3.v a1_13),(Sl3.v a1_14),(Sl3.v a1_15),(Sl3.v a1_16)])]) (RS.dn (WS.nxt (WS.sq (WS.rg (RS.mS 3 [kT 15 a1_0,kL 14 1 0,kA 13 #[(Sl3.v a0_0),(Sl3.v a0_1),(Sl3.v a0_2),(Sl3.v a0_3)]] ?_)))))))
 obtain ⟨⟨x1,x2_0,x2_1,x2_2,x2_3,x3,H4⟩,hx,h⟩:=bind_some h
 try dsimp only at h
 refine RS.cl (some 16) (v:=(Value.tuple #[(Sl3.v x1),(Value.agg #[(Value.int .i64 x2_0),(Value.int .i64 x2_1),(Value.string x2_2),(Sl3.v x2_3)]),(Value.bool x3)])) 77 #[(Value.agg #[(Sl3.v a0_0),(Sl3.v a0_1),(Sl3.v a0_2),(Sl3.v a0_3)]),(Value.string a1_0)] (zhe hx) (RS.mL 8 [kB 7 x3,kS 5 x1,kL 6 2 0,kB 19 x3,kA 18 #[(Value.int .i64 x2_0),(Value.int .i64 x2_1),(Value.string x2_2),(Sl3.v x2_3)],kS 17 x1,(12,.val (Value.tuple #[(Sl3.v x1),(Value.agg #[(Value.int .i64 x2_0),(Value.int .i64 x2_1),(Value.string x2_2),(Sl3.v x2_3)]),(Value.bool x3)]))] ([some (66,[(Sl3.v a0_0),(Sl3.v a0_1),(Sl3.v a0_2),(Sl3.v a0_3)]),some (89,[(Value.string a1_0),(Sl3.v a1_1),(Value.int .i64 a1_2),(Value.bool a1_3),(Value.bool a1_4),(Sl3.v a1_5),(Value.int .i64 a1_6),(Sl3.v a1_7),(Value.string a1_8),(Value.int .i64 a1_9),(Value.int .i64 a1_10),(Value.int .i64 a1_11),(Value.string a1_12),(Sl3.v a1_13),(Sl3.v a1_14),(Sl3.v a1_15),(Sl3.v a1_16)]),some (47,[(Value.int .i64 x2_0),(Value.int .i64 x2_1),(Value.string x2_2),(Sl3.v x2_3)])]) (RS.dn (WS.nxt (WS.sq (WS.sq (WS.rg (RS.mS 3 [kB 22 (!x3),kB 21 (!x3),kB 20 x3] ?_)))))))
 rcases z0 h with ⟨hp,h⟩ | ⟨hp,h⟩
 ·refine RS.fx 22 false (nb_not hp) (RS.mS 4 [kA 26 #[(Value.int .i64 x2_0),(Value.int .i64 x2_1),(Value.string x2_2),(Sl3.v x2_3)],kA 25 #[(Value.int .i64 a1_2),(Value.bool a1_3),(Value.bool a1_4),(Sl3.v a1_5),(Value.int .i64 a1_6),(Sl3.v a1_7),(Value.string a1_8),(Value.int .i64 a1_9),(Value.int .i64 a1_10),(Value.int .i64 a1_11),(Value.string a1_12),(Sl3.v a1_13),(Sl3.v a1_14),(Sl3.v a1_15),(Sl3.v a1_16)],kL 24 1 2,kA 23 #[(Sl3.v a0_0),(Sl3.v a0_1),(Sl3.v a0_2),(Sl3.v a0_3)]] ?_)
  obtain ⟨⟨x5,H6⟩,hx,h⟩:=bind_some h
  try dsimp only at h
  refine RS.cl (some 27) (v:=(Value.bool x5)) 78 #[(Value.agg #[(Sl3.v a0_0),(Sl3.v a0_1),(Sl3.v a0_2),(Sl3.v a0_3)]),(Value.agg #[(Value.int .i64 a1_2),(Value.bool a1_3),(Value.bool a1_4),(Sl3.v a1_5),(Value.int .i64 a1_6),(Sl3.v a1_7),(Value.string a1_8),(Value.int .i64 a1_9),(Value.int .i64 a1_10),(Value.int .i64 a1_11),(Value.string a1_12),(Sl3.v a1_13),(Sl3.v a1_14),(Sl3.v a1_15),(Sl3.v a1_16)]),(Value.agg #[(Value.int .i64 x2_0),(Value.int .i64 x2_1),(Value.string x2_2),(Sl3.v x2_3)])] (z67 hx) (RS.mS 2 [kB 29 (!x5),kB 28 (!x5)] (RS.dn (WS.nxt ?_)))
  rcases z0 h with ⟨hp,h⟩ | ⟨hp,h⟩
  ·refine WS.fx 29 false (nb_not hp) (WS.cF (WS.sk (WS.nxt (WS.sq (WS.sq (WS.rg (RS.mS 4 [kI 33 0,kI 32 (a1_1.n:Int),kS 31 a1_1,kL 30 1 1] (RS.dn (WS.nxt ?_)))))))))
   refine WS.bk 0 ?_
   obtain ⟨o,hl,h⟩:=bind_some h
   rcases o with ⟨H23,v33_24⟩ | r
   ·try dsimp only at h
    refine WS.lI (z6x (L:=L) (E:=E) (m:=m) (H:=H)) (L.ok hl) 3 ?_
    clear hl
    refine fun a w hs=>bkE ((WS.nxt ?_ a w hs))
    refine WS.sq (WS.rg (RS.mS 1 [kB 4 true] (RS.dn (WS.nxt (WS.rt ?_)))))
    cases h
    exact fun a w hs=>rtR (rS hs)
   ·try dsimp only at h
    refine WS.lR (z6x (L:=L) (E:=E) (m:=m) (H:=H)) (L.ok hl) 3 ?_
    cases h
    exact fun a w hq=>bkR (sqR (rtR hq))
  ·refine WS.fx 29 true (za hp) (WS.cT ?_)
   cases h
 ·refine RS.fx 22 true (za hp) ?_
  cases h
def zdp:(Int×AH)→Value
 | (r0,_)=>(Value.int .i64 r0)
def zg9 (_:AH):(Int×AH)→AH:=fun r=>r.2
noncomputable def B11:Code:=(Tryz.f11.body).getD .skip
noncomputable def z9k (L:LC) (m:Nat) (a0_0 a0_1:Sl3) (a0_2 a1_0:Sl3) (p3:Nat):(AH×Int)→Option (Lp (AH×Int) (Int×AH)):=fun (H5,v22_6) =>
 if v22_6<(a1_0.n:Int) then
  Option.bind (idxA 17 a1_0 v22_6) fun p7 =>
  Option.bind (rd deS H5 (Addr.add p7 0)) fun x8_0 =>
  Option.bind (rd deSl H5 (Addr.add p7 1)) fun x8_1 =>
  Option.bind (rd (deI .i64) H5 (Addr.add p7 2)) fun x8_2 =>
  Option.bind (rd deB H5 (Addr.add p7 3)) fun x8_3 =>
  Option.bind (rd deB H5 (Addr.add p7 4)) fun x8_4 =>
  Option.bind (rd deSl H5 (Addr.add p7 5)) fun x8_5 =>
  Option.bind (rd (deI .i64) H5 (Addr.add p7 6)) fun x8_6 =>
  Option.bind (rd deSl H5 (Addr.add p7 7)) fun x8_7 =>
  Option.bind (rd deS H5 (Addr.add p7 8)) fun x8_8 =>
  Option.bind (rd (deI .i64) H5 (Addr.add p7 9)) fun x8_9 =>
  Option.bind (rd (deI .i64) H5 (Addr.add p7 10)) fun x8_10 =>
  Option.bind (rd (deI .i64) H5 (Addr.add p7 11)) fun x8_11 =>
  Option.bind (rd deS H5 (Addr.add p7 12)) fun x8_12 =>
  Option.bind (rd deSl H5 (Addr.add p7 13)) fun x8_13 =>
  Option.bind (rd deSl H5 (Addr.add p7 14)) fun x8_14 =>
  Option.bind (rd deSl H5 (Addr.add p7 15)) fun x8_15 =>
  Option.bind (rd deSl H5 (Addr.add p7 16)) fun x8_16 =>
  Option.bind (lk1 Tryz.prog 39 (deI .i64) H5 (some p3) (Value.string x8_0)) fun x9 =>
  Option.bind (upM Tryz.prog m 39 H5 (some p3) (Value.string x8_0) (Value.int .i64 (IntKind.i64.wrap (x9+1)))) fun H10 =>
  Option.bind (lk1 Tryz.prog 39 (deI .i64) H10 (some p3) (Value.string x8_0)) fun x11 =>
  if x11 > 1 then
   none
  else
   Option.bind (z8l L m H10 a0_0 a0_1 a0_2 a1_0 x8_0 x8_1 x8_2 x8_3 x8_4 x8_5 x8_6 x8_7 x8_8 x8_9 x8_10 x8_11 x8_12 x8_13 x8_14 x8_15 x8_16) fun (x12,H13) =>
   if x12=true then
    some (.next (H13,(IntKind.i64.wrap (v22_6+1))))
   else
    none
 else
  some (.brk (H5,v22_6))
def zk3 (_L:LC) (_m:Nat) (a0_0 a0_1:Sl3) (a0_2 a1_0:Sl3) (p3:Nat):(AH×Int)→KN×Lcs:=fun (_,v22_6)=>([kI 22 v22_6,kL 6 2 0,(7,.val (Value.map (some p3))),kS 20 a1_0,kI 21 (a1_0.n:Int)],[some (37,[(Sl3.v a0_0),(Sl3.v a0_1),(Sl3.v a0_2)]),some (24,[(Sl3.v a1_0)]),some (66,[(Sl3.v a0_0),(Sl3.v a0_1),(Sl3.v a0_2),(Sl3.v a1_0)])])
noncomputable def zeu (L:LC) (m:Nat) (H:AH) (a0_0 a0_1:Sl3) (a0_2 a1_0:Sl3):Option (Int×AH) :=
 Option.bind (z3b L m H a0_0 a0_1 a0_2) fun (x1,H2) =>
 if x1=0 then
  Option.bind (newM H2) fun (p3,H4) =>
  Option.bind (L.run (z9k L m a0_0 a0_1 a0_2 a1_0 p3) (H4,0)) fun o=>match o with
  | .inl (H14,_) =>
   some (0,H14)
  | .inr r=>some r
 else
  none
theorem zb4 {E H L m a0_0 a0_1 a0_2 a1_0 p3} :LoopF Tryz.prog (NE.plain 167) m E Tryz.f11 ((cfst (csnd (cfst (csnd (csnd (csnd (csnd B11)))))))) (zk3 L m a0_0 a0_1 a0_2 a1_0 p3) (fun s=>s.1) 0 zdp (zg9 H) (z9k L m a0_0 a0_1 a0_2 a1_0 p3):=by
 rintro ⟨H5,v22_6⟩ o h
 unfold z9k at h
 try dsimp only at h
 refine WS.sq (WS.rg (RS.mS 1 [kB 23 (decide (v22_6<(a1_0.n:Int)))] (RS.dn (WS.nxt (WS.sq ?_)))))
 rcases z0 h with ⟨hp,h⟩ | ⟨hp,h⟩
 ·refine WS.fx 23 true (decide_eq_true hp) (WS.cT (WS.sk (WS.nxt (WS.sq (WS.bk 1 (WS.sq (WS.rg ?_)))))))
  obtain ⟨p7,hx,h⟩:=bind_some h
  refine RS.ix 24 22 89 (.tmp 20) (.tmp 22) hx ?_
  obtain ⟨x8_0,hx0,h⟩:=bind_some h
  obtain ⟨x8_1,hx1,h⟩:=bind_some h
  obtain ⟨x8_2,hx2,h⟩:=bind_some h
  obtain ⟨x8_3,hx3,h⟩:=bind_some h
  obtain ⟨x8_4,hx4,h⟩:=bind_some h
  obtain ⟨x8_5,hx5,h⟩:=bind_some h
  obtain ⟨x8_6,hx6,h⟩:=bind_some h
  obtain ⟨x8_7,hx7,h⟩:=bind_some h
  obtain ⟨x8_8,hx8,h⟩:=bind_some h
  obtain ⟨x8_9,hx9,h⟩:=bind_some h
  obtain ⟨x8_10,hx10,h⟩:=bind_some h
  obtain ⟨x8_11,hx11,h⟩:=bind_some h
  obtain ⟨x8_12,hx12,h⟩:=bind_some h
  obtain ⟨x8_13,hx13,h⟩:=bind_some h
  obtain ⟨x8_14,hx14,h⟩:=bind_some h
  obtain ⟨x8_15,hx15,h⟩:=bind_some h
  obtain ⟨x8_16,hx16,h⟩:=bind_some h
  refine RS.la 25 89 (.tmp 24) 17 (z2 (z1 hx0 z9) (z2 (z1 hx1 z3) (z2 (z1 hx2 z5) (z2 (z1 hx3 z13) (z2 (z1 hx4 z13) (z2 (z1 hx5 z3) (z2 (z1 hx6 z5) (z2 (z1 hx7 z3) (z2 (z1 hx8 z9) (z2 (z1 hx9 z5) (z2 (z1 hx10 z5) (z2 (z1 hx11 z5) (z2 (z1 hx12 z9) (z2 (z1 hx13 z3) (z2 (z1 hx14 z3) (z2 (z1 hx15 z3) (z2 (z1 hx16 z3) zm))))))))))))))))) (RS.mL 2 [kL 9 3 0] ([some (37,[(Sl3.v a0_0),(Sl3.v a0_1),(Sl3.v a0_2)]),some (24,[(Sl3.v a1_0)]),some (66,[(Sl3.v a0_0),(Sl3.v a0_1),(Sl3.v a0_2),(Sl3.v a1_0)]),some (89,[(Value.string x8_0),(Sl3.v x8_1),(Value.int .i64 x8_2),(Value.bool x8_3),(Value.bool x8_4),(Sl3.v x8_5),(Value.int .i64 x8_6),(Sl3.v x8_7),(Value.string x8_8),(Value.int .i64 x8_9),(Value.int .i64 x8_10),(Value.int .i64 x8_11),(Value.string x8_12),(Sl3.v x8_13),(Sl3.v x8_14),(Sl3.v x8_15),(Sl3.v x8_16)])]) (RS.dn (WS.nxt (WS.sq (WS.rg (RS.mS 3 [kT 28 x8_0,kL 27 3 0,(26,.val (Value.map (some p3)))] ?_))))))
  obtain ⟨x9,hx,h⟩:=bind_some h
  refine RS.o (H':=H5) (some 29) (Value.int .i64 x9) (Abs.run_look (t:=39) (x:=.tmp 26) (y:=.tmp 28) (mm:=(some p3)) (k:=(Value.string x8_0)) (by kernel_rfl) (by kernel_rfl) (by kernel_rfl) (by kernel_rfl) (lk1_eq hx z5)) (RS.mS 1 [kI 30 (IntKind.i64.wrap (x9+1))] ?_)
  obtain ⟨H10,hx,h⟩:=bind_some h
  refine RS.o (H':=H10) none undef (Abs.run_upM (t:=39) (x:=.tmp 26) (y:=.tmp 28) (z:=.tmp 30) (mm:=(some p3)) (k:=(Value.string x8_0)) (v:=(Value.int .i64 (IntKind.i64.wrap (x9+1)))) (by kernel_rfl) (by kernel_rfl) (by kernel_rfl) (by kernel_rfl) (by kernel_rfl) hx) (RS.dn (WS.nxt (WS.sq (WS.rg (RS.mS 3 [kT 33 x8_0,kL 32 3 0,(31,.val (Value.map (some p3)))] ?_)))))
  obtain ⟨x11,hx,h⟩:=bind_some h
  refine RS.o (H':=H10) (some 34) (Value.int .i64 x11) (Abs.run_look (t:=39) (x:=.tmp 31) (y:=.tmp 33) (mm:=(some p3)) (k:=(Value.string x8_0)) (by kernel_rfl) (by kernel_rfl) (by kernel_rfl) (by kernel_rfl) (lk1_eq hx z5)) (RS.mS 2 [kB 36 (decide (x11 > 1)),kB 35 (decide (x11 > 1))] ?_)
  rcases z0 h with ⟨hp,h⟩ | ⟨hp,h⟩
  ·refine RS.fx 36 true (decide_eq_true hp) ?_
   cases h
  ·refine RS.fx 36 false (decide_eq_false hp) (RS.mS 2 [kA 38 #[(Value.string x8_0),(Sl3.v x8_1),(Value.int .i64 x8_2),(Value.bool x8_3),(Value.bool x8_4),(Sl3.v x8_5),(Value.int .i64 x8_6),(Sl3.v x8_7),(Value.string x8_8),(Value.int .i64 x8_9),(Value.int .i64 x8_10),(Value.int .i64 x8_11),(Value.string x8_12),(Sl3.v x8_13),(Sl3.v x8_14),(Sl3.v x8_15),(Sl3.v x8_16)],kA 37 #[(Sl3.v a0_0),(Sl3.v a0_1),(Sl3.v a0_2),(Sl3.v a1_0)]] ?_)
   obtain ⟨⟨x12,H13⟩,hx,h⟩:=bind_some h
   try dsimp only at h
   refine RS.cl (some 39) (v:=(Value.bool x12)) 29 #[(Value.agg #[(Sl3.v a0_0),(Sl3.v a0_1),(Sl3.v a0_2),(Sl3.v a1_0)]),(Value.agg #[(Value.string x8_0),(Sl3.v x8_1),(Value.int .i64 x8_2),(Value.bool x8_3),(Value.bool x8_4),(Sl3.v x8_5),(Value.int .i64 x8_6),(Sl3.v x8_7),(Value.string x8_8),(Value.int .i64 x8_9),(Value.int .i64 x8_10),(Value.int .i64 x8_11),(Value.string x8_12),(Sl3.v x8_13),(Sl3.v x8_14),(Sl3.v x8_15),(Sl3.v x8_16)])] (ziy hx) (RS.mS 2 [kB 41 (!x12),kB 40 (!x12)] (RS.dn (WS.nxt ?_)))
   rcases z0 h with ⟨hp,h⟩ | ⟨hp,h⟩
   ·refine WS.fx 41 false (nb_not hp) (WS.cF (WS.sk ?_))
    refine fun a w hs=>bkN ((WS.nxt ?_ a w hs))
    refine WS.rg (RS.mS 2 [kI 22 (IntKind.i64.wrap (v22_6+1)),kI 42 (IntKind.i64.wrap (v22_6+1))] (RS.dn ?_))
    cases h
    exact fun a w hs=>lsN rfl (hs.sb 3)
   ·refine WS.fx 41 true (za hp) (WS.cT ?_)
    cases h
 ·refine WS.fx 23 false (decide_eq_false hp) (WS.cF (WS.ex 0 ?_))
  cases h
  exact fun a w hs=>sqE (lsB rfl (hs.sb 3))
theorem zna {L:LC} {m:Nat} {H:AH} {a0_0 a0_1:Sl3} {a0_2 a1_0:Sl3} {r:(Int×AH)} (h:zeu L m H a0_0 a0_1 a0_2 a1_0=some r) :
  CallS Tryz.prog (NE.plain 167) m 11 #[(Value.agg #[(Sl3.v a0_0),(Sl3.v a0_1),(Sl3.v a0_2)]),(Value.agg #[(Sl3.v a1_0)])] H (zdp r) (zg9 H r):=by
 refine CallS.mk (args:=[(Value.agg #[(Sl3.v a0_0),(Sl3.v a0_1),(Sl3.v a0_2)]),(Value.agg #[(Sl3.v a1_0)])]) Tryz.func11 (B:=B11) (by kernel_rfl) (fun E _=>?_)
 unfold zeu at h
 refine WS.sq (WS.rg (RS.mL 3 [kI 4 0,kL 3 1 0,kL 2 0 0] ([some (37,[(Sl3.v a0_0),(Sl3.v a0_1),(Sl3.v a0_2)]),some (24,[(Sl3.v a1_0)])]) (RS.dn (WS.nxt (WS.sq (WS.sq (WS.rg (RS.mS 1 [kA 10 #[(Sl3.v a0_0),(Sl3.v a0_1),(Sl3.v a0_2)]] ?_))))))))
 obtain ⟨⟨x1,H2⟩,hx,h⟩:=bind_some h
 try dsimp only at h
 refine RS.cl (some 11) (v:=(Value.int .i64 x1)) 28 #[(Value.agg #[(Sl3.v a0_0),(Sl3.v a0_1),(Sl3.v a0_2)])] (z65 hx) (RS.mS 1 [kI 5 x1] (RS.dn (WS.nxt (WS.sq (WS.rg (RS.mS 2 [kB 13 (!decide (x1=0)),kI 12 x1] (RS.dn (WS.nxt ?_))))))))
 rcases z0 h with ⟨hp,h⟩ | ⟨hp,h⟩
 ·refine WS.fx 13 false (zh hp) (WS.cF (WS.sk (WS.nxt (WS.sq (WS.rg (RS.mL 5 [kL 6 2 0,kA 17 #[(Sl3.v a0_0),(Sl3.v a0_1),(Sl3.v a0_2),(Sl3.v a1_0)],kA 16 #[(Sl3.v a1_0)],kA 15 #[(Sl3.v a0_0),(Sl3.v a0_1),(Sl3.v a0_2)]] ([some (37,[(Sl3.v a0_0),(Sl3.v a0_1),(Sl3.v a0_2)]),some (24,[(Sl3.v a1_0)]),some (66,[(Sl3.v a0_0),(Sl3.v a0_1),(Sl3.v a0_2),(Sl3.v a1_0)])]) (RS.dn (WS.nxt (WS.sq ?_)))))))))
  refine WS.rg ?_
  obtain ⟨⟨p3,H4⟩,hx,h⟩:=bind_some h
  try dsimp only at h
  refine RS.o (H':=H4) (some 18) (Value.map (some p3)) (Abs.run_newM (by kernel_rfl) hx) (RS.mS 1 [(7,.val (Value.map (some p3)))] (RS.dn (WS.nxt (WS.sq (WS.sq (WS.rg (RS.mS 4 [kI 22 0,kI 21 (a1_0.n:Int),kS 20 a1_0,kL 19 1 0] (RS.dn (WS.nxt ?_)))))))))
  refine WS.bk 0 ?_
  obtain ⟨o,hl,h⟩:=bind_some h
  rcases o with ⟨H14,v22_15⟩ | r
  ·try dsimp only at h
   refine WS.lI (zb4 (L:=L) (E:=E) (m:=m) (H:=H)) (L.ok hl) 3 ?_
   clear hl
   refine fun a w hs=>bkE ((WS.nxt ?_ a w hs))
   refine WS.sq (WS.rg (RS.mS 1 [kI 4 0] (RS.dn (WS.nxt (WS.rt ?_)))))
   cases h
   exact fun a w hs=>rtR (rS hs)
  ·try dsimp only at h
   refine WS.lR (zb4 (L:=L) (E:=E) (m:=m) (H:=H)) (L.ok hl) 3 ?_
   cases h
   exact fun a w hq=>bkR (sqR (rtR hq))
 ·refine WS.fx 13 true (ze hp) (WS.cT ?_)
  cases h
def zai:(Sl3×AH)→Value
 | (r0,_)=>(Sl3.v r0)
def zbd (_:AH):(Sl3×AH)→AH:=fun r=>r.2
noncomputable def B12:Code:=(Tryz.f12.body).getD .skip
noncomputable def z31 (_L:LC) (_m:Nat) (H:AH) (a0:Option Addr):Option (Sl3×AH) :=
 Option.bind (newR 106 9 #[(Value.int .i64 1),(Value.int .i64 7),(Value.func (.func 30) #[] #[]),(Value.int .i64 8),(Value.int .i64 9),(Value.func (.func 31) #[] #[]),(Value.int .i64 10),(Value.int .i64 10),(Value.func (.func 32) #[] #[]),(Value.int .i64 11),(Value.int .i64 14),(Value.func (.func 33) #[(Value.pointer a0)] #[]),(Value.int .i64 20),(Value.int .i64 27),(Value.func (.func 34) #[] #[]),(Value.int .i64 28),(Value.int .i64 31),(Value.func (.func 35) #[] #[]),(Value.int .i64 32),(Value.int .i64 34),(Value.func (.func 36) #[(Value.pointer a0)] #[]),(Value.int .i64 40),(Value.int .i64 67),(Value.func (.func 37) #[] #[]),(Value.int .i64 68),(Value.int .i64 75),(Value.func (.func 38) #[] #[])] H) fun (s1,H2) =>
 some (s1,H2)
theorem zbt {L:LC} {m:Nat} {H:AH} {a0:Option Addr} {r:(Sl3×AH)} (h:z31 L m H a0=some r) :
  CallS Tryz.prog (NE.plain 167) m 12 #[(Value.pointer a0)] H (zai r) (zbd H r):=by
 refine CallS.mk (args:=[(Value.pointer a0)]) Tryz.func12 (B:=B12) (by kernel_rfl) (fun E _=>?_)
 unfold z31 at h
 refine WS.sq (WS.rg (RS.mS 1 [kS 2 Sl3.nil] (RS.dn (WS.nxt (WS.sq (WS.rg (RS.mS 13 [kA 15 #[(Value.int .i64 68),(Value.int .i64 75),(Value.func (.func 38) #[] #[])],kA 14 #[(Value.int .i64 40),(Value.int .i64 67),(Value.func (.func 37) #[] #[])],kA 13 #[(Value.int .i64 32),(Value.int .i64 34),(Value.func (.func 36) #[(Value.pointer a0)] #[])],(12,.val (Value.func (.func 36) #[(Value.pointer a0)] #[])),(11,.val (Value.pointer a0)),kA 10 #[(Value.int .i64 28),(Value.int .i64 31),(Value.func (.func 35) #[] #[])],kA 9 #[(Value.int .i64 20),(Value.int .i64 27),(Value.func (.func 34) #[] #[])],kA 8 #[(Value.int .i64 11),(Value.int .i64 14),(Value.func (.func 33) #[(Value.pointer a0)] #[])],(7,.val (Value.func (.func 33) #[(Value.pointer a0)] #[])),(6,.val (Value.pointer a0)),kA 5 #[(Value.int .i64 10),(Value.int .i64 10),(Value.func (.func 32) #[] #[])],kA 4 #[(Value.int .i64 8),(Value.int .i64 9),(Value.func (.func 31) #[] #[])],kA 3 #[(Value.int .i64 1),(Value.int .i64 7),(Value.func (.func 30) #[] #[])]] ?_)))))))
 obtain ⟨⟨s1,H2⟩,hx,h⟩:=bind_some h
 try dsimp only at h
 refine RS.o (H':=H2) (some 16) (Sl3.v s1) (Abs.run_newR (by kernel_rfl) (by kernel_rfl) hx) (RS.mS 1 [kS 2 s1] (RS.dn (WS.nxt (WS.rt ?_))))
 cases h
 exact fun a w hs=>rtR (rS hs)
def z8w:AH→Value
 | _=>(Value.tuple #[])
def zaa (_:AH):AH→AH:=fun r=>r
noncomputable def B39:Code:=(Tryz.f39.body).getD .skip
noncomputable def z55 (_L:LC) (m:Nat) (a0:Sl3):(AH×Int×Int)→Option (Lp (AH×Int×Int) AH):=fun (H1,v2_2,v3_3) =>
 if v2_2<v3_3 then
  Option.bind (idxA 1 a0 v3_3) fun p4 =>
  Option.bind (rd (deI .i64) H1 p4) fun x5 =>
  Option.bind (idxA 1 a0 v2_2) fun p6 =>
  Option.bind (rd (deI .i64) H1 p6) fun x7 =>
  Option.bind (idxA 1 a0 v2_2) fun p8 =>
  Option.bind (H1.setCell m p8 (Value.int .i64 x5)) fun H9 =>
  Option.bind (idxA 1 a0 v3_3) fun p10 =>
  Option.bind (H9.setCell m p10 (Value.int .i64 x7)) fun H11 =>
  some (.next (H11,(IntKind.i64.wrap (v2_2+1)),(IntKind.i64.wrap (v3_3 - 1))))
 else
  some (.brk (H1,v2_2,v3_3))
def zfu (_L:LC) (_m:Nat) (a0:Sl3):(AH×Int×Int)→KN×Lcs:=fun (_,v2_2,v3_3)=>([kI 2 v2_2,kI 3 v3_3,kS 0 a0],[])
noncomputable def z8d (L:LC) (m:Nat) (H:AH) (a0:Sl3):Option AH :=
 Option.bind (L.run (z55 L m a0) (H,0,(IntKind.i64.wrap ((a0.n:Int) - 1)))) fun o=>match o with
 | .inl (H12,_,_) =>
  some H12
 | .inr r=>some r
theorem z7m {E H L m a0} :LoopF Tryz.prog (NE.plain 167) m E Tryz.f39 ((cfst (csnd B39))) (zfu L m a0) (fun s=>s.1) 0 z8w (zaa H) (z55 L m a0):=by
 rintro ⟨H1,v2_2,v3_3⟩ o h
 unfold z55 at h
 try dsimp only at h
 refine WS.sq (WS.sq (WS.rg (RS.mS 3 [kB 9 (decide (v2_2<v3_3)),kI 8 v3_3,kI 7 v2_2] (RS.dn (WS.nxt ?_)))))
 rcases z0 h with ⟨hp,h⟩ | ⟨hp,h⟩
 ·refine WS.fx 9 true (decide_eq_true hp) (WS.cT (WS.sk (WS.nxt (WS.sq (WS.bk 1 ?_)))))
  refine WS.dr [4,5,6,7,8,9,10,11] [0,0,0,0,0,0,48,112,0,0,768,1792,4083,8179,16383,32767] 16 (fun hcl=>?_)
  refine DA.tK 4 (some 18) (Sl3.v a0) (DA.tK 5 (some 19) (Value.int .i64 v3_3) ?_)
  obtain ⟨p4,hx,h⟩:=bind_some h
  refine DA.tD 6 (some 20) (Value.pointer (some p4)) (Abs.det_idx (s:=a0) (k:=.i64) (t:=25) (e:=3) (x:=.tmp 18) (y:=.tmp 19) (by kernel_rfl) (by kernel_rfl) (by kernel_rfl) (by kernel_rfl) (by kernel_rfl) hx) ?_
  obtain ⟨x5,hx,h⟩:=bind_some h
  refine DA.tD 7 (some 21) (Value.int .i64 x5) (Abs.det_load (t:=3) (x:=.tmp 20) (a:=p4) (by kernel_rfl) (by kernel_rfl) (by kernel_rfl) (by kernel_rfl) (z1 hx z5)) (DA.tK 8 (some 22) (Sl3.v a0) (DA.tK 9 (some 23) (Value.int .i64 v2_2) ?_))
  obtain ⟨p6,hx,h⟩:=bind_some h
  refine DA.tD 10 (some 24) (Value.pointer (some p6)) (Abs.det_idx (s:=a0) (k:=.i64) (t:=25) (e:=3) (x:=.tmp 22) (y:=.tmp 23) (by kernel_rfl) (by kernel_rfl) (by kernel_rfl) (by kernel_rfl) (by kernel_rfl) hx) ?_
  obtain ⟨x7,hx,h⟩:=bind_some h
  refine DA.tD 11 (some 25) (Value.int .i64 x7) (Abs.det_load (t:=3) (x:=.tmp 24) (a:=p6) (by kernel_rfl) (by kernel_rfl) (by kernel_rfl) (by kernel_rfl) (z1 hx z5)) (DA.tP 0 (some 14) (Sl3.v a0) (DA.tP 1 (some 15) (Value.int .i64 v2_2) (DA.tP 2 (some 16) (Sl3.v a0) (DA.tP 3 (some 17) (Value.int .i64 v3_3) ?_))))
  obtain ⟨p8,hx,h⟩:=bind_some h
  refine DA.tPx 12 (some 26) (Value.pointer (some p8)) (Abs.det_idx (s:=a0) (k:=.i64) (t:=25) (e:=3) (x:=.tmp 14) (y:=.tmp 15) (by kernel_rfl) (by kernel_rfl) (by kernel_rfl) (by kernel_rfl) (by kernel_rfl) hx) ?_
  obtain ⟨H9,hx,h⟩:=bind_some h
  refine DA.on 13 (DA.aH (H':=H9) 13 none undef (Abs.run_store1 (t:=3) (x:=.tmp 26) (y:=.tmp 21) (a:=p8) (v:=(Value.int .i64 x5)) (by kernel_rfl) (by kernel_rfl) (by kernel_rfl) (by kernel_rfl) (by kernel_rfl) hx) ?_)
  obtain ⟨p10,hx,h⟩:=bind_some h
  refine DA.tPx 14 (some 27) (Value.pointer (some p10)) (Abs.det_idx (s:=a0) (k:=.i64) (t:=25) (e:=3) (x:=.tmp 16) (y:=.tmp 17) (by kernel_rfl) (by kernel_rfl) (by kernel_rfl) (by kernel_rfl) (by kernel_rfl) hx) ?_
  obtain ⟨H11,hx,h⟩:=bind_some h
  refine DA.on 15 (DA.aH (H':=H11) 15 none undef (Abs.run_store1 (t:=3) (x:=.tmp 27) (y:=.tmp 25) (a:=p10) (v:=(Value.int .i64 x7)) (by kernel_rfl) (by kernel_rfl) (by kernel_rfl) (by kernel_rfl) (by kernel_rfl) hx) (DA.dn ?_))
  refine fun a w hs=>bkN ((WS.nxt ?_ a w hs))
  refine WS.rg (RS.mS 6 [kI 3 (IntKind.i64.wrap (v3_3 - 1)),kI 2 (IntKind.i64.wrap (v2_2+1)),kI 13 (IntKind.i64.wrap (v3_3 - 1)),kI 12 v3_3,kI 11 (IntKind.i64.wrap (v2_2+1)),kI 10 v2_2] (RS.dn ?_))
  cases h
  exact fun a w hs=>lsN rfl (hs.sb 0)
 ·refine WS.fx 9 false (decide_eq_false hp) (WS.cF (WS.ex 0 ?_))
  cases h
  exact fun a w hs=>sqE (lsB rfl (hs.sb 0))
theorem zj3 {L:LC} {m:Nat} {H:AH} {a0:Sl3} {r:AH} (h:z8d L m H a0=some r) :
  CallS Tryz.prog (NE.plain 167) m 39 #[(Sl3.v a0)] H (z8w r) (zaa H r):=by
 refine CallS.mk (args:=[(Sl3.v a0)]) Tryz.func39 (B:=B39) (by kernel_rfl) (fun E _=>?_)
 unfold z8d at h
 refine WS.sq (WS.rg (RS.mS 5 [kI 3 (IntKind.i64.wrap ((a0.n:Int) - 1)),kI 2 0,kI 6 (IntKind.i64.wrap ((a0.n:Int) - 1)),kI 5 (a0.n:Int),kS 4 a0] (RS.dn (WS.nxt (WS.bk 0 ?_)))))
 obtain ⟨o,hl,h⟩:=bind_some h
 rcases o with ⟨H12,v2_13,v3_14⟩ | r
 ·try dsimp only at h
  refine WS.lI (z7m (L:=L) (E:=E) (m:=m) (H:=H)) (L.ok hl) 0 ?_
  clear hl
  cases h
  exact fun a w hs=>bkE (rtN (rS hs))
 ·try dsimp only at h
  refine WS.lR (z7m (L:=L) (E:=E) (m:=m) (H:=H)) (L.ok hl) 0 ?_
  cases h
  exact fun a w hq=>bkR (rtR hq)
end Go.Proofs.YtdlnojjpbmibdaaGreatDoor
namespace Go.Proofs.YtdlnojjpbmibdaaGreatDoor
open Go Go.Abs
set_option maxRecDepth 100000
def z1u:(Sl3×AH)→Value
 | (r0,_)=>(Sl3.v r0)
def z23 (_:AH):(Sl3×AH)→AH:=fun r=>r.2
noncomputable def B13:Code:=(Tryz.f13.body).getD .skip
noncomputable def z3i (_L:LC) (m:Nat) (a1:Sl3) (_q2:Addr) (s4:Sl3):(AH×Int)→Option (Lp (AH×Int) (Sl3×AH)):=fun (H6,v23_7) =>
 if v23_7<(a1.n:Int) then
  Option.bind (idxA 1 a1 v23_7) fun p8 =>
  Option.bind (rd (deI .i64) H6 p8) fun x9 =>
  if x9≥0 then
   if x9<(s4.n:Int) then
    Option.bind (idxA 1 s4 x9) fun p10 =>
    Option.bind (H6.setCell m p10 (Value.bool true)) fun H11 =>
    some (.next (H11,(IntKind.i64.wrap (v23_7+1))))
   else
    none
  else
   none
 else
  some (.brk (H6,v23_7))
def zdf (_L:LC) (_m:Nat) (a1:Sl3) (q2:Addr) (s4:Sl3):(AH×Int)→KN×Lcs:=fun (_,v23_7)=>([kI 23 v23_7,kP 0 q2,kS 5 s4,kS 21 a1,kI 22 (a1.n:Int)],[])
noncomputable def z3g (_L:LC) (m:Nat) (_q2:Addr) (s4:Sl3) (_v9_16:Int) (_s21 x25:Sl3):(AH×Int)→Option (Lp (AH×Int) (Sl3×AH)):=fun (H26,v65_27) =>
 if v65_27<(x25.n:Int) then
  Option.bind (idxA 1 x25 v65_27) fun p28 =>
  Option.bind (rd (deI .i64) H26 p28) fun x29 =>
  Option.bind (idxA 1 s4 x29) fun p30 =>
  Option.bind (H26.setCell m p30 (Value.bool true)) fun H31 =>
  some (.next (H31,(IntKind.i64.wrap (v65_27+1))))
 else
  some (.brk (H26,v65_27))
def zdh (_L:LC) (_m:Nat) (q2:Addr) (s4:Sl3) (v9_16:Int) (s21 x25:Sl3):(AH×Int)→KN×Lcs:=fun (_,v65_27)=>([kI 65 v65_27,kP 0 q2,kS 5 s4,kS 8 s21,kI 9 v9_16,kS 63 x25,kI 64 (x25.n:Int)],[])
noncomputable def z3r (L:LC) (m:Nat) (q2:Addr) (s4:Sl3):(AH×Sl3×Int)→Option (Lp (AH×Sl3×Int) (Sl3×AH)):=fun (H14,v8_15,v9_16) =>
 if v9_16≥0 then
  Option.bind (idxA 1 s4 v9_16) fun p17 =>
  Option.bind (rd deB H14 p17) fun x18 =>
  if x18=true then
   Option.bind (newR 3 1 #[(Value.int .i64 v9_16)] H14) fun (s19,H20) =>
   Option.bind (appS m 3 1 8 H20 v8_15 s19) fun (s21,H22) =>
   Option.bind (rd deSl H22 (Addr.add q2 3)) fun x23 =>
   Option.bind (idxA 16 x23 v9_16) fun p24 =>
   Option.bind (rd deSl H22 (Addr.add (Addr.add p24 0) 11)) fun x25 =>
   Option.bind (L.run (z3g L m q2 s4 v9_16 s21 x25) (H22,0)) fun o=>match o with
   | .inl (H32,_) =>
    some (.next (H32,s21,(IntKind.i64.wrap (v9_16 - 1))))
   | .inr r=>some (.ret r)
  else
   none
 else
  some (.brk (H14,v8_15,v9_16))
def zcy (_L:LC) (_m:Nat) (q2:Addr) (s4:Sl3):(AH×Sl3×Int)→KN×Lcs:=fun (_,v8_15,v9_16)=>([kS 8 v8_15,kI 9 v9_16,kP 0 q2,kS 5 s4],[])
noncomputable def z5y (L:LC) (m:Nat) (H:AH) (a0:Option Addr) (a1:Sl3):Option (Sl3×AH) :=
 Option.bind (z12 L H a0) fun x1 =>
 if x1=true then
  Option.bind a0 fun q2 =>
  Option.bind (rd deSl H (Addr.add q2 3)) fun x3 =>
  Option.bind (mkS 4 1 1 #[(Value.bool false)] H (x3.n:Int) (x3.n:Int)) fun (s4,H5) =>
  Option.bind (L.run (z3i L m a1 q2 s4) (H5,0)) fun o=>match o with
  | .inl (H12,_) =>
   Option.bind (L.run (z3r L m q2 s4) (H12,Sl3.nil,(IntKind.i64.wrap ((s4.n:Int) - 1)))) fun o=>match o with
   | .inl (H34,v8_35,_) =>
    Option.bind (z8d L m H34 v8_35) fun H37 =>
    some (v8_35,H37)
   | .inr r=>some r
  | .inr r=>some r
 else
  none
theorem z5g {E H L m a1 q2 s4} :LoopF Tryz.prog (NE.plain 167) m E Tryz.f13 ((cfst (csnd (cfst (csnd (csnd (csnd B13))))))) (zdf L m a1 q2 s4) (fun s=>s.1) 0 z1u (z23 H) (z3i L m a1 q2 s4):=by
 rintro ⟨H6,v23_7⟩ o h
 unfold z3i at h
 try dsimp only at h
 refine WS.sq (WS.rg (RS.mS 1 [kB 24 (decide (v23_7<(a1.n:Int)))] (RS.dn (WS.nxt (WS.sq ?_)))))
 rcases z0 h with ⟨hp,h⟩ | ⟨hp,h⟩
 ·refine WS.fx 24 true (decide_eq_true hp) (WS.cT (WS.sk (WS.nxt (WS.sq (WS.bk 1 (WS.sq (WS.rg ?_)))))))
  obtain ⟨p8,hx,h⟩:=bind_some h
  refine RS.ix 25 25 3 (.tmp 21) (.tmp 23) hx ?_
  obtain ⟨x9,hx,h⟩:=bind_some h
  refine RS.ld 26 3 (.tmp 25) (z1 hx z5) (RS.mS 1 [kI 7 x9] (RS.dn (WS.nxt (WS.sq (WS.rg (RS.mS 3 [kB 29 (decide (x9≥0)),kB 28 (decide (x9≥0)),kI 27 x9] ?_))))))
  rcases z0 h with ⟨hp,h⟩ | ⟨hp,h⟩
  ·refine RS.fx 29 true (decide_eq_true hp) (RS.mS 5 [kB 34 (decide (x9<(s4.n:Int))),kB 33 (decide (x9<(s4.n:Int))),kI 32 (s4.n:Int),kS 31 s4,kI 30 x9] (RS.dn (WS.nxt ?_)))
   rcases z0 h with ⟨hp,h⟩ | ⟨hp,h⟩
   ·refine WS.fx 34 true (decide_eq_true hp) (WS.cT (WS.rg (RS.mS 2 [kI 36 x9,kS 35 s4] ?_)))
    obtain ⟨p10,hx,h⟩:=bind_some h
    refine RS.ix 37 107 4 (.tmp 35) (.tmp 36) hx ?_
    obtain ⟨H11,hx,h⟩:=bind_some h
    refine RS.o (H':=H11) none undef (Abs.run_store1 (t:=4) (x:=.tmp 37) (y:=.const (Value.bool true)) (a:=p10) (v:=(Value.bool true)) (by kernel_rfl) (by kernel_rfl) (by kernel_rfl) (by kernel_rfl) (by kernel_rfl) hx) (RS.dn ?_)
    refine fun a w hs=>bkN ((WS.nxt ?_ a w hs))
    refine WS.rg (RS.mS 2 [kI 23 (IntKind.i64.wrap (v23_7+1)),kI 38 (IntKind.i64.wrap (v23_7+1))] (RS.dn ?_))
    cases h
    exact fun a w hs=>lsN rfl (hs.sb 0)
   ·refine WS.fx 34 false (decide_eq_false hp) (WS.cF ?_)
    cases h
  ·refine RS.fx 29 false (decide_eq_false hp) ?_
   cases h
 ·refine WS.fx 24 false (decide_eq_false hp) (WS.cF (WS.ex 0 ?_))
  cases h
  exact fun a w hs=>sqE (lsB rfl (hs.sb 0))
theorem z5l {E H L m q2 s4 v9_16 s21 x25} :LoopF Tryz.prog (NE.plain 167) m E Tryz.f13 ((cfst (csnd (csnd (csnd (cfst (cfst (csnd (cfst (cfst (csnd (cfst (csnd (csnd (csnd (csnd (csnd B13))))))))))))))))) (zdh L m q2 s4 v9_16 s21 x25) (fun s=>s.1) 4 z1u (z23 H) (z3g L m q2 s4 v9_16 s21 x25):=by
 rintro ⟨H26,v65_27⟩ o h
 unfold z3g at h
 try dsimp only at h
 refine WS.sq (WS.rg (RS.mS 1 [kB 66 (decide (v65_27<(x25.n:Int)))] (RS.dn (WS.nxt (WS.sq ?_)))))
 rcases z0 h with ⟨hp,h⟩ | ⟨hp,h⟩
 ·refine WS.fx 66 true (decide_eq_true hp) (WS.cT (WS.sk (WS.nxt (WS.sq (WS.bk 5 (WS.sq (WS.rg ?_)))))))
  obtain ⟨p28,hx,h⟩:=bind_some h
  refine RS.ix 67 25 3 (.tmp 63) (.tmp 65) hx ?_
  obtain ⟨x29,hx,h⟩:=bind_some h
  refine RS.ld 68 3 (.tmp 67) (z1 hx z5) (RS.mS 1 [kI 11 x29] (RS.dn (WS.nxt (WS.rg (RS.mS 2 [kI 70 x29,kS 69 s4] ?_)))))
  obtain ⟨p30,hx,h⟩:=bind_some h
  refine RS.ix 71 107 4 (.tmp 69) (.tmp 70) hx ?_
  obtain ⟨H31,hx,h⟩:=bind_some h
  refine RS.o (H':=H31) none undef (Abs.run_store1 (t:=4) (x:=.tmp 71) (y:=.const (Value.bool true)) (a:=p30) (v:=(Value.bool true)) (by kernel_rfl) (by kernel_rfl) (by kernel_rfl) (by kernel_rfl) (by kernel_rfl) hx) (RS.dn ?_)
  refine fun a w hs=>bkN ((WS.nxt ?_ a w hs))
  refine WS.rg (RS.mS 2 [kI 65 (IntKind.i64.wrap (v65_27+1)),kI 72 (IntKind.i64.wrap (v65_27+1))] (RS.dn ?_))
  cases h
  exact fun a w hs=>lsN rfl (hs.sb 0)
 ·refine WS.fx 66 false (decide_eq_false hp) (WS.cF (WS.ex 4 ?_))
  cases h
  exact fun a w hs=>sqE (lsB rfl (hs.sb 0))
theorem z5m {E H L m q2 s4} :LoopF Tryz.prog (NE.plain 167) m E Tryz.f13 ((cfst (csnd (cfst (csnd (csnd (csnd (csnd (csnd B13))))))))) (zcy L m q2 s4) (fun s=>s.1) 2 z1u (z23 H) (z3r L m q2 s4):=by
 rintro ⟨H14,v8_15,v9_16⟩ o h
 unfold z3r at h
 try dsimp only at h
 refine WS.sq (WS.sq (WS.rg (RS.mS 2 [kB 43 (decide (v9_16≥0)),kI 42 v9_16] (RS.dn (WS.nxt ?_)))))
 rcases z0 h with ⟨hp,h⟩ | ⟨hp,h⟩
 ·refine WS.fx 43 true (decide_eq_true hp) (WS.cT (WS.sk (WS.nxt (WS.sq (WS.bk 3 (WS.sq (WS.sq (WS.rg (RS.mS 2 [kI 47 v9_16,kS 46 s4] ?_)))))))))
  obtain ⟨p17,hx,h⟩:=bind_some h
  refine RS.ix 48 107 4 (.tmp 46) (.tmp 47) hx ?_
  obtain ⟨x18,hx,h⟩:=bind_some h
  refine RS.ld 49 4 (.tmp 48) (z1 hx z13) (RS.mS 1 [kB 50 (!x18)] (RS.dn (WS.nxt ?_)))
  rcases z0 h with ⟨hp,h⟩ | ⟨hp,h⟩
  ·refine WS.fx 50 false (nb_not hp) (WS.cF (WS.sk (WS.nxt (WS.sq (WS.rg (RS.mS 2 [kI 52 v9_16,kS 51 v8_15] ?_))))))
   obtain ⟨⟨s19,H20⟩,hx,h⟩:=bind_some h
   try dsimp only at h
   refine RS.o (H':=H20) (some 53) (Sl3.v s19) (Abs.run_newR (by kernel_rfl) (by kernel_rfl) hx) ?_
   obtain ⟨⟨s21,H22⟩,hx,h⟩:=bind_some h
   try dsimp only at h
   refine RS.o (H':=H22) (some 54) (Sl3.v s21) (Abs.run_app (x:=.tmp 51) (y:=.tmp 53) (ts:=#[25,25]) (s:=v8_15) (z:=s19) (by kernel_rfl) (by kernel_rfl) (by kernel_rfl) (by kernel_rfl) hx) (RS.mS 1 [kS 8 s21] (RS.dn (WS.nxt (WS.sq (WS.rg (RS.mS 3 [(57,.val (Value.pointer (some (Addr.add q2 3)))),kP 56 q2,kP 55 q2] ?_))))))
   obtain ⟨x23,hx,h⟩:=bind_some h
   refine RS.ld 58 38 (.tmp 57) (z1 hx z3) (RS.mS 1 [kI 59 v9_16] ?_)
   obtain ⟨p24,hx,h⟩:=bind_some h
   refine RS.ix 60 38 95 (.tmp 58) (.tmp 59) hx (RS.mS 2 [(62,.val (Value.pointer (some (Addr.add (Addr.add p24 0) 11)))),(61,.val (Value.pointer (some (Addr.add p24 0))))] ?_)
   obtain ⟨x25,hx,h⟩:=bind_some h
   refine RS.ld 63 25 (.tmp 62) (z1 hx z3) (RS.mS 2 [kI 65 0,kI 64 (x25.n:Int)] (RS.dn (WS.nxt (WS.bk 4 ?_))))
   obtain ⟨o,hl,h⟩:=bind_some h
   rcases o with ⟨H32,v65_33⟩ | r
   ·try dsimp only at h
    refine WS.lI (z5l (L:=L) (E:=E) (m:=m) (H:=H)) (L.ok hl) 0 ?_
    clear hl
    refine fun a w hs=>bkE (bkN ((WS.nxt ?_ a w hs)))
    refine WS.rg (RS.mS 3 [kI 9 (IntKind.i64.wrap (v9_16 - 1)),kI 45 (IntKind.i64.wrap (v9_16 - 1)),kI 44 v9_16] (RS.dn ?_))
    cases h
    exact fun a w hs=>lsN rfl (hs.sb 0)
   ·try dsimp only at h
    refine WS.lR (z5l (L:=L) (E:=E) (m:=m) (H:=H)) (L.ok hl) 0 ?_
    cases h
    exact fun a w hq=>bkR (bkR (sqR (lsR rfl hq)))
  ·refine WS.fx 50 true (za hp) (WS.cT ?_)
   cases h
 ·refine WS.fx 43 false (decide_eq_false hp) (WS.cF (WS.ex 2 ?_))
  cases h
  exact fun a w hs=>sqE (lsB rfl (hs.sb 0))
theorem zgy {L:LC} {m:Nat} {H:AH} {a0:Option Addr} {a1:Sl3} {r:(Sl3×AH)} (h:z5y L m H a0 a1=some r) :
  CallS Tryz.prog (NE.plain 167) m 13 #[(Value.pointer a0),(Sl3.v a1)] H (z1u r) (z23 H r):=by
 refine CallS.mk (args:=[(Value.pointer a0),(Sl3.v a1)]) Tryz.func13 (B:=B13) (by kernel_rfl) (fun E _=>?_)
 unfold z5y at h
 refine WS.sq (WS.rg (RS.mS 1 [kS 4 Sl3.nil] (RS.dn (WS.nxt (WS.sq (WS.sq (WS.rg (RS.mS 1 [(12,.val (Value.pointer a0))] ?_))))))))
 obtain ⟨x1,hx,h⟩:=bind_some h
 refine RS.cl (some 13) (v:=(Value.bool x1)) 22 #[(Value.pointer a0)] (z15 hx) (RS.mS 1 [kB 14 (!x1)] (RS.dn (WS.nxt ?_)))
 rcases z0 h with ⟨hp,h⟩ | ⟨hp,h⟩
 ·refine WS.fx 14 false (nb_not hp) (WS.cF (WS.sk (WS.nxt (WS.sq (WS.rg (RS.mS 1 [(15,.val (Value.pointer a0))] ?_))))))
  obtain ⟨q2,hx,hq2⟩:=bind_some h
  subst hx
  have h:=hq2
  refine RS.mS 2 [(17,.val (Value.pointer (some (Addr.add q2 3)))),kP 16 q2] ?_
  obtain ⟨x3,hx,h⟩:=bind_some h
  refine RS.ld 18 38 (.tmp 17) (z1 hx z3) (RS.mS 1 [kI 19 (x3.n:Int)] ?_)
  obtain ⟨⟨s4,H5⟩,hx,h⟩:=bind_some h
  try dsimp only at h
  refine RS.o (H':=H5) (some 20) (Sl3.v s4) (Abs.run_mk (t:=107) (x:=.tmp 19) (y:=.tmp 19) (k1:=.i64) (k2:=.i64) (by kernel_rfl) (by kernel_rfl) (by kernel_rfl) (by kernel_rfl) hx) (RS.mS 1 [kS 5 s4] (RS.dn (WS.nxt (WS.sq (WS.sq (WS.rg (RS.mS 3 [kI 23 0,kI 22 (a1.n:Int),kS 21 a1] (RS.dn (WS.nxt ?_)))))))))
  refine WS.bk 0 ?_
  obtain ⟨o,hl,h⟩:=bind_some h
  rcases o with ⟨H12,v23_13⟩ | r
  ·try dsimp only at h
   refine WS.lI (z5g (L:=L) (E:=E) (m:=m) (H:=H)) (L.ok hl) 0 ?_
   clear hl
   refine fun a w hs=>bkE ((WS.nxt ?_ a w hs))
   refine WS.sq (WS.rg (RS.mS 1 [kS 8 Sl3.nil] (RS.dn (WS.nxt (WS.sq (WS.sq (WS.rg (RS.mS 4 [kI 9 (IntKind.i64.wrap ((s4.n:Int) - 1)),kI 41 (IntKind.i64.wrap ((s4.n:Int) - 1)),kI 40 (s4.n:Int),kS 39 s4] (RS.dn ?_)))))))))
   refine WS.nxt (WS.bk 2 ?_)
   obtain ⟨o,hl,h⟩:=bind_some h
   rcases o with ⟨H34,v8_35,v9_36⟩ | r
   ·try dsimp only at h
    refine WS.lI (z5m (L:=L) (E:=E) (m:=m) (H:=H)) (L.ok hl) 0 ?_
    clear hl
    refine fun a w hs=>bkE ((WS.nxt ?_ a w hs))
    refine WS.sq (WS.rg (RS.mS 1 [kS 73 v8_35] ?_))
    obtain ⟨H37,hx,h⟩:=bind_some h
    refine RS.cl (some 74) (v:=(Value.tuple #[])) 39 #[(Sl3.v v8_35)] (zj3 hx) (RS.dn (WS.nxt (WS.sq (WS.rg (RS.mS 2 [kS 4 v8_35,kS 75 v8_35] (RS.dn (WS.nxt (WS.rt ?_))))))))
    cases h
    exact fun a w hs=>rtR (rS hs)
   ·try dsimp only at h
    refine WS.lR (z5m (L:=L) (E:=E) (m:=m) (H:=H)) (L.ok hl) 0 ?_
    cases h
    exact fun a w hq=>bkR (sqR (rtR hq))
  ·try dsimp only at h
   refine WS.lR (z5g (L:=L) (E:=E) (m:=m) (H:=H)) (L.ok hl) 0 ?_
   cases h
   exact fun a w hq=>bkR (sqR (rtR hq))
 ·refine WS.fx 14 true (za hp) (WS.cT ?_)
  cases h
def z7w:(Int×ByteArray×Bool×Sl3×Int×Sl3×Int×Int×ByteArray×Sl3×Sl3×Sl3×Bool×AH)→Value
 | (r0,r1,r2,r3,r4,r5,r6,r7,r8,r9,r10,r11,r12,_)=>(Value.tuple #[(Value.agg #[(Value.int .i64 r0),(Value.string r1),(Value.bool r2),(Sl3.v r3),(Value.int .i64 r4),(Sl3.v r5),(Value.int .i64 r6),(Value.int .i64 r7),(Value.string r8),(Sl3.v r9),(Sl3.v r10),(Sl3.v r11)]),(Value.bool r12)])
def z8x (_:AH):(Int×ByteArray×Bool×Sl3×Int×Sl3×Int×Int×ByteArray×Sl3×Sl3×Sl3×Bool×AH)→AH:=fun r=>r.2.2.2.2.2.2.2.2.2.2.2.2.2
noncomputable def B40:Code:=(Tryz.f40.body).getD .skip
noncomputable def z7i (L:LC) (m:Nat) (H:AH) (a0:Option Addr) (a1:Int):Option (Int×ByteArray×Bool×Sl3×Int×Sl3×Int×Int×ByteArray×Sl3×Sl3×Sl3×Bool×AH) :=
 Option.bind (z12 L H a0) fun x1 =>
 if x1=true then
  if a1<0 then
   none
  else
   Option.bind a0 fun q2 =>
   Option.bind (rd deSl H (Addr.add q2 3)) fun x3 =>
   if a1≥(x3.n:Int) then
    none
   else
    Option.bind (rd deSl H (Addr.add q2 3)) fun x4 =>
    Option.bind (idxA 16 x4 a1) fun p5 =>
    Option.bind (rd (deI .i64) H (Addr.add (Addr.add p5 0) 0)) fun x6_0 =>
    Option.bind (rd deS H (Addr.add (Addr.add p5 0) 1)) fun x6_1 =>
    Option.bind (rd deB H (Addr.add (Addr.add p5 0) 2)) fun x6_2 =>
    Option.bind (rd deSl H (Addr.add (Addr.add p5 0) 3)) fun x6_3 =>
    Option.bind (rd (deI .i64) H (Addr.add (Addr.add p5 0) 4)) fun x6_4 =>
    Option.bind (rd deSl H (Addr.add (Addr.add p5 0) 5)) fun x6_5 =>
    Option.bind (rd (deI .i64) H (Addr.add (Addr.add p5 0) 6)) fun x6_6 =>
    Option.bind (rd (deI .i64) H (Addr.add (Addr.add p5 0) 7)) fun x6_7 =>
    Option.bind (rd deS H (Addr.add (Addr.add p5 0) 8)) fun x6_8 =>
    Option.bind (rd deSl H (Addr.add (Addr.add p5 0) 9)) fun x6_9 =>
    Option.bind (rd deSl H (Addr.add (Addr.add p5 0) 10)) fun x6_10 =>
    Option.bind (rd deSl H (Addr.add (Addr.add p5 0) 11)) fun x6_11 =>
    Option.bind (zan L m H x6_0 x6_1 x6_2 x6_3 x6_4 x6_5 x6_6 x6_7 x6_8 x6_9 x6_10 x6_11) fun (x7_0,x7_1,x7_2,x7_3,x7_4,x7_5,x7_6,x7_7,x7_8,x7_9,x7_10,x7_11,H8) =>
    Option.bind (z2v L m H8 x7_3) fun (x9,H10) =>
    some (x7_0,x7_1,x7_2,x9,x7_4,x7_5,x7_6,x7_7,x7_8,x7_9,x7_10,x7_11,true,H10)
 else
  none
theorem zh3 {L:LC} {m:Nat} {H:AH} {a0:Option Addr} {a1:Int} {r:(Int×ByteArray×Bool×Sl3×Int×Sl3×Int×Int×ByteArray×Sl3×Sl3×Sl3×Bool×AH)} (h:z7i L m H a0 a1=some r) :
  CallS Tryz.prog (NE.plain 167) m 40 #[(Value.pointer a0),(Value.int .i64 a1)] H (z7w r) (z8x H r):=by
 refine CallS.mk (args:=[(Value.pointer a0),(Value.int .i64 a1)]) Tryz.func40 (B:=B40) (by kernel_rfl) (fun E _=>?_)
 unfold z7i at h
 refine WS.sq (WS.rg (RS.mL 2 [kB 5 false,kL 4 0 0] ([some (61,[(Value.int .i64 0),(Value.string (⟨#[]⟩:ByteArray)),(Value.bool false),(Sl3.v Sl3.nil),(Value.int .i64 0),(Sl3.v Sl3.nil),(Value.int .i64 0),(Value.int .i64 0),(Value.string (⟨#[]⟩:ByteArray)),(Sl3.v Sl3.nil),(Sl3.v Sl3.nil),(Sl3.v Sl3.nil)])]) (RS.dn (WS.nxt (WS.sq (WS.sq (WS.rg (RS.mS 1 [(7,.val (Value.pointer a0))] ?_))))))))
 obtain ⟨x1,hx,h⟩:=bind_some h
 refine RS.cl (some 8) (v:=(Value.bool x1)) 22 #[(Value.pointer a0)] (z15 hx) (RS.mS 2 [kB 10 (!x1),kB 9 (!x1)] ?_)
 rcases z0 h with ⟨hp,h⟩ | ⟨hp,h⟩
 ·refine RS.fx 10 false (nb_not hp) (RS.mS 4 [kB 14 (decide (a1<0)),kB 13 (decide (a1<0)),kB 12 (decide (a1<0)),kI 11 a1] ?_)
  rcases z0 h with ⟨hp,h⟩ | ⟨hp,h⟩
  ·refine RS.fx 14 true (decide_eq_true hp) ?_
   cases h
  ·refine RS.fx 14 false (decide_eq_false hp) (RS.mS 2 [(16,.val (Value.pointer a0)),kI 15 a1] ?_)
   obtain ⟨q2,hx,hq2⟩:=bind_some h
   subst hx
   have h:=hq2
   refine RS.mS 2 [(18,.val (Value.pointer (some (Addr.add q2 3)))),kP 17 q2] ?_
   obtain ⟨x3,hx,h⟩:=bind_some h
   refine RS.ld 19 38 (.tmp 18) (z1 hx z3) (RS.mS 3 [kB 22 (decide (a1≥(x3.n:Int))),kB 21 (decide (a1≥(x3.n:Int))),kI 20 (x3.n:Int)] (RS.dn (WS.nxt ?_)))
   rcases z0 h with ⟨hp,h⟩ | ⟨hp,h⟩
   ·refine WS.fx 22 true (decide_eq_true hp) (WS.cT ?_)
    cases h
   ·refine WS.fx 22 false (decide_eq_false hp) (WS.cF (WS.sk (WS.nxt (WS.sq (WS.rg (RS.mS 3 [(26,.val (Value.pointer (some (Addr.add q2 3)))),kP 25 q2,kP 24 q2] ?_))))))
    obtain ⟨x4,hx,h⟩:=bind_some h
    refine RS.ld 27 38 (.tmp 26) (z1 hx z3) (RS.mS 1 [kI 28 a1] ?_)
    obtain ⟨p5,hx,h⟩:=bind_some h
    refine RS.ix 29 38 95 (.tmp 27) (.tmp 28) hx (RS.mS 1 [(30,.val (Value.pointer (some (Addr.add p5 0))))] ?_)
    obtain ⟨x6_0,hx0,h⟩:=bind_some h
    obtain ⟨x6_1,hx1,h⟩:=bind_some h
    obtain ⟨x6_2,hx2,h⟩:=bind_some h
    obtain ⟨x6_3,hx3,h⟩:=bind_some h
    obtain ⟨x6_4,hx4,h⟩:=bind_some h
    obtain ⟨x6_5,hx5,h⟩:=bind_some h
    obtain ⟨x6_6,hx6,h⟩:=bind_some h
    obtain ⟨x6_7,hx7,h⟩:=bind_some h
    obtain ⟨x6_8,hx8,h⟩:=bind_some h
    obtain ⟨x6_9,hx9,h⟩:=bind_some h
    obtain ⟨x6_10,hx10,h⟩:=bind_some h
    obtain ⟨x6_11,hx11,h⟩:=bind_some h
    refine RS.la 31 61 (.tmp 30) 12 (z2 (z1 hx0 z5) (z2 (z1 hx1 z9) (z2 (z1 hx2 z13) (z2 (z1 hx3 z3) (z2 (z1 hx4 z5) (z2 (z1 hx5 z3) (z2 (z1 hx6 z5) (z2 (z1 hx7 z5) (z2 (z1 hx8 z9) (z2 (z1 hx9 z3) (z2 (z1 hx10 z3) (z2 (z1 hx11 z3) zm)))))))))))) ?_
    obtain ⟨⟨x7_0,x7_1,x7_2,x7_3,x7_4,x7_5,x7_6,x7_7,x7_8,x7_9,x7_10,x7_11,H8⟩,hx,h⟩:=bind_some h
    try dsimp only at h
    refine RS.cl (some 32) (v:=(Value.agg #[(Value.int .i64 x7_0),(Value.string x7_1),(Value.bool x7_2),(Sl3.v x7_3),(Value.int .i64 x7_4),(Sl3.v x7_5),(Value.int .i64 x7_6),(Value.int .i64 x7_7),(Value.string x7_8),(Sl3.v x7_9),(Sl3.v x7_10),(Sl3.v x7_11)])) 25 #[(Value.agg #[(Value.int .i64 x6_0),(Value.string x6_1),(Value.bool x6_2),(Sl3.v x6_3),(Value.int .i64 x6_4),(Sl3.v x6_5),(Value.int .i64 x6_6),(Value.int .i64 x6_7),(Value.string x6_8),(Sl3.v x6_9),(Sl3.v x6_10),(Sl3.v x6_11)])] (zg0 hx) (RS.mL 2 [kL 6 1 0] ([some (61,[(Value.int .i64 0),(Value.string (⟨#[]⟩:ByteArray)),(Value.bool false),(Sl3.v Sl3.nil),(Value.int .i64 0),(Sl3.v Sl3.nil),(Value.int .i64 0),(Value.int .i64 0),(Value.string (⟨#[]⟩:ByteArray)),(Sl3.v Sl3.nil),(Sl3.v Sl3.nil),(Sl3.v Sl3.nil)]),some (61,[(Value.int .i64 x7_0),(Value.string x7_1),(Value.bool x7_2),(Sl3.v x7_3),(Value.int .i64 x7_4),(Sl3.v x7_5),(Value.int .i64 x7_6),(Value.int .i64 x7_7),(Value.string x7_8),(Sl3.v x7_9),(Sl3.v x7_10),(Sl3.v x7_11)])]) (RS.dn (WS.nxt (WS.sq (WS.rg (RS.mS 3 [kS 35 x7_3,kL 34 1 3,kL 33 1 2] ?_))))))
    obtain ⟨⟨x9,H10⟩,hx,h⟩:=bind_some h
    try dsimp only at h
    refine RS.cl (some 36) (v:=(Sl3.v x9)) 41 #[(Sl3.v x7_3)] (z2b hx) (RS.mL 3 [kL 38 1 3,kL 37 1 2] ([some (61,[(Value.int .i64 0),(Value.string (⟨#[]⟩:ByteArray)),(Value.bool false),(Sl3.v Sl3.nil),(Value.int .i64 0),(Sl3.v Sl3.nil),(Value.int .i64 0),(Value.int .i64 0),(Value.string (⟨#[]⟩:ByteArray)),(Sl3.v Sl3.nil),(Sl3.v Sl3.nil),(Sl3.v Sl3.nil)]),some (61,[(Value.int .i64 x7_0),(Value.string x7_1),(Value.bool x7_2),(Sl3.v x9),(Value.int .i64 x7_4),(Sl3.v x7_5),(Value.int .i64 x7_6),(Value.int .i64 x7_7),(Value.string x7_8),(Sl3.v x7_9),(Sl3.v x7_10),(Sl3.v x7_11)])]) (RS.dn (WS.nxt (WS.sq (WS.rg (RS.mL 3 [kB 5 true,kA 39 #[(Value.int .i64 x7_0),(Value.string x7_1),(Value.bool x7_2),(Sl3.v x9),(Value.int .i64 x7_4),(Sl3.v x7_5),(Value.int .i64 x7_6),(Value.int .i64 x7_7),(Value.string x7_8),(Sl3.v x7_9),(Sl3.v x7_10),(Sl3.v x7_11)]] ([some (61,[(Value.int .i64 x7_0),(Value.string x7_1),(Value.bool x7_2),(Sl3.v x9),(Value.int .i64 x7_4),(Sl3.v x7_5),(Value.int .i64 x7_6),(Value.int .i64 x7_7),(Value.string x7_8),(Sl3.v x7_9),(Sl3.v x7_10),(Sl3.v x7_11)]),some (61,[(Value.int .i64 x7_0),(Value.string x7_1),(Value.bool x7_2),(Sl3.v x9),(Value.int .i64 x7_4),(Sl3.v x7_5),(Value.int .i64 x7_6),(Value.int .i64 x7_7),(Value.string x7_8),(Sl3.v x7_9),(Sl3.v x7_10),(Sl3.v x7_11)])]) (RS.dn (WS.nxt (WS.rt ?_)))))))))
    cases h
    exact fun a w hs=>rtR (rS hs)
 ·refine RS.fx 10 true (za hp) ?_
  cases h
def zcw:(Int×Bool×Bool×Sl3×Int×Sl3×ByteArray×Int×Int×Int×ByteArray×Sl3×Sl3×Sl3×Sl3×Int×AH)→Value
 | (r0,r1,r2,r3,r4,r5,r6,r7,r8,r9,r10,r11,r12,r13,r14,r15,_)=>(Value.tuple #[(Value.agg #[(Value.int .i64 r0),(Value.bool r1),(Value.bool r2),(Sl3.v r3),(Value.int .i64 r4),(Sl3.v r5),(Value.string r6),(Value.int .i64 r7),(Value.int .i64 r8),(Value.int .i64 r9),(Value.string r10),(Sl3.v r11),(Sl3.v r12),(Sl3.v r13),(Sl3.v r14)]),(Value.int .i64 r15)])
def zel (_:AH):(Int×Bool×Bool×Sl3×Int×Sl3×ByteArray×Int×Int×Int×ByteArray×Sl3×Sl3×Sl3×Sl3×Int×AH)→AH:=fun r=>r.2.2.2.2.2.2.2.2.2.2.2.2.2.2.2.2
noncomputable def B14:Code:=(Tryz.f14.body).getD .skip
noncomputable def z2l (L:LC):Nat→FuncId→Array Value→AH→Option (Value×AH) :=
 (orO (orF 40 (dcC dcP (dcC (dcI .i64) dcN)) fun m H (a0,(a1,_))=>(z7i L m H a0 a1).map fun r=>(z7w r,z8x H r))
  (orO (orF 45 (dcC dcSl dcN) fun _ H (a0,_)=>(z3c L H a0).map fun r=>(z51 r,z5z H r))
  (orO (orF 46 (dcC (dcG (dcC dcSl (dcC dcB dcN))) dcN) fun m H ((a0_0,(a0_1,_)),_)=>(z22 L m H a0_0 a0_1).map fun r=>(z7k r,z7s H r))
  (orO (orF 56 (dcC (dcG (dcC dcB (dcC dcSl dcN))) dcN) fun m H ((a0_0,(a0_1,_)),_)=>(z7f L m H a0_0 a0_1).map fun r=>(z8f r,z9j H r))
  (orO (orF 98 (dcC dcSl dcN) fun _ H (a0,_)=>(z1p L a0).map fun r=>(z6f r,z6s H r))
  (orO (orF 109 (dcC (dcG (dcC dcB (dcC dcSl dcN))) dcN) fun _ H ((a0_0,(a0_1,_)),_)=>(zfw L H a0_0 a0_1).map fun r=>(zh7 r,zjh H r))
  orN))))))
noncomputable def z8z (L:LC) (m:Nat) (H:AH) (a0:Option Addr) (a1:Int):Option (Int×Bool×Bool×Sl3×Int×Sl3×ByteArray×Int×Int×Int×ByteArray×Sl3×Sl3×Sl3×Sl3×Int×AH) :=
 byRun Tryz.prog 167 (z2l L) m 14 #[(Value.pointer a0),(Value.int .i64 a1)] H (dcT (dcC (dcG (dcC (dcI .i64) (dcC dcB (dcC dcB (dcC dcSl (dcC (dcI .i64) (dcC dcSl (dcC dcS (dcC (dcI .i64) (dcC (dcI .i64) (dcC (dcI .i64) (dcC dcS (dcC dcSl (dcC dcSl (dcC dcSl (dcC dcSl dcN)))))))))))))))) (dcC (dcI .i64) dcN))) fun ((r_0_0,(r_0_1,(r_0_2,(r_0_3,(r_0_4,(r_0_5,(r_0_6,(r_0_7,(r_0_8,(r_0_9,(r_0_10,(r_0_11,(r_0_12,(r_0_13,(r_0_14,_))))))))))))))),(r_1,_)) H2=>(r_0_0,r_0_1,r_0_2,r_0_3,r_0_4,r_0_5,r_0_6,r_0_7,r_0_8,r_0_9,r_0_10,r_0_11,r_0_12,r_0_13,r_0_14,r_1,H2)
theorem zat {L:LC}:OrOK Tryz.prog (NE.plain 167) (z2l L):=by
 unfold z2l
 refine orO_ok (orF_ok fun m H ⟨a0,⟨a1,_⟩⟩ v H' h=>by
  obtain ⟨r,h1,rfl,rfl⟩:=z4m h
  exact zh3 h1) ?_
 refine orO_ok (orF_ok fun m H ⟨a0,_⟩ v H' h=>by
  obtain ⟨r,h1,rfl,rfl⟩:=z4m h
  exact z61 h1) ?_
 refine orO_ok (orF_ok fun m H ⟨⟨a0_0,⟨a0_1,_⟩⟩,_⟩ v H' h=>by
  obtain ⟨r,h1,rfl,rfl⟩:=z4m h
  exact z3t h1) ?_
 refine orO_ok (orF_ok fun m H ⟨⟨a0_0,⟨a0_1,_⟩⟩,_⟩ v H' h=>by
  obtain ⟨r,h1,rfl,rfl⟩:=z4m h
  exact z9y h1) ?_
 refine orO_ok (orF_ok fun m H ⟨a0,_⟩ v H' h=>by
  obtain ⟨r,h1,rfl,rfl⟩:=z4m h
  exact z33 h1) ?_
 refine orO_ok (orF_ok fun m H ⟨⟨a0_0,⟨a0_1,_⟩⟩,_⟩ v H' h=>by
  obtain ⟨r,h1,rfl,rfl⟩:=z4m h
  exact zjf h1) ?_
 exact orN_ok
theorem ze4 {L:LC} {m:Nat} {H:AH} {a0:Option Addr} {a1:Int} {r:(Int×Bool×Bool×Sl3×Int×Sl3×ByteArray×Int×Int×Int×ByteArray×Sl3×Sl3×Sl3×Sl3×Int×AH)} (h:z8z L m H a0 a1=some r) :
  CallS Tryz.prog (NE.plain 167) m 14 #[(Value.pointer a0),(Value.int .i64 a1)] H (zcw r) (zel H r):=by
 obtain ⟨⟨⟨r_0_0,⟨r_0_1,⟨r_0_2,⟨r_0_3,⟨r_0_4,⟨r_0_5,⟨r_0_6,⟨r_0_7,⟨r_0_8,⟨r_0_9,⟨r_0_10,⟨r_0_11,⟨r_0_12,⟨r_0_13,⟨r_0_14,_⟩⟩⟩⟩⟩⟩⟩⟩⟩⟩⟩⟩⟩⟩⟩,⟨r_1,_⟩⟩,H2,rfl,hc⟩:=znm zat Tryz.func14 (show Tryz.f14.body=some B14 by kernel_rfl) h
 exact hc
def z2c:(Int×Int×ByteArray×Sl3×AH)→Value
 | (r0,r1,r2,r3,_)=>(Value.agg #[(Value.int .i64 r0),(Value.int .i64 r1),(Value.string r2),(Sl3.v r3)])
def z2q (_:AH):(Int×Int×ByteArray×Sl3×AH)→AH:=fun r=>r.2.2.2.2
noncomputable def B42:Code:=(Tryz.f42.body).getD .skip
noncomputable def z5b (_L:LC) (_a0_0 _a0_1:Int) (_a0_2:ByteArray) (a0_3:Sl3):(AH×Sl3×Int)→Option (Lp (AH×Sl3×Int) (Int×Int×ByteArray×Sl3×AH)):=fun (H1,v3_2,v9_3) =>
 if v9_3<(a0_3.n:Int) then
  none
 else
  some (.brk (H1,v3_2,v9_3))
def zf4 (_L:LC) (a0_0 a0_1:Int) (a0_2:ByteArray) (a0_3:Sl3):(AH×Sl3×Int)→KN×Lcs:=fun (_,v3_2,v9_3)=>([kS 3 v3_2,kI 9 v9_3,kL 1 0 0,kL 2 1 0,kS 7 a0_3,kI 8 (a0_3.n:Int)],[some (47,[(Value.int .i64 a0_0),(Value.int .i64 a0_1),(Value.string a0_2),(Sl3.v a0_3)]),some (47,[(Value.int .i64 0),(Value.int .i64 0),(Value.string (⟨#[]⟩:ByteArray)),(Sl3.v Sl3.nil)])])
noncomputable def z3l (L:LC) (_m:Nat) (H:AH) (a0_0 a0_1:Int) (a0_2:ByteArray) (a0_3:Sl3):Option (Int×Int×ByteArray×Sl3×AH) :=
 Option.bind (L.run (z5b L a0_0 a0_1 a0_2 a0_3) (H,Sl3.nil,0)) fun o=>match o with
 | .inl (H4,v3_5,_) =>
  some (a0_0,a0_1,a0_2,v3_5,H4)
 | .inr r=>some r
noncomputable def z99 (L:LC) (n:Nat):(Nat→AH→Int→Int→ByteArray→Sl3→Option (Int×Int×ByteArray×Sl3×AH)):=Nat.rec (motive:=fun _=>(Nat→AH→Int→Int→ByteArray→Sl3→Option (Int×Int×ByteArray×Sl3×AH))) (fun _ _ _ _ _ _=>none) (fun _ _=>z3l L) n
noncomputable def zec (L:LC) (m:Nat) (H:AH) (a0_0 a0_1:Int) (a0_2:ByteArray) (a0_3:Sl3):Option (Int×Int×ByteArray×Sl3×AH):=(z99 L L.fuel) m H a0_0 a0_1 a0_2 a0_3
theorem z7e {E m H L a0_0 a0_1 a0_2 a0_3} :LoopF Tryz.prog (NE.plain 167) m E Tryz.f42 ((cfst (csnd (cfst (csnd (csnd B42)))))) (zf4 L a0_0 a0_1 a0_2 a0_3) (fun s=>s.1) 0 z2c (z2q H) (z5b L a0_0 a0_1 a0_2 a0_3):=by
 rintro ⟨H1,v3_2,v9_3⟩ o h
 unfold z5b at h
 try dsimp only at h
 refine WS.sq (WS.rg (RS.mS 1 [kB 10 (decide (v9_3<(a0_3.n:Int)))] (RS.dn (WS.nxt (WS.sq ?_)))))
 rcases z0 h with ⟨hp,h⟩ | ⟨hp,h⟩
 ·refine WS.fx 10 true (decide_eq_true hp) (WS.cT ?_)
  cases h
 ·refine WS.fx 10 false (decide_eq_false hp) (WS.cF (WS.ex 0 ?_))
  cases h
  exact fun a w hs=>sqE (lsB rfl (hs.sb 2))
theorem zd7 {L:LC} {m:Nat} {H:AH} {a0_0 a0_1:Int} {a0_2:ByteArray} {a0_3:Sl3} {r:(Int×Int×ByteArray×Sl3×AH)} (h:z3l L m H a0_0 a0_1 a0_2 a0_3=some r) :
  CallS Tryz.prog (NE.plain 167) m 42 #[(Value.agg #[(Value.int .i64 a0_0),(Value.int .i64 a0_1),(Value.string a0_2),(Sl3.v a0_3)])] H (z2c r) (z2q H r):=by
 refine CallS.mk (args:=[(Value.agg #[(Value.int .i64 a0_0),(Value.int .i64 a0_1),(Value.string a0_2),(Sl3.v a0_3)])]) Tryz.func42 (B:=B42) (by kernel_rfl) (fun E _=>?_)
 unfold z3l at h
 refine WS.sq (WS.rg (RS.mL 2 [kL 2 1 0,kL 1 0 0] ([some (47,[(Value.int .i64 a0_0),(Value.int .i64 a0_1),(Value.string a0_2),(Sl3.v a0_3)]),some (47,[(Value.int .i64 0),(Value.int .i64 0),(Value.string (⟨#[]⟩:ByteArray)),(Sl3.v Sl3.nil)])]) (RS.dn (WS.nxt (WS.sq (WS.rg (RS.mS 1 [kS 3 Sl3.nil] (RS.dn (WS.nxt ?_)))))))))
 refine WS.sq (WS.sq (WS.rg (RS.mS 4 [kI 9 0,kI 8 (a0_3.n:Int),kS 7 a0_3,kL 6 0 3] (RS.dn (WS.nxt (WS.bk 0 ?_))))))
 obtain ⟨o,hl,h⟩:=bind_some h
 rcases o with ⟨H4,v3_5,v9_6⟩ | r
 ·try dsimp only at h
  refine WS.lI (z7e (L:=L) (E:=E) (m:=m) (H:=H)) (L.ok hl) 2 ?_
  clear hl
  refine fun a w hs=>bkE ((WS.nxt ?_ a w hs))
  refine WS.sq (WS.rg (RS.mL 3 [kL 20 0 3,kS 19 v3_5] ([some (47,[(Value.int .i64 a0_0),(Value.int .i64 a0_1),(Value.string a0_2),(Sl3.v v3_5)]),some (47,[(Value.int .i64 0),(Value.int .i64 0),(Value.string (⟨#[]⟩:ByteArray)),(Sl3.v Sl3.nil)])]) (RS.dn (WS.nxt (WS.sq (WS.rg (RS.mL 2 [kA 21 #[(Value.int .i64 a0_0),(Value.int .i64 a0_1),(Value.string a0_2),(Sl3.v v3_5)]] ([some (47,[(Value.int .i64 a0_0),(Value.int .i64 a0_1),(Value.string a0_2),(Sl3.v v3_5)]),some (47,[(Value.int .i64 a0_0),(Value.int .i64 a0_1),(Value.string a0_2),(Sl3.v v3_5)])]) (RS.dn (WS.nxt ?_)))))))))
  refine WS.rt ?_
  cases h
  exact fun a w hs=>rtR (rS hs)
 ·try dsimp only at h
  refine WS.lR (z7e (L:=L) (E:=E) (m:=m) (H:=H)) (L.ok hl) 2 ?_
  cases h
  exact fun a w hq=>bkR (sqR (rtR hq))
theorem zdn {L:LC}:∀n,(∀(m:Nat) (H:AH) (a0_0 a0_1:Int) (a0_2:ByteArray) (a0_3:Sl3) (r:(Int×Int×ByteArray×Sl3×AH)),((z99 L n)) m H a0_0 a0_1 a0_2 a0_3=some r→CallS Tryz.prog (NE.plain 167) m 42 #[(Value.agg #[(Value.int .i64 a0_0),(Value.int .i64 a0_1),(Value.string a0_2),(Sl3.v a0_3)])] H (z2c r) (z2q H r)):=by
 intro n
 induction n with
 | zero=>exact (fun _ _ _ _ _ _ _ h=>(Option.some_ne_none _ h.symm).elim)
 | succ n ih=>exact (fun _ _ _ _ _ _ _ h=>zd7 (L:=L)  h)
theorem zif {L:LC} {m:Nat} {H:AH} {a0_0 a0_1:Int} {a0_2:ByteArray} {a0_3:Sl3} {r:(Int×Int×ByteArray×Sl3×AH)} (h:zec L m H a0_0 a0_1 a0_2 a0_3=some r) :
  CallS Tryz.prog (NE.plain 167) m 42 #[(Value.agg #[(Value.int .i64 a0_0),(Value.int .i64 a0_1),(Value.string a0_2),(Sl3.v a0_3)])] H (z2c r) (z2q H r) :=
 (zdn _) _ _ _ _ _ _ _ h
def z1x:(Int×Bool×Bool×Sl3×Int×Sl3×ByteArray×Int×Int×Int×ByteArray×Sl3×Sl3×Sl3×Sl3×AH)→Value
 | (r0,r1,r2,r3,r4,r5,r6,r7,r8,r9,r10,r11,r12,r13,r14,_)=>(Value.agg #[(Value.int .i64 r0),(Value.bool r1),(Value.bool r2),(Sl3.v r3),(Value.int .i64 r4),(Sl3.v r5),(Value.string r6),(Value.int .i64 r7),(Value.int .i64 r8),(Value.int .i64 r9),(Value.string r10),(Sl3.v r11),(Sl3.v r12),(Sl3.v r13),(Sl3.v r14)])
def z29 (_:AH):(Int×Bool×Bool×Sl3×Int×Sl3×ByteArray×Int×Int×Int×ByteArray×Sl3×Sl3×Sl3×Sl3×AH)→AH:=fun r=>r.2.2.2.2.2.2.2.2.2.2.2.2.2.2.2
noncomputable def B15:Code:=(Tryz.f15.body).getD .skip
noncomputable def z9c (_L:LC) (_a0_0:Int) (_a0_1 _a0_2:Bool) (_a0_4:Int) (_a0_6:ByteArray) (_a0_7:Int) (a0_12 _a0_13:Sl3) (_a0_14 _x1 _x3:Sl3) (_x5_0 _x5_1:Int) (_x5_2:ByteArray) (_x5_3:Sl3):(AH×Sl3×Int)→Option (Lp (AH×Sl3×Int) (Int×Bool×Bool×Sl3×Int×Sl3×ByteArray×Int×Int×Int×ByteArray×Sl3×Sl3×Sl3×Sl3×AH)):=fun (H7,v3_8,v31_9) =>
 if v31_9<(a0_12.n:Int) then
  none
 else
  some (.brk (H7,v3_8,v31_9))
def zkb (_L:LC) (a0_0:Int) (a0_1 a0_2:Bool) (a0_4:Int) (a0_6:ByteArray) (a0_7:Int) (a0_12 a0_13:Sl3) (a0_14 x1 x3:Sl3) (x5_0 x5_1:Int) (x5_2:ByteArray) (x5_3:Sl3):(AH×Sl3×Int)→KN×Lcs:=fun (_,v3_8,v31_9)=>([kS 3 v3_8,kI 31 v31_9,kL 1 0 0,kL 2 1 0,kS 4 Sl3.nil,kS 29 a0_12,kI 30 (a0_12.n:Int)],[some (75,[(Value.int .i64 a0_0),(Value.bool a0_1),(Value.bool a0_2),(Sl3.v x1),(Value.int .i64 a0_4),(Sl3.v x3),(Value.string a0_6),(Value.int .i64 a0_7),(Value.int .i64 x5_0),(Value.int .i64 x5_1),(Value.string x5_2),(Sl3.v x5_3),(Sl3.v a0_12),(Sl3.v a0_13),(Sl3.v a0_14)]),some (75,[(Value.int .i64 0),(Value.bool false),(Value.bool false),(Sl3.v Sl3.nil),(Value.int .i64 0),(Sl3.v Sl3.nil),(Value.string (⟨#[]⟩:ByteArray)),(Value.int .i64 0),(Value.int .i64 0),(Value.int .i64 0),(Value.string (⟨#[]⟩:ByteArray)),(Sl3.v Sl3.nil),(Sl3.v Sl3.nil),(Sl3.v Sl3.nil),(Sl3.v Sl3.nil)])])
noncomputable def za0 (_L:LC) (_a0_0:Int) (_a0_1 _a0_2:Bool) (_a0_4:Int) (_a0_6:ByteArray) (_a0_7:Int) (_a0_12 _a0_13:Sl3) (a0_14 _x1 _x3:Sl3) (_x5_0 _x5_1:Int) (_x5_2:ByteArray) (_x5_3 _v3_11:Sl3):(AH×Sl3×Int)→Option (Lp (AH×Sl3×Int) (Int×Bool×Bool×Sl3×Int×Sl3×ByteArray×Int×Int×Int×ByteArray×Sl3×Sl3×Sl3×Sl3×AH)):=fun (H13,v4_14,v44_15) =>
 if v44_15<(a0_14.n:Int) then
  none
 else
  some (.brk (H13,v4_14,v44_15))
def zk8 (_L:LC) (a0_0:Int) (a0_1 a0_2:Bool) (a0_4:Int) (a0_6:ByteArray) (a0_7:Int) (a0_12 a0_13:Sl3) (a0_14 x1 x3:Sl3) (x5_0 x5_1:Int) (x5_2:ByteArray) (x5_3 v3_11:Sl3):(AH×Sl3×Int)→KN×Lcs:=fun (_,v4_14,v44_15)=>([kS 4 v4_14,kI 44 v44_15,kL 1 0 0,kL 2 1 0,kS 3 v3_11,kS 42 a0_14,kI 43 (a0_14.n:Int)],[some (75,[(Value.int .i64 a0_0),(Value.bool a0_1),(Value.bool a0_2),(Sl3.v x1),(Value.int .i64 a0_4),(Sl3.v x3),(Value.string a0_6),(Value.int .i64 a0_7),(Value.int .i64 x5_0),(Value.int .i64 x5_1),(Value.string x5_2),(Sl3.v x5_3),(Sl3.v a0_12),(Sl3.v a0_13),(Sl3.v a0_14)]),some (75,[(Value.int .i64 0),(Value.bool false),(Value.bool false),(Sl3.v Sl3.nil),(Value.int .i64 0),(Sl3.v Sl3.nil),(Value.string (⟨#[]⟩:ByteArray)),(Value.int .i64 0),(Value.int .i64 0),(Value.int .i64 0),(Value.string (⟨#[]⟩:ByteArray)),(Sl3.v Sl3.nil),(Sl3.v Sl3.nil),(Sl3.v Sl3.nil),(Sl3.v Sl3.nil)])])
noncomputable def z9v (_L:LC) (_a0_0:Int) (_a0_1 _a0_2:Bool) (_a0_4:Int) (_a0_6:ByteArray) (_a0_7:Int) (_a0_12 a0_13:Sl3) (_a0_14 _x1 _x3:Sl3) (_x5_0 _x5_1:Int) (_x5_2:ByteArray) (_x5_3 _v3_11 _v4_17:Sl3):(AH×Sl3×Int)→Option (Lp (AH×Sl3×Int) (Int×Bool×Bool×Sl3×Int×Sl3×ByteArray×Int×Int×Int×ByteArray×Sl3×Sl3×Sl3×Sl3×AH)):=fun (H19,v9_20,v57_21) =>
 if v57_21<(a0_13.n:Int) then
  none
 else
  some (.brk (H19,v9_20,v57_21))
def zk4 (_L:LC) (a0_0:Int) (a0_1 a0_2:Bool) (a0_4:Int) (a0_6:ByteArray) (a0_7:Int) (a0_12 a0_13:Sl3) (a0_14 x1 x3:Sl3) (x5_0 x5_1:Int) (x5_2:ByteArray) (x5_3 v3_11 v4_17:Sl3):(AH×Sl3×Int)→KN×Lcs:=fun (_,v9_20,v57_21)=>([kS 9 v9_20,kI 57 v57_21,kL 1 0 0,kL 2 1 0,kS 3 v3_11,kS 4 v4_17,kS 55 a0_13,kI 56 (a0_13.n:Int)],[some (75,[(Value.int .i64 a0_0),(Value.bool a0_1),(Value.bool a0_2),(Sl3.v x1),(Value.int .i64 a0_4),(Sl3.v x3),(Value.string a0_6),(Value.int .i64 a0_7),(Value.int .i64 x5_0),(Value.int .i64 x5_1),(Value.string x5_2),(Sl3.v x5_3),(Sl3.v a0_12),(Sl3.v a0_13),(Sl3.v a0_14)]),some (75,[(Value.int .i64 0),(Value.bool false),(Value.bool false),(Sl3.v Sl3.nil),(Value.int .i64 0),(Sl3.v Sl3.nil),(Value.string (⟨#[]⟩:ByteArray)),(Value.int .i64 0),(Value.int .i64 0),(Value.int .i64 0),(Value.string (⟨#[]⟩:ByteArray)),(Sl3.v Sl3.nil),(Sl3.v Sl3.nil),(Sl3.v Sl3.nil),(Sl3.v Sl3.nil)])])
noncomputable def z6z (L:LC) (m:Nat) (H:AH) (a0_0:Int) (a0_1 a0_2:Bool) (a0_3:Sl3) (a0_4:Int) (a0_5:Sl3) (a0_6:ByteArray) (a0_7 a0_8 a0_9:Int) (a0_10:ByteArray) (a0_11 a0_12:Sl3) (a0_13 a0_14:Sl3):Option (Int×Bool×Bool×Sl3×Int×Sl3×ByteArray×Int×Int×Int×ByteArray×Sl3×Sl3×Sl3×Sl3×AH) :=
 Option.bind (z2v L m H a0_3) fun (x1,H2) =>
 Option.bind (z2v L m H2 a0_5) fun (x3,H4) =>
 Option.bind (zec L m H4 a0_8 a0_9 a0_10 a0_11) fun (x5_0,x5_1,x5_2,x5_3,H6) =>
 Option.bind (L.run (z9c L a0_0 a0_1 a0_2 a0_4 a0_6 a0_7 a0_12 a0_13 a0_14 x1 x3 x5_0 x5_1 x5_2 x5_3) (H6,Sl3.nil,0)) fun o=>match o with
 | .inl (H10,v3_11,_) =>
  Option.bind (L.run (za0 L a0_0 a0_1 a0_2 a0_4 a0_6 a0_7 a0_12 a0_13 a0_14 x1 x3 x5_0 x5_1 x5_2 x5_3 v3_11) (H10,Sl3.nil,0)) fun o=>match o with
  | .inl (H16,v4_17,_) =>
   Option.bind (L.run (z9v L a0_0 a0_1 a0_2 a0_4 a0_6 a0_7 a0_12 a0_13 a0_14 x1 x3 x5_0 x5_1 x5_2 x5_3 v3_11 v4_17) (H16,Sl3.nil,0)) fun o=>match o with
   | .inl (H22,v9_23,_) =>
    some (a0_0,a0_1,a0_2,x1,a0_4,x3,a0_6,a0_7,x5_0,x5_1,x5_2,x5_3,v3_11,v9_23,v4_17,H22)
   | .inr r=>some r
  | .inr r=>some r
 | .inr r=>some r
noncomputable def zee (L:LC) (n:Nat):(Nat→AH→Int→Bool→Bool→Sl3→Int→Sl3→ByteArray→Int→Int→Int→ByteArray→Sl3→Sl3→Sl3→Sl3→Option (Int×Bool×Bool×Sl3×Int×Sl3×ByteArray×Int×Int×Int×ByteArray×Sl3×Sl3×Sl3×Sl3×AH)):=Nat.rec (motive:=fun _=>(Nat→AH→Int→Bool→Bool→Sl3→Int→Sl3→ByteArray→Int→Int→Int→ByteArray→Sl3→Sl3→Sl3→Sl3→Option (Int×Bool×Bool×Sl3×Int×Sl3×ByteArray×Int×Int×Int×ByteArray×Sl3×Sl3×Sl3×Sl3×AH))) (fun _ _ _ _ _ _ _ _ _ _ _ _ _ _ _ _ _=>none) (fun _ _=>z6z L) n
noncomputable def zky (L:LC) (m:Nat) (H:AH) (a0_0:Int) (a0_1 a0_2:Bool) (a0_3:Sl3) (a0_4:Int) (a0_5:Sl3) (a0_6:ByteArray) (a0_7 a0_8 a0_9:Int) (a0_10:ByteArray) (a0_11 a0_12:Sl3) (a0_13 a0_14:Sl3):Option (Int×Bool×Bool×Sl3×Int×Sl3×ByteArray×Int×Int×Int×ByteArray×Sl3×Sl3×Sl3×Sl3×AH):=(zee L L.fuel) m H a0_0 a0_1 a0_2 a0_3 a0_4 a0_5 a0_6 a0_7 a0_8 a0_9 a0_10 a0_11 a0_12 a0_13 a0_14
theorem zaw {E m H L a0_0 a0_1 a0_2 a0_4 a0_6 a0_7 a0_12 a0_13 a0_14 x1 x3 x5_0 x5_1 x5_2 x5_3} :LoopF Tryz.prog (NE.plain 167) m E Tryz.f15 ((cfst (csnd (cfst (csnd (csnd (csnd (csnd (csnd B15))))))))) (zkb L a0_0 a0_1 a0_2 a0_4 a0_6 a0_7 a0_12 a0_13 a0_14 x1 x3 x5_0 x5_1 x5_2 x5_3) (fun s=>s.1) 0 z1x (z29 H) (z9c L a0_0 a0_1 a0_2 a0_4 a0_6 a0_7 a0_12 a0_13 a0_14 x1 x3 x5_0 x5_1 x5_2 x5_3):=by
 rintro ⟨H7,v3_8,v31_9⟩ o h
 unfold z9c at h
 try dsimp only at h
 refine WS.sq (WS.rg (RS.mS 1 [kB 32 (decide (v31_9<(a0_12.n:Int)))] (RS.dn (WS.nxt (WS.sq ?_)))))
 rcases z0 h with ⟨hp,h⟩ | ⟨hp,h⟩
 ·refine WS.fx 32 true (decide_eq_true hp) (WS.cT ?_)
  cases h
 ·refine WS.fx 32 false (decide_eq_false hp) (WS.cF (WS.ex 0 ?_))
  cases h
  exact fun a w hs=>sqE (lsB rfl (hs.sb 2))
theorem zbb {E m H L a0_0 a0_1 a0_2 a0_4 a0_6 a0_7 a0_12 a0_13 a0_14 x1 x3 x5_0 x5_1 x5_2 x5_3 v3_11} :LoopF Tryz.prog (NE.plain 167) m E Tryz.f15 ((cfst (csnd (cfst (csnd (csnd (csnd (csnd (csnd (csnd B15)))))))))) (zk8 L a0_0 a0_1 a0_2 a0_4 a0_6 a0_7 a0_12 a0_13 a0_14 x1 x3 x5_0 x5_1 x5_2 x5_3 v3_11) (fun s=>s.1) 2 z1x (z29 H) (za0 L a0_0 a0_1 a0_2 a0_4 a0_6 a0_7 a0_12 a0_13 a0_14 x1 x3 x5_0 x5_1 x5_2 x5_3 v3_11):=by
 rintro ⟨H13,v4_14,v44_15⟩ o h
 unfold za0 at h
 try dsimp only at h
 refine WS.sq (WS.rg (RS.mS 1 [kB 45 (decide (v44_15<(a0_14.n:Int)))] (RS.dn (WS.nxt (WS.sq ?_)))))
 rcases z0 h with ⟨hp,h⟩ | ⟨hp,h⟩
 ·refine WS.fx 45 true (decide_eq_true hp) (WS.cT ?_)
  cases h
 ·refine WS.fx 45 false (decide_eq_false hp) (WS.cF (WS.ex 2 ?_))
  cases h
  exact fun a w hs=>sqE (lsB rfl (hs.sb 2))
theorem zb8 {E m H L a0_0 a0_1 a0_2 a0_4 a0_6 a0_7 a0_12 a0_13 a0_14 x1 x3 x5_0 x5_1 x5_2 x5_3 v3_11 v4_17} :LoopF Tryz.prog (NE.plain 167) m E Tryz.f15 ((cfst (csnd (cfst (csnd (csnd (csnd (csnd (csnd (csnd (csnd (csnd B15)))))))))))) (zk4 L a0_0 a0_1 a0_2 a0_4 a0_6 a0_7 a0_12 a0_13 a0_14 x1 x3 x5_0 x5_1 x5_2 x5_3 v3_11 v4_17) (fun s=>s.1) 4 z1x (z29 H) (z9v L a0_0 a0_1 a0_2 a0_4 a0_6 a0_7 a0_12 a0_13 a0_14 x1 x3 x5_0 x5_1 x5_2 x5_3 v3_11 v4_17):=by
 rintro ⟨H19,v9_20,v57_21⟩ o h
 unfold z9v at h
 try dsimp only at h
 refine WS.sq (WS.rg (RS.mS 1 [kB 58 (decide (v57_21<(a0_13.n:Int)))] (RS.dn (WS.nxt (WS.sq ?_)))))
 rcases z0 h with ⟨hp,h⟩ | ⟨hp,h⟩
 ·refine WS.fx 58 true (decide_eq_true hp) (WS.cT ?_)
  cases h
 ·refine WS.fx 58 false (decide_eq_false hp) (WS.cF (WS.ex 4 ?_))
  cases h
  exact fun a w hs=>sqE (lsB rfl (hs.sb 2))
theorem zha {L:LC} {m:Nat} {H:AH} {a0_0:Int} {a0_1 a0_2:Bool} {a0_3:Sl3} {a0_4:Int} {a0_5:Sl3} {a0_6:ByteArray} {a0_7 a0_8 a0_9:Int} {a0_10:ByteArray} {a0_11 a0_12:Sl3} {a0_13 a0_14:Sl3} {r:(Int×Bool×Bool×Sl3×Int×Sl3×ByteArray×Int×Int×Int×ByteArray×Sl3×Sl3×Sl3×Sl3×AH)} (h:z6z L m H a0_0 a0_1 a0_2 a0_3 a0_4 a0_5 a0_6 a0_7 a0_8 a0_9 a0_10 a0_11 a0_12 a0_13 a0_14=some r) :
  CallS Tryz.prog (NE.plain 167) m 15 #[(Value.agg #[(Value.int .i64 a0_0),(Value.bool a0_1),(Value.bool a0_2),(Sl3.v a0_3),(Value.int .i64 a0_4),(Sl3.v a0_5),(Value.string a0_6),(Value.int .i64 a0_7),(Value.int .i64 a0_8),(Value.int .i64 a0_9),(Value.string a0_10),(Sl3.v a0_11),(Sl3.v a0_12),(Sl3.v a0_13),(Sl3.v a0_14)])] H (z1x r) (z29 H r):=by
 refine CallS.mk (args:=[(Value.agg #[(Value.int .i64 a0_0),(Value.bool a0_1),(Value.bool a0_2),(Sl3.v a0_3),(Value.int .i64 a0_4),(Sl3.v a0_5),(Value.string a0_6),(Value.int .i64 a0_7),(Value.int .i64 a0_8),(Value.int .i64 a0_9),(Value.string a0_10),(Sl3.v a0_11),(Sl3.v a0_12),(Sl3.v a0_13),(Sl3.v a0_14)])]) Tryz.func15 (B:=B15) (by kernel_rfl) (fun E _=>?_)
 unfold z6z at h
 refine WS.sq (WS.rg (RS.mL 2 [kL 2 1 0,kL 1 0 0] ([some (75,[(Value.int .i64 a0_0),(Value.bool a0_1),(Value.bool a0_2),(Sl3.v a0_3),(Value.int .i64 a0_4),(Sl3.v a0_5),(Value.string a0_6),(Value.int .i64 a0_7),(Value.int .i64 a0_8),(Value.int .i64 a0_9),(Value.string a0_10),(Sl3.v a0_11),(Sl3.v a0_12),(Sl3.v a0_13),(Sl3.v a0_14)]),some (75,[(Value.int .i64 0),(Value.bool false),(Value.bool false),(Sl3.v Sl3.nil),(Value.int .i64 0),(Sl3.v Sl3.nil),(Value.string (⟨#[]⟩:ByteArray)),(Value.int .i64 0),(Value.int .i64 0),(Value.int .i64 0),(Value.string (⟨#[]⟩:ByteArray)),(Sl3.v Sl3.nil),(Sl3.v Sl3.nil),(Sl3.v Sl3.nil),(Sl3.v Sl3.nil)])]) (RS.dn (WS.nxt (WS.sq (WS.rg (RS.mS 3 [kS 14 a0_3,kL 13 0 3,kL 12 0 2] ?_)))))))
 obtain ⟨⟨x1,H2⟩,hx,h⟩:=bind_some h
 try dsimp only at h
 refine RS.cl (some 15) (v:=(Sl3.v x1)) 41 #[(Sl3.v a0_3)] (z2b hx) (RS.mL 3 [kL 17 0 3,kL 16 0 2] ([some (75,[(Value.int .i64 a0_0),(Value.bool a0_1),(Value.bool a0_2),(Sl3.v x1),(Value.int .i64 a0_4),(Sl3.v a0_5),(Value.string a0_6),(Value.int .i64 a0_7),(Value.int .i64 a0_8),(Value.int .i64 a0_9),(Value.string a0_10),(Sl3.v a0_11),(Sl3.v a0_12),(Sl3.v a0_13),(Sl3.v a0_14)]),some (75,[(Value.int .i64 0),(Value.bool false),(Value.bool false),(Sl3.v Sl3.nil),(Value.int .i64 0),(Sl3.v Sl3.nil),(Value.string (⟨#[]⟩:ByteArray)),(Value.int .i64 0),(Value.int .i64 0),(Value.int .i64 0),(Value.string (⟨#[]⟩:ByteArray)),(Sl3.v Sl3.nil),(Sl3.v Sl3.nil),(Sl3.v Sl3.nil),(Sl3.v Sl3.nil)])]) (RS.dn (WS.nxt (WS.sq (WS.rg (RS.mS 3 [kS 20 a0_5,kL 19 0 5,kL 18 0 4] ?_))))))
 obtain ⟨⟨x3,H4⟩,hx,h⟩:=bind_some h
 try dsimp only at h
 refine RS.cl (some 21) (v:=(Sl3.v x3)) 41 #[(Sl3.v a0_5)] (z2b hx) (RS.mL 3 [kL 23 0 5,kL 22 0 4] ([some (75,[(Value.int .i64 a0_0),(Value.bool a0_1),(Value.bool a0_2),(Sl3.v x1),(Value.int .i64 a0_4),(Sl3.v x3),(Value.string a0_6),(Value.int .i64 a0_7),(Value.int .i64 a0_8),(Value.int .i64 a0_9),(Value.string a0_10),(Sl3.v a0_11),(Sl3.v a0_12),(Sl3.v a0_13),(Sl3.v a0_14)]),some (75,[(Value.int .i64 0),(Value.bool false),(Value.bool false),(Sl3.v Sl3.nil),(Value.int .i64 0),(Sl3.v Sl3.nil),(Value.string (⟨#[]⟩:ByteArray)),(Value.int .i64 0),(Value.int .i64 0),(Value.int .i64 0),(Value.string (⟨#[]⟩:ByteArray)),(Sl3.v Sl3.nil),(Sl3.v Sl3.nil),(Sl3.v Sl3.nil),(Sl3.v Sl3.nil)])]) (RS.dn (WS.nxt (WS.sq (WS.rg (RS.mS 2 [kA 25 #[(Value.int .i64 a0_8),(Value.int .i64 a0_9),(Value.string a0_10),(Sl3.v a0_11)],kL 24 0 8] ?_))))))
 obtain ⟨⟨x5_0,x5_1,x5_2,x5_3,H6⟩,hx,h⟩:=bind_some h
 try dsimp only at h
 refine RS.cl (some 26) (v:=(Value.agg #[(Value.int .i64 x5_0),(Value.int .i64 x5_1),(Value.string x5_2),(Sl3.v x5_3)])) 42 #[(Value.agg #[(Value.int .i64 a0_8),(Value.int .i64 a0_9),(Value.string a0_10),(Sl3.v a0_11)])] (zif hx) (RS.mL 2 [kL 27 0 8] ([some (75,[(Value.int .i64 a0_0),(Value.bool a0_1),(Value.bool a0_2),(Sl3.v x1),(Value.int .i64 a0_4),(Sl3.v x3),(Value.string a0_6),(Value.int .i64 a0_7),(Value.int .i64 x5_0),(Value.int .i64 x5_1),(Value.string x5_2),(Sl3.v x5_3),(Sl3.v a0_12),(Sl3.v a0_13),(Sl3.v a0_14)]),some (75,[(Value.int .i64 0),(Value.bool false),(Value.bool false),(Sl3.v Sl3.nil),(Value.int .i64 0),(Sl3.v Sl3.nil),(Value.string (⟨#[]⟩:ByteArray)),(Value.int .i64 0),(Value.int .i64 0),(Value.int .i64 0),(Value.string (⟨#[]⟩:ByteArray)),(Sl3.v Sl3.nil),(Sl3.v Sl3.nil),(Sl3.v Sl3.nil),(Sl3.v Sl3.nil)])]) (RS.dn (WS.nxt (WS.sq (WS.rg (RS.mS 2 [kS 4 Sl3.nil,kS 3 Sl3.nil] (RS.dn (WS.nxt (WS.sq ?_)))))))))
 refine WS.sq (WS.rg (RS.mS 4 [kI 31 0,kI 30 (a0_12.n:Int),kS 29 a0_12,kL 28 0 12] (RS.dn (WS.nxt (WS.bk 0 ?_)))))
 obtain ⟨o,hl,h⟩:=bind_some h
 rcases o with ⟨H10,v3_11,v31_12⟩ | r
 ·try dsimp only at h
  refine WS.lI (zaw (L:=L) (E:=E) (m:=m) (H:=H)) (L.ok hl) 2 ?_
  clear hl
  refine fun a w hs=>bkE ((WS.nxt ?_ a w hs))
  refine WS.sq (WS.sq (WS.rg (RS.mS 4 [kI 44 0,kI 43 (a0_14.n:Int),kS 42 a0_14,kL 41 0 14] (RS.dn (WS.nxt (WS.bk 2 ?_))))))
  obtain ⟨o,hl,h⟩:=bind_some h
  rcases o with ⟨H16,v4_17,v44_18⟩ | r
  ·try dsimp only at h
   refine WS.lI (zbb (L:=L) (E:=E) (m:=m) (H:=H)) (L.ok hl) 2 ?_
   clear hl
   refine fun a w hs=>bkE ((WS.nxt ?_ a w hs))
   refine WS.sq (WS.rg (RS.mS 1 [kS 9 Sl3.nil] (RS.dn (WS.nxt (WS.sq (WS.sq (WS.rg (RS.mS 4 [kI 57 0,kI 56 (a0_13.n:Int),kS 55 a0_13,kL 54 0 13] (RS.dn ?_)))))))))
   refine WS.nxt (WS.bk 4 ?_)
   obtain ⟨o,hl,h⟩:=bind_some h
   rcases o with ⟨H22,v9_23,v57_24⟩ | r
   ·try dsimp only at h
    refine WS.lI (zb8 (L:=L) (E:=E) (m:=m) (H:=H)) (L.ok hl) 2 ?_
    clear hl
    refine fun a w hs=>bkE ((WS.nxt ?_ a w hs))
    refine WS.sq (WS.rg (RS.mL 9 [kL 77 0 13,kL 76 0 14,kL 75 0 12,kS 74 v9_23,kS 73 v4_17,kS 72 v3_11] ([some (75,[(Value.int .i64 a0_0),(Value.bool a0_1),(Value.bool a0_2),(Sl3.v x1),(Value.int .i64 a0_4),(Sl3.v x3),(Value.string a0_6),(Value.int .i64 a0_7),(Value.int .i64 x5_0),(Value.int .i64 x5_1),(Value.string x5_2),(Sl3.v x5_3),(Sl3.v v3_11),(Sl3.v v9_23),(Sl3.v v4_17)]),some (75,[(Value.int .i64 0),(Value.bool false),(Value.bool false),(Sl3.v Sl3.nil),(Value.int .i64 0),(Sl3.v Sl3.nil),(Value.string (⟨#[]⟩:ByteArray)),(Value.int .i64 0),(Value.int .i64 0),(Value.int .i64 0),(Value.string (⟨#[]⟩:ByteArray)),(Sl3.v Sl3.nil),(Sl3.v Sl3.nil),(Sl3.v Sl3.nil),(Sl3.v Sl3.nil)])]) (RS.dn (WS.nxt (WS.sq (WS.rg (RS.mL 2 [kA 78 #[(Value.int .i64 a0_0),(Value.bool a0_1),(Value.bool a0_2),(Sl3.v x1),(Value.int .i64 a0_4),(Sl3.v x3),(Value.string a0_6),(Value.int .i64 a0_7),(Value.int .i64 x5_0),(Value.int .i64 x5_1),(Value.string x5_2),(Sl3.v x5_3),(Sl3.v v3_11),(Sl3.v v9_23),(Sl3.v v4_17)]] ([some (75,[(Value.int .i64 a0_0),(Value.bool a0_1),(Value.bool a0_2),(Sl3.v x1),(Value.int .i64 a0_4),(Sl3.v x3),(Value.string a0_6),(Value.int .i64 a0_7),(Value.int .i64 x5_0),(Value.int .i64 x5_1),(Value.string x5_2),(Sl3.v x5_3),(Sl3.v v3_11),(Sl3.v v9_23),(Sl3.v v4_17)]),some (75,[(Value.int .i64 a0_0),(Value.bool a0_1),(Value.bool a0_2),(Sl3.v x1),(Value.int .i64 a0_4),(Sl3.v x3),(Value.string a0_6),(Value.int .i64 a0_7),(Value.int .i64 x5_0),(Value.int .i64 x5_1),(Value.string x5_2),(Sl3.v x5_3),(Sl3.v v3_11),(Sl3.v v9_23),(Sl3.v v4_17)])]) (RS.dn (WS.nxt ?_)))))))))
    refine WS.rt ?_
    cases h
    exact fun a w hs=>rtR (rS hs)
   ·try dsimp only at h
    refine WS.lR (zb8 (L:=L) (E:=E) (m:=m) (H:=H)) (L.ok hl) 2 ?_
    cases h
    exact fun a w hq=>bkR (sqR (rtR hq))
  ·try dsimp only at h
   refine WS.lR (zbb (L:=L) (E:=E) (m:=m) (H:=H)) (L.ok hl) 2 ?_
   cases h
   exact fun a w hq=>bkR (sqR (rtR hq))
 ·try dsimp only at h
  refine WS.lR (zaw (L:=L) (E:=E) (m:=m) (H:=H)) (L.ok hl) 2 ?_
  cases h
  exact fun a w hq=>bkR (sqR (rtR hq))
theorem zir {L:LC}:∀n,(∀(m:Nat) (H:AH) (a0_0:Int) (a0_1 a0_2:Bool) (a0_3:Sl3) (a0_4:Int) (a0_5:Sl3) (a0_6:ByteArray) (a0_7 a0_8 a0_9:Int) (a0_10:ByteArray) (a0_11 a0_12:Sl3) (a0_13 a0_14:Sl3) (r:(Int×Bool×Bool×Sl3×Int×Sl3×ByteArray×Int×Int×Int×ByteArray×Sl3×Sl3×Sl3×Sl3×AH)),((zee L n)) m H a0_0 a0_1 a0_2 a0_3 a0_4 a0_5 a0_6 a0_7 a0_8 a0_9 a0_10 a0_11 a0_12 a0_13 a0_14=some r→CallS Tryz.prog (NE.plain 167) m 15 #[(Value.agg #[(Value.int .i64 a0_0),(Value.bool a0_1),(Value.bool a0_2),(Sl3.v a0_3),(Value.int .i64 a0_4),(Sl3.v a0_5),(Value.string a0_6),(Value.int .i64 a0_7),(Value.int .i64 a0_8),(Value.int .i64 a0_9),(Value.string a0_10),(Sl3.v a0_11),(Sl3.v a0_12),(Sl3.v a0_13),(Sl3.v a0_14)])] H (z1x r) (z29 H r)):=by
 intro n
 induction n with
 | zero=>exact (fun _ _ _ _ _ _ _ _ _ _ _ _ _ _ _ _ _ _ h=>(Option.some_ne_none _ h.symm).elim)
 | succ n ih=>exact (fun _ _ _ _ _ _ _ _ _ _ _ _ _ _ _ _ _ _ h=>zha (L:=L)  h)
theorem zn6 {L:LC} {m:Nat} {H:AH} {a0_0:Int} {a0_1 a0_2:Bool} {a0_3:Sl3} {a0_4:Int} {a0_5:Sl3} {a0_6:ByteArray} {a0_7 a0_8 a0_9:Int} {a0_10:ByteArray} {a0_11 a0_12:Sl3} {a0_13 a0_14:Sl3} {r:(Int×Bool×Bool×Sl3×Int×Sl3×ByteArray×Int×Int×Int×ByteArray×Sl3×Sl3×Sl3×Sl3×AH)} (h:zky L m H a0_0 a0_1 a0_2 a0_3 a0_4 a0_5 a0_6 a0_7 a0_8 a0_9 a0_10 a0_11 a0_12 a0_13 a0_14=some r) :
  CallS Tryz.prog (NE.plain 167) m 15 #[(Value.agg #[(Value.int .i64 a0_0),(Value.bool a0_1),(Value.bool a0_2),(Sl3.v a0_3),(Value.int .i64 a0_4),(Sl3.v a0_5),(Value.string a0_6),(Value.int .i64 a0_7),(Value.int .i64 a0_8),(Value.int .i64 a0_9),(Value.string a0_10),(Sl3.v a0_11),(Sl3.v a0_12),(Sl3.v a0_13),(Sl3.v a0_14)])] H (z1x r) (z29 H r) :=
 (zir _) _ _ _ _ _ _ _ _ _ _ _ _ _ _ _ _ _ _ h
end Go.Proofs.YtdlnojjpbmibdaaGreatDoor
namespace Go.Proofs.YtdlnojjpbmibdaaGreatDoor
open Go Go.Abs
set_option maxRecDepth 100000
def z4w:(Sl3×Int×AH)→Value
 | (r0,r1,_)=>(Value.tuple #[(Sl3.v r0),(Value.int .i64 r1)])
def z5r (_:AH):(Sl3×Int×AH)→AH:=fun r=>r.2.2
noncomputable def z9u (L:LC) (a0:Option Addr) (_a1_0 a2:Sl3) (_x1_0 _x1_1:Int) (_x1_2:ByteArray) (_x1_3:Sl3) (H3:AH):Int→Option (Lp Int (Sl3×Int×AH)):=fun v46_4 =>
 if v46_4<(a2.n:Int) then
  Option.bind (idxA 1 a2 v46_4) fun p5 =>
  Option.bind (rd (deI .i64) H3 p5) fun x6 =>
  if x6<0 then
   none
  else
   Option.bind (z2t L H3 a0) fun x7 =>
   if x6≥x7 then
    none
   else
    some (.next (IntKind.i64.wrap (v46_4+1)))
 else
  some (.brk v46_4)
def zjz (_L:LC) (a0:Option Addr) (a1_0 a2:Sl3) (x1_0 x1_1:Int) (x1_2:ByteArray) (x1_3:Sl3) (_H3:AH):Int→KN×Lcs:=fun v46_4=>([kI 46 v46_4,(0,.val (Value.pointer a0)),kS 2 a2,kL 4 0 0,kS 44 a2,kI 45 (a2.n:Int)],[some (24,[(Sl3.v a1_0)]),some (47,[(Value.int .i64 x1_0),(Value.int .i64 x1_1),(Value.string x1_2),(Sl3.v x1_3)])])
noncomputable def z9t (L:LC) (m:Nat) (_a1_0 _a2:Sl3) (_x1_0 _x1_1:Int) (_x1_2:ByteArray) (_x1_3 _x9_0:Sl3) (_x9_1 _x9_2:Sl3) (k17:Nat) (x22:Sl3):(AH×Int)→Option (Lp (AH×Int) (Sl3×Int×AH)):=fun (H24,v85_25) =>
 if v85_25<(x22.n:Int) then
  Option.bind (idxA 1 x22 v85_25) fun p26 =>
  Option.bind (rd (deI .i64) H24 p26) fun x27 =>
  Option.bind (z8z L m H24 (some (⟨k17,0,none⟩:Addr)) x27) fun (x28_0,x28_1,x28_2,x28_3,x28_4,x28_5,x28_6,x28_7,x28_8,x28_9,x28_10,x28_11,x28_12,x28_13,x28_14,x29,H30) =>
  if x29=0 then
   Option.bind (rd deSl H30 (Addr.add (⟨k17,0,none⟩:Addr) 5)) fun x31 =>
   Option.bind (idxA 15 x31 x27) fun p32 =>
   Option.bind (wrCells m p32 0 [(Value.int .i64 x28_0),(Value.bool x28_1),(Value.bool x28_2),(Sl3.v x28_3),(Value.int .i64 x28_4),(Sl3.v x28_5),(Value.string x28_6),(Value.int .i64 x28_7),(Value.int .i64 x28_8),(Value.int .i64 x28_9),(Value.string x28_10),(Sl3.v x28_11),(Sl3.v x28_12),(Sl3.v x28_13),(Sl3.v x28_14)] H30) fun H33 =>
   some (.next (H33,(IntKind.i64.wrap (v85_25+1))))
  else
   none
 else
  some (.brk (H24,v85_25))
def zk9 (_L:LC) (_m:Nat) (a1_0 a2:Sl3) (x1_0 x1_1:Int) (x1_2:ByteArray) (x1_3 x9_0:Sl3) (x9_1 x9_2:Sl3) (k17:Nat) (x22:Sl3):(AH×Int)→KN×Lcs:=fun (_,v85_25)=>([kI 85 v85_25,kS 2 a2,(16,.val (Value.pointer (some (⟨k17,0,none⟩:Addr)))),kS 83 x22,kI 84 (x22.n:Int)],[some (24,[(Sl3.v a1_0)]),some (47,[(Value.int .i64 x1_0),(Value.int .i64 x1_1),(Value.string x1_2),(Sl3.v x1_3)]),some (37,[(Sl3.v x9_0),(Sl3.v x9_1),(Sl3.v x9_2)]),none,none])
noncomputable def z9z (L:LC) (m:Nat) (_a1_0 a2:Sl3) (_x1_0 _x1_1:Int) (_x1_2:ByteArray) (_x1_3 _x9_0:Sl3) (_x9_1 _x9_2:Sl3) (k17:Nat):(AH×Sl3×Int)→Option (Lp (AH×Sl3×Int) (Sl3×Int×AH)):=fun (H36,v21_37,v108_38) =>
 if v108_38<(a2.n:Int) then
  Option.bind (idxA 1 a2 v108_38) fun p39 =>
  Option.bind (rd (deI .i64) H36 p39) fun x40 =>
  Option.bind (rd deSl H36 (Addr.add (⟨k17,0,none⟩:Addr) 5)) fun x41 =>
  Option.bind (idxA 15 x41 x40) fun p42 =>
  Option.bind (rd (deI .i64) H36 (Addr.add p42 0)) fun x43_0 =>
  Option.bind (rd deB H36 (Addr.add p42 1)) fun x43_1 =>
  Option.bind (rd deB H36 (Addr.add p42 2)) fun x43_2 =>
  Option.bind (rd deSl H36 (Addr.add p42 3)) fun x43_3 =>
  Option.bind (rd (deI .i64) H36 (Addr.add p42 4)) fun x43_4 =>
  Option.bind (rd deSl H36 (Addr.add p42 5)) fun x43_5 =>
  Option.bind (rd deS H36 (Addr.add p42 6)) fun x43_6 =>
  Option.bind (rd (deI .i64) H36 (Addr.add p42 7)) fun x43_7 =>
  Option.bind (rd (deI .i64) H36 (Addr.add p42 8)) fun x43_8 =>
  Option.bind (rd (deI .i64) H36 (Addr.add p42 9)) fun x43_9 =>
  Option.bind (rd deS H36 (Addr.add p42 10)) fun x43_10 =>
  Option.bind (rd deSl H36 (Addr.add p42 11)) fun x43_11 =>
  Option.bind (rd deSl H36 (Addr.add p42 12)) fun x43_12 =>
  Option.bind (rd deSl H36 (Addr.add p42 13)) fun x43_13 =>
  Option.bind (rd deSl H36 (Addr.add p42 14)) fun x43_14 =>
  Option.bind (zky L m H36 x43_0 x43_1 x43_2 x43_3 x43_4 x43_5 x43_6 x43_7 x43_8 x43_9 x43_10 x43_11 x43_12 x43_13 x43_14) fun (x44_0,x44_1,x44_2,x44_3,x44_4,x44_5,x44_6,x44_7,x44_8,x44_9,x44_10,x44_11,x44_12,x44_13,x44_14,H45) =>
  Option.bind (newR 75 1 #[(Value.int .i64 x44_0),(Value.bool x44_1),(Value.bool x44_2),(Sl3.v x44_3),(Value.int .i64 x44_4),(Sl3.v x44_5),(Value.string x44_6),(Value.int .i64 x44_7),(Value.int .i64 x44_8),(Value.int .i64 x44_9),(Value.string x44_10),(Sl3.v x44_11),(Sl3.v x44_12),(Sl3.v x44_13),(Sl3.v x44_14)] H45) fun (s46,H47) =>
  Option.bind (appS m 75 15 232 H47 v21_37 s46) fun (s48,H49) =>
  some (.next (H49,s48,(IntKind.i64.wrap (v108_38+1))))
 else
  some (.brk (H36,v21_37,v108_38))
def zjv (_L:LC) (_m:Nat) (a1_0 a2:Sl3) (x1_0 x1_1:Int) (x1_2:ByteArray) (x1_3 x9_0:Sl3) (x9_1 x9_2:Sl3) (k17:Nat):(AH×Sl3×Int)→KN×Lcs:=fun (_,v21_37,v108_38)=>([kS 21 v21_37,kI 108 v108_38,(16,.val (Value.pointer (some (⟨k17,0,none⟩:Addr)))),kS 106 a2,kI 107 (a2.n:Int)],[some (24,[(Sl3.v a1_0)]),some (47,[(Value.int .i64 x1_0),(Value.int .i64 x1_1),(Value.string x1_2),(Sl3.v x1_3)]),some (37,[(Sl3.v x9_0),(Sl3.v x9_1),(Sl3.v x9_2)]),none,none])
noncomputable def zfj (L:LC) (m:Nat) (H:AH) (a0:Option Addr) (a1_0 a2:Sl3):Option (Sl3×Int×AH) :=
 Option.bind (z3v L m H a0 0) fun (x1_0,x1_1,x1_2,x1_3,x2,H3) =>
 if x2=true then
  Option.bind (L.run (z9u L a0 a1_0 a2 x1_0 x1_1 x1_2 x1_3 H3) 0) fun o=>match o with
  | .inl _ =>
   Option.bind (z8o L m H3 a0) fun (x9_0,x9_1,x9_2,H10) =>
   Option.bind (zeu L m H10 x9_0 x9_1 x9_2 a1_0) fun (x11,H12) =>
   if x11=0 then
    Option.bind (z2t L H12 a0) fun x13 =>
    Option.bind (mkN 232 x13) fun c14 =>
    Option.bind (newS 75 (mkCells #[(Value.int .i64 0),(Value.bool false),(Value.bool false),(Sl3.v Sl3.nil),(Value.int .i64 0),(Sl3.v Sl3.nil),(Value.string (⟨#[]⟩:ByteArray)),(Value.int .i64 0),(Value.int .i64 0),(Value.int .i64 0),(Value.string (⟨#[]⟩:ByteArray)),(Sl3.v Sl3.nil),(Sl3.v Sl3.nil),(Sl3.v Sl3.nil),(Sl3.v Sl3.nil)] 15 c14) H12) fun (k15,H16) =>
    Option.bind (newS 69 [(Value.pointer a0),(Sl3.v x9_0),(Sl3.v x9_1),(Sl3.v x9_2),(Sl3.v a1_0),(Sl3.v (⟨some ⟨k15,0,none⟩,c14,c14⟩:Sl3)),(Sl3.v Sl3.nil)] H16) fun (k17,H18) =>
    Option.bind (z31 L m H18 (some (⟨k17,0,none⟩:Addr))) fun (x19,H20) =>
    Option.bind (H20.setCell m (Addr.add (⟨k17,0,none⟩:Addr) 6) (Sl3.v x19)) fun H21 =>
    Option.bind (z5y L m H21 a0 a2) fun (x22,H23) =>
    Option.bind (L.run (z9t L m a1_0 a2 x1_0 x1_1 x1_2 x1_3 x9_0 x9_1 x9_2 k17 x22) (H23,0)) fun o=>match o with
    | .inl (H34,_) =>
     Option.bind (L.run (z9z L m a1_0 a2 x1_0 x1_1 x1_2 x1_3 x9_0 x9_1 x9_2 k17) (H34,Sl3.nil,0)) fun o=>match o with
     | .inl (H50,v21_51,_) =>
      some (v21_51,0,H50)
     | .inr r=>some r
    | .inr r=>some r
   else
    none
  | .inr r=>some r
 else
  none
theorem zb9 {E m H L a0 a1_0 a2 x1_0 x1_1 x1_2 x1_3 H3} :LoopF Tryz.prog (NE.plain 167) m E Tryz.f4 ((cfst (csnd (cfst (csnd (csnd B4)))))) (zjz L a0 a1_0 a2 x1_0 x1_1 x1_2 x1_3 H3) (fun _=>H3) 0 z4w (z5r H) (z9u L a0 a1_0 a2 x1_0 x1_1 x1_2 x1_3 H3):=by
 rintro v46_4 o h
 unfold z9u at h
 try dsimp only at h
 refine WS.sq (WS.rg (RS.mS 1 [kB 47 (decide (v46_4<(a2.n:Int)))] (RS.dn (WS.nxt (WS.sq ?_)))))
 rcases z0 h with ⟨hp,h⟩ | ⟨hp,h⟩
 ·refine WS.fx 47 true (decide_eq_true hp) (WS.cT (WS.sk (WS.nxt (WS.sq (WS.bk 1 (WS.sq (WS.rg ?_)))))))
  obtain ⟨p5,hx,h⟩:=bind_some h
  refine RS.ix 48 25 3 (.tmp 44) (.tmp 46) hx ?_
  obtain ⟨x6,hx,h⟩:=bind_some h
  refine RS.ld 49 3 (.tmp 48) (z1 hx z5) (RS.mS 1 [kI 13 x6] (RS.dn (WS.nxt (WS.sq (WS.rg (RS.mS 3 [kB 52 (decide (x6<0)),kB 51 (decide (x6<0)),kI 50 x6] ?_))))))
  rcases z0 h with ⟨hp,h⟩ | ⟨hp,h⟩
  ·refine RS.fx 52 true (decide_eq_true hp) ?_
   cases h
  ·refine RS.fx 52 false (decide_eq_false hp) (RS.mS 2 [(54,.val (Value.pointer a0)),kI 53 x6] ?_)
   obtain ⟨x7,hx,h⟩:=bind_some h
   refine RS.cl (some 55) (v:=(Value.int .i64 x7)) 8 #[(Value.pointer a0)] (zq hx) (RS.mS 2 [kB 57 (decide (x6≥x7)),kB 56 (decide (x6≥x7))] (RS.dn (WS.nxt ?_)))
   rcases z0 h with ⟨hp,h⟩ | ⟨hp,h⟩
   ·refine WS.fx 57 true (decide_eq_true hp) (WS.cT ?_)
    cases h
   ·refine WS.fx 57 false (decide_eq_false hp) (WS.cF (WS.sk ?_))
    refine fun a w hs=>bkN ((WS.nxt ?_ a w hs))
    refine WS.rg (RS.mS 2 [kI 46 (IntKind.i64.wrap (v46_4+1)),kI 58 (IntKind.i64.wrap (v46_4+1))] (RS.dn ?_))
    cases h
    exact fun a w hs=>lsN rfl (hs.sb 2)
 ·refine WS.fx 47 false (decide_eq_false hp) (WS.cF (WS.ex 0 ?_))
  cases h
  exact fun a w hs=>sqE (lsB rfl (hs.sb 2))
theorem zaz {E H L m a1_0 a2 x1_0 x1_1 x1_2 x1_3 x9_0 x9_1 x9_2 k17 x22} :LoopF Tryz.prog (NE.plain 167) m E Tryz.f4 ((cfst (csnd (cfst (csnd (csnd (csnd (csnd (csnd (csnd (csnd B4))))))))))) (zk9 L m a1_0 a2 x1_0 x1_1 x1_2 x1_3 x9_0 x9_1 x9_2 k17 x22) (fun s=>s.1) 2 z4w (z5r H) (z9t L m a1_0 a2 x1_0 x1_1 x1_2 x1_3 x9_0 x9_1 x9_2 k17 x22):=by
 rintro ⟨H24,v85_25⟩ o h
 unfold z9t at h
 try dsimp only at h
 refine WS.sq (WS.rg (RS.mS 1 [kB 86 (decide (v85_25<(x22.n:Int)))] (RS.dn (WS.nxt (WS.sq ?_)))))
 rcases z0 h with ⟨hp,h⟩ | ⟨hp,h⟩
 ·refine WS.fx 86 true (decide_eq_true hp) (WS.cT (WS.sk (WS.nxt (WS.sq (WS.bk 3 (WS.sq (WS.rg ?_)))))))
  obtain ⟨p26,hx,h⟩:=bind_some h
  refine RS.ix 87 25 3 (.tmp 83) (.tmp 85) hx ?_
  obtain ⟨x27,hx,h⟩:=bind_some h
  refine RS.ld 88 3 (.tmp 87) (z1 hx z5) (RS.mS 1 [kI 18 x27] (RS.dn (WS.nxt (WS.sq (WS.rg (RS.mS 2 [kI 91 x27,(90,.val (Value.pointer (some (⟨k17,0,none⟩:Addr))))] ?_))))))
  obtain ⟨⟨x28_0,x28_1,x28_2,x28_3,x28_4,x28_5,x28_6,x28_7,x28_8,x28_9,x28_10,x28_11,x28_12,x28_13,x28_14,x29,H30⟩,hx,h⟩:=bind_some h
  try dsimp only at h
  refine RS.cl (some 92) (v:=(Value.tuple #[(Value.agg #[(Value.int .i64 x28_0),(Value.bool x28_1),(Value.bool x28_2),(Sl3.v x28_3),(Value.int .i64 x28_4),(Sl3.v x28_5),(Value.string x28_6),(Value.int .i64 x28_7),(Value.int .i64 x28_8),(Value.int .i64 x28_9),(Value.string x28_10),(Sl3.v x28_11),(Sl3.v x28_12),(Sl3.v x28_13),(Sl3.v x28_14)]),(Value.int .i64 x29)])) 14 #[(Value.pointer (some (⟨k17,0,none⟩:Addr))),(Value.int .i64 x27)] (ze4 hx) (RS.mL 6 [kI 20 x29,kL 19 5 0,kI 94 x29,kA 93 #[(Value.int .i64 x28_0),(Value.bool x28_1),(Value.bool x28_2),(Sl3.v x28_3),(Value.int .i64 x28_4),(Sl3.v x28_5),(Value.string x28_6),(Value.int .i64 x28_7),(Value.int .i64 x28_8),(Value.int .i64 x28_9),(Value.string x28_10),(Sl3.v x28_11),(Sl3.v x28_12),(Sl3.v x28_13),(Sl3.v x28_14)],(89,.val (Value.tuple #[(Value.agg #[(Value.int .i64 x28_0),(Value.bool x28_1),(Value.bool x28_2),(Sl3.v x28_3),(Value.int .i64 x28_4),(Sl3.v x28_5),(Value.string x28_6),(Value.int .i64 x28_7),(Value.int .i64 x28_8),(Value.int .i64 x28_9),(Value.string x28_10),(Sl3.v x28_11),(Sl3.v x28_12),(Sl3.v x28_13),(Sl3.v x28_14)]),(Value.int .i64 x29)]))] ([some (24,[(Sl3.v a1_0)]),some (47,[(Value.int .i64 x1_0),(Value.int .i64 x1_1),(Value.string x1_2),(Sl3.v x1_3)]),some (37,[(Sl3.v x9_0),(Sl3.v x9_1),(Sl3.v x9_2)]),none,none,some (75,[(Value.int .i64 x28_0),(Value.bool x28_1),(Value.bool x28_2),(Sl3.v x28_3),(Value.int .i64 x28_4),(Sl3.v x28_5),(Value.string x28_6),(Value.int .i64 x28_7),(Value.int .i64 x28_8),(Value.int .i64 x28_9),(Value.string x28_10),(Sl3.v x28_11),(Sl3.v x28_12),(Sl3.v x28_13),(Sl3.v x28_14)])]) (RS.dn (WS.nxt (WS.sq (WS.sq (WS.rg (RS.mS 2 [kB 96 (!decide (x29=0)),kI 95 x29] (RS.dn (WS.nxt ?_)))))))))
  rcases z0 h with ⟨hp,h⟩ | ⟨hp,h⟩
  ·refine WS.fx 96 false (zh hp) (WS.cF (WS.sk (WS.nxt ?_)))
   refine WS.dr [0,1,2,3,5] [0,1,3,7,0,0,63,127] 8 (fun hcl=>?_)
   refine DA.tK 0 (some 98) (Value.pointer (some (⟨k17,0,none⟩:Addr))) (DA.tK 1 (some 99) (Value.pointer (some (⟨k17,0,none⟩:Addr))) (DA.tK 2 (some 100) (Value.pointer (some (Addr.add (⟨k17,0,none⟩:Addr) 5))) ?_))
   obtain ⟨x31,hx,h⟩:=bind_some h
   refine DA.tD 3 (some 101) (Sl3.v x31) (Abs.det_load (t:=26) (x:=.tmp 100) (a:=(Addr.add (⟨k17,0,none⟩:Addr) 5)) (by kernel_rfl) (by kernel_rfl) (by kernel_rfl) (by kernel_rfl) (z1 hx z3)) (DA.tL 5 (some 103) (.val (Value.agg #[(Value.int .i64 x28_0),(Value.bool x28_1),(Value.bool x28_2),(Sl3.v x28_3),(Value.int .i64 x28_4),(Sl3.v x28_5),(Value.string x28_6),(Value.int .i64 x28_7),(Value.int .i64 x28_8),(Value.int .i64 x28_9),(Value.string x28_10),(Sl3.v x28_11),(Sl3.v x28_12),(Sl3.v x28_13),(Sl3.v x28_14)])) (DA.tP 4 (some 102) (Value.int .i64 x27) ?_))
   obtain ⟨p32,hx,h⟩:=bind_some h
   refine DA.tPx 6 (some 104) (Value.pointer (some p32)) (Abs.det_idx (s:=x31) (k:=.i64) (t:=26) (e:=75) (x:=.tmp 101) (y:=.tmp 102) (by kernel_rfl) (by kernel_rfl) (by kernel_rfl) (by kernel_rfl) (by kernel_rfl) hx) ?_
   obtain ⟨H33,hx,h⟩:=bind_some h
   refine DA.on 7 (DA.aH (H':=H33) 7 none undef (Abs.run_storeA (t:=75) (x:=.tmp 104) (y:=.tmp 103) (a:=p32) (v:=(Value.agg #[(Value.int .i64 x28_0),(Value.bool x28_1),(Value.bool x28_2),(Sl3.v x28_3),(Value.int .i64 x28_4),(Sl3.v x28_5),(Value.string x28_6),(Value.int .i64 x28_7),(Value.int .i64 x28_8),(Value.int .i64 x28_9),(Value.string x28_10),(Sl3.v x28_11),(Sl3.v x28_12),(Sl3.v x28_13),(Sl3.v x28_14)])) (by kernel_rfl) (by kernel_rfl) (by kernel_rfl) (by kernel_rfl) (by kernel_rfl) hx) (DA.dn ?_))
   refine fun a w hs=>bkN ((WS.nxt ?_ a w hs))
   refine WS.rg (RS.mS 2 [kI 85 (IntKind.i64.wrap (v85_25+1)),kI 105 (IntKind.i64.wrap (v85_25+1))] (RS.dn ?_))
   cases h
   exact fun a w hs=>lsN rfl (hs.sb 5)
  ·refine WS.fx 96 true (ze hp) (WS.cT ?_)
   cases h
 ·refine WS.fx 86 false (decide_eq_false hp) (WS.cF (WS.ex 2 ?_))
  cases h
  exact fun a w hs=>sqE (lsB rfl (hs.sb 5))
theorem zb1 {E H L m a1_0 a2 x1_0 x1_1 x1_2 x1_3 x9_0 x9_1 x9_2 k17} :LoopF Tryz.prog (NE.plain 167) m E Tryz.f4 ((cfst (csnd (cfst (csnd (csnd (csnd (csnd (csnd (csnd (csnd (csnd (csnd B4))))))))))))) (zjv L m a1_0 a2 x1_0 x1_1 x1_2 x1_3 x9_0 x9_1 x9_2 k17) (fun s=>s.1) 4 z4w (z5r H) (z9z L m a1_0 a2 x1_0 x1_1 x1_2 x1_3 x9_0 x9_1 x9_2 k17):=by
 rintro ⟨H36,v21_37,v108_38⟩ o h
 unfold z9z at h
 try dsimp only at h
 refine WS.sq (WS.rg (RS.mS 1 [kB 109 (decide (v108_38<(a2.n:Int)))] (RS.dn (WS.nxt (WS.sq ?_)))))
 rcases z0 h with ⟨hp,h⟩ | ⟨hp,h⟩
 ·refine WS.fx 109 true (decide_eq_true hp) (WS.cT (WS.sk (WS.nxt (WS.sq (WS.bk 5 (WS.sq (WS.rg ?_)))))))
  obtain ⟨p39,hx,h⟩:=bind_some h
  refine RS.ix 110 25 3 (.tmp 106) (.tmp 108) hx ?_
  obtain ⟨x40,hx,h⟩:=bind_some h
  refine RS.ld 111 3 (.tmp 110) (z1 hx z5) (RS.mS 1 [kI 23 x40] (RS.dn (WS.nxt (WS.rg (RS.mS 4 [(115,.val (Value.pointer (some (Addr.add (⟨k17,0,none⟩:Addr) 5)))),(114,.val (Value.pointer (some (⟨k17,0,none⟩:Addr)))),(113,.val (Value.pointer (some (⟨k17,0,none⟩:Addr)))),kS 112 v21_37] ?_)))))
  obtain ⟨x41,hx,h⟩:=bind_some h
  refine RS.ld 116 26 (.tmp 115) (z1 hx z3) (RS.mS 1 [kI 117 x40] ?_)
  obtain ⟨p42,hx,h⟩:=bind_some h
  refine RS.ix 118 26 75 (.tmp 116) (.tmp 117) hx ?_
  obtain ⟨x43_0,hx0,h⟩:=bind_some h
  obtain ⟨x43_1,hx1,h⟩:=bind_some h
  obtain ⟨x43_2,hx2,h⟩:=bind_some h
  obtain ⟨x43_3,hx3,h⟩:=bind_some h
  obtain ⟨x43_4,hx4,h⟩:=bind_some h
  obtain ⟨x43_5,hx5,h⟩:=bind_some h
  obtain ⟨x43_6,hx6,h⟩:=bind_some h
  obtain ⟨x43_7,hx7,h⟩:=bind_some h
  obtain ⟨x43_8,hx8,h⟩:=bind_some h
  obtain ⟨x43_9,hx9,h⟩:=bind_some h
  obtain ⟨x43_10,hx10,h⟩:=bind_some h
  obtain ⟨x43_11,hx11,h⟩:=bind_some h
  obtain ⟨x43_12,hx12,h⟩:=bind_some h
  obtain ⟨x43_13,hx13,h⟩:=bind_some h
  obtain ⟨x43_14,hx14,h⟩:=bind_some h
  refine RS.la 119 75 (.tmp 118) 15 (z2 (z1 hx0 z5) (z2 (z1 hx1 z13) (z2 (z1 hx2 z13) (z2 (z1 hx3 z3) (z2 (z1 hx4 z5) (z2 (z1 hx5 z3) (z2 (z1 hx6 z9) (z2 (z1 hx7 z5) (z2 (z1 hx8 z5) (z2 (z1 hx9 z5) (z2 (z1 hx10 z9) (z2 (z1 hx11 z3) (z2 (z1 hx12 z3) (z2 (z1 hx13 z3) (z2 (z1 hx14 z3) zm))))))))))))))) ?_
  obtain ⟨⟨x44_0,x44_1,x44_2,x44_3,x44_4,x44_5,x44_6,x44_7,x44_8,x44_9,x44_10,x44_11,x44_12,x44_13,x44_14,H45⟩,hx,h⟩:=bind_some h
  try dsimp only at h
  refine RS.cl (some 120) (v:=(Value.agg #[(Value.int .i64 x44_0),(Value.bool x44_1),(Value.bool x44_2),(Sl3.v x44_3),(Value.int .i64 x44_4),(Sl3.v x44_5),(Value.string x44_6),(Value.int .i64 x44_7),(Value.int .i64 x44_8),(Value.int .i64 x44_9),(Value.string x44_10),(Sl3.v x44_11),(Sl3.v x44_12),(Sl3.v x44_13),(Sl3.v x44_14)])) 15 #[(Value.agg #[(Value.int .i64 x43_0),(Value.bool x43_1),(Value.bool x43_2),(Sl3.v x43_3),(Value.int .i64 x43_4),(Sl3.v x43_5),(Value.string x43_6),(Value.int .i64 x43_7),(Value.int .i64 x43_8),(Value.int .i64 x43_9),(Value.string x43_10),(Sl3.v x43_11),(Sl3.v x43_12),(Sl3.v x43_13),(Sl3.v x43_14)])] (zn6 hx) ?_
  obtain ⟨⟨s46,H47⟩,hx,h⟩:=bind_some h
  try dsimp only at h
  refine RS.o (H':=H47) (some 121) (Sl3.v s46) (Abs.run_newR (by kernel_rfl) (by kernel_rfl) hx) ?_
  obtain ⟨⟨s48,H49⟩,hx,h⟩:=bind_some h
  try dsimp only at h
  refine RS.o (H':=H49) (some 122) (Sl3.v s48) (Abs.run_app (x:=.tmp 112) (y:=.tmp 121) (ts:=#[26,26]) (s:=v21_37) (z:=s46) (by kernel_rfl) (by kernel_rfl) (by kernel_rfl) (by kernel_rfl) hx) (RS.mS 1 [kS 21 s48] (RS.dn ?_))
  refine fun a w hs=>bkN ((WS.nxt ?_ a w hs))
  refine WS.rg (RS.mS 2 [kI 108 (IntKind.i64.wrap (v108_38+1)),kI 123 (IntKind.i64.wrap (v108_38+1))] (RS.dn ?_))
  cases h
  exact fun a w hs=>lsN rfl (hs.sb 5)
 ·refine WS.fx 109 false (decide_eq_false hp) (WS.cF (WS.ex 4 ?_))
  cases h
  exact fun a w hs=>sqE (lsB rfl (hs.sb 5))
theorem zmv {L:LC} {m:Nat} {H:AH} {a0:Option Addr} {a1_0 a2:Sl3} {r:(Sl3×Int×AH)} (h:zfj L m H a0 a1_0 a2=some r) :
  CallS Tryz.prog (NE.plain 167) m 4 #[(Value.pointer a0),(Value.agg #[(Sl3.v a1_0)]),(Sl3.v a2)] H (z4w r) (z5r H r):=by
 refine CallS.mk (args:=[(Value.pointer a0),(Value.agg #[(Sl3.v a1_0)]),(Sl3.v a2)]) Tryz.func4 (B:=B4) (by kernel_rfl) (fun E _=>?_)
 unfold zfj at h
 refine WS.sq (WS.rg (RS.mL 3 [kI 7 0,kS 6 Sl3.nil,kL 4 0 0] ([some (24,[(Sl3.v a1_0)])]) (RS.dn (WS.nxt (WS.sq (WS.sq (WS.rg (RS.mS 1 [(25,.val (Value.pointer a0))] ?_))))))))
 obtain ⟨⟨x1_0,x1_1,x1_2,x1_3,x2,H3⟩,hx,h⟩:=bind_some h
 try dsimp only at h
 refine RS.cl (some 26) (v:=(Value.tuple #[(Value.agg #[(Value.int .i64 x1_0),(Value.int .i64 x1_1),(Value.string x1_2),(Sl3.v x1_3)]),(Value.bool x2)])) 7 #[(Value.pointer a0),(Value.int .i64 0)] (z90 hx) (RS.mL 6 [kB 9 x2,kL 8 1 0,kB 28 x2,kA 27 #[(Value.int .i64 x1_0),(Value.int .i64 x1_1),(Value.string x1_2),(Sl3.v x1_3)],(24,.val (Value.tuple #[(Value.agg #[(Value.int .i64 x1_0),(Value.int .i64 x1_1),(Value.string x1_2),(Sl3.v x1_3)]),(Value.bool x2)]))] ([some (24,[(Sl3.v a1_0)]),some (47,[(Value.int .i64 x1_0),(Value.int .i64 x1_1),(Value.string x1_2),(Sl3.v x1_3)])]) (RS.dn (WS.nxt (WS.sq (WS.rg (RS.mS 3 [kB 31 (!x2),kB 30 (!x2),kB 29 x2] ?_))))))
 rcases z0 h with ⟨hp,h⟩ | ⟨hp,h⟩
 ·refine RS.fx 31 false (nb_not hp) (RS.mS 4 [kB 35 false,kU 34,kU 33,kU 32] (RS.dn (WS.nxt (WS.cF (WS.sk (WS.nxt (WS.sq (WS.sq (WS.rg ?_)))))))))
  refine RS.mS 3 [kI 46 0,kI 45 (a2.n:Int),kS 44 a2] (RS.dn (WS.nxt (WS.bk 0 ?_)))
  obtain ⟨o,hl,h⟩:=bind_some h
  rcases o with v46_8 | r
  ·try dsimp only at h
   refine WS.lI (zb9 (L:=L) (E:=E) (m:=m) (H:=H)) (L.ok hl) 2 ?_
   clear hl
   refine fun a w hs=>bkE ((WS.nxt ?_ a w hs))
   refine WS.sq (WS.rg (RS.mS 1 [(59,.val (Value.pointer a0))] ?_))
   obtain ⟨⟨x9_0,x9_1,x9_2,H10⟩,hx,h⟩:=bind_some h
   try dsimp only at h
   refine RS.cl (some 60) (v:=(Value.agg #[(Sl3.v x9_0),(Sl3.v x9_1),(Sl3.v x9_2)])) 10 #[(Value.pointer a0)] (zih hx) (RS.mL 2 [kL 14 2 0] ([some (24,[(Sl3.v a1_0)]),some (47,[(Value.int .i64 x1_0),(Value.int .i64 x1_1),(Value.string x1_2),(Sl3.v x1_3)]),some (37,[(Sl3.v x9_0),(Sl3.v x9_1),(Sl3.v x9_2)])]) (RS.dn (WS.nxt (WS.sq (WS.sq (WS.rg (RS.mS 2 [kA 62 #[(Sl3.v a1_0)],kA 61 #[(Sl3.v x9_0),(Sl3.v x9_1),(Sl3.v x9_2)]] ?_)))))))
   obtain ⟨⟨x11,H12⟩,hx,h⟩:=bind_some h
   try dsimp only at h
   refine RS.cl (some 63) (v:=(Value.int .i64 x11)) 11 #[(Value.agg #[(Sl3.v x9_0),(Sl3.v x9_1),(Sl3.v x9_2)]),(Value.agg #[(Sl3.v a1_0)])] (zna hx) (RS.mS 1 [kI 15 x11] (RS.dn (WS.nxt (WS.sq (WS.rg (RS.mS 2 [kB 65 (!decide (x11=0)),kI 64 x11] (RS.dn (WS.nxt ?_))))))))
   rcases z0 h with ⟨hp,h⟩ | ⟨hp,h⟩
   ·refine WS.fx 65 false (zh hp) (WS.cF (WS.sk (WS.nxt (WS.sq ?_))))
    obtain ⟨x13,hx_5,h⟩:=bind_some h
    obtain ⟨c14,hx_6,h⟩:=bind_some h
    obtain ⟨⟨k15,H16⟩,hx_k15,h⟩:=bind_some h
    try dsimp only at h
    obtain ⟨⟨k17,H18⟩,hx_k17,h⟩:=bind_some h
    try dsimp only at h
    refine WS.toone ([(0,.val (Value.pointer a0)),kS 2 a2,kL 16 4 0]) ([some (24,[(Sl3.v a1_0)]),some (47,[(Value.int .i64 x1_0),(Value.int .i64 x1_1),(Value.string x1_2),(Sl3.v x1_3)]),some (37,[(Sl3.v x9_0),(Sl3.v x9_1),(Sl3.v x9_2)]),none,some (69,[(Value.pointer a0),(Sl3.v x9_0),(Sl3.v x9_1),(Sl3.v x9_2),(Sl3.v a1_0),(Sl3.v (⟨some ⟨k15,0,none⟩,c14,c14⟩:Sl3)),(Sl3.v Sl3.nil)])]) H16 ?_ ?_
    ·clear h
     refine WS.dr [] [0,0,0,6,0,16,48,127,255,511] 10 (fun hcl=>?_)
     refine DA.tP 0 (some 67) (Value.pointer a0) (DA.tP 4 (some 71) (Value.pointer a0) ?_)
     refine DA.three 1 2 5 (by kernel_rfl) ?_ ?_ ?_
     ·refine DA.aL 1 (some 68) (.val (Value.agg #[(Sl3.v x9_0),(Sl3.v x9_1),(Sl3.v x9_2)])) ([some (24,[(Sl3.v a1_0)]),some (47,[(Value.int .i64 x1_0),(Value.int .i64 x1_1),(Value.string x1_2),(Sl3.v x1_3)]),some (37,[(Sl3.v x9_0),(Sl3.v x9_1),(Sl3.v x9_2)])]) false ?_
      refine DA.two 2 5 (by kernel_rfl) ?_ ?_
      ·refine DA.aL 2 (some 69) (.val (Value.agg #[(Sl3.v a1_0)])) ([some (24,[(Sl3.v a1_0)]),some (47,[(Value.int .i64 x1_0),(Value.int .i64 x1_1),(Value.string x1_2),(Sl3.v x1_3)]),some (37,[(Sl3.v x9_0),(Sl3.v x9_1),(Sl3.v x9_2)])]) false ?_
       refine DA.two 3 5 (by kernel_rfl) ?_ ?_
       ·refine DA.aH (H':=H12) 3 (some 70) (Value.agg #[(Sl3.v x9_0),(Sl3.v x9_1),(Sl3.v x9_2),(Sl3.v a1_0)]) (by kernel_rfl) (DA.on 5 (DA.aC 5 (some 72) (v:=(Value.int .i64 x13)) 8 #[(Value.pointer a0)] (zq hx_5) (DA.on 6 (DA.actM (k1:=.i64) (k2:=.i64) 6 (some 73) 26 75 15 232 #[(Value.int .i64 0),(Value.bool false),(Value.bool false),(Sl3.v Sl3.nil),(Value.int .i64 0),(Sl3.v Sl3.nil),(Value.string (⟨#[]⟩:ByteArray)),(Value.int .i64 0),(Value.int .i64 0),(Value.int .i64 0),(Value.string (⟨#[]⟩:ByteArray)),(Sl3.v Sl3.nil),(Sl3.v Sl3.nil),(Sl3.v Sl3.nil),(Sl3.v Sl3.nil)] (.tmp 72) (.tmp 72) hx_6 (DA.on 7 (DA.pubK 3 _ _ hx_k15 (by kernel_rfl) rfl rfl (DA.aH (H':=H16) 7 (some 74) (Value.agg #[(Value.pointer a0),(Sl3.v x9_0),(Sl3.v x9_1),(Sl3.v x9_2),(Sl3.v a1_0),(Sl3.v (⟨some ⟨k15,0,none⟩,c14,c14⟩:Sl3)),(Sl3.v Sl3.nil)]) (by kernel_rfl) (DA.on 8 (DA.aL 8 (some 75) (.loc 4 0) ([some (24,[(Sl3.v a1_0)]),some (47,[(Value.int .i64 x1_0),(Value.int .i64 x1_1),(Value.string x1_2),(Sl3.v x1_3)]),some (37,[(Sl3.v x9_0),(Sl3.v x9_1),(Sl3.v x9_2)]),none,some (69,[(Value.pointer a0),(Sl3.v x9_0),(Sl3.v x9_1),(Sl3.v x9_2),(Sl3.v a1_0),(Sl3.v (⟨some ⟨k15,0,none⟩,c14,c14⟩:Sl3)),(Sl3.v Sl3.nil)])]) false ?_)))))))))
        refine DA.tPL 9 (some 16) (.loc 4 0) (DA.dn ?_)
        exact fun a w hs=>jsN (hs.sb 5)
       ·refine DA.aC 5 (some 72) (v:=(Value.int .i64 x13)) 8 #[(Value.pointer a0)] (zq hx_5) ?_
        refine DA.two 3 6 (by kernel_rfl) ?_ ?_
        ·refine DA.aH (H':=H12) 3 (some 70) (Value.agg #[(Sl3.v x9_0),(Sl3.v x9_1),(Sl3.v x9_2),(Sl3.v a1_0)]) (by kernel_rfl) (DA.on 6 (DA.actM (k1:=.i64) (k2:=.i64) 6 (some 73) 26 75 15 232 #[(Value.int .i64 0),(Value.bool false),(Value.bool false),(Sl3.v Sl3.nil),(Value.int .i64 0),(Sl3.v Sl3.nil),(Value.string (⟨#[]⟩:ByteArray)),(Value.int .i64 0),(Value.int .i64 0),(Value.int .i64 0),(Value.string (⟨#[]⟩:ByteArray)),(Sl3.v Sl3.nil),(Sl3.v Sl3.nil),(Sl3.v Sl3.nil),(Sl3.v Sl3.nil)] (.tmp 72) (.tmp 72) hx_6 (DA.on 7 (DA.pubK 3 _ _ hx_k15 (by kernel_rfl) rfl rfl (DA.aH (H':=H16) 7 (some 74) (Value.agg #[(Value.pointer a0),(Sl3.v x9_0),(Sl3.v x9_1),(Sl3.v x9_2),(Sl3.v a1_0),(Sl3.v (⟨some ⟨k15,0,none⟩,c14,c14⟩:Sl3)),(Sl3.v Sl3.nil)]) (by kernel_rfl) (DA.on 8 (DA.aL 8 (some 75) (.loc 4 0) ([some (24,[(Sl3.v a1_0)]),some (47,[(Value.int .i64 x1_0),(Value.int .i64 x1_1),(Value.string x1_2),(Sl3.v x1_3)]),some (37,[(Sl3.v x9_0),(Sl3.v x9_1),(Sl3.v x9_2)]),none,some (69,[(Value.pointer a0),(Sl3.v x9_0),(Sl3.v x9_1),(Sl3.v x9_2),(Sl3.v a1_0),(Sl3.v (⟨some ⟨k15,0,none⟩,c14,c14⟩:Sl3)),(Sl3.v Sl3.nil)])]) false (DA.tPL 9 (some 16) (.loc 4 0) (DA.dn ?_)))))))))
         exact fun a w hs=>jsN (hs.sb 5)
        ·refine DA.actM (k1:=.i64) (k2:=.i64) 6 (some 73) 26 75 15 232 #[(Value.int .i64 0),(Value.bool false),(Value.bool false),(Sl3.v Sl3.nil),(Value.int .i64 0),(Sl3.v Sl3.nil),(Value.string (⟨#[]⟩:ByteArray)),(Value.int .i64 0),(Value.int .i64 0),(Value.int .i64 0),(Value.string (⟨#[]⟩:ByteArray)),(Sl3.v Sl3.nil),(Sl3.v Sl3.nil),(Sl3.v Sl3.nil),(Sl3.v Sl3.nil)] (.tmp 72) (.tmp 72) hx_6 (DA.on 3 (DA.aH (H':=H12) 3 (some 70) (Value.agg #[(Sl3.v x9_0),(Sl3.v x9_1),(Sl3.v x9_2),(Sl3.v a1_0)]) (by kernel_rfl) (DA.on 7 (DA.pubK 3 _ _ hx_k15 (by kernel_rfl) rfl rfl (DA.aH (H':=H16) 7 (some 74) (Value.agg #[(Value.pointer a0),(Sl3.v x9_0),(Sl3.v x9_1),(Sl3.v x9_2),(Sl3.v a1_0),(Sl3.v (⟨some ⟨k15,0,none⟩,c14,c14⟩:Sl3)),(Sl3.v Sl3.nil)]) (by kernel_rfl) (DA.on 8 (DA.aL 8 (some 75) (.loc 4 0) ([some (24,[(Sl3.v a1_0)]),some (47,[(Value.int .i64 x1_0),(Value.int .i64 x1_1),(Value.string x1_2),(Sl3.v x1_3)]),some (37,[(Sl3.v x9_0),(Sl3.v x9_1),(Sl3.v x9_2)]),none,some (69,[(Value.pointer a0),(Sl3.v x9_0),(Sl3.v x9_1),(Sl3.v x9_2),(Sl3.v a1_0),(Sl3.v (⟨some ⟨k15,0,none⟩,c14,c14⟩:Sl3)),(Sl3.v Sl3.nil)])]) false (DA.tPL 9 (some 16) (.loc 4 0) (DA.dn ?_)))))))))
         exact fun a w hs=>jsN (hs.sb 5)
      ·refine DA.aC 5 (some 72) (v:=(Value.int .i64 x13)) 8 #[(Value.pointer a0)] (zq hx_5) ?_
       refine DA.two 2 6 (by kernel_rfl) ?_ ?_
       ·refine DA.aL 2 (some 69) (.val (Value.agg #[(Sl3.v a1_0)])) ([some (24,[(Sl3.v a1_0)]),some (47,[(Value.int .i64 x1_0),(Value.int .i64 x1_1),(Value.string x1_2),(Sl3.v x1_3)]),some (37,[(Sl3.v x9_0),(Sl3.v x9_1),(Sl3.v x9_2)])]) false ?_
        refine DA.two 3 6 (by kernel_rfl) ?_ ?_
        ·refine DA.aH (H':=H12) 3 (some 70) (Value.agg #[(Sl3.v x9_0),(Sl3.v x9_1),(Sl3.v x9_2),(Sl3.v a1_0)]) (by kernel_rfl) (DA.on 6 (DA.actM (k1:=.i64) (k2:=.i64) 6 (some 73) 26 75 15 232 #[(Value.int .i64 0),(Value.bool false),(Value.bool false),(Sl3.v Sl3.nil),(Value.int .i64 0),(Sl3.v Sl3.nil),(Value.string (⟨#[]⟩:ByteArray)),(Value.int .i64 0),(Value.int .i64 0),(Value.int .i64 0),(Value.string (⟨#[]⟩:ByteArray)),(Sl3.v Sl3.nil),(Sl3.v Sl3.nil),(Sl3.v Sl3.nil),(Sl3.v Sl3.nil)] (.tmp 72) (.tmp 72) hx_6 (DA.on 7 (DA.pubK 3 _ _ hx_k15 (by kernel_rfl) rfl rfl (DA.aH (H':=H16) 7 (some 74) (Value.agg #[(Value.pointer a0),(Sl3.v x9_0),(Sl3.v x9_1),(Sl3.v x9_2),(Sl3.v a1_0),(Sl3.v (⟨some ⟨k15,0,none⟩,c14,c14⟩:Sl3)),(Sl3.v Sl3.nil)]) (by kernel_rfl) (DA.on 8 (DA.aL 8 (some 75) (.loc 4 0) ([some (24,[(Sl3.v a1_0)]),some (47,[(Value.int .i64 x1_0),(Value.int .i64 x1_1),(Value.string x1_2),(Sl3.v x1_3)]),some (37,[(Sl3.v x9_0),(Sl3.v x9_1),(Sl3.v x9_2)]),none,some (69,[(Value.pointer a0),(Sl3.v x9_0),(Sl3.v x9_1),(Sl3.v x9_2),(Sl3.v a1_0),(Sl3.v (⟨some ⟨k15,0,none⟩,c14,c14⟩:Sl3)),(Sl3.v Sl3.nil)])]) false (DA.tPL 9 (some 16) (.loc 4 0) (DA.dn ?_)))))))))
         exact fun a w hs=>jsN (hs.sb 5)
        ·refine DA.actM (k1:=.i64) (k2:=.i64) 6 (some 73) 26 75 15 232 #[(Value.int .i64 0),(Value.bool false),(Value.bool false),(Sl3.v Sl3.nil),(Value.int .i64 0),(Sl3.v Sl3.nil),(Value.string (⟨#[]⟩:ByteArray)),(Value.int .i64 0),(Value.int .i64 0),(Value.int .i64 0),(Value.string (⟨#[]⟩:ByteArray)),(Sl3.v Sl3.nil),(Sl3.v Sl3.nil),(Sl3.v Sl3.nil),(Sl3.v Sl3.nil)] (.tmp 72) (.tmp 72) hx_6 (DA.on 3 (DA.aH (H':=H12) 3 (some 70) (Value.agg #[(Sl3.v x9_0),(Sl3.v x9_1),(Sl3.v x9_2),(Sl3.v a1_0)]) (by kernel_rfl) (DA.on 7 (DA.pubK 3 _ _ hx_k15 (by kernel_rfl) rfl rfl (DA.aH (H':=H16) 7 (some 74) (Value.agg #[(Value.pointer a0),(Sl3.v x9_0),(Sl3.v x9_1),(Sl3.v x9_2),(Sl3.v a1_0),(Sl3.v (⟨some ⟨k15,0,none⟩,c14,c14⟩:Sl3)),(Sl3.v Sl3.nil)]) (by kernel_rfl) (DA.on 8 (DA.aL 8 (some 75) (.loc 4 0) ([some (24,[(Sl3.v a1_0)]),some (47,[(Value.int .i64 x1_0),(Value.int .i64 x1_1),(Value.string x1_2),(Sl3.v x1_3)]),some (37,[(Sl3.v x9_0),(Sl3.v x9_1),(Sl3.v x9_2)]),none,some (69,[(Value.pointer a0),(Sl3.v x9_0),(Sl3.v x9_1),(Sl3.v x9_2),(Sl3.v a1_0),(Sl3.v (⟨some ⟨k15,0,none⟩,c14,c14⟩:Sl3)),(Sl3.v Sl3.nil)])]) false (DA.tPL 9 (some 16) (.loc 4 0) (DA.dn ?_)))))))))
         exact fun a w hs=>jsN (hs.sb 5)
       ·refine DA.actM (k1:=.i64) (k2:=.i64) 6 (some 73) 26 75 15 232 #[(Value.int .i64 0),(Value.bool false),(Value.bool false),(Sl3.v Sl3.nil),(Value.int .i64 0),(Sl3.v Sl3.nil),(Value.string (⟨#[]⟩:ByteArray)),(Value.int .i64 0),(Value.int .i64 0),(Value.int .i64 0),(Value.string (⟨#[]⟩:ByteArray)),(Sl3.v Sl3.nil),(Sl3.v Sl3.nil),(Sl3.v Sl3.nil),(Sl3.v Sl3.nil)] (.tmp 72) (.tmp 72) hx_6 (DA.on 2 (DA.aL 2 (some 69) (.val (Value.agg #[(Sl3.v a1_0)])) ([some (24,[(Sl3.v a1_0)]),some (47,[(Value.int .i64 x1_0),(Value.int .i64 x1_1),(Value.string x1_2),(Sl3.v x1_3)]),some (37,[(Sl3.v x9_0),(Sl3.v x9_1),(Sl3.v x9_2)]),some (75,(mkCells #[(Value.int .i64 0),(Value.bool false),(Value.bool false),(Sl3.v Sl3.nil),(Value.int .i64 0),(Sl3.v Sl3.nil),(Value.string (⟨#[]⟩:ByteArray)),(Value.int .i64 0),(Value.int .i64 0),(Value.int .i64 0),(Value.string (⟨#[]⟩:ByteArray)),(Sl3.v Sl3.nil),(Sl3.v Sl3.nil),(Sl3.v Sl3.nil),(Sl3.v Sl3.nil)] 15 c14))]) false (DA.on 3 (DA.aH (H':=H12) 3 (some 70) (Value.agg #[(Sl3.v x9_0),(Sl3.v x9_1),(Sl3.v x9_2),(Sl3.v a1_0)]) (by kernel_rfl) (DA.on 7 (DA.pubK 3 _ _ hx_k15 (by kernel_rfl) rfl rfl (DA.aH (H':=H16) 7 (some 74) (Value.agg #[(Value.pointer a0),(Sl3.v x9_0),(Sl3.v x9_1),(Sl3.v x9_2),(Sl3.v a1_0),(Sl3.v (⟨some ⟨k15,0,none⟩,c14,c14⟩:Sl3)),(Sl3.v Sl3.nil)]) (by kernel_rfl) (DA.on 8 (DA.aL 8 (some 75) (.loc 4 0) ([some (24,[(Sl3.v a1_0)]),some (47,[(Value.int .i64 x1_0),(Value.int .i64 x1_1),(Value.string x1_2),(Sl3.v x1_3)]),some (37,[(Sl3.v x9_0),(Sl3.v x9_1),(Sl3.v x9_2)]),none,some (69,[(Value.pointer a0),(Sl3.v x9_0),(Sl3.v x9_1),(Sl3.v x9_2),(Sl3.v a1_0),(Sl3.v (⟨some ⟨k15,0,none⟩,c14,c14⟩:Sl3)),(Sl3.v Sl3.nil)])]) false ?_)))))))))
        refine DA.tPL 9 (some 16) (.loc 4 0) (DA.dn ?_)
        exact fun a w hs=>jsN (hs.sb 5)
     ·refine DA.aL 2 (some 69) (.val (Value.agg #[(Sl3.v a1_0)])) ([some (24,[(Sl3.v a1_0)]),some (47,[(Value.int .i64 x1_0),(Value.int .i64 x1_1),(Value.string x1_2),(Sl3.v x1_3)]),some (37,[(Sl3.v x9_0),(Sl3.v x9_1),(Sl3.v x9_2)])]) false ?_
      refine DA.two 1 5 (by kernel_rfl) ?_ ?_
      ·refine DA.aL 1 (some 68) (.val (Value.agg #[(Sl3.v x9_0),(Sl3.v x9_1),(Sl3.v x9_2)])) ([some (24,[(Sl3.v a1_0)]),some (47,[(Value.int .i64 x1_0),(Value.int .i64 x1_1),(Value.string x1_2),(Sl3.v x1_3)]),some (37,[(Sl3.v x9_0),(Sl3.v x9_1),(Sl3.v x9_2)])]) false ?_
       refine DA.two 3 5 (by kernel_rfl) ?_ ?_
       ·refine DA.aH (H':=H12) 3 (some 70) (Value.agg #[(Sl3.v x9_0),(Sl3.v x9_1),(Sl3.v x9_2),(Sl3.v a1_0)]) (by kernel_rfl) (DA.on 5 (DA.aC 5 (some 72) (v:=(Value.int .i64 x13)) 8 #[(Value.pointer a0)] (zq hx_5) (DA.on 6 (DA.actM (k1:=.i64) (k2:=.i64) 6 (some 73) 26 75 15 232 #[(Value.int .i64 0),(Value.bool false),(Value.bool false),(Sl3.v Sl3.nil),(Value.int .i64 0),(Sl3.v Sl3.nil),(Value.string (⟨#[]⟩:ByteArray)),(Value.int .i64 0),(Value.int .i64 0),(Value.int .i64 0),(Value.string (⟨#[]⟩:ByteArray)),(Sl3.v Sl3.nil),(Sl3.v Sl3.nil),(Sl3.v Sl3.nil),(Sl3.v Sl3.nil)] (.tmp 72) (.tmp 72) hx_6 (DA.on 7 (DA.pubK 3 _ _ hx_k15 (by kernel_rfl) rfl rfl (DA.aH (H':=H16) 7 (some 74) (Value.agg #[(Value.pointer a0),(Sl3.v x9_0),(Sl3.v x9_1),(Sl3.v x9_2),(Sl3.v a1_0),(Sl3.v (⟨some ⟨k15,0,none⟩,c14,c14⟩:Sl3)),(Sl3.v Sl3.nil)]) (by kernel_rfl) (DA.on 8 (DA.aL 8 (some 75) (.loc 4 0) ([some (24,[(Sl3.v a1_0)]),some (47,[(Value.int .i64 x1_0),(Value.int .i64 x1_1),(Value.string x1_2),(Sl3.v x1_3)]),some (37,[(Sl3.v x9_0),(Sl3.v x9_1),(Sl3.v x9_2)]),none,some (69,[(Value.pointer a0),(Sl3.v x9_0),(Sl3.v x9_1),(Sl3.v x9_2),(Sl3.v a1_0),(Sl3.v (⟨some ⟨k15,0,none⟩,c14,c14⟩:Sl3)),(Sl3.v Sl3.nil)])]) false ?_)))))))))
        refine DA.tPL 9 (some 16) (.loc 4 0) (DA.dn ?_)
        exact fun a w hs=>jsN (hs.sb 5)
       ·refine DA.aC 5 (some 72) (v:=(Value.int .i64 x13)) 8 #[(Value.pointer a0)] (zq hx_5) ?_
        refine DA.two 3 6 (by kernel_rfl) ?_ ?_
        ·refine DA.aH (H':=H12) 3 (some 70) (Value.agg #[(Sl3.v x9_0),(Sl3.v x9_1),(Sl3.v x9_2),(Sl3.v a1_0)]) (by kernel_rfl) (DA.on 6 (DA.actM (k1:=.i64) (k2:=.i64) 6 (some 73) 26 75 15 232 #[(Value.int .i64 0),(Value.bool false),(Value.bool false),(Sl3.v Sl3.nil),(Value.int .i64 0),(Sl3.v Sl3.nil),(Value.string (⟨#[]⟩:ByteArray)),(Value.int .i64 0),(Value.int .i64 0),(Value.int .i64 0),(Value.string (⟨#[]⟩:ByteArray)),(Sl3.v Sl3.nil),(Sl3.v Sl3.nil),(Sl3.v Sl3.nil),(Sl3.v Sl3.nil)] (.tmp 72) (.tmp 72) hx_6 (DA.on 7 (DA.pubK 3 _ _ hx_k15 (by kernel_rfl) rfl rfl (DA.aH (H':=H16) 7 (some 74) (Value.agg #[(Value.pointer a0),(Sl3.v x9_0),(Sl3.v x9_1),(Sl3.v x9_2),(Sl3.v a1_0),(Sl3.v (⟨some ⟨k15,0,none⟩,c14,c14⟩:Sl3)),(Sl3.v Sl3.nil)]) (by kernel_rfl) (DA.on 8 (DA.aL 8 (some 75) (.loc 4 0) ([some (24,[(Sl3.v a1_0)]),some (47,[(Value.int .i64 x1_0),(Value.int .i64 x1_1),(Value.string x1_2),(Sl3.v x1_3)]),some (37,[(Sl3.v x9_0),(Sl3.v x9_1),(Sl3.v x9_2)]),none,some (69,[(Value.pointer a0),(Sl3.v x9_0),(Sl3.v x9_1),(Sl3.v x9_2),(Sl3.v a1_0),(Sl3.v (⟨some ⟨k15,0,none⟩,c14,c14⟩:Sl3)),(Sl3.v Sl3.nil)])]) false (DA.tPL 9 (some 16) (.loc 4 0) (DA.dn ?_)))))))))
         exact fun a w hs=>jsN (hs.sb 5)
        ·refine DA.actM (k1:=.i64) (k2:=.i64) 6 (some 73) 26 75 15 232 #[(Value.int .i64 0),(Value.bool false),(Value.bool false),(Sl3.v Sl3.nil),(Value.int .i64 0),(Sl3.v Sl3.nil),(Value.string (⟨#[]⟩:ByteArray)),(Value.int .i64 0),(Value.int .i64 0),(Value.int .i64 0),(Value.string (⟨#[]⟩:ByteArray)),(Sl3.v Sl3.nil),(Sl3.v Sl3.nil),(Sl3.v Sl3.nil),(Sl3.v Sl3.nil)] (.tmp 72) (.tmp 72) hx_6 (DA.on 3 (DA.aH (H':=H12) 3 (some 70) (Value.agg #[(Sl3.v x9_0),(Sl3.v x9_1),(Sl3.v x9_2),(Sl3.v a1_0)]) (by kernel_rfl) (DA.on 7 (DA.pubK 3 _ _ hx_k15 (by kernel_rfl) rfl rfl (DA.aH (H':=H16) 7 (some 74) (Value.agg #[(Value.pointer a0),(Sl3.v x9_0),(Sl3.v x9_1),(Sl3.v x9_2),(Sl3.v a1_0),(Sl3.v (⟨some ⟨k15,0,none⟩,c14,c14⟩:Sl3)),(Sl3.v Sl3.nil)]) (by kernel_rfl) (DA.on 8 (DA.aL 8 (some 75) (.loc 4 0) ([some (24,[(Sl3.v a1_0)]),some (47,[(Value.int .i64 x1_0),(Value.int .i64 x1_1),(Value.string x1_2),(Sl3.v x1_3)]),some (37,[(Sl3.v x9_0),(Sl3.v x9_1),(Sl3.v x9_2)]),none,some (69,[(Value.pointer a0),(Sl3.v x9_0),(Sl3.v x9_1),(Sl3.v x9_2),(Sl3.v a1_0),(Sl3.v (⟨some ⟨k15,0,none⟩,c14,c14⟩:Sl3)),(Sl3.v Sl3.nil)])]) false (DA.tPL 9 (some 16) (.loc 4 0) (DA.dn ?_)))))))))
         exact fun a w hs=>jsN (hs.sb 5)
      ·refine DA.aC 5 (some 72) (v:=(Value.int .i64 x13)) 8 #[(Value.pointer a0)] (zq hx_5) ?_
       refine DA.two 1 6 (by kernel_rfl) ?_ ?_
       ·refine DA.aL 1 (some 68) (.val (Value.agg #[(Sl3.v x9_0),(Sl3.v x9_1),(Sl3.v x9_2)])) ([some (24,[(Sl3.v a1_0)]),some (47,[(Value.int .i64 x1_0),(Value.int .i64 x1_1),(Value.string x1_2),(Sl3.v x1_3)]),some (37,[(Sl3.v x9_0),(Sl3.v x9_1),(Sl3.v x9_2)])]) false ?_
        refine DA.two 3 6 (by kernel_rfl) ?_ ?_
        ·refine DA.aH (H':=H12) 3 (some 70) (Value.agg #[(Sl3.v x9_0),(Sl3.v x9_1),(Sl3.v x9_2),(Sl3.v a1_0)]) (by kernel_rfl) (DA.on 6 (DA.actM (k1:=.i64) (k2:=.i64) 6 (some 73) 26 75 15 232 #[(Value.int .i64 0),(Value.bool false),(Value.bool false),(Sl3.v Sl3.nil),(Value.int .i64 0),(Sl3.v Sl3.nil),(Value.string (⟨#[]⟩:ByteArray)),(Value.int .i64 0),(Value.int .i64 0),(Value.int .i64 0),(Value.string (⟨#[]⟩:ByteArray)),(Sl3.v Sl3.nil),(Sl3.v Sl3.nil),(Sl3.v Sl3.nil),(Sl3.v Sl3.nil)] (.tmp 72) (.tmp 72) hx_6 (DA.on 7 (DA.pubK 3 _ _ hx_k15 (by kernel_rfl) rfl rfl (DA.aH (H':=H16) 7 (some 74) (Value.agg #[(Value.pointer a0),(Sl3.v x9_0),(Sl3.v x9_1),(Sl3.v x9_2),(Sl3.v a1_0),(Sl3.v (⟨some ⟨k15,0,none⟩,c14,c14⟩:Sl3)),(Sl3.v Sl3.nil)]) (by kernel_rfl) (DA.on 8 (DA.aL 8 (some 75) (.loc 4 0) ([some (24,[(Sl3.v a1_0)]),some (47,[(Value.int .i64 x1_0),(Value.int .i64 x1_1),(Value.string x1_2),(Sl3.v x1_3)]),some (37,[(Sl3.v x9_0),(Sl3.v x9_1),(Sl3.v x9_2)]),none,some (69,[(Value.pointer a0),(Sl3.v x9_0),(Sl3.v x9_1),(Sl3.v x9_2),(Sl3.v a1_0),(Sl3.v (⟨some ⟨k15,0,none⟩,c14,c14⟩:Sl3)),(Sl3.v Sl3.nil)])]) false (DA.tPL 9 (some 16) (.loc 4 0) (DA.dn ?_)))))))))
         exact fun a w hs=>jsN (hs.sb 5)
        ·refine DA.actM (k1:=.i64) (k2:=.i64) 6 (some 73) 26 75 15 232 #[(Value.int .i64 0),(Value.bool false),(Value.bool false),(Sl3.v Sl3.nil),(Value.int .i64 0),(Sl3.v Sl3.nil),(Value.string (⟨#[]⟩:ByteArray)),(Value.int .i64 0),(Value.int .i64 0),(Value.int .i64 0),(Value.string (⟨#[]⟩:ByteArray)),(Sl3.v Sl3.nil),(Sl3.v Sl3.nil),(Sl3.v Sl3.nil),(Sl3.v Sl3.nil)] (.tmp 72) (.tmp 72) hx_6 (DA.on 3 (DA.aH (H':=H12) 3 (some 70) (Value.agg #[(Sl3.v x9_0),(Sl3.v x9_1),(Sl3.v x9_2),(Sl3.v a1_0)]) (by kernel_rfl) (DA.on 7 (DA.pubK 3 _ _ hx_k15 (by kernel_rfl) rfl rfl (DA.aH (H':=H16) 7 (some 74) (Value.agg #[(Value.pointer a0),(Sl3.v x9_0),(Sl3.v x9_1),(Sl3.v x9_2),(Sl3.v a1_0),(Sl3.v (⟨some ⟨k15,0,none⟩,c14,c14⟩:Sl3)),(Sl3.v Sl3.nil)]) (by kernel_rfl) (DA.on 8 (DA.aL 8 (some 75) (.loc 4 0) ([some (24,[(Sl3.v a1_0)]),some (47,[(Value.int .i64 x1_0),(Value.int .i64 x1_1),(Value.string x1_2),(Sl3.v x1_3)]),some (37,[(Sl3.v x9_0),(Sl3.v x9_1),(Sl3.v x9_2)]),none,some (69,[(Value.pointer a0),(Sl3.v x9_0),(Sl3.v x9_1),(Sl3.v x9_2),(Sl3.v a1_0),(Sl3.v (⟨some ⟨k15,0,none⟩,c14,c14⟩:Sl3)),(Sl3.v Sl3.nil)])]) false (DA.tPL 9 (some 16) (.loc 4 0) (DA.dn ?_)))))))))
         exact fun a w hs=>jsN (hs.sb 5)
       ·refine DA.actM (k1:=.i64) (k2:=.i64) 6 (some 73) 26 75 15 232 #[(Value.int .i64 0),(Value.bool false),(Value.bool false),(Sl3.v Sl3.nil),(Value.int .i64 0),(Sl3.v Sl3.nil),(Value.string (⟨#[]⟩:ByteArray)),(Value.int .i64 0),(Value.int .i64 0),(Value.int .i64 0),(Value.string (⟨#[]⟩:ByteArray)),(Sl3.v Sl3.nil),(Sl3.v Sl3.nil),(Sl3.v Sl3.nil),(Sl3.v Sl3.nil)] (.tmp 72) (.tmp 72) hx_6 (DA.on 1 (DA.aL 1 (some 68) (.val (Value.agg #[(Sl3.v x9_0),(Sl3.v x9_1),(Sl3.v x9_2)])) ([some (24,[(Sl3.v a1_0)]),some (47,[(Value.int .i64 x1_0),(Value.int .i64 x1_1),(Value.string x1_2),(Sl3.v x1_3)]),some (37,[(Sl3.v x9_0),(Sl3.v x9_1),(Sl3.v x9_2)]),some (75,(mkCells #[(Value.int .i64 0),(Value.bool false),(Value.bool false),(Sl3.v Sl3.nil),(Value.int .i64 0),(Sl3.v Sl3.nil),(Value.string (⟨#[]⟩:ByteArray)),(Value.int .i64 0),(Value.int .i64 0),(Value.int .i64 0),(Value.string (⟨#[]⟩:ByteArray)),(Sl3.v Sl3.nil),(Sl3.v Sl3.nil),(Sl3.v Sl3.nil),(Sl3.v Sl3.nil)] 15 c14))]) false (DA.on 3 (DA.aH (H':=H12) 3 (some 70) (Value.agg #[(Sl3.v x9_0),(Sl3.v x9_1),(Sl3.v x9_2),(Sl3.v a1_0)]) (by kernel_rfl) (DA.on 7 (DA.pubK 3 _ _ hx_k15 (by kernel_rfl) rfl rfl (DA.aH (H':=H16) 7 (some 74) (Value.agg #[(Value.pointer a0),(Sl3.v x9_0),(Sl3.v x9_1),(Sl3.v x9_2),(Sl3.v a1_0),(Sl3.v (⟨some ⟨k15,0,none⟩,c14,c14⟩:Sl3)),(Sl3.v Sl3.nil)]) (by kernel_rfl) (DA.on 8 (DA.aL 8 (some 75) (.loc 4 0) ([some (24,[(Sl3.v a1_0)]),some (47,[(Value.int .i64 x1_0),(Value.int .i64 x1_1),(Value.string x1_2),(Sl3.v x1_3)]),some (37,[(Sl3.v x9_0),(Sl3.v x9_1),(Sl3.v x9_2)]),none,some (69,[(Value.pointer a0),(Sl3.v x9_0),(Sl3.v x9_1),(Sl3.v x9_2),(Sl3.v a1_0),(Sl3.v (⟨some ⟨k15,0,none⟩,c14,c14⟩:Sl3)),(Sl3.v Sl3.nil)])]) false ?_)))))))))
        refine DA.tPL 9 (some 16) (.loc 4 0) (DA.dn ?_)
        exact fun a w hs=>jsN (hs.sb 5)
     ·refine DA.aC 5 (some 72) (v:=(Value.int .i64 x13)) 8 #[(Value.pointer a0)] (zq hx_5) ?_
      refine DA.three 1 2 6 (by kernel_rfl) ?_ ?_ ?_
      ·refine DA.aL 1 (some 68) (.val (Value.agg #[(Sl3.v x9_0),(Sl3.v x9_1),(Sl3.v x9_2)])) ([some (24,[(Sl3.v a1_0)]),some (47,[(Value.int .i64 x1_0),(Value.int .i64 x1_1),(Value.string x1_2),(Sl3.v x1_3)]),some (37,[(Sl3.v x9_0),(Sl3.v x9_1),(Sl3.v x9_2)])]) false ?_
       refine DA.two 2 6 (by kernel_rfl) ?_ ?_
       ·refine DA.aL 2 (some 69) (.val (Value.agg #[(Sl3.v a1_0)])) ([some (24,[(Sl3.v a1_0)]),some (47,[(Value.int .i64 x1_0),(Value.int .i64 x1_1),(Value.string x1_2),(Sl3.v x1_3)]),some (37,[(Sl3.v x9_0),(Sl3.v x9_1),(Sl3.v x9_2)])]) false ?_
        refine DA.two 3 6 (by kernel_rfl) ?_ ?_
        ·refine DA.aH (H':=H12) 3 (some 70) (Value.agg #[(Sl3.v x9_0),(Sl3.v x9_1),(Sl3.v x9_2),(Sl3.v a1_0)]) (by kernel_rfl) (DA.on 6 (DA.actM (k1:=.i64) (k2:=.i64) 6 (some 73) 26 75 15 232 #[(Value.int .i64 0),(Value.bool false),(Value.bool false),(Sl3.v Sl3.nil),(Value.int .i64 0),(Sl3.v Sl3.nil),(Value.string (⟨#[]⟩:ByteArray)),(Value.int .i64 0),(Value.int .i64 0),(Value.int .i64 0),(Value.string (⟨#[]⟩:ByteArray)),(Sl3.v Sl3.nil),(Sl3.v Sl3.nil),(Sl3.v Sl3.nil),(Sl3.v Sl3.nil)] (.tmp 72) (.tmp 72) hx_6 (DA.on 7 (DA.pubK 3 _ _ hx_k15 (by kernel_rfl) rfl rfl (DA.aH (H':=H16) 7 (some 74) (Value.agg #[(Value.pointer a0),(Sl3.v x9_0),(Sl3.v x9_1),(Sl3.v x9_2),(Sl3.v a1_0),(Sl3.v (⟨some ⟨k15,0,none⟩,c14,c14⟩:Sl3)),(Sl3.v Sl3.nil)]) (by kernel_rfl) (DA.on 8 (DA.aL 8 (some 75) (.loc 4 0) ([some (24,[(Sl3.v a1_0)]),some (47,[(Value.int .i64 x1_0),(Value.int .i64 x1_1),(Value.string x1_2),(Sl3.v x1_3)]),some (37,[(Sl3.v x9_0),(Sl3.v x9_1),(Sl3.v x9_2)]),none,some (69,[(Value.pointer a0),(Sl3.v x9_0),(Sl3.v x9_1),(Sl3.v x9_2),(Sl3.v a1_0),(Sl3.v (⟨some ⟨k15,0,none⟩,c14,c14⟩:Sl3)),(Sl3.v Sl3.nil)])]) false (DA.tPL 9 (some 16) (.loc 4 0) (DA.dn ?_)))))))))
         exact fun a w hs=>jsN (hs.sb 5)
        ·refine DA.actM (k1:=.i64) (k2:=.i64) 6 (some 73) 26 75 15 232 #[(Value.int .i64 0),(Value.bool false),(Value.bool false),(Sl3.v Sl3.nil),(Value.int .i64 0),(Sl3.v Sl3.nil),(Value.string (⟨#[]⟩:ByteArray)),(Value.int .i64 0),(Value.int .i64 0),(Value.int .i64 0),(Value.string (⟨#[]⟩:ByteArray)),(Sl3.v Sl3.nil),(Sl3.v Sl3.nil),(Sl3.v Sl3.nil),(Sl3.v Sl3.nil)] (.tmp 72) (.tmp 72) hx_6 (DA.on 3 (DA.aH (H':=H12) 3 (some 70) (Value.agg #[(Sl3.v x9_0),(Sl3.v x9_1),(Sl3.v x9_2),(Sl3.v a1_0)]) (by kernel_rfl) (DA.on 7 (DA.pubK 3 _ _ hx_k15 (by kernel_rfl) rfl rfl (DA.aH (H':=H16) 7 (some 74) (Value.agg #[(Value.pointer a0),(Sl3.v x9_0),(Sl3.v x9_1),(Sl3.v x9_2),(Sl3.v a1_0),(Sl3.v (⟨some ⟨k15,0,none⟩,c14,c14⟩:Sl3)),(Sl3.v Sl3.nil)]) (by kernel_rfl) (DA.on 8 (DA.aL 8 (some 75) (.loc 4 0) ([some (24,[(Sl3.v a1_0)]),some (47,[(Value.int .i64 x1_0),(Value.int .i64 x1_1),(Value.string x1_2),(Sl3.v x1_3)]),some (37,[(Sl3.v x9_0),(Sl3.v x9_1),(Sl3.v x9_2)]),none,some (69,[(Value.pointer a0),(Sl3.v x9_0),(Sl3.v x9_1),(Sl3.v x9_2),(Sl3.v a1_0),(Sl3.v (⟨some ⟨k15,0,none⟩,c14,c14⟩:Sl3)),(Sl3.v Sl3.nil)])]) false (DA.tPL 9 (some 16) (.loc 4 0) (DA.dn ?_)))))))))
         exact fun a w hs=>jsN (hs.sb 5)
       ·refine DA.actM (k1:=.i64) (k2:=.i64) 6 (some 73) 26 75 15 232 #[(Value.int .i64 0),(Value.bool false),(Value.bool false),(Sl3.v Sl3.nil),(Value.int .i64 0),(Sl3.v Sl3.nil),(Value.string (⟨#[]⟩:ByteArray)),(Value.int .i64 0),(Value.int .i64 0),(Value.int .i64 0),(Value.string (⟨#[]⟩:ByteArray)),(Sl3.v Sl3.nil),(Sl3.v Sl3.nil),(Sl3.v Sl3.nil),(Sl3.v Sl3.nil)] (.tmp 72) (.tmp 72) hx_6 (DA.on 2 (DA.aL 2 (some 69) (.val (Value.agg #[(Sl3.v a1_0)])) ([some (24,[(Sl3.v a1_0)]),some (47,[(Value.int .i64 x1_0),(Value.int .i64 x1_1),(Value.string x1_2),(Sl3.v x1_3)]),some (37,[(Sl3.v x9_0),(Sl3.v x9_1),(Sl3.v x9_2)]),some (75,(mkCells #[(Value.int .i64 0),(Value.bool false),(Value.bool false),(Sl3.v Sl3.nil),(Value.int .i64 0),(Sl3.v Sl3.nil),(Value.string (⟨#[]⟩:ByteArray)),(Value.int .i64 0),(Value.int .i64 0),(Value.int .i64 0),(Value.string (⟨#[]⟩:ByteArray)),(Sl3.v Sl3.nil),(Sl3.v Sl3.nil),(Sl3.v Sl3.nil),(Sl3.v Sl3.nil)] 15 c14))]) false (DA.on 3 (DA.aH (H':=H12) 3 (some 70) (Value.agg #[(Sl3.v x9_0),(Sl3.v x9_1),(Sl3.v x9_2),(Sl3.v a1_0)]) (by kernel_rfl) (DA.on 7 (DA.pubK 3 _ _ hx_k15 (by kernel_rfl) rfl rfl (DA.aH (H':=H16) 7 (some 74) (Value.agg #[(Value.pointer a0),(Sl3.v x9_0),(Sl3.v x9_1),(Sl3.v x9_2),(Sl3.v a1_0),(Sl3.v (⟨some ⟨k15,0,none⟩,c14,c14⟩:Sl3)),(Sl3.v Sl3.nil)]) (by kernel_rfl) (DA.on 8 (DA.aL 8 (some 75) (.loc 4 0) ([some (24,[(Sl3.v a1_0)]),some (47,[(Value.int .i64 x1_0),(Value.int .i64 x1_1),(Value.string x1_2),(Sl3.v x1_3)]),some (37,[(Sl3.v x9_0),(Sl3.v x9_1),(Sl3.v x9_2)]),none,some (69,[(Value.pointer a0),(Sl3.v x9_0),(Sl3.v x9_1),(Sl3.v x9_2),(Sl3.v a1_0),(Sl3.v (⟨some ⟨k15,0,none⟩,c14,c14⟩:Sl3)),(Sl3.v Sl3.nil)])]) false ?_)))))))))
        refine DA.tPL 9 (some 16) (.loc 4 0) (DA.dn ?_)
        exact fun a w hs=>jsN (hs.sb 5)
      ·refine DA.aL 2 (some 69) (.val (Value.agg #[(Sl3.v a1_0)])) ([some (24,[(Sl3.v a1_0)]),some (47,[(Value.int .i64 x1_0),(Value.int .i64 x1_1),(Value.string x1_2),(Sl3.v x1_3)]),some (37,[(Sl3.v x9_0),(Sl3.v x9_1),(Sl3.v x9_2)])]) false ?_
       refine DA.two 1 6 (by kernel_rfl) ?_ ?_
       ·refine DA.aL 1 (some 68) (.val (Value.agg #[(Sl3.v x9_0),(Sl3.v x9_1),(Sl3.v x9_2)])) ([some (24,[(Sl3.v a1_0)]),some (47,[(Value.int .i64 x1_0),(Value.int .i64 x1_1),(Value.string x1_2),(Sl3.v x1_3)]),some (37,[(Sl3.v x9_0),(Sl3.v x9_1),(Sl3.v x9_2)])]) false ?_
        refine DA.two 3 6 (by kernel_rfl) ?_ ?_
        ·refine DA.aH (H':=H12) 3 (some 70) (Value.agg #[(Sl3.v x9_0),(Sl3.v x9_1),(Sl3.v x9_2),(Sl3.v a1_0)]) (by kernel_rfl) (DA.on 6 (DA.actM (k1:=.i64) (k2:=.i64) 6 (some 73) 26 75 15 232 #[(Value.int .i64 0),(Value.bool false),(Value.bool false),(Sl3.v Sl3.nil),(Value.int .i64 0),(Sl3.v Sl3.nil),(Value.string (⟨#[]⟩:ByteArray)),(Value.int .i64 0),(Value.int .i64 0),(Value.int .i64 0),(Value.string (⟨#[]⟩:ByteArray)),(Sl3.v Sl3.nil),(Sl3.v Sl3.nil),(Sl3.v Sl3.nil),(Sl3.v Sl3.nil)] (.tmp 72) (.tmp 72) hx_6 (DA.on 7 (DA.pubK 3 _ _ hx_k15 (by kernel_rfl) rfl rfl (DA.aH (H':=H16) 7 (some 74) (Value.agg #[(Value.pointer a0),(Sl3.v x9_0),(Sl3.v x9_1),(Sl3.v x9_2),(Sl3.v a1_0),(Sl3.v (⟨some ⟨k15,0,none⟩,c14,c14⟩:Sl3)),(Sl3.v Sl3.nil)]) (by kernel_rfl) (DA.on 8 (DA.aL 8 (some 75) (.loc 4 0) ([some (24,[(Sl3.v a1_0)]),some (47,[(Value.int .i64 x1_0),(Value.int .i64 x1_1),(Value.string x1_2),(Sl3.v x1_3)]),some (37,[(Sl3.v x9_0),(Sl3.v x9_1),(Sl3.v x9_2)]),none,some (69,[(Value.pointer a0),(Sl3.v x9_0),(Sl3.v x9_1),(Sl3.v x9_2),(Sl3.v a1_0),(Sl3.v (⟨some ⟨k15,0,none⟩,c14,c14⟩:Sl3)),(Sl3.v Sl3.nil)])]) false (DA.tPL 9 (some 16) (.loc 4 0) (DA.dn ?_)))))))))
         exact fun a w hs=>jsN (hs.sb 5)
        ·refine DA.actM (k1:=.i64) (k2:=.i64) 6 (some 73) 26 75 15 232 #[(Value.int .i64 0),(Value.bool false),(Value.bool false),(Sl3.v Sl3.nil),(Value.int .i64 0),(Sl3.v Sl3.nil),(Value.string (⟨#[]⟩:ByteArray)),(Value.int .i64 0),(Value.int .i64 0),(Value.int .i64 0),(Value.string (⟨#[]⟩:ByteArray)),(Sl3.v Sl3.nil),(Sl3.v Sl3.nil),(Sl3.v Sl3.nil),(Sl3.v Sl3.nil)] (.tmp 72) (.tmp 72) hx_6 (DA.on 3 (DA.aH (H':=H12) 3 (some 70) (Value.agg #[(Sl3.v x9_0),(Sl3.v x9_1),(Sl3.v x9_2),(Sl3.v a1_0)]) (by kernel_rfl) (DA.on 7 (DA.pubK 3 _ _ hx_k15 (by kernel_rfl) rfl rfl (DA.aH (H':=H16) 7 (some 74) (Value.agg #[(Value.pointer a0),(Sl3.v x9_0),(Sl3.v x9_1),(Sl3.v x9_2),(Sl3.v a1_0),(Sl3.v (⟨some ⟨k15,0,none⟩,c14,c14⟩:Sl3)),(Sl3.v Sl3.nil)]) (by kernel_rfl) (DA.on 8 (DA.aL 8 (some 75) (.loc 4 0) ([some (24,[(Sl3.v a1_0)]),some (47,[(Value.int .i64 x1_0),(Value.int .i64 x1_1),(Value.string x1_2),(Sl3.v x1_3)]),some (37,[(Sl3.v x9_0),(Sl3.v x9_1),(Sl3.v x9_2)]),none,some (69,[(Value.pointer a0),(Sl3.v x9_0),(Sl3.v x9_1),(Sl3.v x9_2),(Sl3.v a1_0),(Sl3.v (⟨some ⟨k15,0,none⟩,c14,c14⟩:Sl3)),(Sl3.v Sl3.nil)])]) false (DA.tPL 9 (some 16) (.loc 4 0) (DA.dn ?_)))))))))
         exact fun a w hs=>jsN (hs.sb 5)
       ·refine DA.actM (k1:=.i64) (k2:=.i64) 6 (some 73) 26 75 15 232 #[(Value.int .i64 0),(Value.bool false),(Value.bool false),(Sl3.v Sl3.nil),(Value.int .i64 0),(Sl3.v Sl3.nil),(Value.string (⟨#[]⟩:ByteArray)),(Value.int .i64 0),(Value.int .i64 0),(Value.int .i64 0),(Value.string (⟨#[]⟩:ByteArray)),(Sl3.v Sl3.nil),(Sl3.v Sl3.nil),(Sl3.v Sl3.nil),(Sl3.v Sl3.nil)] (.tmp 72) (.tmp 72) hx_6 (DA.on 1 (DA.aL 1 (some 68) (.val (Value.agg #[(Sl3.v x9_0),(Sl3.v x9_1),(Sl3.v x9_2)])) ([some (24,[(Sl3.v a1_0)]),some (47,[(Value.int .i64 x1_0),(Value.int .i64 x1_1),(Value.string x1_2),(Sl3.v x1_3)]),some (37,[(Sl3.v x9_0),(Sl3.v x9_1),(Sl3.v x9_2)]),some (75,(mkCells #[(Value.int .i64 0),(Value.bool false),(Value.bool false),(Sl3.v Sl3.nil),(Value.int .i64 0),(Sl3.v Sl3.nil),(Value.string (⟨#[]⟩:ByteArray)),(Value.int .i64 0),(Value.int .i64 0),(Value.int .i64 0),(Value.string (⟨#[]⟩:ByteArray)),(Sl3.v Sl3.nil),(Sl3.v Sl3.nil),(Sl3.v Sl3.nil),(Sl3.v Sl3.nil)] 15 c14))]) false (DA.on 3 (DA.aH (H':=H12) 3 (some 70) (Value.agg #[(Sl3.v x9_0),(Sl3.v x9_1),(Sl3.v x9_2),(Sl3.v a1_0)]) (by kernel_rfl) (DA.on 7 (DA.pubK 3 _ _ hx_k15 (by kernel_rfl) rfl rfl (DA.aH (H':=H16) 7 (some 74) (Value.agg #[(Value.pointer a0),(Sl3.v x9_0),(Sl3.v x9_1),(Sl3.v x9_2),(Sl3.v a1_0),(Sl3.v (⟨some ⟨k15,0,none⟩,c14,c14⟩:Sl3)),(Sl3.v Sl3.nil)]) (by kernel_rfl) (DA.on 8 (DA.aL 8 (some 75) (.loc 4 0) ([some (24,[(Sl3.v a1_0)]),some (47,[(Value.int .i64 x1_0),(Value.int .i64 x1_1),(Value.string x1_2),(Sl3.v x1_3)]),some (37,[(Sl3.v x9_0),(Sl3.v x9_1),(Sl3.v x9_2)]),none,some (69,[(Value.pointer a0),(Sl3.v x9_0),(Sl3.v x9_1),(Sl3.v x9_2),(Sl3.v a1_0),(Sl3.v (⟨some ⟨k15,0,none⟩,c14,c14⟩:Sl3)),(Sl3.v Sl3.nil)])]) false ?_)))))))))
        refine DA.tPL 9 (some 16) (.loc 4 0) (DA.dn ?_)
        exact fun a w hs=>jsN (hs.sb 5)
      ·refine DA.actM (k1:=.i64) (k2:=.i64) 6 (some 73) 26 75 15 232 #[(Value.int .i64 0),(Value.bool false),(Value.bool false),(Sl3.v Sl3.nil),(Value.int .i64 0),(Sl3.v Sl3.nil),(Value.string (⟨#[]⟩:ByteArray)),(Value.int .i64 0),(Value.int .i64 0),(Value.int .i64 0),(Value.string (⟨#[]⟩:ByteArray)),(Sl3.v Sl3.nil),(Sl3.v Sl3.nil),(Sl3.v Sl3.nil),(Sl3.v Sl3.nil)] (.tmp 72) (.tmp 72) hx_6 ?_
       refine DA.two 1 2 (by kernel_rfl) ?_ ?_
       ·refine DA.aL 1 (some 68) (.val (Value.agg #[(Sl3.v x9_0),(Sl3.v x9_1),(Sl3.v x9_2)])) ([some (24,[(Sl3.v a1_0)]),some (47,[(Value.int .i64 x1_0),(Value.int .i64 x1_1),(Value.string x1_2),(Sl3.v x1_3)]),some (37,[(Sl3.v x9_0),(Sl3.v x9_1),(Sl3.v x9_2)]),some (75,(mkCells #[(Value.int .i64 0),(Value.bool false),(Value.bool false),(Sl3.v Sl3.nil),(Value.int .i64 0),(Sl3.v Sl3.nil),(Value.string (⟨#[]⟩:ByteArray)),(Value.int .i64 0),(Value.int .i64 0),(Value.int .i64 0),(Value.string (⟨#[]⟩:ByteArray)),(Sl3.v Sl3.nil),(Sl3.v Sl3.nil),(Sl3.v Sl3.nil),(Sl3.v Sl3.nil)] 15 c14))]) false (DA.on 2 (DA.aL 2 (some 69) (.val (Value.agg #[(Sl3.v a1_0)])) ([some (24,[(Sl3.v a1_0)]),some (47,[(Value.int .i64 x1_0),(Value.int .i64 x1_1),(Value.string x1_2),(Sl3.v x1_3)]),some (37,[(Sl3.v x9_0),(Sl3.v x9_1),(Sl3.v x9_2)]),some (75,(mkCells #[(Value.int .i64 0),(Value.bool false),(Value.bool false),(Sl3.v Sl3.nil),(Value.int .i64 0),(Sl3.v Sl3.nil),(Value.string (⟨#[]⟩:ByteArray)),(Value.int .i64 0),(Value.int .i64 0),(Value.int .i64 0),(Value.string (⟨#[]⟩:ByteArray)),(Sl3.v Sl3.nil),(Sl3.v Sl3.nil),(Sl3.v Sl3.nil),(Sl3.v Sl3.nil)] 15 c14))]) false (DA.on 3 (DA.aH (H':=H12) 3 (some 70) (Value.agg #[(Sl3.v x9_0),(Sl3.v x9_1),(Sl3.v x9_2),(Sl3.v a1_0)]) (by kernel_rfl) (DA.on 7 (DA.pubK 3 _ _ hx_k15 (by kernel_rfl) rfl rfl (DA.aH (H':=H16) 7 (some 74) (Value.agg #[(Value.pointer a0),(Sl3.v x9_0),(Sl3.v x9_1),(Sl3.v x9_2),(Sl3.v a1_0),(Sl3.v (⟨some ⟨k15,0,none⟩,c14,c14⟩:Sl3)),(Sl3.v Sl3.nil)]) (by kernel_rfl) (DA.on 8 (DA.aL 8 (some 75) (.loc 4 0) ([some (24,[(Sl3.v a1_0)]),some (47,[(Value.int .i64 x1_0),(Value.int .i64 x1_1),(Value.string x1_2),(Sl3.v x1_3)]),some (37,[(Sl3.v x9_0),(Sl3.v x9_1),(Sl3.v x9_2)]),none,some (69,[(Value.pointer a0),(Sl3.v x9_0),(Sl3.v x9_1),(Sl3.v x9_2),(Sl3.v a1_0),(Sl3.v (⟨some ⟨k15,0,none⟩,c14,c14⟩:Sl3)),(Sl3.v Sl3.nil)])]) false ?_)))))))))
        refine DA.tPL 9 (some 16) (.loc 4 0) (DA.dn ?_)
        exact fun a w hs=>jsN (hs.sb 5)
       ·refine DA.aL 2 (some 69) (.val (Value.agg #[(Sl3.v a1_0)])) ([some (24,[(Sl3.v a1_0)]),some (47,[(Value.int .i64 x1_0),(Value.int .i64 x1_1),(Value.string x1_2),(Sl3.v x1_3)]),some (37,[(Sl3.v x9_0),(Sl3.v x9_1),(Sl3.v x9_2)]),some (75,(mkCells #[(Value.int .i64 0),(Value.bool false),(Value.bool false),(Sl3.v Sl3.nil),(Value.int .i64 0),(Sl3.v Sl3.nil),(Value.string (⟨#[]⟩:ByteArray)),(Value.int .i64 0),(Value.int .i64 0),(Value.int .i64 0),(Value.string (⟨#[]⟩:ByteArray)),(Sl3.v Sl3.nil),(Sl3.v Sl3.nil),(Sl3.v Sl3.nil),(Sl3.v Sl3.nil)] 15 c14))]) false (DA.on 1 (DA.aL 1 (some 68) (.val (Value.agg #[(Sl3.v x9_0),(Sl3.v x9_1),(Sl3.v x9_2)])) ([some (24,[(Sl3.v a1_0)]),some (47,[(Value.int .i64 x1_0),(Value.int .i64 x1_1),(Value.string x1_2),(Sl3.v x1_3)]),some (37,[(Sl3.v x9_0),(Sl3.v x9_1),(Sl3.v x9_2)]),some (75,(mkCells #[(Value.int .i64 0),(Value.bool false),(Value.bool false),(Sl3.v Sl3.nil),(Value.int .i64 0),(Sl3.v Sl3.nil),(Value.string (⟨#[]⟩:ByteArray)),(Value.int .i64 0),(Value.int .i64 0),(Value.int .i64 0),(Value.string (⟨#[]⟩:ByteArray)),(Sl3.v Sl3.nil),(Sl3.v Sl3.nil),(Sl3.v Sl3.nil),(Sl3.v Sl3.nil)] 15 c14))]) false (DA.on 3 (DA.aH (H':=H12) 3 (some 70) (Value.agg #[(Sl3.v x9_0),(Sl3.v x9_1),(Sl3.v x9_2),(Sl3.v a1_0)]) (by kernel_rfl) (DA.on 7 (DA.pubK 3 _ _ hx_k15 (by kernel_rfl) rfl rfl (DA.aH (H':=H16) 7 (some 74) (Value.agg #[(Value.pointer a0),(Sl3.v x9_0),(Sl3.v x9_1),(Sl3.v x9_2),(Sl3.v a1_0),(Sl3.v (⟨some ⟨k15,0,none⟩,c14,c14⟩:Sl3)),(Sl3.v Sl3.nil)]) (by kernel_rfl) (DA.on 8 (DA.aL 8 (some 75) (.loc 4 0) ([some (24,[(Sl3.v a1_0)]),some (47,[(Value.int .i64 x1_0),(Value.int .i64 x1_1),(Value.string x1_2),(Sl3.v x1_3)]),some (37,[(Sl3.v x9_0),(Sl3.v x9_1),(Sl3.v x9_2)]),none,some (69,[(Value.pointer a0),(Sl3.v x9_0),(Sl3.v x9_1),(Sl3.v x9_2),(Sl3.v a1_0),(Sl3.v (⟨some ⟨k15,0,none⟩,c14,c14⟩:Sl3)),(Sl3.v Sl3.nil)])]) false ?_)))))))))
        refine DA.tPL 9 (some 16) (.loc 4 0) (DA.dn ?_)
        exact fun a w hs=>jsN (hs.sb 5)
    ·refine WS.pubS 4 ([(0,.val (Value.pointer a0)),kS 2 a2,(16,.val (Value.pointer (some (⟨k17,0,none⟩:Addr))))]) ([some (24,[(Sl3.v a1_0)]),some (47,[(Value.int .i64 x1_0),(Value.int .i64 x1_1),(Value.string x1_2),(Sl3.v x1_3)]),some (37,[(Sl3.v x9_0),(Sl3.v x9_1),(Sl3.v x9_2)]),none,none]) hx_k17 (by kernel_rfl) (by kernel_rfl) (by kernel_rfl) (WS.nxt (WS.sq (WS.rg (RS.mS 2 [(77,.val (Value.pointer (some (⟨k17,0,none⟩:Addr)))),(76,.val (Value.pointer (some (⟨k17,0,none⟩:Addr))))] ?_))))
     obtain ⟨⟨x19,H20⟩,hx,h⟩:=bind_some h
     try dsimp only at h
     refine RS.cl (some 78) (v:=(Sl3.v x19)) 12 #[(Value.pointer (some (⟨k17,0,none⟩:Addr)))] (zbt hx) (RS.mS 2 [(80,.val (Value.pointer (some (Addr.add (⟨k17,0,none⟩:Addr) 6)))),(79,.val (Value.pointer (some (⟨k17,0,none⟩:Addr))))] ?_)
     obtain ⟨H21,hx,h⟩:=bind_some h
     refine RS.o (H':=H21) none undef (Abs.run_store1 (t:=67) (x:=.tmp 80) (y:=.tmp 78) (a:=(Addr.add (⟨k17,0,none⟩:Addr) 6)) (v:=(Sl3.v x19)) (by kernel_rfl) (by kernel_rfl) (by kernel_rfl) (by kernel_rfl) (by kernel_rfl) hx) (RS.dn (WS.nxt (WS.sq (WS.sq (WS.rg (RS.mS 2 [kS 82 a2,(81,.val (Value.pointer a0))] ?_))))))
     obtain ⟨⟨x22,H23⟩,hx,h⟩:=bind_some h
     try dsimp only at h
     refine RS.cl (some 83) (v:=(Sl3.v x22)) 13 #[(Value.pointer a0),(Sl3.v a2)] (zgy hx) (RS.mS 2 [kI 85 0,kI 84 (x22.n:Int)] (RS.dn (WS.nxt (WS.bk 2 ?_))))
     obtain ⟨o,hl,h⟩:=bind_some h
     rcases o with ⟨H34,v85_35⟩ | r
     ·try dsimp only at h
      refine WS.lI (zaz (L:=L) (E:=E) (m:=m) (H:=H)) (L.ok hl) 5 ?_
      clear hl
      refine fun a w hs=>bkE ((WS.nxt ?_ a w hs))
      refine WS.sq (WS.rg (RS.mS 1 [kS 21 Sl3.nil] (RS.dn (WS.nxt (WS.sq (WS.sq (WS.rg (RS.mS 3 [kI 108 0,kI 107 (a2.n:Int),kS 106 a2] (RS.dn ?_)))))))))
      refine WS.nxt (WS.bk 4 ?_)
      obtain ⟨o,hl,h⟩:=bind_some h
      rcases o with ⟨H50,v21_51,v108_52⟩ | r
      ·try dsimp only at h
       refine WS.lI (zb1 (L:=L) (E:=E) (m:=m) (H:=H)) (L.ok hl) 5 ?_
       clear hl
       refine fun a w hs=>bkE ((WS.nxt ?_ a w hs))
       refine WS.sq (WS.rg (RS.mS 3 [kI 7 0,kS 6 v21_51,kS 124 v21_51] (RS.dn (WS.nxt (WS.rt ?_)))))
       cases h
       exact fun a w hs=>rtR (rS hs)
      ·try dsimp only at h
       refine WS.lR (zb1 (L:=L) (E:=E) (m:=m) (H:=H)) (L.ok hl) 5 ?_
       cases h
       exact fun a w hq=>bkR (sqR (rtR hq))
     ·try dsimp only at h
      refine WS.lR (zaz (L:=L) (E:=E) (m:=m) (H:=H)) (L.ok hl) 5 ?_
      cases h
      exact fun a w hq=>bkR (sqR (rtR hq))
   ·refine WS.fx 65 true (ze hp) (WS.cT ?_)
    cases h
  ·try dsimp only at h
   refine WS.lR (zb9 (L:=L) (E:=E) (m:=m) (H:=H)) (L.ok hl) 2 ?_
   cases h
   exact fun a w hq=>bkR (sqR (rtR hq))
 ·refine RS.fx 31 true (za hp) ?_
  cases h
end Go.Proofs.YtdlnojjpbmibdaaGreatDoor
namespace Go.Proofs.YtdlnojjpbmibdaaGreatDoor
open Go Go.Abs
set_option maxRecDepth 100000
def zks:(Bool×AH)→Value
 | (r0,_)=>(Value.bool r0)
def zlk (_:AH):(Bool×AH)→AH:=fun r=>r.2
noncomputable def B6:Code:=(Tryz.f6.body).getD .skip
noncomputable def zdc (L:LC) (m:Nat) (H:AH):Option (Bool×AH) :=
 Option.bind (newR 47 1 #[(Value.int .i64 2),(Value.int .i64 0),(Value.string (⟨#[]⟩:ByteArray)),(Sl3.v Sl3.nil)] H) fun (s1,H2) =>
 Option.bind (newR 84 2 #[(Value.string (⟨#[120]⟩:ByteArray)),(Sl3.v Sl3.nil),(Value.int .i64 2),(Value.int .i64 0),(Value.string (⟨#[]⟩:ByteArray)),(Sl3.v Sl3.nil),(Value.string (⟨#[102]⟩:ByteArray)),(Sl3.v s1),(Value.int .i64 2),(Value.int .i64 0),(Value.string (⟨#[]⟩:ByteArray)),(Sl3.v Sl3.nil)] H2) fun (s3,H4) =>
 Option.bind (zjw L m H4 Sl3.nil Sl3.nil s3) fun (x5,x6,H7) =>
 if x6=0 then
  match x5 with
  | none =>
   none
  | some q8 =>
   Option.bind (z1f L m H7 (some q8) 11 (⟨#[120]⟩:ByteArray) false Sl3.nil 0 Sl3.nil 0 0 (⟨#[]⟩:ByteArray) Sl3.nil Sl3.nil Sl3.nil) fun (_,_,H11) =>
   Option.bind (newR 3 1 #[(Value.int .i64 0)] H11) fun (s12,H13) =>
   Option.bind (z1f L m H13 (some q8) 11 (⟨#[102]⟩:ByteArray) false Sl3.nil 0 Sl3.nil 0 0 (⟨#[]⟩:ByteArray) Sl3.nil Sl3.nil s12) fun (_,_,H16) =>
   Option.bind (z86 L m H16 2) fun (x17_0,x17_1,H18) =>
   Option.bind (z1f L m H18 (some q8) 20 (⟨#[]⟩:ByteArray) x17_0 x17_1 0 Sl3.nil 0 0 (⟨#[]⟩:ByteArray) Sl3.nil Sl3.nil Sl3.nil) fun (_,_,H21) =>
   Option.bind (newR 3 1 #[(Value.int .i64 0)] H21) fun (s22,H23) =>
   Option.bind (z40 L m H23 (some q8) 21 s22) fun (_,_,H26) =>
   Option.bind (newR 3 2 #[(Value.int .i64 3),(Value.int .i64 2)] H26) fun (s27,H28) =>
   Option.bind (z40 L m H28 (some q8) 25 s27) fun (_,_,H31) =>
   Option.bind (z86 L m H31 3) fun (x32_0,x32_1,H33) =>
   Option.bind (z86 L m H33 5) fun (x34_0,x34_1,H35) =>
   Option.bind (newR 75 1 #[(Value.int .i64 2),(Value.bool false),(Value.bool x32_0),(Sl3.v x32_1),(Value.int .i64 0),(Sl3.v Sl3.nil),(Value.string (⟨#[]⟩:ByteArray)),(Value.int .i64 0),(Value.int .i64 0),(Value.int .i64 0),(Value.string (⟨#[]⟩:ByteArray)),(Sl3.v Sl3.nil),(Sl3.v Sl3.nil),(Sl3.v Sl3.nil),(Sl3.v Sl3.nil)] H35) fun (s36,H37) =>
   Option.bind (newR 91 1 #[(Sl3.v s36),(Value.int .i64 2),(Value.bool false),(Value.bool x34_0),(Sl3.v x34_1),(Value.int .i64 0),(Sl3.v Sl3.nil),(Value.string (⟨#[]⟩:ByteArray)),(Value.int .i64 0),(Value.int .i64 0),(Value.int .i64 0),(Value.string (⟨#[]⟩:ByteArray)),(Sl3.v Sl3.nil),(Sl3.v Sl3.nil),(Sl3.v Sl3.nil),(Sl3.v Sl3.nil)] H37) fun (s38,H39) =>
   Option.bind (newR 89 2 #[(Value.string (⟨#[120]⟩:ByteArray)),(Sl3.v Sl3.nil),(Value.int .i64 2),(Value.bool false),(Value.bool x32_0),(Sl3.v x32_1),(Value.int .i64 0),(Sl3.v Sl3.nil),(Value.string (⟨#[]⟩:ByteArray)),(Value.int .i64 0),(Value.int .i64 0),(Value.int .i64 0),(Value.string (⟨#[]⟩:ByteArray)),(Sl3.v Sl3.nil),(Sl3.v Sl3.nil),(Sl3.v Sl3.nil),(Sl3.v Sl3.nil),(Value.string (⟨#[102]⟩:ByteArray)),(Sl3.v s38),(Value.int .i64 2),(Value.bool false),(Value.bool x32_0),(Sl3.v x32_1),(Value.int .i64 0),(Sl3.v Sl3.nil),(Value.string (⟨#[]⟩:ByteArray)),(Value.int .i64 0),(Value.int .i64 0),(Value.int .i64 0),(Value.string (⟨#[]⟩:ByteArray)),(Sl3.v Sl3.nil),(Sl3.v Sl3.nil),(Sl3.v Sl3.nil),(Sl3.v Sl3.nil)] H39) fun (s40,H41) =>
   Option.bind (newR 3 2 #[(Value.int .i64 1),(Value.int .i64 4)] H41) fun (s42,H43) =>
   Option.bind (zfj L m H43 (some q8) s40 s42) fun (x44,x45,H46) =>
   if x45=0 then
    if (x44.n:Int)=2 then
     Option.bind (idxA 15 x44 0) fun p47 =>
     Option.bind (rd (deI .i64) H46 (Addr.add p47 0)) fun x48_0 =>
     Option.bind (rd deB H46 (Addr.add p47 1)) fun x48_1 =>
     Option.bind (rd deB H46 (Addr.add p47 2)) fun x48_2 =>
     Option.bind (rd deSl H46 (Addr.add p47 3)) fun x48_3 =>
     Option.bind (rd (deI .i64) H46 (Addr.add p47 4)) fun x48_4 =>
     Option.bind (rd deSl H46 (Addr.add p47 5)) fun x48_5 =>
     Option.bind (rd deS H46 (Addr.add p47 6)) fun x48_6 =>
     Option.bind (rd (deI .i64) H46 (Addr.add p47 7)) fun x48_7 =>
     Option.bind (rd (deI .i64) H46 (Addr.add p47 8)) fun x48_8 =>
     Option.bind (rd (deI .i64) H46 (Addr.add p47 9)) fun x48_9 =>
     Option.bind (rd deS H46 (Addr.add p47 10)) fun x48_10 =>
     Option.bind (rd deSl H46 (Addr.add p47 11)) fun x48_11 =>
     Option.bind (rd deSl H46 (Addr.add p47 12)) fun x48_12 =>
     Option.bind (rd deSl H46 (Addr.add p47 13)) fun x48_13 =>
     Option.bind (rd deSl H46 (Addr.add p47 14)) fun x48_14 =>
     Option.bind (zfz L H46 x48_0 x48_1 x48_2 x48_3 x48_4 x48_5 x48_6 x48_7 x48_8 x48_9 x48_10 x48_11 x48_12 x48_13 x48_14 2 false x34_0 x34_1 0 Sl3.nil (⟨#[]⟩:ByteArray) 0 0 0 (⟨#[]⟩:ByteArray) Sl3.nil Sl3.nil Sl3.nil Sl3.nil) fun x49 =>
     if x49=true then
      Option.bind (idxA 15 x44 1) fun p50 =>
      Option.bind (rd (deI .i64) H46 (Addr.add p50 0)) fun x51_0 =>
      Option.bind (rd deB H46 (Addr.add p50 1)) fun x51_1 =>
      Option.bind (rd deB H46 (Addr.add p50 2)) fun x51_2 =>
      Option.bind (rd deSl H46 (Addr.add p50 3)) fun x51_3 =>
      Option.bind (rd (deI .i64) H46 (Addr.add p50 4)) fun x51_4 =>
      Option.bind (rd deSl H46 (Addr.add p50 5)) fun x51_5 =>
      Option.bind (rd deS H46 (Addr.add p50 6)) fun x51_6 =>
      Option.bind (rd (deI .i64) H46 (Addr.add p50 7)) fun x51_7 =>
      Option.bind (rd (deI .i64) H46 (Addr.add p50 8)) fun x51_8 =>
      Option.bind (rd (deI .i64) H46 (Addr.add p50 9)) fun x51_9 =>
      Option.bind (rd deS H46 (Addr.add p50 10)) fun x51_10 =>
      Option.bind (rd deSl H46 (Addr.add p50 11)) fun x51_11 =>
      Option.bind (rd deSl H46 (Addr.add p50 12)) fun x51_12 =>
      Option.bind (rd deSl H46 (Addr.add p50 13)) fun x51_13 =>
      Option.bind (rd deSl H46 (Addr.add p50 14)) fun x51_14 =>
      Option.bind (z86 L (Nat.max m H46.next) H46 (-2)) fun (x52_0,x52_1,H53) =>
      Option.bind (zfz L H53 x51_0 x51_1 x51_2 x51_3 x51_4 x51_5 x51_6 x51_7 x51_8 x51_9 x51_10 x51_11 x51_12 x51_13 x51_14 2 false x52_0 x52_1 0 Sl3.nil (⟨#[]⟩:ByteArray) 0 0 0 (⟨#[]⟩:ByteArray) Sl3.nil Sl3.nil Sl3.nil Sl3.nil) fun x54 =>
      some (x54,H53)
     else
      none
    else
     none
   else
    none
 else
  none
theorem zma {L:LC} {m:Nat} {H:AH} {r:(Bool×AH)} (h:zdc L m H=some r) :
  CallS Tryz.prog (NE.plain 167) m 6 #[] H (zks r) (zlk H r):=by
 refine CallS.mk (args:=[]) Tryz.func6 (B:=B6) (by kernel_rfl) (fun E _=>?_)
 unfold zdc at h
 refine WS.sq (WS.rg (RS.mS 1 [kB 0 false] (RS.dn (WS.nxt (WS.sq (WS.rg (RS.mL 3 [kL 1 0 0,kA 9 #[(Value.int .i64 2),(Value.int .i64 0),(Value.string (⟨#[]⟩:ByteArray)),(Sl3.v Sl3.nil)]] ([some (47,[(Value.int .i64 2),(Value.int .i64 0),(Value.string (⟨#[]⟩:ByteArray)),(Sl3.v Sl3.nil)])]) (RS.dn (WS.nxt ?_)))))))))
 refine WS.sq (WS.rg (RS.mS 3 [kA 13 #[(Value.int .i64 2),(Value.int .i64 0),(Value.string (⟨#[]⟩:ByteArray)),(Sl3.v Sl3.nil)],kA 12 #[(Value.string (⟨#[120]⟩:ByteArray)),(Sl3.v Sl3.nil),(Value.int .i64 2),(Value.int .i64 0),(Value.string (⟨#[]⟩:ByteArray)),(Sl3.v Sl3.nil)],kA 11 #[(Value.int .i64 2),(Value.int .i64 0),(Value.string (⟨#[]⟩:ByteArray)),(Sl3.v Sl3.nil)]] ?_))
 obtain ⟨⟨s1,H2⟩,hx,h⟩:=bind_some h
 try dsimp only at h
 refine RS.o (H':=H2) (some 14) (Sl3.v s1) (Abs.run_newR (by kernel_rfl) (by kernel_rfl) hx) (RS.mS 2 [kA 16 #[(Value.string (⟨#[102]⟩:ByteArray)),(Sl3.v s1),(Value.int .i64 2),(Value.int .i64 0),(Value.string (⟨#[]⟩:ByteArray)),(Sl3.v Sl3.nil)],kA 15 #[(Value.int .i64 2),(Value.int .i64 0),(Value.string (⟨#[]⟩:ByteArray)),(Sl3.v Sl3.nil)]] ?_)
 obtain ⟨⟨s3,H4⟩,hx,h⟩:=bind_some h
 try dsimp only at h
 refine RS.o (H':=H4) (some 17) (Sl3.v s3) (Abs.run_newR (by kernel_rfl) (by kernel_rfl) hx) (RS.mS 1 [kA 18 #[(Sl3.v Sl3.nil),(Sl3.v Sl3.nil),(Sl3.v s3)]] ?_)
 obtain ⟨⟨x5,x6,H7⟩,hx,h⟩:=bind_some h
 try dsimp only at h
 refine RS.cl (some 19) (v:=(Value.tuple #[(Value.pointer x5),(Value.int .i64 x6)])) 18 #[(Value.agg #[(Sl3.v Sl3.nil),(Sl3.v Sl3.nil),(Sl3.v s3)])] (zor hx) (RS.mS 5 [kI 3 x6,(2,.val (Value.pointer x5)),kI 21 x6,(20,.val (Value.pointer x5)),(10,.val (Value.tuple #[(Value.pointer x5),(Value.int .i64 x6)]))] (RS.dn (WS.nxt (WS.sq (WS.sq (WS.rg (RS.mS 3 [kB 24 (!decide (x6=0)),kB 23 (!decide (x6=0)),kI 22 x6] ?_)))))))
 rcases z0 h with ⟨hp,h⟩ | ⟨hp,h⟩
 ·refine RS.fx 24 false (zh hp) (RS.mS 1 [(25,.val (Value.pointer x5))] ?_)
  rcases x5 with _ | q8
  ·try dsimp only at h
   cases h
  ·try dsimp only at h
   refine RS.mS 2 [kB 27 false,kB 26 false] (RS.dn (WS.nxt (WS.cF (WS.sk (WS.nxt (WS.sq (WS.rg (RS.mS 2 [kA 29 #[(Value.int .i64 11),(Value.string (⟨#[120]⟩:ByteArray)),(Value.bool false),(Sl3.v Sl3.nil),(Value.int .i64 0),(Sl3.v Sl3.nil),(Value.int .i64 0),(Value.int .i64 0),(Value.string (⟨#[]⟩:ByteArray)),(Sl3.v Sl3.nil),(Sl3.v Sl3.nil),(Sl3.v Sl3.nil)],kP 28 q8] ?_))))))))
   obtain ⟨⟨x9,x10,H11⟩,hx,h⟩:=bind_some h
   try dsimp only at h
   refine RS.cl (some 30) (v:=(Value.tuple #[(Value.int .i64 x9),(Value.int .i64 x10)])) 9 #[(Value.pointer (some q8)),(Value.agg #[(Value.int .i64 11),(Value.string (⟨#[120]⟩:ByteArray)),(Value.bool false),(Sl3.v Sl3.nil),(Value.int .i64 0),(Sl3.v Sl3.nil),(Value.int .i64 0),(Value.int .i64 0),(Value.string (⟨#[]⟩:ByteArray)),(Sl3.v Sl3.nil),(Sl3.v Sl3.nil),(Sl3.v Sl3.nil)])] (z1o hx) (RS.dn (WS.nxt (WS.sq (WS.rg (RS.mS 1 [kP 31 q8] ?_)))))
   obtain ⟨⟨s12,H13⟩,hx,h⟩:=bind_some h
   try dsimp only at h
   refine RS.o (H':=H13) (some 32) (Sl3.v s12) (Abs.run_newR (by kernel_rfl) (by kernel_rfl) hx) (RS.mS 1 [kA 33 #[(Value.int .i64 11),(Value.string (⟨#[102]⟩:ByteArray)),(Value.bool false),(Sl3.v Sl3.nil),(Value.int .i64 0),(Sl3.v Sl3.nil),(Value.int .i64 0),(Value.int .i64 0),(Value.string (⟨#[]⟩:ByteArray)),(Sl3.v Sl3.nil),(Sl3.v Sl3.nil),(Sl3.v s12)]] ?_)
   obtain ⟨⟨x14,x15,H16⟩,hx,h⟩:=bind_some h
   try dsimp only at h
   refine RS.cl (some 34) (v:=(Value.tuple #[(Value.int .i64 x14),(Value.int .i64 x15)])) 9 #[(Value.pointer (some q8)),(Value.agg #[(Value.int .i64 11),(Value.string (⟨#[102]⟩:ByteArray)),(Value.bool false),(Sl3.v Sl3.nil),(Value.int .i64 0),(Sl3.v Sl3.nil),(Value.int .i64 0),(Value.int .i64 0),(Value.string (⟨#[]⟩:ByteArray)),(Sl3.v Sl3.nil),(Sl3.v Sl3.nil),(Sl3.v s12)])] (z1o hx) (RS.dn (WS.nxt (WS.sq (WS.rg (RS.mS 1 [kP 35 q8] ?_)))))
   obtain ⟨⟨x17_0,x17_1,H18⟩,hx,h⟩:=bind_some h
   try dsimp only at h
   refine RS.cl (some 36) (v:=(Value.agg #[(Value.bool x17_0),(Sl3.v x17_1)])) 19 #[(Value.int .i64 2)] (z8u hx) (RS.mS 1 [kA 37 #[(Value.int .i64 20),(Value.string (⟨#[]⟩:ByteArray)),(Value.bool x17_0),(Sl3.v x17_1),(Value.int .i64 0),(Sl3.v Sl3.nil),(Value.int .i64 0),(Value.int .i64 0),(Value.string (⟨#[]⟩:ByteArray)),(Sl3.v Sl3.nil),(Sl3.v Sl3.nil),(Sl3.v Sl3.nil)]] ?_)
   obtain ⟨⟨x19,x20,H21⟩,hx,h⟩:=bind_some h
   try dsimp only at h
   refine RS.cl (some 38) (v:=(Value.tuple #[(Value.int .i64 x19),(Value.int .i64 x20)])) 9 #[(Value.pointer (some q8)),(Value.agg #[(Value.int .i64 20),(Value.string (⟨#[]⟩:ByteArray)),(Value.bool x17_0),(Sl3.v x17_1),(Value.int .i64 0),(Sl3.v Sl3.nil),(Value.int .i64 0),(Value.int .i64 0),(Value.string (⟨#[]⟩:ByteArray)),(Sl3.v Sl3.nil),(Sl3.v Sl3.nil),(Sl3.v Sl3.nil)])] (z1o hx) (RS.dn (WS.nxt (WS.sq (WS.rg (RS.mS 1 [kP 39 q8] ?_)))))
   obtain ⟨⟨s22,H23⟩,hx,h⟩:=bind_some h
   try dsimp only at h
   refine RS.o (H':=H23) (some 40) (Sl3.v s22) (Abs.run_newR (by kernel_rfl) (by kernel_rfl) hx) ?_
   obtain ⟨⟨x24,x25,H26⟩,hx,h⟩:=bind_some h
   try dsimp only at h
   refine RS.cl (some 41) (v:=(Value.tuple #[(Value.int .i64 x24),(Value.int .i64 x25)])) 20 #[(Value.pointer (some q8)),(Value.int .i64 21),(Sl3.v s22)] (z95 hx) (RS.dn (WS.nxt (WS.sq (WS.rg (RS.mS 1 [kP 42 q8] ?_)))))
   obtain ⟨⟨s27,H28⟩,hx,h⟩:=bind_some h
   try dsimp only at h
   refine RS.o (H':=H28) (some 43) (Sl3.v s27) (Abs.run_newR (by kernel_rfl) (by kernel_rfl) hx) ?_
   obtain ⟨⟨x29,x30,H31⟩,hx,h⟩:=bind_some h
   try dsimp only at h
   refine RS.cl (some 44) (v:=(Value.tuple #[(Value.int .i64 x29),(Value.int .i64 x30)])) 20 #[(Value.pointer (some q8)),(Value.int .i64 25),(Sl3.v s27)] (z95 hx) (RS.dn (WS.nxt (WS.sq (WS.rg ?_))))
   obtain ⟨⟨x32_0,x32_1,H33⟩,hx,h⟩:=bind_some h
   try dsimp only at h
   refine RS.cl (some 45) (v:=(Value.agg #[(Value.bool x32_0),(Sl3.v x32_1)])) 19 #[(Value.int .i64 3)] (z8u hx) (RS.mS 1 [kA 46 #[(Value.int .i64 2),(Value.bool false),(Value.bool x32_0),(Sl3.v x32_1),(Value.int .i64 0),(Sl3.v Sl3.nil),(Value.string (⟨#[]⟩:ByteArray)),(Value.int .i64 0),(Value.int .i64 0),(Value.int .i64 0),(Value.string (⟨#[]⟩:ByteArray)),(Sl3.v Sl3.nil),(Sl3.v Sl3.nil),(Sl3.v Sl3.nil),(Sl3.v Sl3.nil)]] ?_)
   obtain ⟨⟨x34_0,x34_1,H35⟩,hx,h⟩:=bind_some h
   try dsimp only at h
   refine RS.cl (some 47) (v:=(Value.agg #[(Value.bool x34_0),(Sl3.v x34_1)])) 19 #[(Value.int .i64 5)] (z8u hx) (RS.mL 5 [kL 5 2 0,kL 4 1 0,kA 48 #[(Value.int .i64 2),(Value.bool false),(Value.bool x34_0),(Sl3.v x34_1),(Value.int .i64 0),(Sl3.v Sl3.nil),(Value.string (⟨#[]⟩:ByteArray)),(Value.int .i64 0),(Value.int .i64 0),(Value.int .i64 0),(Value.string (⟨#[]⟩:ByteArray)),(Sl3.v Sl3.nil),(Sl3.v Sl3.nil),(Sl3.v Sl3.nil),(Sl3.v Sl3.nil)]] ([some (47,[(Value.int .i64 2),(Value.int .i64 0),(Value.string (⟨#[]⟩:ByteArray)),(Sl3.v Sl3.nil)]),some (75,[(Value.int .i64 2),(Value.bool false),(Value.bool x32_0),(Sl3.v x32_1),(Value.int .i64 0),(Sl3.v Sl3.nil),(Value.string (⟨#[]⟩:ByteArray)),(Value.int .i64 0),(Value.int .i64 0),(Value.int .i64 0),(Value.string (⟨#[]⟩:ByteArray)),(Sl3.v Sl3.nil),(Sl3.v Sl3.nil),(Sl3.v Sl3.nil),(Sl3.v Sl3.nil)]),some (75,[(Value.int .i64 2),(Value.bool false),(Value.bool x34_0),(Sl3.v x34_1),(Value.int .i64 0),(Sl3.v Sl3.nil),(Value.string (⟨#[]⟩:ByteArray)),(Value.int .i64 0),(Value.int .i64 0),(Value.int .i64 0),(Value.string (⟨#[]⟩:ByteArray)),(Sl3.v Sl3.nil),(Sl3.v Sl3.nil),(Sl3.v Sl3.nil),(Sl3.v Sl3.nil)])]) (RS.dn (WS.nxt (WS.sq (WS.rg (RS.mS 3 [kA 51 #[(Value.int .i64 2),(Value.bool false),(Value.bool x32_0),(Sl3.v x32_1),(Value.int .i64 0),(Sl3.v Sl3.nil),(Value.string (⟨#[]⟩:ByteArray)),(Value.int .i64 0),(Value.int .i64 0),(Value.int .i64 0),(Value.string (⟨#[]⟩:ByteArray)),(Sl3.v Sl3.nil),(Sl3.v Sl3.nil),(Sl3.v Sl3.nil),(Sl3.v Sl3.nil)],kA 50 #[(Value.string (⟨#[120]⟩:ByteArray)),(Sl3.v Sl3.nil),(Value.int .i64 2),(Value.bool false),(Value.bool x32_0),(Sl3.v x32_1),(Value.int .i64 0),(Sl3.v Sl3.nil),(Value.string (⟨#[]⟩:ByteArray)),(Value.int .i64 0),(Value.int .i64 0),(Value.int .i64 0),(Value.string (⟨#[]⟩:ByteArray)),(Sl3.v Sl3.nil),(Sl3.v Sl3.nil),(Sl3.v Sl3.nil),(Sl3.v Sl3.nil)],kA 49 #[(Value.int .i64 2),(Value.bool false),(Value.bool x32_0),(Sl3.v x32_1),(Value.int .i64 0),(Sl3.v Sl3.nil),(Value.string (⟨#[]⟩:ByteArray)),(Value.int .i64 0),(Value.int .i64 0),(Value.int .i64 0),(Value.string (⟨#[]⟩:ByteArray)),(Sl3.v Sl3.nil),(Sl3.v Sl3.nil),(Sl3.v Sl3.nil),(Sl3.v Sl3.nil)]] ?_))))))
   obtain ⟨⟨s36,H37⟩,hx,h⟩:=bind_some h
   try dsimp only at h
   refine RS.o (H':=H37) (some 52) (Sl3.v s36) (Abs.run_newR (by kernel_rfl) (by kernel_rfl) hx) (RS.mS 2 [kA 54 #[(Sl3.v s36),(Value.int .i64 2),(Value.bool false),(Value.bool x34_0),(Sl3.v x34_1),(Value.int .i64 0),(Sl3.v Sl3.nil),(Value.string (⟨#[]⟩:ByteArray)),(Value.int .i64 0),(Value.int .i64 0),(Value.int .i64 0),(Value.string (⟨#[]⟩:ByteArray)),(Sl3.v Sl3.nil),(Sl3.v Sl3.nil),(Sl3.v Sl3.nil),(Sl3.v Sl3.nil)],kA 53 #[(Value.int .i64 2),(Value.bool false),(Value.bool x34_0),(Sl3.v x34_1),(Value.int .i64 0),(Sl3.v Sl3.nil),(Value.string (⟨#[]⟩:ByteArray)),(Value.int .i64 0),(Value.int .i64 0),(Value.int .i64 0),(Value.string (⟨#[]⟩:ByteArray)),(Sl3.v Sl3.nil),(Sl3.v Sl3.nil),(Sl3.v Sl3.nil),(Sl3.v Sl3.nil)]] ?_)
   obtain ⟨⟨s38,H39⟩,hx,h⟩:=bind_some h
   try dsimp only at h
   refine RS.o (H':=H39) (some 55) (Sl3.v s38) (Abs.run_newR (by kernel_rfl) (by kernel_rfl) hx) (RS.mS 2 [kA 57 #[(Value.string (⟨#[102]⟩:ByteArray)),(Sl3.v s38),(Value.int .i64 2),(Value.bool false),(Value.bool x32_0),(Sl3.v x32_1),(Value.int .i64 0),(Sl3.v Sl3.nil),(Value.string (⟨#[]⟩:ByteArray)),(Value.int .i64 0),(Value.int .i64 0),(Value.int .i64 0),(Value.string (⟨#[]⟩:ByteArray)),(Sl3.v Sl3.nil),(Sl3.v Sl3.nil),(Sl3.v Sl3.nil),(Sl3.v Sl3.nil)],kA 56 #[(Value.int .i64 2),(Value.bool false),(Value.bool x32_0),(Sl3.v x32_1),(Value.int .i64 0),(Sl3.v Sl3.nil),(Value.string (⟨#[]⟩:ByteArray)),(Value.int .i64 0),(Value.int .i64 0),(Value.int .i64 0),(Value.string (⟨#[]⟩:ByteArray)),(Sl3.v Sl3.nil),(Sl3.v Sl3.nil),(Sl3.v Sl3.nil),(Sl3.v Sl3.nil)]] ?_)
   obtain ⟨⟨s40,H41⟩,hx,h⟩:=bind_some h
   try dsimp only at h
   refine RS.o (H':=H41) (some 58) (Sl3.v s40) (Abs.run_newR (by kernel_rfl) (by kernel_rfl) hx) (RS.mL 3 [kL 6 3 0,kA 59 #[(Sl3.v s40)]] ([some (47,[(Value.int .i64 2),(Value.int .i64 0),(Value.string (⟨#[]⟩:ByteArray)),(Sl3.v Sl3.nil)]),some (75,[(Value.int .i64 2),(Value.bool false),(Value.bool x32_0),(Sl3.v x32_1),(Value.int .i64 0),(Sl3.v Sl3.nil),(Value.string (⟨#[]⟩:ByteArray)),(Value.int .i64 0),(Value.int .i64 0),(Value.int .i64 0),(Value.string (⟨#[]⟩:ByteArray)),(Sl3.v Sl3.nil),(Sl3.v Sl3.nil),(Sl3.v Sl3.nil),(Sl3.v Sl3.nil)]),some (75,[(Value.int .i64 2),(Value.bool false),(Value.bool x34_0),(Sl3.v x34_1),(Value.int .i64 0),(Sl3.v Sl3.nil),(Value.string (⟨#[]⟩:ByteArray)),(Value.int .i64 0),(Value.int .i64 0),(Value.int .i64 0),(Value.string (⟨#[]⟩:ByteArray)),(Sl3.v Sl3.nil),(Sl3.v Sl3.nil),(Sl3.v Sl3.nil),(Sl3.v Sl3.nil)]),some (24,[(Sl3.v s40)])]) (RS.dn (WS.nxt (WS.sq (WS.rg (RS.mS 2 [kA 62 #[(Sl3.v s40)],kP 61 q8] ?_))))))
   obtain ⟨⟨s42,H43⟩,hx,h⟩:=bind_some h
   try dsimp only at h
   refine RS.o (H':=H43) (some 63) (Sl3.v s42) (Abs.run_newR (by kernel_rfl) (by kernel_rfl) hx) ?_
   obtain ⟨⟨x44,x45,H46⟩,hx,h⟩:=bind_some h
   try dsimp only at h
   refine RS.cl (some 64) (v:=(Value.tuple #[(Sl3.v x44),(Value.int .i64 x45)])) 4 #[(Value.pointer (some q8)),(Value.agg #[(Sl3.v s40)]),(Sl3.v s42)] (zmv hx) (RS.mS 5 [kI 8 x45,kS 7 x44,kI 66 x45,kS 65 x44,(60,.val (Value.tuple #[(Sl3.v x44),(Value.int .i64 x45)]))] (RS.dn (WS.nxt (WS.sq ?_))))
   refine WS.dr [0,1,2,3,4,5,6,7,8,9,10,11] [0,1,3,7,15,31,63,127,255,511,1023,255,4095,8191,16383,32767,65535,131071,32767,294911,1048575,2097151,4194303] 23 (fun hcl=>?_)
   refine DA.tK 0 (some 67) (Value.int .i64 x45) (DA.tK 1 (some 68) (Value.bool (decide (x45=0))) (DA.tK 2 (some 69) (Value.bool (decide (x45=0))) ?_))
   rcases z0 h with ⟨hp,h⟩ | ⟨hp,h⟩
   ·refine DA.fx 69 true (decide_eq_true hp) (DA.tK 3 (some 70) (Sl3.v x44) (DA.tK 4 (some 71) (Value.int .i64 (x44.n:Int)) (DA.tK 5 (some 72) (Value.bool (decide ((x44.n:Int)=2))) (DA.tK 6 (some 73) (Value.bool (decide ((x44.n:Int)=2))) (DA.tK 7 (some 74) (Value.bool (decide ((x44.n:Int)=2))) ?_)))))
    rcases z0 h with ⟨hp,h⟩ | ⟨hp,h⟩
    ·refine DA.fx 74 true (decide_eq_true hp) (DA.tK 8 (some 75) (Sl3.v x44) ?_)
     obtain ⟨p47,hx,h⟩:=bind_some h
     refine DA.tD 9 (some 76) (Value.pointer (some p47)) (Abs.det_idx (s:=x44) (k:=.i64) (t:=26) (e:=75) (x:=.tmp 75) (y:=.const (Value.int .i64 0)) (by kernel_rfl) (by kernel_rfl) (by kernel_rfl) (by kernel_rfl) (by kernel_rfl) hx) ?_
     obtain ⟨x48_0,hx0,h⟩:=bind_some h
     obtain ⟨x48_1,hx1,h⟩:=bind_some h
     obtain ⟨x48_2,hx2,h⟩:=bind_some h
     obtain ⟨x48_3,hx3,h⟩:=bind_some h
     obtain ⟨x48_4,hx4,h⟩:=bind_some h
     obtain ⟨x48_5,hx5,h⟩:=bind_some h
     obtain ⟨x48_6,hx6,h⟩:=bind_some h
     obtain ⟨x48_7,hx7,h⟩:=bind_some h
     obtain ⟨x48_8,hx8,h⟩:=bind_some h
     obtain ⟨x48_9,hx9,h⟩:=bind_some h
     obtain ⟨x48_10,hx10,h⟩:=bind_some h
     obtain ⟨x48_11,hx11,h⟩:=bind_some h
     obtain ⟨x48_12,hx12,h⟩:=bind_some h
     obtain ⟨x48_13,hx13,h⟩:=bind_some h
     obtain ⟨x48_14,hx14,h⟩:=bind_some h
     refine DA.tD 10 (some 77) (Value.agg #[(Value.int .i64 x48_0),(Value.bool x48_1),(Value.bool x48_2),(Sl3.v x48_3),(Value.int .i64 x48_4),(Sl3.v x48_5),(Value.string x48_6),(Value.int .i64 x48_7),(Value.int .i64 x48_8),(Value.int .i64 x48_9),(Value.string x48_10),(Sl3.v x48_11),(Sl3.v x48_12),(Sl3.v x48_13),(Sl3.v x48_14)]) (Abs.det_loadA (t:=75) (x:=.tmp 76) (a:=p47) (k:=15) (by kernel_rfl) (by kernel_rfl) (by kernel_rfl) (by kernel_rfl) (z2 (z1 hx0 z5) (z2 (z1 hx1 z13) (z2 (z1 hx2 z13) (z2 (z1 hx3 z3) (z2 (z1 hx4 z5) (z2 (z1 hx5 z3) (z2 (z1 hx6 z9) (z2 (z1 hx7 z5) (z2 (z1 hx8 z5) (z2 (z1 hx9 z5) (z2 (z1 hx10 z9) (z2 (z1 hx11 z3) (z2 (z1 hx12 z3) (z2 (z1 hx13 z3) (z2 (z1 hx14 z3) zm)))))))))))))))) (DA.tL 11 (some 78) (.val (Value.agg #[(Value.int .i64 2),(Value.bool false),(Value.bool x34_0),(Sl3.v x34_1),(Value.int .i64 0),(Sl3.v Sl3.nil),(Value.string (⟨#[]⟩:ByteArray)),(Value.int .i64 0),(Value.int .i64 0),(Value.int .i64 0),(Value.string (⟨#[]⟩:ByteArray)),(Sl3.v Sl3.nil),(Sl3.v Sl3.nil),(Sl3.v Sl3.nil),(Sl3.v Sl3.nil)])) ?_)
     obtain ⟨x49,hx,h⟩:=bind_some h
     refine DA.on 12 (DA.aC 12 (some 79) (v:=(Value.bool x49)) 21 #[(Value.agg #[(Value.int .i64 x48_0),(Value.bool x48_1),(Value.bool x48_2),(Sl3.v x48_3),(Value.int .i64 x48_4),(Sl3.v x48_5),(Value.string x48_6),(Value.int .i64 x48_7),(Value.int .i64 x48_8),(Value.int .i64 x48_9),(Value.string x48_10),(Sl3.v x48_11),(Sl3.v x48_12),(Sl3.v x48_13),(Sl3.v x48_14)]),(Value.agg #[(Value.int .i64 2),(Value.bool false),(Value.bool x34_0),(Sl3.v x34_1),(Value.int .i64 0),(Sl3.v Sl3.nil),(Value.string (⟨#[]⟩:ByteArray)),(Value.int .i64 0),(Value.int .i64 0),(Value.int .i64 0),(Value.string (⟨#[]⟩:ByteArray)),(Sl3.v Sl3.nil),(Sl3.v Sl3.nil),(Sl3.v Sl3.nil),(Sl3.v Sl3.nil)])] (zgc hx) (DA.tP 13 (some 80) (Value.bool x49) (DA.tP 14 (some 81) (Value.bool x49) ?_)))
     rcases z0 h with ⟨hp,h⟩ | ⟨hp,h⟩
     ·refine DA.fx 81 true hp (DA.tP 15 (some 82) (Sl3.v x44) ?_)
      obtain ⟨p50,hx,h⟩:=bind_some h
      refine DA.tPx 16 (some 83) (Value.pointer (some p50)) (Abs.det_idx (s:=x44) (k:=.i64) (t:=26) (e:=75) (x:=.tmp 82) (y:=.const (Value.int .i64 1)) (by kernel_rfl) (by kernel_rfl) (by kernel_rfl) (by kernel_rfl) (by kernel_rfl) hx) (DA.restart [0,1,2,3,4,5,6,7,8,9,10,11,17] (by kernel_rfl) ?_)
      obtain ⟨x51_0,hx0,h⟩:=bind_some h
      obtain ⟨x51_1,hx1,h⟩:=bind_some h
      obtain ⟨x51_2,hx2,h⟩:=bind_some h
      obtain ⟨x51_3,hx3,h⟩:=bind_some h
      obtain ⟨x51_4,hx4,h⟩:=bind_some h
      obtain ⟨x51_5,hx5,h⟩:=bind_some h
      obtain ⟨x51_6,hx6,h⟩:=bind_some h
      obtain ⟨x51_7,hx7,h⟩:=bind_some h
      obtain ⟨x51_8,hx8,h⟩:=bind_some h
      obtain ⟨x51_9,hx9,h⟩:=bind_some h
      obtain ⟨x51_10,hx10,h⟩:=bind_some h
      obtain ⟨x51_11,hx11,h⟩:=bind_some h
      obtain ⟨x51_12,hx12,h⟩:=bind_some h
      obtain ⟨x51_13,hx13,h⟩:=bind_some h
      obtain ⟨x51_14,hx14,h⟩:=bind_some h
      refine DA.tD 17 (some 84) (Value.agg #[(Value.int .i64 x51_0),(Value.bool x51_1),(Value.bool x51_2),(Sl3.v x51_3),(Value.int .i64 x51_4),(Sl3.v x51_5),(Value.string x51_6),(Value.int .i64 x51_7),(Value.int .i64 x51_8),(Value.int .i64 x51_9),(Value.string x51_10),(Sl3.v x51_11),(Sl3.v x51_12),(Sl3.v x51_13),(Sl3.v x51_14)]) (Abs.det_loadA (t:=75) (x:=.tmp 83) (a:=p50) (k:=15) (by kernel_rfl) (by kernel_rfl) (by kernel_rfl) (by kernel_rfl) (z2 (z1 hx0 z5) (z2 (z1 hx1 z13) (z2 (z1 hx2 z13) (z2 (z1 hx3 z3) (z2 (z1 hx4 z5) (z2 (z1 hx5 z3) (z2 (z1 hx6 z9) (z2 (z1 hx7 z5) (z2 (z1 hx8 z5) (z2 (z1 hx9 z5) (z2 (z1 hx10 z9) (z2 (z1 hx11 z3) (z2 (z1 hx12 z3) (z2 (z1 hx13 z3) (z2 (z1 hx14 z3) zm)))))))))))))))) ?_
      obtain ⟨⟨x52_0,x52_1,H53⟩,hx,h⟩:=bind_some h
      try dsimp only at h
      refine DA.on 18 (DA.aCj 18 (some 85) true (v:=(Value.agg #[(Value.bool x52_0),(Sl3.v x52_1)])) 19 #[(Value.int .i64 (-2))] (z8u hx) (DA.on 19 (DA.aHj (H':=H53) 19 (some 86) false (Value.agg #[(Value.int .i64 2),(Value.bool false),(Value.bool x52_0),(Sl3.v x52_1),(Value.int .i64 0),(Sl3.v Sl3.nil),(Value.string (⟨#[]⟩:ByteArray)),(Value.int .i64 0),(Value.int .i64 0),(Value.int .i64 0),(Value.string (⟨#[]⟩:ByteArray)),(Sl3.v Sl3.nil),(Sl3.v Sl3.nil),(Sl3.v Sl3.nil),(Sl3.v Sl3.nil)]) (by kernel_rfl) ?_)))
      obtain ⟨x54,hx,h⟩:=bind_some h
      refine DA.on 20 (DA.aC 20 (some 87) (v:=(Value.bool x54)) 21 #[(Value.agg #[(Value.int .i64 x51_0),(Value.bool x51_1),(Value.bool x51_2),(Sl3.v x51_3),(Value.int .i64 x51_4),(Sl3.v x51_5),(Value.string x51_6),(Value.int .i64 x51_7),(Value.int .i64 x51_8),(Value.int .i64 x51_9),(Value.string x51_10),(Sl3.v x51_11),(Sl3.v x51_12),(Sl3.v x51_13),(Sl3.v x51_14)]),(Value.agg #[(Value.int .i64 2),(Value.bool false),(Value.bool x52_0),(Sl3.v x52_1),(Value.int .i64 0),(Sl3.v Sl3.nil),(Value.string (⟨#[]⟩:ByteArray)),(Value.int .i64 0),(Value.int .i64 0),(Value.int .i64 0),(Value.string (⟨#[]⟩:ByteArray)),(Sl3.v Sl3.nil),(Sl3.v Sl3.nil),(Sl3.v Sl3.nil),(Sl3.v Sl3.nil)])] (zgc hx) (DA.tP 21 (some 88) (Value.bool x54) (DA.tP 22 (some 0) (Value.bool x54) (DA.dn (WS.nxt (WS.rt ?_))))))
      cases h
      exact fun a w hs=>rtR (rS hs)
     ·refine DA.fx 81 false (b_not hp) ?_
      cases h
    ·refine DA.fx 74 false (decide_eq_false hp) ?_
     cases h
   ·refine DA.fx 69 false (decide_eq_false hp) ?_
    cases h
 ·refine RS.fx 24 true (ze hp) ?_
  cases h
def zdb:(Bool×AH)→Value
 | (r0,_)=>(Value.bool r0)
def zek (_:AH):(Bool×AH)→AH:=fun r=>r.2
noncomputable def B3:Code:=(Tryz.f3.body).getD .skip
noncomputable def z2d (L:LC) (m:Nat) (H:AH):Option (Bool×AH) :=
 Option.bind (z72 L m H none) fun (x1,x2,H3) =>
 Option.bind (newB 41 [(Sl3.v Sl3.nil),(Sl3.v Sl3.nil),(Sl3.v Sl3.nil),(Sl3.v Sl3.nil),(Value.map none)] H3) fun (p4,H5) =>
 Option.bind (zbe L m H5 (some p4)) fun (x6,x7,H8) =>
 if x2=4 then
  if x7=4 then
   if (x1.n:Int)=0 then
    if x6=true then
     none
    else
     Option.bind (zdc L m H8) fun (x9,H10) =>
     some (x9,H10)
   else
    none
  else
   none
 else
  none
theorem zeo {L:LC} {m:Nat} {H:AH} {r:(Bool×AH)} (h:z2d L m H=some r) :
  CallS Tryz.prog (NE.plain 167) m 3 #[(Value.agg #[anyV]),anyV] H (zdb r) (zek H r):=by
 refine CallS.mk (args:=[(Value.agg #[anyV]),anyV]) Tryz.func3 (B:=B3) (by kernel_rfl) (fun E _=>?_)
 unfold z2d at h
 refine WS.sq (WS.rg (RS.mL 2 [kB 4 false,kL 2 0 0] ([some (24,[anyV])]) (RS.dn (WS.nxt (WS.sq (WS.rg (RS.mS 2 [(11,.val anyV),kA 10 #[anyV]] ?_)))))))
 obtain ⟨⟨x1,x2,H3⟩,hx,h⟩:=bind_some h
 try dsimp only at h
 refine RS.cl (some 12) (v:=(Value.tuple #[(Sl3.v x1),(Value.int .i64 x2)])) 4 #[(Value.pointer none),(Value.agg #[anyV]),anyV] (zcs hx) (RS.mS 5 [kI 6 x2,kS 5 x1,kI 14 x2,kS 13 x1,(9,.val (Value.tuple #[(Sl3.v x1),(Value.int .i64 x2)]))] (RS.dn (WS.nxt (WS.sq (WS.rg (RS.mS 1 [kA 16 #[(Sl3.v Sl3.nil),(Sl3.v Sl3.nil),(Sl3.v Sl3.nil),(Sl3.v Sl3.nil),(Value.map none)]] ?_))))))
 obtain ⟨⟨p4,H5⟩,hx,h⟩:=bind_some h
 try dsimp only at h
 refine RS.o (H':=H5) (some 17) (Value.pointer (some p4)) (Abs.run_newB (by kernel_rfl) hx) (RS.mS 2 [(19,.val anyV),kA 18 #[anyV]] ?_)
 obtain ⟨⟨x6,x7,H8⟩,hx,h⟩:=bind_some h
 try dsimp only at h
 refine RS.cl (some 20) (v:=(Value.tuple #[(Value.bool x6),(Value.int .i64 x7)])) 5 #[(Value.pointer (some p4)),(Value.agg #[anyV]),anyV] (zkl hx) (RS.mS 5 [kI 8 x7,kB 7 x6,kI 22 x7,kB 21 x6,(15,.val (Value.tuple #[(Value.bool x6),(Value.int .i64 x7)]))] (RS.dn (WS.nxt (WS.sq (WS.rg (RS.mS 3 [kB 25 (decide (x2=4)),kB 24 (decide (x2=4)),kI 23 x2] ?_))))))
 rcases z0 h with ⟨hp,h⟩ | ⟨hp,h⟩
 ·refine RS.fx 25 true (decide_eq_true hp) (RS.mS 4 [kB 29 (decide (x7=4)),kB 28 (decide (x7=4)),kB 27 (decide (x7=4)),kI 26 x7] ?_)
  rcases z0 h with ⟨hp,h⟩ | ⟨hp,h⟩
  ·refine RS.fx 29 true (decide_eq_true hp) (RS.mS 5 [kB 34 (decide ((x1.n:Int)=0)),kB 33 (decide ((x1.n:Int)=0)),kB 32 (decide ((x1.n:Int)=0)),kI 31 (x1.n:Int),kS 30 x1] ?_)
   rcases z0 h with ⟨hp,h⟩ | ⟨hp,h⟩
   ·refine RS.fx 34 true (decide_eq_true hp) (RS.mS 4 [kB 38 (!x6),kB 37 (!x6),kB 36 (!x6),kB 35 x6] ?_)
    rcases z0 h with ⟨hp,h⟩ | ⟨hp,h⟩
    ·refine RS.fx 38 false (nb_not hp) ?_
     cases h
    ·refine RS.fx 38 true (za hp) ?_
     obtain ⟨⟨x9,H10⟩,hx,h⟩:=bind_some h
     try dsimp only at h
     refine RS.cl (some 39) (v:=(Value.bool x9)) 6 #[] (zma hx) (RS.mS 2 [kB 4 x9,kB 40 x9] (RS.dn (WS.nxt (WS.rt ?_))))
     cases h
     exact fun a w hs=>rtR (rS hs)
   ·refine RS.fx 34 false (decide_eq_false hp) ?_
    cases h
  ·refine RS.fx 29 false (decide_eq_false hp) ?_
   cases h
 ·refine RS.fx 25 false (decide_eq_false hp) ?_
  cases h
end Go.Proofs.YtdlnojjpbmibdaaGreatDoor
namespace Go.Proofs.YtdlnojjpbmibdaaGreatDoor
open Go Go.Abs
set_option maxRecDepth 100000
theorem own:ownKnob Tryz.prog.godebug=none:=by kernel_rfl
theorem laidOut:laidOutB Tryz.prog=true:=by kernel_rfl
theorem zq2:globalsB Tryz.prog=true:=by kernel_rfl
theorem sane:Sane Tryz.prog (NE.plain 167):=zsc (fun _ _ _ _=>rfl) (by kernel_rfl) (by kernel_rfl) (fun x w=>by kernel_rfl)
theorem zs9 (os:Os) (args:Array Value):laidMet Tryz.prog Rows.evalNobodyRow.laid ((laidW2 Tryz.prog Rows.evalNobodyRow.laid os).forCall (fun _ _=>0) ⟨#[],args,[]⟩).memory :=
 laidMet_of_run3 8 (by kernel_rfl) (by kernel_rfl) (by kernel_rfl)
def tabs:List Tab:=[(6,378,((zsOf Rows.laid_strings_asciiSpace).map fun z=>Value.int .u8 z).toArray),(5,367,((zsOf Rows.laid_math_bits_deBruijn64tab).map fun z=>Value.int .u8 z).toArray),(4,366,((zsOf Rows.laid_math_bits_deBruijn32tab).map fun z=>Value.int .u8 z).toArray),(0,306,((zsOf Rows.laid_internal_strconv_uint64pow10).map fun z=>Value.int .u64 z).toArray)]
theorem zsq:tabsB Tryz.prog tabs=true:=by kernel_rfl
theorem zs5 (W:World) (hL:laidMet Tryz.prog Rows.evalNobodyRow.laid W) (hsh:W.ShapedOpen Tryz.prog):∀x∈tabs,∃fr,W.heap[x.1]? = some (.cells x.2.2 x.2.1 fr):=by
 intro x hx
 simp only [tabs,List.mem_cons,List.not_mem_nil,or_false] at hx
 rcases hx with rfl | rfl | rfl | rfl
 ·exact zid (name := "strings.asciiSpace") (te:=5) (n:=256) (t:=378) hL (by kernel_rfl) (by kernel_rfl) (by kernel_rfl) (by kernel_rfl) (by kernel_rfl) (by kernel_rfl) (by kernel_rfl) (of_decide_eq_true (by kernel_rfl)) (by kernel_rfl) hsh
 ·exact zid (name := "math/bits.deBruijn64tab") (te:=5) (n:=64) (t:=367) hL (by kernel_rfl) (by kernel_rfl) (by kernel_rfl) (by kernel_rfl) (by kernel_rfl) (by kernel_rfl) (by kernel_rfl) (of_decide_eq_true (by kernel_rfl)) (by kernel_rfl) hsh
 ·exact zid (name := "math/bits.deBruijn32tab") (te:=5) (n:=32) (t:=366) hL (by kernel_rfl) (by kernel_rfl) (by kernel_rfl) (by kernel_rfl) (by kernel_rfl) (by kernel_rfl) (by kernel_rfl) (of_decide_eq_true (by kernel_rfl)) (by kernel_rfl) hsh
 ·exact zid (name := "internal/strconv.uint64pow10") (te:=112) (n:=20) (t:=306) hL (by kernel_rfl) (by kernel_rfl) (by kernel_rfl) (by kernel_rfl) (by kernel_rfl) (by kernel_rfl) (by kernel_rfl) (of_decide_eq_true (by kernel_rfl)) (by kernel_rfl) hsh
end Go.Proofs.YtdlnojjpbmibdaaGreatDoor
namespace Go.Proofs.YtdlnojjpbmibdaaGreatDoor
open Go Go.Abs
set_option maxRecDepth 100000
noncomputable def lc:LC:=LCn 100000 1000
set_option maxHeartbeats 0 in
theorem zqh:(z2d lc 9 (startH Tryz.prog tabs)).map (·.1)=some true:=by kernel_rfl
end Go.Proofs.YtdlnojjpbmibdaaGreatDoor
namespace Go.Proofs.YtdlnojjpbmibdaaGreatDoor
open Go Go.Abs
set_option maxRecDepth 100000
theorem zpk:∃H',CallS Tryz.prog (NE.plain 167) Tryz.prog.globals.size 3 (Tryz.f3.params.map (anyArg Tryz.prog)) (startH Tryz.prog tabs) (.bool true) H':=by
 have hrun:=zqh
 generalize hq:z2d lc 9 (startH Tryz.prog tabs)=q at hrun
 cases q with
 | none=>cases hrun
 | some r =>
  obtain ⟨b,H'⟩:=r
  simp only [Option.map_some,Option.some.injEq] at hrun
  subst hrun
  refine ⟨H',?_⟩
  have h:=@zeo lc 9 (startH Tryz.prog tabs) (true,H') hq
  have e1:Tryz.prog.globals.size=9:=by kernel_rfl
  have e2:Tryz.f3.params.map (anyArg Tryz.prog)=#[(Value.agg #[anyV]),anyV]:=by kernel_rfl
  rw [e1,e2]
  exact h
theorem znc (os:Os) (started:os.Started) (H:Type) (enc:TypeId×Value→H) :
  ReturnsInHanded {} Tryz.checked os 3 .any (fun w args=>(Rows.evalNobodySpec.pre enc Tryz.prog Tryz.f3 [] false w args∧laidMet Tryz.prog Rows.evalNobodyRow.laid w)∧sizedMet enc Tryz.prog Tryz.f3 (OpenSpec.ofChange Rows.evalNobodySpec) false w args)
   (Rows.evalNobodySpec.post enc Tryz.prog Tryz.f3 false true false false) :=
 znq (C:=Tryz.checked) (X:=fun w _=>laidMet Tryz.prog Rows.evalNobodyRow.laid w) own started (by kernel_rfl) Tryz.func3 (by kernel_rfl) sane zq2 laidOut
  (by kernel_rfl) rfl (by kernel_rfl)
  (fun ds hds=>by
   have h1:ds.length=2:=hds
   match ds,h1 with
   | [d0,d1],_=>exact ⟨rfl,rfl,rfl⟩)
  zsq (fun _ _ _ hh h=>h.of_heap hh) (fun W _ hL hsh=>zs5 W hL hsh) zpk
  (zpd (enc:=enc) (C:=Tryz.checked) (os:=os) (X:=fun w _=>laidMet Tryz.prog Rows.evalNobodyRow.laid w) (laidW2 Tryz.prog Rows.evalNobodyRow.laid os) #[.agg #[.slice none 0 0],.slice none 0 0] 8 rfl (by kernel_rfl) (by kernel_rfl) (by kernel_rfl) (by kernel_rfl) (by kernel_rfl) (zs9 os _))
end Go.Proofs.YtdlnojjpbmibdaaGreatDoor
namespace Go.Proofs.YtdlnojjpbmibdaaGreatDoor
open Go Go.Abs
set_option maxRecDepth 100000
theorem an {a b:Bool} (h:a=true) (k:b=true):(a&&b)=true:=by rw [h,k]; rfl
theorem jf0:(Rows.evalNobodyRow.wf (OpenSpec.ofChange Rows.evalNobodySpec))=true:=by kernel_rfl
theorem jf1:(laidOutB Tryz.pinned.checked.prog)=true:=by kernel_rfl
theorem jf2:(mapsRowed Tryz.pinned.checked.prog)=true:=by kernel_rfl
theorem jf3:(Tryz.f3.params.all (Tryz.pinned.checked.prog.readableRec ·))=true:=by kernel_rfl
theorem jf4:(namedTie Tryz.pinned.checked.prog Rows.evalNobodyRow.named Rows.evalNobodySpec.vars)=true:=by kernel_rfl
theorem jf5:((Rows.evalNobodyRow.stops == []))=true:=by kernel_rfl
theorem jf6:((Tryz.pinned.checked.prog.stops == []))=true:=by kernel_rfl
theorem jf7:((Rows.evalNobodyRow.knobs == []))=true:=by kernel_rfl
theorem jf8:((Tryz.pinned.checked.prog.stopKnobs == []))=true:=by kernel_rfl
theorem jf9:((Rows.evalNobodyRow.inPlace == Tryz.pinned.checked.prog.inPlace 3))=true:=by kernel_rfl
theorem jf10:((Rows.evalNobodyRow.unfollowed == Tryz.pinned.checked.prog.unfollowed 3))=true:=by kernel_rfl
theorem jf11:((Rows.evalNobodyRow.recurses == Tryz.pinned.checked.prog.recurses 3))=true:=by kernel_rfl
theorem jf12:((Rows.evalNobodyRow.named == Tryz.pinned.checked.prog.varsNamed 3))=true:=by kernel_rfl
theorem jf13:((Rows.evalNobodyRow.maps == (Tryz.f3.params.toList++Rows.evalNobodySpec.plain.varTypes Tryz.pinned.checked.prog).any (Tryz.pinned.checked.prog.mapsRec ·)))=true:=by kernel_rfl
theorem jf14:((Rows.evalNobodyRow.ifaces == (Tryz.f3.params.toList++Rows.evalNobodySpec.plain.varTypes Tryz.pinned.checked.prog).any (Tryz.pinned.checked.prog.ifacesRec ·)))=true:=by kernel_rfl
theorem jf15:((Rows.evalNobodyRow.mapsOut == Tryz.pinned.checked.prog.mapsAmong Tryz.f3.resultTypes.toList))=true:=by kernel_rfl
theorem jf16:((Rows.evalNobodyRow.loops == (Tryz.f3.params.toList++Rows.evalNobodySpec.plain.varTypes Tryz.pinned.checked.prog).any (Tryz.pinned.checked.prog.loopsFrom ·)))=true:=by kernel_rfl
theorem jf17:((Rows.evalNobodyRow.wideKeys == (Tryz.f3.params.toList++Rows.evalNobodySpec.plain.varTypes Tryz.pinned.checked.prog++Tryz.f3.resultTypes.toList).any (Tryz.pinned.checked.prog.wideKeysFrom ·)))=true:=by kernel_rfl
theorem jf18:(Rows.evalNobodySpec.vars.all (Tryz.pinned.checked.prog.varReadable ·))=true:=by kernel_rfl
theorem jf19:(Tryz.f3.resultTypes.all (fun t=>Tryz.pinned.checked.prog.readableRec t&&decide (t<Tryz.pinned.checked.prog.types.size)))=true:=by kernel_rfl
theorem jf20:((Rows.evalNobodyRow.ifacesOut == Tryz.f3.resultTypes.toList.any (Tryz.pinned.checked.prog.ifacesRec ·)))=true:=by kernel_rfl
theorem jf21:((Rows.evalNobodyRow.loopsOut == Tryz.f3.resultTypes.toList.any (Tryz.pinned.checked.prog.loopsFrom ·)))=true:=by kernel_rfl
theorem jf22:((Rows.evalNobodyRow.plainKeys == Tryz.pinned.checked.prog.plainKeys))=true:=by kernel_rfl
theorem jf23:(Rows.evalNobodyRow.shortTexts.isNone)=true:=by kernel_rfl
theorem jf24:(Tryz.pinned.checked.prog.stopsHeard)=true:=by kernel_rfl
theorem jf25:(Tryz.pinned.checked.prog.mayEnter)=true:=by kernel_rfl
theorem jf26:((Rows.evalNobodyRow.lifted == Tryz.pinned.checked.prog.liftsFinal))=true:=by kernel_rfl
theorem jf27:((Tryz.pinned.checked.prog.make == some Rows.evalNobodyRow.make))=true:=by kernel_rfl
theorem jf28:((Rows.evalNobodyRow.kinds == (if Rows.evalNobodyRow.domain.isEmpty then [] else Tryz.f3.params.toList.map fun t=>match Tryz.pinned.checked.prog.underlying t with | some (.int k)=>some k | _=>none)))=true:=by kernel_rfl
theorem jf29:((Rows.evalNobodyRow.pinned == Rows.evalNobodyRow.pinnedBy))=true:=by kernel_rfl
theorem jf30:((Rows.evalNobodyRow.veiled == (Tryz.f3.params.toList++Rows.evalNobodySpec.plain.varTypes Tryz.pinned.checked.prog++Tryz.f3.resultTypes.toList).any (Tryz.pinned.checked.prog.veiledRec ·)))=true:=by kernel_rfl
theorem jf31:(Rows.evalNobodyRow.veiledFits Tryz.pinned.checked.prog Tryz.f3.params.toList (Tryz.f3.params.toList++Rows.evalNobodySpec.plain.varTypes Tryz.pinned.checked.prog++Tryz.f3.resultTypes.toList))=true:=by kernel_rfl
theorem joined:joinedFacts Tryz.pinned.checked.prog 3 Tryz.f3 Rows.evalNobodySpec Rows.evalNobodyRow=true:=by
 unfold joinedFacts
 exact (an (an (an (an (an (an (an (an (an (an (an (an (an (an (an (an (an (an (an (an (an (an (an (an (an (an (an (an (an (an (an jf0 jf1) jf2) jf3) jf4) jf5) jf6) jf7) jf8) jf9) jf10) jf11) jf12) jf13) jf14) jf15) jf16) jf17) jf18) jf19) jf20) jf21) jf22) jf23) jf24) jf25) jf26) jf27) jf28) jf29) jf30) jf31)
theorem zp9:Rows.EvalNobodySaid :=
 OpenClaim.holds_of_wide 3 Tryz.f3 rfl rfl rfl rfl rfl rfl rfl ⟨rfl,rfl,rfl,rfl,rfl⟩ rfl rfl rfl rfl rfl (by kernel_rfl) Tryz.func3 joined
  (of_decide_eq_true (by kernel_rfl)) (by unfold Func.isWrapper; first | (rw [if_pos (by decide +kernel)]; kernel_rfl) | (rw [if_neg (by decide +kernel)]; exact ⟨rfl,rfl⟩))
  (fun os started H enc _=>znc os started H enc)
end Go.Proofs.YtdlnojjpbmibdaaGreatDoor
namespace Go.Proofs.YtdlnojjpbmibdaaGreatDoor
open Go Go.Abs
set_option maxRecDepth 100000
theorem sw0:Tryz.prog.wantsStandIn 24=false:=by kernel_rfl
theorem sw1:Tryz.prog.wantsStandIn 25=false:=by kernel_rfl
theorem standIns:∀t∈Tryz.f3.params.toList,Tryz.prog.wantsStandIn t=false:=by
 have hp:Tryz.f3.params.toList=[24,25]:=by kernel_rfl
 rw [hp]
 intro t ht
 simp only [List.mem_cons,List.not_mem_nil,or_false] at ht
 rcases ht with rfl | rfl
 ·exact sw0
 ·exact sw1
theorem named:Tryz.prog.funcNamed "tribunal/tribunallaw11.EvalNobody"=some 3:=by kernel_rfl
theorem looks:true=Tryz.pinned.checked.prog.looks []:=by kernel_rfl
theorem goesBy:false=Rows.evalNobodyRow.goesBy Tryz.pinned.checked.prog:=by kernel_rfl
theorem evalNobody_holds:Rows.EvalNobodyCardSaid :=
 Claim7.holds_tied_plain_at .later [] _ _ _ _
  zp9 (fun _ h=>by cases h) (by kernel_rfl) (fun _ h=>by cases h) evalNobody_row_tie rfl ⟨rfl,rfl⟩ (by kernel_rfl) rfl
  (fun f fn hf hfn=>by
   obtain rfl:f=3:=Option.some.inj (named.symm.trans hf) |>.symm
   obtain rfl:fn=Tryz.f3:=(Option.some.inj (Tryz.func3.symm.trans hfn)).symm
   exact ⟨looks,fun j t ht=>standIns t (by simpa using Array.mem_of_getElem? ht)⟩)
  goesBy
#print axioms evalNobody_holds
end Go.Proofs.YtdlnojjpbmibdaaGreatDoor
