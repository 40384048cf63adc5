/- Parts of the proof: an abstract interpreter of the loaded program and its soundness, printed functions, the law's own texts; part 4. No condition. -/
import Derived.Test.YtkecibinbgaedaaGreatDoorNb3
namespace Go.Proofs.YtkecibinbgaedaaGreatDoor
open Go Go.Abs
set_option maxRecDepth 100000
noncomputable def B124:Code:=(Tryz.f124.body).getD .skip
def z62:Bool→Value
 | r0=>(Value.bool r0)
def z7q (H:AH):Bool→AH:=fun _=>H
noncomputable def zd1 (_L:LC) (_H:AH) (_a0_0 a0_1 _a0_2:Sl3):(Int×Int)→Option (Lp (Int×Int) Bool):=fun (v3_1,v4_2) =>
 if v4_2<(a0_1.n:Int) then
  none
 else
  some (.brk (v3_1,v4_2))
def zp3 (_L:LC) (_H:AH) (a0_0 a0_1 a0_2:Sl3):(Int×Int)→KN×Lcs:=fun (v3_1,v4_2)=>([kI 3 v3_1,kI 4 v4_2,kL 1 0 0],[some (77,[(Sl3.v a0_0),(Sl3.v a0_1),(Sl3.v a0_2)])])
noncomputable def zcs (_L:LC) (_H:AH) (_a0_0 a0_1 _a0_2:Sl3):Int→Option (Lp Int Bool):=fun v7_5 =>
 if v7_5<(a0_1.n:Int) then
  none
 else
  some (.brk v7_5)
def zon (_L:LC) (_H:AH) (a0_0 a0_1 a0_2:Sl3):Int→KN×Lcs:=fun v7_5=>([kI 7 v7_5,kL 1 0 0],[some (77,[(Sl3.v a0_0),(Sl3.v a0_1),(Sl3.v a0_2)])])
noncomputable def zdb (_L:LC) (H:AH) (_a0_0 _a0_1 a0_2:Sl3):Int→Option (Lp Int Bool):=fun v10_7 =>
 if v10_7<(a0_2.n:Int) then
  Option.bind (idxA 6 a0_2 v10_7) fun p8 =>
  Option.bind (rd deSl H (Addr.add p8 1)) fun x9 =>
  if (x9.n:Int) > 64 then
   none
  else
   some (.next (IntKind.i64.wrap (v10_7+1)))
 else
  some (.brk v10_7)
def zpc (_L:LC) (_H:AH) (a0_0 a0_1 a0_2:Sl3):Int→KN×Lcs:=fun v10_7=>([kI 10 v10_7,kL 1 0 0],[some (77,[(Sl3.v a0_0),(Sl3.v a0_1),(Sl3.v a0_2)])])
noncomputable def zjr (L:LC) (H:AH) (a0_0 a0_1 a0_2:Sl3):Option Bool :=
 Option.bind (L.run (zd1 L H a0_0 a0_1 a0_2) ((IntKind.i64.wrap ((IntKind.i64.wrap ((a0_0.n:Int)+(a0_1.n:Int)))+(a0_2.n:Int))),0)) fun o=>match o with
 | .inl (v3_3,_) =>
  if v3_3 > 4096 then
   none
  else
   Option.bind (L.run (zcs L H a0_0 a0_1 a0_2) 0) fun o=>match o with
   | .inl _ =>
    Option.bind (L.run (zdb L H a0_0 a0_1 a0_2) 0) fun o=>match o with
    | .inl _ =>
     some false
    | .inr r=>some r
   | .inr r=>some r
 | .inr r=>some r
theorem zel {E m L H a0_0 a0_1 a0_2} :LoopF Tryz.prog (NE.plain 258) m E Tryz.f124 ((cfst (csnd (cfst (csnd (csnd B124)))))) (zp3 L H a0_0 a0_1 a0_2) (fun _=>H) 0 z62 (z7q H) (zd1 L H a0_0 a0_1 a0_2):=by
 rintro ⟨v3_1,v4_2⟩ o h
 unfold zd1 at h
 try dsimp only at h
 refine WS.sq (WS.sq (WS.rg (RS.mS 5 [kB 26 (decide (v4_2<(a0_1.n:Int))),kI 25 (a0_1.n:Int),kS 24 a0_1,kL 23 0 1,kI 22 v4_2] (RS.dn (WS.nxt ?_)))))
 rcases z0 h with ⟨hp,h⟩ | ⟨hp,h⟩
 ·refine WS.fx 26 true (decide_eq_true hp) (WS.cT ?_)
  cases h
 ·refine WS.fx 26 false (decide_eq_false hp) (WS.cF (WS.ex 0 ?_))
  cases h
  exact fun a w hs=>sqE (lsB rfl (hs.sb 1))
theorem zex {E m L H a0_0 a0_1 a0_2} :LoopF Tryz.prog (NE.plain 258) m E Tryz.f124 ((cfst (csnd (cfst (csnd (csnd (csnd (csnd B124)))))))) (zon L H a0_0 a0_1 a0_2) (fun _=>H) 4 z62 (z7q H) (zcs L H a0_0 a0_1 a0_2):=by
 rintro v7_5 o h
 unfold zcs at h
 try dsimp only at h
 refine WS.sq (WS.sq (WS.rg (RS.mS 5 [kB 61 (decide (v7_5<(a0_1.n:Int))),kI 60 (a0_1.n:Int),kS 59 a0_1,kL 58 0 1,kI 57 v7_5] (RS.dn (WS.nxt ?_)))))
 rcases z0 h with ⟨hp,h⟩ | ⟨hp,h⟩
 ·refine WS.fx 61 true (decide_eq_true hp) (WS.cT ?_)
  cases h
 ·refine WS.fx 61 false (decide_eq_false hp) (WS.cF (WS.ex 4 ?_))
  cases h
  exact fun a w hs=>sqE (lsB rfl (hs.sb 1))
theorem zf6 {E m L H a0_0 a0_1 a0_2} :LoopF Tryz.prog (NE.plain 258) m E Tryz.f124 ((cfst (csnd (cfst (csnd (csnd (csnd (csnd (csnd B124))))))))) (zpc L H a0_0 a0_1 a0_2) (fun _=>H) 8 z62 (z7q H) (zdb L H a0_0 a0_1 a0_2):=by
 rintro v10_7 o h
 unfold zdb at h
 try dsimp only at h
 refine WS.sq (WS.sq (WS.rg (RS.mS 5 [kB 98 (decide (v10_7<(a0_2.n:Int))),kI 97 (a0_2.n:Int),kS 96 a0_2,kL 95 0 2,kI 94 v10_7] (RS.dn (WS.nxt ?_)))))
 rcases z0 h with ⟨hp,h⟩ | ⟨hp,h⟩
 ·refine WS.fx 98 true (decide_eq_true hp) (WS.cT (WS.sk (WS.nxt (WS.sq (WS.bk 9 (WS.sq (WS.rg (RS.mS 3 [kI 103 v10_7,kS 102 a0_2,kL 101 0 2] ?_))))))))
  obtain ⟨p8,hx,h⟩:=bind_some h
  refine RS.ix 104 73 72 (.tmp 102) (.tmp 103) hx (RS.mS 1 [(105,.val (Value.pointer (some (Addr.add p8 1))))] ?_)
  obtain ⟨x9,hx,h⟩:=bind_some h
  refine RS.ld 106 54 (.tmp 105) (z1 hx z3) (RS.mS 2 [kB 108 (decide ((x9.n:Int) > 64)),kI 107 (x9.n:Int)] (RS.dn (WS.nxt ?_)))
  rcases z0 h with ⟨hp,h⟩ | ⟨hp,h⟩
  ·refine WS.fx 108 true (decide_eq_true hp) (WS.cT ?_)
   cases h
  ·refine WS.fx 108 false (decide_eq_false hp) (WS.cF (WS.sk ?_))
   refine fun a w hs=>bkN ((WS.nxt ?_ a w hs))
   refine WS.rg (RS.mS 3 [kI 10 (IntKind.i64.wrap (v10_7+1)),kI 100 (IntKind.i64.wrap (v10_7+1)),kI 99 v10_7] (RS.dn ?_))
   cases h
   exact fun a w hs=>lsN rfl (hs.sb 1)
 ·refine WS.fx 98 false (decide_eq_false hp) (WS.cF (WS.ex 8 ?_))
  cases h
  exact fun a w hs=>sqE (lsB rfl (hs.sb 1))
theorem zrs {L:LC} {m:Nat} {H:AH} {a0_0 a0_1 a0_2:Sl3} {r:Bool} (h:zjr L H a0_0 a0_1 a0_2=some r) :
  CallS Tryz.prog (NE.plain 258) m 124 #[(Value.agg #[(Sl3.v a0_0),(Sl3.v a0_1),(Sl3.v a0_2)])] H (z62 r) (z7q H r):=by
 refine CallS.mk (args:=[(Value.agg #[(Sl3.v a0_0),(Sl3.v a0_1),(Sl3.v a0_2)])]) Tryz.func124 (B:=B124) (by kernel_rfl) (fun E _=>?_)
 unfold zjr at h
 refine WS.sq (WS.rg (RS.mL 2 [kB 2 false,kL 1 0 0] ([some (77,[(Sl3.v a0_0),(Sl3.v a0_1),(Sl3.v a0_2)])]) (RS.dn (WS.nxt (WS.sq (WS.rg (RS.mS 12 [kI 3 (IntKind.i64.wrap ((IntKind.i64.wrap ((a0_0.n:Int)+(a0_1.n:Int)))+(a0_2.n:Int))),kI 21 (IntKind.i64.wrap ((IntKind.i64.wrap ((a0_0.n:Int)+(a0_1.n:Int)))+(a0_2.n:Int))),kI 20 (a0_2.n:Int),kS 19 a0_2,kL 18 0 2,kI 17 (IntKind.i64.wrap ((a0_0.n:Int)+(a0_1.n:Int))),kI 16 (a0_1.n:Int),kS 15 a0_1,kL 14 0 1,kI 13 (a0_0.n:Int),kS 12 a0_0,kL 11 0 0] (RS.dn (WS.nxt ?_)))))))))
 refine WS.sq (WS.sq (WS.rg (RS.mS 1 [kI 4 0] (RS.dn (WS.nxt (WS.bk 0 ?_))))))
 obtain ⟨o,hl,h⟩:=bind_some h
 rcases o with ⟨v3_3,v4_4⟩ | r
 ·try dsimp only at h
  refine WS.lI (zel (L:=L) (E:=E) (m:=m) (H:=H)) (L.ok hl) 1 ?_
  clear hl
  refine fun a w hs=>bkE ((WS.nxt ?_ a w hs))
  refine WS.sq (WS.sq (WS.rg (RS.mS 2 [kB 56 (decide (v3_3 > 4096)),kI 55 v3_3] (RS.dn (WS.nxt ?_)))))
  rcases z0 h with ⟨hp,h⟩ | ⟨hp,h⟩
  ·refine WS.fx 56 true (decide_eq_true hp) (WS.cT ?_)
   cases h
  ·refine WS.fx 56 false (decide_eq_false hp) (WS.cF (WS.sk (WS.nxt (WS.sq (WS.sq (WS.rg (RS.mS 1 [kI 7 0] (RS.dn (WS.nxt ?_)))))))))
   refine WS.bk 4 ?_
   obtain ⟨o,hl,h⟩:=bind_some h
   rcases o with v7_6 | r
   ·try dsimp only at h
    refine WS.lI (zex (L:=L) (E:=E) (m:=m) (H:=H)) (L.ok hl) 1 ?_
    clear hl
    refine fun a w hs=>bkE ((WS.nxt ?_ a w hs))
    refine WS.sq (WS.sq (WS.rg (RS.mS 1 [kI 10 0] (RS.dn (WS.nxt (WS.bk 8 ?_))))))
    obtain ⟨o,hl,h⟩:=bind_some h
    rcases o with v10_10 | r
    ·try dsimp only at h
     refine WS.lI (zf6 (L:=L) (E:=E) (m:=m) (H:=H)) (L.ok hl) 1 ?_
     clear hl
     refine fun a w hs=>bkE ((WS.nxt ?_ a w hs))
     refine WS.sq (WS.rg (RS.mS 1 [kB 2 false] (RS.dn (WS.nxt (WS.rt ?_)))))
     cases h
     exact fun a w hs=>rtR (rS hs)
    ·try dsimp only at h
     refine WS.lR (zf6 (L:=L) (E:=E) (m:=m) (H:=H)) (L.ok hl) 1 ?_
     cases h
     exact fun a w hq=>bkR (sqR (rtR hq))
   ·try dsimp only at h
    refine WS.lR (zex (L:=L) (E:=E) (m:=m) (H:=H)) (L.ok hl) 1 ?_
    cases h
    exact fun a w hq=>bkR (sqR (rtR hq))
 ·try dsimp only at h
  refine WS.lR (zel (L:=L) (E:=E) (m:=m) (H:=H)) (L.ok hl) 1 ?_
  cases h
  exact fun a w hq=>bkR (sqR (rtR hq))
noncomputable def B193:Code:=(Tryz.f193.body).getD .skip
def zal:(Sl3×AH)→Value
 | (r0,_)=>(Sl3.v r0)
def zcf (_:AH):(Sl3×AH)→AH:=fun r=>r.2
noncomputable def z5w (_L:LC) (_a0_0 a0_1 _a0_2:Sl3):(AH×Sl3×Int)→Option (Lp (AH×Sl3×Int) (Sl3×AH)):=fun (H5,v3_6,v4_7) =>
 if v4_7<(a0_1.n:Int) then
  none
 else
  some (.brk (H5,v3_6,v4_7))
def zia (_L:LC) (a0_0 a0_1 a0_2:Sl3):(AH×Sl3×Int)→KN×Lcs:=fun (_,v3_6,v4_7)=>([kS 3 v3_6,kI 4 v4_7,kL 1 0 0],[some (77,[(Sl3.v a0_0),(Sl3.v a0_1),(Sl3.v a0_2)])])
noncomputable def z98 (L:LC) (m:Nat) (H:AH) (a0_0 a0_1 a0_2:Sl3):Option (Sl3×AH) :=
 Option.bind (newR 9 0 #[] H) fun (s1,H2) =>
 Option.bind (appS m 9 1 16 H2 s1 a0_0) fun (s3,H4) =>
 Option.bind (L.run (z5w L a0_0 a0_1 a0_2) (H4,s3,0)) fun o=>match o with
 | .inl (H8,v3_9,_) =>
  some (v3_9,H8)
 | .inr r=>some r
theorem z8p {E m H L a0_0 a0_1 a0_2} :LoopF Tryz.prog (NE.plain 258) m E Tryz.f193 ((cfst (csnd (cfst (csnd (csnd B193)))))) (zia L a0_0 a0_1 a0_2) (fun s=>s.1) 0 zal (zcf H) (z5w L a0_0 a0_1 a0_2):=by
 rintro ⟨H5,v3_6,v4_7⟩ o h
 unfold z5w at h
 try dsimp only at h
 refine WS.sq (WS.sq (WS.rg (RS.mS 5 [kB 13 (decide (v4_7<(a0_1.n:Int))),kI 12 (a0_1.n:Int),kS 11 a0_1,kL 10 0 1,kI 9 v4_7] (RS.dn (WS.nxt ?_)))))
 rcases z0 h with ⟨hp,h⟩ | ⟨hp,h⟩
 ·refine WS.fx 13 true (decide_eq_true hp) (WS.cT ?_)
  cases h
 ·refine WS.fx 13 false (decide_eq_false hp) (WS.cF (WS.ex 0 ?_))
  cases h
  exact fun a w hs=>sqE (lsB rfl (hs.sb 1))
theorem zlx {L:LC} {m:Nat} {H:AH} {a0_0 a0_1 a0_2:Sl3} {r:(Sl3×AH)} (h:z98 L m H a0_0 a0_1 a0_2=some r) :
  CallS Tryz.prog (NE.plain 258) m 193 #[(Value.agg #[(Sl3.v a0_0),(Sl3.v a0_1),(Sl3.v a0_2)])] H (zal r) (zcf H r):=by
 refine CallS.mk (args:=[(Value.agg #[(Sl3.v a0_0),(Sl3.v a0_1),(Sl3.v a0_2)])]) Tryz.func193 (B:=B193) (by kernel_rfl) (fun E _=>?_)
 unfold z98 at h
 refine WS.sq (WS.rg (RS.mL 2 [kS 2 Sl3.nil,kL 1 0 0] ([some (77,[(Sl3.v a0_0),(Sl3.v a0_1),(Sl3.v a0_2)])]) (RS.dn (WS.nxt (WS.sq (WS.rg ?_))))))
 obtain ⟨⟨s1,H2⟩,hx,h⟩:=bind_some h
 try dsimp only at h
 refine RS.o (H':=H2) (some 5) (Sl3.v s1) (Abs.run_newR (by kernel_rfl) (by kernel_rfl) hx) (RS.mS 2 [kS 7 a0_0,kL 6 0 0] ?_)
 obtain ⟨⟨s3,H4⟩,hx,h⟩:=bind_some h
 try dsimp only at h
 refine RS.o (H':=H4) (some 8) (Sl3.v s3) (Abs.run_app (x:=.tmp 5) (y:=.tmp 7) (ts:=#[74,74]) (s:=s1) (z:=a0_0) (by kernel_rfl) (by kernel_rfl) (by kernel_rfl) (by kernel_rfl) hx) (RS.mS 1 [kS 3 s3] (RS.dn (WS.nxt (WS.sq (WS.sq (WS.rg (RS.mS 1 [kI 4 0] (RS.dn (WS.nxt ?_)))))))))
 refine WS.bk 0 ?_
 obtain ⟨o,hl,h⟩:=bind_some h
 rcases o with ⟨H8,v3_9,v4_10⟩ | r
 ·try dsimp only at h
  refine WS.lI (z8p (L:=L) (E:=E) (m:=m) (H:=H)) (L.ok hl) 1 ?_
  clear hl
  refine fun a w hs=>bkE ((WS.nxt ?_ a w hs))
  refine WS.sq (WS.rg (RS.mS 2 [kS 2 v3_9,kS 25 v3_9] (RS.dn (WS.nxt (WS.rt ?_)))))
  cases h
  exact fun a w hs=>rtR (rS hs)
 ·try dsimp only at h
  refine WS.lR (z8p (L:=L) (E:=E) (m:=m) (H:=H)) (L.ok hl) 1 ?_
  cases h
  exact fun a w hq=>bkR (sqR (rtR hq))
noncomputable def B194:Code:=(Tryz.f194.body).getD .skip
def z5h:(Sl3×AH)→Value
 | (r0,_)=>(Sl3.v r0)
def z79 (_:AH):(Sl3×AH)→AH:=fun r=>r.2
noncomputable def z6t (_L:LC) (_a0_0 a0_1 _a0_2:Sl3):(AH×Sl3×Int)→Option (Lp (AH×Sl3×Int) (Sl3×AH)):=fun (H1,v3_2,v4_3) =>
 if v4_3<(a0_1.n:Int) then
  none
 else
  some (.brk (H1,v3_2,v4_3))
def zk8 (_L:LC) (a0_0 a0_1 a0_2:Sl3):(AH×Sl3×Int)→KN×Lcs:=fun (_,v3_2,v4_3)=>([kS 3 v3_2,kI 4 v4_3,kL 1 0 0],[some (77,[(Sl3.v a0_0),(Sl3.v a0_1),(Sl3.v a0_2)])])
noncomputable def z6x (_L:LC) (m:Nat) (_a0_0 _a0_1 a0_2:Sl3):(AH×Sl3×Int)→Option (Lp (AH×Sl3×Int) (Sl3×AH)):=fun (H7,v3_8,v8_9) =>
 if v8_9<(a0_2.n:Int) then
  Option.bind (idxA 6 a0_2 v8_9) fun p10 =>
  Option.bind (rd deS H7 (Addr.add p10 0)) fun x11 =>
  Option.bind (newR 9 1 #[(Value.string x11)] H7) fun (s12,H13) =>
  Option.bind (appS m 9 1 16 H13 v3_8 s12) fun (s14,H15) =>
  some (.next (H15,s14,(IntKind.i64.wrap (v8_9+1))))
 else
  some (.brk (H7,v3_8,v8_9))
def zj9 (_L:LC) (_m:Nat) (a0_0 a0_1 a0_2:Sl3):(AH×Sl3×Int)→KN×Lcs:=fun (_,v3_8,v8_9)=>([kS 3 v3_8,kI 8 v8_9,kL 1 0 0],[some (77,[(Sl3.v a0_0),(Sl3.v a0_1),(Sl3.v a0_2)])])
noncomputable def zbj (L:LC) (m:Nat) (H:AH) (a0_0 a0_1 a0_2:Sl3):Option (Sl3×AH) :=
 Option.bind (L.run (z6t L a0_0 a0_1 a0_2) (H,Sl3.nil,0)) fun o=>match o with
 | .inl (H4,v3_5,_) =>
  Option.bind (L.run (z6x L m a0_0 a0_1 a0_2) (H4,v3_5,0)) fun o=>match o with
  | .inl (H16,v3_17,_) =>
   some (v3_17,H16)
  | .inr r=>some r
 | .inr r=>some r
theorem z9f {E m H L a0_0 a0_1 a0_2} :LoopF Tryz.prog (NE.plain 258) m E Tryz.f194 ((cfst (csnd (cfst (csnd (csnd B194)))))) (zk8 L a0_0 a0_1 a0_2) (fun s=>s.1) 0 z5h (z79 H) (z6t L a0_0 a0_1 a0_2):=by
 rintro ⟨H1,v3_2,v4_3⟩ o h
 unfold z6t at h
 try dsimp only at h
 refine WS.sq (WS.sq (WS.rg (RS.mS 5 [kB 13 (decide (v4_3<(a0_1.n:Int))),kI 12 (a0_1.n:Int),kS 11 a0_1,kL 10 0 1,kI 9 v4_3] (RS.dn (WS.nxt ?_)))))
 rcases z0 h with ⟨hp,h⟩ | ⟨hp,h⟩
 ·refine WS.fx 13 true (decide_eq_true hp) (WS.cT ?_)
  cases h
 ·refine WS.fx 13 false (decide_eq_false hp) (WS.cF (WS.ex 0 ?_))
  cases h
  exact fun a w hs=>sqE (lsB rfl (hs.sb 1))
theorem z9m {E H L m a0_0 a0_1 a0_2} :LoopF Tryz.prog (NE.plain 258) m E Tryz.f194 ((cfst (csnd (cfst (csnd (csnd (csnd B194))))))) (zj9 L m a0_0 a0_1 a0_2) (fun s=>s.1) 6 z5h (z79 H) (z6x L m a0_0 a0_1 a0_2):=by
 rintro ⟨H7,v3_8,v8_9⟩ o h
 unfold z6x at h
 try dsimp only at h
 refine WS.sq (WS.sq (WS.rg (RS.mS 5 [kB 61 (decide (v8_9<(a0_2.n:Int))),kI 60 (a0_2.n:Int),kS 59 a0_2,kL 58 0 2,kI 57 v8_9] (RS.dn (WS.nxt ?_)))))
 rcases z0 h with ⟨hp,h⟩ | ⟨hp,h⟩
 ·refine WS.fx 61 true (decide_eq_true hp) (WS.cT (WS.sk (WS.nxt (WS.sq (WS.bk 7 (WS.rg (RS.mS 4 [kI 67 v8_9,kS 66 a0_2,kL 65 0 2,kS 64 v3_8] ?_)))))))
  obtain ⟨p10,hx,h⟩:=bind_some h
  refine RS.ix 68 73 72 (.tmp 66) (.tmp 67) hx (RS.mS 1 [(69,.val (Value.pointer (some (Addr.add p10 0))))] ?_)
  obtain ⟨x11,hx,h⟩:=bind_some h
  refine RS.ld 70 9 (.tmp 69) (z1 hx za) ?_
  obtain ⟨⟨s12,H13⟩,hx,h⟩:=bind_some h
  try dsimp only at h
  refine RS.o (H':=H13) (some 71) (Sl3.v s12) (Abs.run_newR (by kernel_rfl) (by kernel_rfl) hx) ?_
  obtain ⟨⟨s14,H15⟩,hx,h⟩:=bind_some h
  try dsimp only at h
  refine RS.o (H':=H15) (some 72) (Sl3.v s14) (Abs.run_app (x:=.tmp 64) (y:=.tmp 71) (ts:=#[74,74]) (s:=v3_8) (z:=s12) (by kernel_rfl) (by kernel_rfl) (by kernel_rfl) (by kernel_rfl) hx) (RS.mS 1 [kS 3 s14] (RS.dn ?_))
  refine fun a w hs=>bkN ((WS.nxt ?_ a w hs))
  refine WS.rg (RS.mS 3 [kI 8 (IntKind.i64.wrap (v8_9+1)),kI 63 (IntKind.i64.wrap (v8_9+1)),kI 62 v8_9] (RS.dn ?_))
  cases h
  exact fun a w hs=>lsN rfl (hs.sb 1)
 ·refine WS.fx 61 false (decide_eq_false hp) (WS.cF (WS.ex 6 ?_))
  cases h
  exact fun a w hs=>sqE (lsB rfl (hs.sb 1))
theorem zo2 {L:LC} {m:Nat} {H:AH} {a0_0 a0_1 a0_2:Sl3} {r:(Sl3×AH)} (h:zbj L m H a0_0 a0_1 a0_2=some r) :
  CallS Tryz.prog (NE.plain 258) m 194 #[(Value.agg #[(Sl3.v a0_0),(Sl3.v a0_1),(Sl3.v a0_2)])] H (z5h r) (z79 H r):=by
 refine CallS.mk (args:=[(Value.agg #[(Sl3.v a0_0),(Sl3.v a0_1),(Sl3.v a0_2)])]) Tryz.func194 (B:=B194) (by kernel_rfl) (fun E _=>?_)
 unfold zbj at h
 refine WS.sq (WS.rg (RS.mL 2 [kS 2 Sl3.nil,kL 1 0 0] ([some (77,[(Sl3.v a0_0),(Sl3.v a0_1),(Sl3.v a0_2)])]) (RS.dn (WS.nxt (WS.sq (WS.rg (RS.mS 1 [kS 3 Sl3.nil] (RS.dn (WS.nxt ?_)))))))))
 refine WS.sq (WS.sq (WS.rg (RS.mS 1 [kI 4 0] (RS.dn (WS.nxt (WS.bk 0 ?_))))))
 obtain ⟨o,hl,h⟩:=bind_some h
 rcases o with ⟨H4,v3_5,v4_6⟩ | r
 ·try dsimp only at h
  refine WS.lI (z9f (L:=L) (E:=E) (m:=m) (H:=H)) (L.ok hl) 1 ?_
  clear hl
  refine fun a w hs=>bkE ((WS.nxt ?_ a w hs))
  refine WS.sq (WS.sq (WS.rg (RS.mS 1 [kI 8 0] (RS.dn (WS.nxt (WS.bk 6 ?_))))))
  obtain ⟨o,hl,h⟩:=bind_some h
  rcases o with ⟨H16,v3_17,v8_18⟩ | r
  ·try dsimp only at h
   refine WS.lI (z9m (L:=L) (E:=E) (m:=m) (H:=H)) (L.ok hl) 1 ?_
   clear hl
   refine fun a w hs=>bkE ((WS.nxt ?_ a w hs))
   refine WS.sq (WS.rg (RS.mS 2 [kS 2 v3_17,kS 73 v3_17] (RS.dn (WS.nxt (WS.rt ?_)))))
   cases h
   exact fun a w hs=>rtR (rS hs)
  ·try dsimp only at h
   refine WS.lR (z9m (L:=L) (E:=E) (m:=m) (H:=H)) (L.ok hl) 1 ?_
   cases h
   exact fun a w hq=>bkR (sqR (rtR hq))
 ·try dsimp only at h
  refine WS.lR (z9f (L:=L) (E:=E) (m:=m) (H:=H)) (L.ok hl) 1 ?_
  cases h
  exact fun a w hq=>bkR (sqR (rtR hq))
noncomputable def B195:Code:=(Tryz.f195.body).getD .skip
def zir:Bool→Value
 | r0=>(Value.bool r0)
def zkx (H:AH):Bool→AH:=fun _=>H
noncomputable def zcr (_L:LC) (a0:ByteArray):Int→Option (Lp Int Bool):=fun v3_3 =>
 if v3_3<(a0.size:Int) then
  Option.bind (bytA a0 v3_3) fun x4 =>
  if x4<32 then
   none
  else
   Option.bind (bytA a0 v3_3) fun x5 =>
   if x5 > 126 then
    none
   else
    Option.bind (bytA a0 v3_3) fun x6 =>
    if x6=124 then
     none
    else
     Option.bind (bytA a0 v3_3) fun x7 =>
     if x7=92 then
      none
     else
      some (.next (IntKind.i64.wrap (v3_3+1)))
 else
  some (.brk v3_3)
def zp8 (_L:LC) (a0:ByteArray):Int→KN×Lcs:=fun v3_3=>([kI 3 v3_3,kT 0 a0],[])
noncomputable def zjw (L:LC) (a0:ByteArray):Option Bool :=
 if (a0.size:Int)<1 then
  none
 else
  if (a0.size:Int) > 200 then
   none
  else
   Option.bind (bytA a0 0) fun x1 =>
   if x1=64 then
    none
   else
    Option.bind (bytA a0 0) fun x2 =>
    if x2=46 then
     none
    else
     Option.bind (L.run (zcr L a0) 0) fun o=>match o with
     | .inl _ =>
      some true
     | .inr r=>some r
theorem zew {E m H L a0} :LoopF Tryz.prog (NE.plain 258) m E Tryz.f195 ((cfst (csnd (cfst (csnd (csnd B195)))))) (zp8 L a0) (fun _=>H) 0 zir (zkx H) (zcr L a0):=by
 rintro v3_3 o h
 unfold zcr at h
 try dsimp only at h
 refine WS.sq (WS.sq (WS.rg (RS.mS 4 [kB 25 (decide (v3_3<(a0.size:Int))),kI 24 (a0.size:Int),kT 23 a0,kI 22 v3_3] (RS.dn (WS.nxt ?_)))))
 rcases z0 h with ⟨hp,h⟩ | ⟨hp,h⟩
 ·refine WS.fx 25 true (decide_eq_true hp) (WS.cT (WS.sk (WS.nxt (WS.sq (WS.bk 1 (WS.sq (WS.rg (RS.mS 2 [kI 29 v3_3,kT 28 a0] ?_))))))))
  obtain ⟨x4,hx,h⟩:=bind_some h
  refine RS.o (H':=H) (some 30) (Value.int .u8 x4) (Abs.run_byt (t:=9) (x:=.tmp 28) (y:=.tmp 29) (s:=a0) (k:=.i64) (i:=v3_3) (by kernel_rfl) (by kernel_rfl) (by kernel_rfl) (by kernel_rfl) hx) (RS.mS 2 [kB 32 (decide (x4<32)),kB 31 (decide (x4<32))] ?_)
  rcases z0 h with ⟨hp,h⟩ | ⟨hp,h⟩
  ·refine RS.fx 32 true (decide_eq_true hp) ?_
   cases h
  ·refine RS.fx 32 false (decide_eq_false hp) (RS.mS 2 [kI 34 v3_3,kT 33 a0] ?_)
   obtain ⟨x5,hx,h⟩:=bind_some h
   refine RS.o (H':=H) (some 35) (Value.int .u8 x5) (Abs.run_byt (t:=9) (x:=.tmp 33) (y:=.tmp 34) (s:=a0) (k:=.i64) (i:=v3_3) (by kernel_rfl) (by kernel_rfl) (by kernel_rfl) (by kernel_rfl) hx) (RS.mS 3 [kB 38 (decide (x5 > 126)),kB 37 (decide (x5 > 126)),kB 36 (decide (x5 > 126))] ?_)
   rcases z0 h with ⟨hp,h⟩ | ⟨hp,h⟩
   ·refine RS.fx 38 true (decide_eq_true hp) ?_
    cases h
   ·refine RS.fx 38 false (decide_eq_false hp) (RS.mS 2 [kI 40 v3_3,kT 39 a0] ?_)
    obtain ⟨x6,hx,h⟩:=bind_some h
    refine RS.o (H':=H) (some 41) (Value.int .u8 x6) (Abs.run_byt (t:=9) (x:=.tmp 39) (y:=.tmp 40) (s:=a0) (k:=.i64) (i:=v3_3) (by kernel_rfl) (by kernel_rfl) (by kernel_rfl) (by kernel_rfl) hx) (RS.mS 3 [kB 44 (decide (x6=124)),kB 43 (decide (x6=124)),kB 42 (decide (x6=124))] ?_)
    rcases z0 h with ⟨hp,h⟩ | ⟨hp,h⟩
    ·refine RS.fx 44 true (decide_eq_true hp) ?_
     cases h
    ·refine RS.fx 44 false (decide_eq_false hp) (RS.mS 2 [kI 46 v3_3,kT 45 a0] ?_)
     obtain ⟨x7,hx,h⟩:=bind_some h
     refine RS.o (H':=H) (some 47) (Value.int .u8 x7) (Abs.run_byt (t:=9) (x:=.tmp 45) (y:=.tmp 46) (s:=a0) (k:=.i64) (i:=v3_3) (by kernel_rfl) (by kernel_rfl) (by kernel_rfl) (by kernel_rfl) hx) (RS.mS 2 [kB 49 (decide (x7=92)),kB 48 (decide (x7=92))] (RS.dn (WS.nxt ?_)))
     rcases z0 h with ⟨hp,h⟩ | ⟨hp,h⟩
     ·refine WS.fx 49 true (decide_eq_true hp) (WS.cT ?_)
      cases h
     ·refine WS.fx 49 false (decide_eq_false hp) (WS.cF (WS.sk ?_))
      refine fun a w hs=>bkN ((WS.nxt ?_ a w hs))
      refine WS.rg (RS.mS 3 [kI 3 (IntKind.i64.wrap (v3_3+1)),kI 27 (IntKind.i64.wrap (v3_3+1)),kI 26 v3_3] (RS.dn ?_))
      cases h
      exact fun a w hs=>lsN rfl (hs.sb 0)
 ·refine WS.fx 25 false (decide_eq_false hp) (WS.cF (WS.ex 0 ?_))
  cases h
  exact fun a w hs=>sqE (lsB rfl (hs.sb 0))
theorem zrt {L:LC} {m:Nat} {H:AH} {a0:ByteArray} {r:Bool} (h:zjw L a0=some r) :
  CallS Tryz.prog (NE.plain 258) m 195 #[(Value.string a0)] H (zir r) (zkx H r):=by
 refine CallS.mk (args:=[(Value.string a0)]) Tryz.func195 (B:=B195) (by kernel_rfl) (fun E _=>?_)
 unfold zjw at h
 refine WS.sq (WS.rg (RS.mS 1 [kB 2 false] (RS.dn (WS.nxt (WS.sq (WS.sq (WS.rg (RS.mS 4 [kB 7 (decide ((a0.size:Int)<1)),kB 6 (decide ((a0.size:Int)<1)),kI 5 (a0.size:Int),kT 4 a0] ?_))))))))
 rcases z0 h with ⟨hp,h⟩ | ⟨hp,h⟩
 ·refine RS.fx 7 true (decide_eq_true hp) ?_
  cases h
 ·refine RS.fx 7 false (decide_eq_false hp) (RS.mS 5 [kB 12 (decide ((a0.size:Int) > 200)),kB 11 (decide ((a0.size:Int) > 200)),kB 10 (decide ((a0.size:Int) > 200)),kI 9 (a0.size:Int),kT 8 a0] ?_)
  rcases z0 h with ⟨hp,h⟩ | ⟨hp,h⟩
  ·refine RS.fx 12 true (decide_eq_true hp) ?_
   cases h
  ·refine RS.fx 12 false (decide_eq_false hp) (RS.mS 1 [kT 13 a0] ?_)
   obtain ⟨x1,hx,h⟩:=bind_some h
   refine RS.o (H':=H) (some 14) (Value.int .u8 x1) (Abs.run_byt (t:=9) (x:=.tmp 13) (y:=.const (Value.int .i64 0)) (s:=a0) (k:=.i64) (i:=0) (by kernel_rfl) (by kernel_rfl) (by kernel_rfl) (by kernel_rfl) hx) (RS.mS 3 [kB 17 (decide (x1=64)),kB 16 (decide (x1=64)),kB 15 (decide (x1=64))] ?_)
   rcases z0 h with ⟨hp,h⟩ | ⟨hp,h⟩
   ·refine RS.fx 17 true (decide_eq_true hp) ?_
    cases h
   ·refine RS.fx 17 false (decide_eq_false hp) (RS.mS 1 [kT 18 a0] ?_)
    obtain ⟨x2,hx,h⟩:=bind_some h
    refine RS.o (H':=H) (some 19) (Value.int .u8 x2) (Abs.run_byt (t:=9) (x:=.tmp 18) (y:=.const (Value.int .i64 0)) (s:=a0) (k:=.i64) (i:=0) (by kernel_rfl) (by kernel_rfl) (by kernel_rfl) (by kernel_rfl) hx) (RS.mS 2 [kB 21 (decide (x2=46)),kB 20 (decide (x2=46))] (RS.dn (WS.nxt ?_)))
    rcases z0 h with ⟨hp,h⟩ | ⟨hp,h⟩
    ·refine WS.fx 21 true (decide_eq_true hp) (WS.cT ?_)
     cases h
    ·refine WS.fx 21 false (decide_eq_false hp) (WS.cF (WS.sk (WS.nxt (WS.sq (WS.sq (WS.rg (RS.mS 1 [kI 3 0] (RS.dn (WS.nxt ?_)))))))))
     refine WS.bk 0 ?_
     obtain ⟨o,hl,h⟩:=bind_some h
     rcases o with v3_8 | r
     ·try dsimp only at h
      refine WS.lI (zew (L:=L) (E:=E) (m:=m) (H:=H)) (L.ok hl) 0 ?_
      clear hl
      refine fun a w hs=>bkE ((WS.nxt ?_ a w hs))
      refine WS.sq (WS.rg (RS.mS 1 [kB 2 true] (RS.dn (WS.nxt (WS.rt ?_)))))
      cases h
      exact fun a w hs=>rtR (rS hs)
     ·try dsimp only at h
      refine WS.lR (zew (L:=L) (E:=E) (m:=m) (H:=H)) (L.ok hl) 0 ?_
      cases h
      exact fun a w hq=>bkR (sqR (rtR hq))
noncomputable def B243:Code:=(Tryz.f243.body).getD .skip
def zkt:Bool→Value
 | r0=>(Value.bool r0)
def zn5 (H:AH):Bool→AH:=fun _=>H
noncomputable def zec (_L:LC) (H:AH) (a0:Sl3) (a1:ByteArray):Int→Option (Lp Int Bool):=fun v5_1 =>
 if v5_1<(a0.n:Int) then
  Option.bind (idxA 1 a0 v5_1) fun p2 =>
  Option.bind (rd deS H p2) fun x3 =>
  if (x3.toList == a1.toList)=true then
   none
  else
   some (.next (IntKind.i64.wrap (v5_1+1)))
 else
  some (.brk v5_1)
def zqb (_L:LC) (_H:AH) (a0:Sl3) (a1:ByteArray):Int→KN×Lcs:=fun v5_1=>([kI 5 v5_1,kS 0 a0,kT 1 a1],[])
noncomputable def zmv (L:LC) (H:AH) (a0:Sl3) (a1:ByteArray):Option Bool :=
 Option.bind (L.run (zec L H a0 a1) 0) fun o=>match o with
 | .inl _ =>
  some false
 | .inr r=>some r
theorem zgo {E m L H a0 a1} :LoopF Tryz.prog (NE.plain 258) m E Tryz.f243 ((cfst (csnd (cfst (csnd B243))))) (zqb L H a0 a1) (fun _=>H) 0 zkt (zn5 H) (zec L H a0 a1):=by
 rintro v5_1 o h
 unfold zec at h
 try dsimp only at h
 refine WS.sq (WS.sq (WS.rg (RS.mS 4 [kB 9 (decide (v5_1<(a0.n:Int))),kI 8 (a0.n:Int),kS 7 a0,kI 6 v5_1] (RS.dn (WS.nxt ?_)))))
 rcases z0 h with ⟨hp,h⟩ | ⟨hp,h⟩
 ·refine WS.fx 9 true (decide_eq_true hp) (WS.cT (WS.sk (WS.nxt (WS.sq (WS.bk 1 (WS.sq (WS.rg (RS.mS 2 [kI 13 v5_1,kS 12 a0] ?_))))))))
  obtain ⟨p2,hx,h⟩:=bind_some h
  refine RS.ix 14 74 9 (.tmp 12) (.tmp 13) hx ?_
  obtain ⟨x3,hx,h⟩:=bind_some h
  refine RS.ld 15 9 (.tmp 14) (z1 hx za) (RS.mS 2 [kB 17 (x3.toList == a1.toList),kT 16 a1] (RS.dn (WS.nxt ?_)))
  rcases z0 h with ⟨hp,h⟩ | ⟨hp,h⟩
  ·refine WS.fx 17 true hp (WS.cT ?_)
   cases h
  ·refine WS.fx 17 false (b_not hp) (WS.cF (WS.sk ?_))
   refine fun a w hs=>bkN ((WS.nxt ?_ a w hs))
   refine WS.rg (RS.mS 3 [kI 5 (IntKind.i64.wrap (v5_1+1)),kI 11 (IntKind.i64.wrap (v5_1+1)),kI 10 v5_1] (RS.dn ?_))
   cases h
   exact fun a w hs=>lsN rfl (hs.sb 0)
 ·refine WS.fx 9 false (decide_eq_false hp) (WS.cF (WS.ex 0 ?_))
  cases h
  exact fun a w hs=>sqE (lsB rfl (hs.sb 0))
theorem zts {L:LC} {m:Nat} {H:AH} {a0:Sl3} {a1:ByteArray} {r:Bool} (h:zmv L H a0 a1=some r) :
  CallS Tryz.prog (NE.plain 258) m 243 #[(Sl3.v a0),(Value.string a1)] H (zkt r) (zn5 H r):=by
 refine CallS.mk (args:=[(Sl3.v a0),(Value.string a1)]) Tryz.func243 (B:=B243) (by kernel_rfl) (fun E _=>?_)
 unfold zmv at h
 refine WS.sq (WS.rg (RS.mS 1 [kB 4 false] (RS.dn (WS.nxt (WS.sq (WS.sq (WS.rg (RS.mS 1 [kI 5 0] (RS.dn ?_)))))))))
 refine WS.nxt (WS.bk 0 ?_)
 obtain ⟨o,hl,h⟩:=bind_some h
 rcases o with v5_4 | r
 ·try dsimp only at h
  refine WS.lI (zgo (L:=L) (E:=E) (m:=m) (H:=H)) (L.ok hl) 0 ?_
  clear hl
  refine fun a w hs=>bkE ((WS.nxt ?_ a w hs))
  refine WS.sq (WS.rg (RS.mS 1 [kB 4 false] (RS.dn (WS.nxt (WS.rt ?_)))))
  cases h
  exact fun a w hs=>rtR (rS hs)
 ·try dsimp only at h
  refine WS.lR (zgo (L:=L) (E:=E) (m:=m) (H:=H)) (L.ok hl) 0 ?_
  cases h
  exact fun a w hq=>bkR (sqR (rtR hq))
noncomputable def B196:Code:=(Tryz.f196.body).getD .skip
def zg5:Bool→Value
 | r0=>(Value.bool r0)
def zhy (H:AH):Bool→AH:=fun _=>H
noncomputable def zbi (L:LC) (H:AH) (a0:Sl3):Int→Option (Lp Int Bool):=fun v3_1 =>
 if v3_1<(a0.n:Int) then
  Option.bind (idxA 1 a0 v3_1) fun p2 =>
  Option.bind (rd deS H p2) fun x3 =>
  Option.bind (slc 1 H a0 none (some v3_1) none) fun s4 =>
  Option.bind (zmv L H s4 x3) fun x5 =>
  if x5=true then
   none
  else
   some (.next (IntKind.i64.wrap (v3_1+1)))
 else
  some (.brk v3_1)
def zni (_L:LC) (_H:AH) (a0:Sl3):Int→KN×Lcs:=fun v3_1=>([kI 3 v3_1,kS 0 a0],[])
noncomputable def zbu (L:LC) (H:AH) (a0:Sl3):Option Bool :=
 Option.bind (L.run (zbi L H a0) 0) fun o=>match o with
 | .inl _ =>
  some false
 | .inr r=>some r
theorem zdk {E m L H a0} :LoopF Tryz.prog (NE.plain 258) m E Tryz.f196 ((cfst (csnd (cfst (csnd B196))))) (zni L H a0) (fun _=>H) 0 zg5 (zhy H) (zbi L H a0):=by
 rintro v3_1 o h
 unfold zbi at h
 try dsimp only at h
 refine WS.sq (WS.sq (WS.rg (RS.mS 4 [kB 7 (decide (v3_1<(a0.n:Int))),kI 6 (a0.n:Int),kS 5 a0,kI 4 v3_1] (RS.dn (WS.nxt ?_)))))
 rcases z0 h with ⟨hp,h⟩ | ⟨hp,h⟩
 ·refine WS.fx 7 true (decide_eq_true hp) (WS.cT (WS.sk (WS.nxt (WS.sq (WS.bk 1 (WS.sq ?_))))))
  refine WS.dr [3,4,5,6] [0,0,3,0,0,24,56,127] 8 (fun hcl=>?_)
  refine DA.tK 3 (some 13) (Sl3.v a0) (DA.tK 4 (some 14) (Value.int .i64 v3_1) ?_)
  obtain ⟨p2,hx,h⟩:=bind_some h
  refine DA.tD 5 (some 15) (Value.pointer (some p2)) (Abs.det_idx (s:=a0) (k:=.i64) (t:=74) (e:=9) (x:=.tmp 13) (y:=.tmp 14) (by kernel_rfl) (by kernel_rfl) (by kernel_rfl) (by kernel_rfl) (by kernel_rfl) hx) ?_
  obtain ⟨x3,hx,h⟩:=bind_some h
  refine DA.tD 6 (some 16) (Value.string x3) (Abs.det_load (t:=9) (x:=.tmp 15) (a:=p2) (by kernel_rfl) (by kernel_rfl) (by kernel_rfl) (by kernel_rfl) (z1 hx za)) (DA.tP 0 (some 10) (Sl3.v a0) (DA.tP 1 (some 11) (Value.int .i64 v3_1) ?_))
  obtain ⟨s4,hx,h⟩:=bind_some h
  refine DA.on 2 (DA.aHj (H':=H) 2 (some 12) false (Sl3.v s4) (Abs.run_slice (t:=74) (e:=9) (x:=.tmp 10) (lo:=none) (hi:=(some (.tmp 11))) (mx:=none) (s:=a0) (k1:=.i64) (k2:=.i64) (k3:=.i64) (by kernel_rfl) (by kernel_rfl) (by kernel_rfl) (by kernel_rfl) (by kernel_rfl) (by kernel_rfl) (by kernel_rfl) hx) ?_)
  obtain ⟨x5,hx,h⟩:=bind_some h
  refine DA.on 7 (DA.aC 7 (some 17) (v:=(Value.bool x5)) 243 #[(Sl3.v s4),(Value.string x3)] (zts hx) (DA.dn (WS.nxt ?_)))
  rcases z0 h with ⟨hp,h⟩ | ⟨hp,h⟩
  ·refine WS.fx 17 true hp (WS.cT ?_)
   cases h
  ·refine WS.fx 17 false (b_not hp) (WS.cF (WS.sk ?_))
   refine fun a w hs=>bkN ((WS.nxt ?_ a w hs))
   refine WS.rg (RS.mS 3 [kI 3 (IntKind.i64.wrap (v3_1+1)),kI 9 (IntKind.i64.wrap (v3_1+1)),kI 8 v3_1] (RS.dn ?_))
   cases h
   exact fun a w hs=>lsN rfl (hs.sb 0)
 ·refine WS.fx 7 false (decide_eq_false hp) (WS.cF (WS.ex 0 ?_))
  cases h
  exact fun a w hs=>sqE (lsB rfl (hs.sb 0))
theorem zi1 {L:LC} {m:Nat} {H:AH} {a0:Sl3} {r:Bool} (h:zbu L H a0=some r) :
  CallS Tryz.prog (NE.plain 258) m 196 #[(Sl3.v a0)] H (zg5 r) (zhy H r):=by
 refine CallS.mk (args:=[(Sl3.v a0)]) Tryz.func196 (B:=B196) (by kernel_rfl) (fun E _=>?_)
 unfold zbu at h
 refine WS.sq (WS.rg (RS.mS 1 [kB 2 false] (RS.dn (WS.nxt (WS.sq (WS.sq (WS.rg (RS.mS 1 [kI 3 0] (RS.dn ?_)))))))))
 refine WS.nxt (WS.bk 0 ?_)
 obtain ⟨o,hl,h⟩:=bind_some h
 rcases o with v3_6 | r
 ·try dsimp only at h
  refine WS.lI (zdk (L:=L) (E:=E) (m:=m) (H:=H)) (L.ok hl) 0 ?_
  clear hl
  refine fun a w hs=>bkE ((WS.nxt ?_ a w hs))
  refine WS.sq (WS.rg (RS.mS 1 [kB 2 false] (RS.dn (WS.nxt (WS.rt ?_)))))
  cases h
  exact fun a w hs=>rtR (rS hs)
 ·try dsimp only at h
  refine WS.lR (zdk (L:=L) (E:=E) (m:=m) (H:=H)) (L.ok hl) 0 ?_
  cases h
  exact fun a w hq=>bkR (sqR (rtR hq))
noncomputable def B125:Code:=(Tryz.f125.body).getD .skip
def zg7:(Int×AH)→Value
 | (r0,_)=>(Value.int .i64 r0)
def ziv (_:AH):(Int×AH)→AH:=fun r=>r.2
noncomputable def zbo (L:LC) (_a0_0 _a0_1:Sl3) (_a0_2 _x1:Sl3) (_x3 s9:Sl3) (H10:AH):Int→Option (Lp Int (Int×AH)):=fun v6_11 =>
 if v6_11<(s9.n:Int) then
  Option.bind (idxA 1 s9 v6_11) fun p12 =>
  Option.bind (rd deS H10 p12) fun x13 =>
  Option.bind (zjw L x13) fun x14 =>
  if x14=true then
   some (.next (IntKind.i64.wrap (v6_11+1)))
  else
   none
 else
  some (.brk v6_11)
def zo0 (_L:LC) (a0_0 a0_1:Sl3) (a0_2 x1:Sl3) (x3 s9:Sl3) (_H10:AH):Int→KN×Lcs:=fun v6_11=>([kI 6 v6_11,kS 3 x1,kS 4 x3,kS 5 s9],[some (77,[(Sl3.v a0_0),(Sl3.v a0_1),(Sl3.v a0_2)])])
noncomputable def zh9 (L:LC) (m:Nat) (H:AH) (a0_0 a0_1 a0_2:Sl3):Option (Int×AH) :=
 Option.bind (z98 L m H a0_0 a0_1 a0_2) fun (x1,H2) =>
 Option.bind (zbj L m H2 a0_0 a0_1 a0_2) fun (x3,H4) =>
 Option.bind (newR 9 0 #[] H4) fun (s5,H6) =>
 Option.bind (appS m 9 1 16 H6 s5 x1) fun (s7,H8) =>
 Option.bind (appS m 9 1 16 H8 s7 x3) fun (s9,H10) =>
 Option.bind (L.run (zbo L a0_0 a0_1 a0_2 x1 x3 s9 H10) 0) fun o=>match o with
 | .inl _ =>
  Option.bind (zbu L H10 x1) fun x16 =>
  if x16=true then
   none
  else
   Option.bind (zbu L H10 x3) fun x17 =>
   if x17=true then
    none
   else
    some (0,H10)
 | .inr r=>some r
theorem zdu {E m H L a0_0 a0_1 a0_2 x1 x3 s9 H10} :LoopF Tryz.prog (NE.plain 258) m E Tryz.f125 ((cfst (csnd (cfst (csnd (csnd (csnd (csnd B125)))))))) (zo0 L a0_0 a0_1 a0_2 x1 x3 s9 H10) (fun _=>H10) 0 zg7 (ziv H) (zbo L a0_0 a0_1 a0_2 x1 x3 s9 H10):=by
 rintro v6_11 o h
 unfold zbo at h
 try dsimp only at h
 refine WS.sq (WS.sq (WS.rg (RS.mS 4 [kB 20 (decide (v6_11<(s9.n:Int))),kI 19 (s9.n:Int),kS 18 s9,kI 17 v6_11] (RS.dn (WS.nxt ?_)))))
 rcases z0 h with ⟨hp,h⟩ | ⟨hp,h⟩
 ·refine WS.fx 20 true (decide_eq_true hp) (WS.cT (WS.sk (WS.nxt (WS.sq (WS.bk 1 (WS.sq (WS.rg (RS.mS 2 [kI 24 v6_11,kS 23 s9] ?_))))))))
  obtain ⟨p12,hx,h⟩:=bind_some h
  refine RS.ix 25 74 9 (.tmp 23) (.tmp 24) hx ?_
  obtain ⟨x13,hx,h⟩:=bind_some h
  refine RS.ld 26 9 (.tmp 25) (z1 hx za) ?_
  obtain ⟨x14,hx,h⟩:=bind_some h
  refine RS.cl (some 27) (v:=(Value.bool x14)) 195 #[(Value.string x13)] (zrt hx) (RS.mS 1 [kB 7 x14] (RS.dn (WS.nxt (WS.sq (WS.rg (RS.mS 2 [kB 29 (!x14),kB 28 x14] (RS.dn (WS.nxt ?_))))))))
  rcases z0 h with ⟨hp,h⟩ | ⟨hp,h⟩
  ·refine WS.fx 29 false (nb_not hp) (WS.cF (WS.sk ?_))
   refine fun a w hs=>bkN ((WS.nxt ?_ a w hs))
   refine WS.rg (RS.mS 3 [kI 6 (IntKind.i64.wrap (v6_11+1)),kI 22 (IntKind.i64.wrap (v6_11+1)),kI 21 v6_11] (RS.dn ?_))
   cases h
   exact fun a w hs=>lsN rfl (hs.sb 1)
  ·refine WS.fx 29 true (zb hp) (WS.cT ?_)
   cases h
 ·refine WS.fx 20 false (decide_eq_false hp) (WS.cF (WS.ex 0 ?_))
  cases h
  exact fun a w hs=>sqE (lsB rfl (hs.sb 1))
theorem zql {L:LC} {m:Nat} {H:AH} {a0_0 a0_1 a0_2:Sl3} {r:(Int×AH)} (h:zh9 L m H a0_0 a0_1 a0_2=some r) :
  CallS Tryz.prog (NE.plain 258) m 125 #[(Value.agg #[(Sl3.v a0_0),(Sl3.v a0_1),(Sl3.v a0_2)])] H (zg7 r) (ziv H r):=by
 refine CallS.mk (args:=[(Value.agg #[(Sl3.v a0_0),(Sl3.v a0_1),(Sl3.v a0_2)])]) Tryz.func125 (B:=B125) (by kernel_rfl) (fun E _=>?_)
 unfold zh9 at h
 refine WS.sq (WS.rg (RS.mL 2 [kI 2 0,kL 1 0 0] ([some (77,[(Sl3.v a0_0),(Sl3.v a0_1),(Sl3.v a0_2)])]) (RS.dn (WS.nxt (WS.sq (WS.rg (RS.mS 1 [kA 8 #[(Sl3.v a0_0),(Sl3.v a0_1),(Sl3.v a0_2)]] ?_)))))))
 obtain ⟨⟨x1,H2⟩,hx,h⟩:=bind_some h
 try dsimp only at h
 refine RS.cl (some 9) (v:=(Sl3.v x1)) 193 #[(Value.agg #[(Sl3.v a0_0),(Sl3.v a0_1),(Sl3.v a0_2)])] (zlx hx) (RS.mS 1 [kS 3 x1] (RS.dn (WS.nxt (WS.sq (WS.rg (RS.mS 1 [kA 10 #[(Sl3.v a0_0),(Sl3.v a0_1),(Sl3.v a0_2)]] ?_))))))
 obtain ⟨⟨x3,H4⟩,hx,h⟩:=bind_some h
 try dsimp only at h
 refine RS.cl (some 11) (v:=(Sl3.v x3)) 194 #[(Value.agg #[(Sl3.v a0_0),(Sl3.v a0_1),(Sl3.v a0_2)])] (zo2 hx) (RS.mS 1 [kS 4 x3] (RS.dn (WS.nxt (WS.sq (WS.rg ?_)))))
 obtain ⟨⟨s5,H6⟩,hx,h⟩:=bind_some h
 try dsimp only at h
 refine RS.o (H':=H6) (some 12) (Sl3.v s5) (Abs.run_newR (by kernel_rfl) (by kernel_rfl) hx) (RS.mS 1 [kS 13 x1] ?_)
 obtain ⟨⟨s7,H8⟩,hx,h⟩:=bind_some h
 try dsimp only at h
 refine RS.o (H':=H8) (some 14) (Sl3.v s7) (Abs.run_app (x:=.tmp 12) (y:=.tmp 13) (ts:=#[74,74]) (s:=s5) (z:=x1) (by kernel_rfl) (by kernel_rfl) (by kernel_rfl) (by kernel_rfl) hx) (RS.mS 1 [kS 15 x3] ?_)
 obtain ⟨⟨s9,H10⟩,hx,h⟩:=bind_some h
 try dsimp only at h
 refine RS.o (H':=H10) (some 16) (Sl3.v s9) (Abs.run_app (x:=.tmp 14) (y:=.tmp 15) (ts:=#[74,74]) (s:=s7) (z:=x3) (by kernel_rfl) (by kernel_rfl) (by kernel_rfl) (by kernel_rfl) hx) (RS.mS 1 [kS 5 s9] (RS.dn (WS.nxt (WS.sq (WS.sq (WS.rg (RS.mS 1 [kI 6 0] (RS.dn (WS.nxt ?_)))))))))
 refine WS.bk 0 ?_
 obtain ⟨o,hl,h⟩:=bind_some h
 rcases o with v6_15 | r
 ·try dsimp only at h
  refine WS.lI (zdu (L:=L) (E:=E) (m:=m) (H:=H)) (L.ok hl) 1 ?_
  clear hl
  refine fun a w hs=>bkE ((WS.nxt ?_ a w hs))
  refine WS.sq (WS.sq (WS.rg (RS.mS 1 [kS 30 x1] ?_)))
  obtain ⟨x16,hx,h⟩:=bind_some h
  refine RS.cl (some 31) (v:=(Value.bool x16)) 196 #[(Sl3.v x1)] (zi1 hx) (RS.mS 1 [kB 32 x16] ?_)
  rcases z0 h with ⟨hp,h⟩ | ⟨hp,h⟩
  ·refine RS.fx 32 true hp ?_
   cases h
  ·refine RS.fx 32 false (b_not hp) (RS.mS 1 [kS 33 x3] ?_)
   obtain ⟨x17,hx,h⟩:=bind_some h
   refine RS.cl (some 34) (v:=(Value.bool x17)) 196 #[(Sl3.v x3)] (zi1 hx) (RS.mS 1 [kB 35 x17] (RS.dn (WS.nxt ?_)))
   rcases z0 h with ⟨hp,h⟩ | ⟨hp,h⟩
   ·refine WS.fx 35 true hp (WS.cT ?_)
    cases h
   ·refine WS.fx 35 false (b_not hp) (WS.cF (WS.sk (WS.nxt (WS.sq (WS.rg (RS.mS 1 [kI 2 0] (RS.dn (WS.nxt (WS.rt ?_)))))))))
    cases h
    exact fun a w hs=>rtR (rS hs)
 ·try dsimp only at h
  refine WS.lR (zdu (L:=L) (E:=E) (m:=m) (H:=H)) (L.ok hl) 1 ?_
  cases h
  exact fun a w hq=>bkR (sqR (rtR hq))
noncomputable def B126:Code:=(Tryz.f126.body).getD .skip
def zab:(Sl3×AH)→Value
 | (r0,_)=>(Sl3.v r0)
def zbg (_:AH):(Sl3×AH)→AH:=fun r=>r.2
noncomputable def zbk (_L:LC) (_a0_0 a0_1 _a0_2:Sl3):(AH×Sl3×Int)→Option (Lp (AH×Sl3×Int) (Sl3×AH)):=fun (H1,v3_2,v4_3) =>
 if v4_3<(a0_1.n:Int) then
  none
 else
  some (.brk (H1,v3_2,v4_3))
def znh (_L:LC) (a0_0 a0_1 a0_2:Sl3):(AH×Sl3×Int)→KN×Lcs:=fun (_,v3_2,v4_3)=>([kS 3 v3_2,kI 4 v4_3,kL 1 0 0],[some (77,[(Sl3.v a0_0),(Sl3.v a0_1),(Sl3.v a0_2)])])
noncomputable def zbc (_L:LC) (m:Nat) (_a0_0 _a0_1 a0_2:Sl3):(AH×Sl3×Int)→Option (Lp (AH×Sl3×Int) (Sl3×AH)):=fun (H7,v3_8,v8_9) =>
 if v8_9<(a0_2.n:Int) then
  Option.bind (idxA 6 a0_2 v8_9) fun p10 =>
  Option.bind (rd deSl H7 (Addr.add p10 1)) fun x11 =>
  Option.bind (appS m 56 4 56 H7 v3_8 x11) fun (s12,H13) =>
  Option.bind (idxA 6 a0_2 v8_9) fun p14 =>
  Option.bind (rd (deI .i64) H13 (Addr.add (Addr.add p14 2) 0)) fun x15_0 =>
  Option.bind (rd (deI .i64) H13 (Addr.add (Addr.add p14 2) 1)) fun x15_1 =>
  Option.bind (rd deS H13 (Addr.add (Addr.add p14 2) 2)) fun x15_2 =>
  Option.bind (rd deSl H13 (Addr.add (Addr.add p14 2) 3)) fun x15_3 =>
  Option.bind (newR 56 1 #[(Value.int .i64 x15_0),(Value.int .i64 x15_1),(Value.string x15_2),(Sl3.v x15_3)] H13) fun (s16,H17) =>
  Option.bind (appS m 56 4 56 H17 s12 s16) fun (s18,H19) =>
  some (.next (H19,s18,(IntKind.i64.wrap (v8_9+1))))
 else
  some (.brk (H7,v3_8,v8_9))
def znj (_L:LC) (_m:Nat) (a0_0 a0_1 a0_2:Sl3):(AH×Sl3×Int)→KN×Lcs:=fun (_,v3_8,v8_9)=>([kS 3 v3_8,kI 8 v8_9,kL 1 0 0],[some (77,[(Sl3.v a0_0),(Sl3.v a0_1),(Sl3.v a0_2)])])
noncomputable def zhe (L:LC) (m:Nat) (H:AH) (a0_0 a0_1 a0_2:Sl3):Option (Sl3×AH) :=
 Option.bind (L.run (zbk L a0_0 a0_1 a0_2) (H,Sl3.nil,0)) fun o=>match o with
 | .inl (H4,v3_5,_) =>
  Option.bind (L.run (zbc L m a0_0 a0_1 a0_2) (H4,v3_5,0)) fun o=>match o with
  | .inl (H20,v3_21,_) =>
   some (v3_21,H20)
  | .inr r=>some r
 | .inr r=>some r
theorem zdi {E m H L a0_0 a0_1 a0_2} :LoopF Tryz.prog (NE.plain 258) m E Tryz.f126 ((cfst (csnd (cfst (csnd (csnd B126)))))) (znh L a0_0 a0_1 a0_2) (fun s=>s.1) 0 zab (zbg H) (zbk L a0_0 a0_1 a0_2):=by
 rintro ⟨H1,v3_2,v4_3⟩ o h
 unfold zbk at h
 try dsimp only at h
 refine WS.sq (WS.sq (WS.rg (RS.mS 5 [kB 13 (decide (v4_3<(a0_1.n:Int))),kI 12 (a0_1.n:Int),kS 11 a0_1,kL 10 0 1,kI 9 v4_3] (RS.dn (WS.nxt ?_)))))
 rcases z0 h with ⟨hp,h⟩ | ⟨hp,h⟩
 ·refine WS.fx 13 true (decide_eq_true hp) (WS.cT ?_)
  cases h
 ·refine WS.fx 13 false (decide_eq_false hp) (WS.cF (WS.ex 0 ?_))
  cases h
  exact fun a w hs=>sqE (lsB rfl (hs.sb 1))
theorem zdt {E H L m a0_0 a0_1 a0_2} :LoopF Tryz.prog (NE.plain 258) m E Tryz.f126 ((cfst (csnd (cfst (csnd (csnd (csnd B126))))))) (znj L m a0_0 a0_1 a0_2) (fun s=>s.1) 6 zab (zbg H) (zbc L m a0_0 a0_1 a0_2):=by
 rintro ⟨H7,v3_8,v8_9⟩ o h
 unfold zbc at h
 try dsimp only at h
 refine WS.sq (WS.sq (WS.rg (RS.mS 5 [kB 56 (decide (v8_9<(a0_2.n:Int))),kI 55 (a0_2.n:Int),kS 54 a0_2,kL 53 0 2,kI 52 v8_9] (RS.dn (WS.nxt ?_)))))
 rcases z0 h with ⟨hp,h⟩ | ⟨hp,h⟩
 ·refine WS.fx 56 true (decide_eq_true hp) (WS.cT (WS.sk (WS.nxt (WS.sq (WS.bk 7 (WS.sq (WS.rg (RS.mS 4 [kI 62 v8_9,kS 61 a0_2,kL 60 0 2,kS 59 v3_8] ?_))))))))
  obtain ⟨p10,hx,h⟩:=bind_some h
  refine RS.ix 63 73 72 (.tmp 61) (.tmp 62) hx (RS.mS 1 [(64,.val (Value.pointer (some (Addr.add p10 1))))] ?_)
  obtain ⟨x11,hx,h⟩:=bind_some h
  refine RS.ld 65 54 (.tmp 64) (z1 hx z3) ?_
  obtain ⟨⟨s12,H13⟩,hx,h⟩:=bind_some h
  try dsimp only at h
  refine RS.o (H':=H13) (some 66) (Sl3.v s12) (Abs.run_app (x:=.tmp 59) (y:=.tmp 65) (ts:=#[54,54]) (s:=v3_8) (z:=x11) (by kernel_rfl) (by kernel_rfl) (by kernel_rfl) (by kernel_rfl) hx) (RS.mS 1 [kS 3 s12] (RS.dn (WS.nxt (WS.rg (RS.mS 4 [kI 70 v8_9,kS 69 a0_2,kL 68 0 2,kS 67 s12] ?_)))))
  obtain ⟨p14,hx,h⟩:=bind_some h
  refine RS.ix 71 73 72 (.tmp 69) (.tmp 70) hx (RS.mS 1 [(72,.val (Value.pointer (some (Addr.add p14 2))))] ?_)
  obtain ⟨x15_0,hx0,h⟩:=bind_some h
  obtain ⟨x15_1,hx1,h⟩:=bind_some h
  obtain ⟨x15_2,hx2,h⟩:=bind_some h
  obtain ⟨x15_3,hx3,h⟩:=bind_some h
  refine RS.la 73 56 (.tmp 72) 4 (z2 (z1 hx0 z4) (z2 (z1 hx1 z4) (z2 (z1 hx2 za) (z2 (z1 hx3 z3) zq)))) ?_
  obtain ⟨⟨s16,H17⟩,hx,h⟩:=bind_some h
  try dsimp only at h
  refine RS.o (H':=H17) (some 74) (Sl3.v s16) (Abs.run_newR (by kernel_rfl) (by kernel_rfl) hx) ?_
  obtain ⟨⟨s18,H19⟩,hx,h⟩:=bind_some h
  try dsimp only at h
  refine RS.o (H':=H19) (some 75) (Sl3.v s18) (Abs.run_app (x:=.tmp 67) (y:=.tmp 74) (ts:=#[54,54]) (s:=s12) (z:=s16) (by kernel_rfl) (by kernel_rfl) (by kernel_rfl) (by kernel_rfl) hx) (RS.mS 1 [kS 3 s18] (RS.dn ?_))
  refine fun a w hs=>bkN ((WS.nxt ?_ a w hs))
  refine WS.rg (RS.mS 3 [kI 8 (IntKind.i64.wrap (v8_9+1)),kI 58 (IntKind.i64.wrap (v8_9+1)),kI 57 v8_9] (RS.dn ?_))
  cases h
  exact fun a w hs=>lsN rfl (hs.sb 1)
 ·refine WS.fx 56 false (decide_eq_false hp) (WS.cF (WS.ex 6 ?_))
  cases h
  exact fun a w hs=>sqE (lsB rfl (hs.sb 1))
theorem zqu {L:LC} {m:Nat} {H:AH} {a0_0 a0_1 a0_2:Sl3} {r:(Sl3×AH)} (h:zhe L m H a0_0 a0_1 a0_2=some r) :
  CallS Tryz.prog (NE.plain 258) m 126 #[(Value.agg #[(Sl3.v a0_0),(Sl3.v a0_1),(Sl3.v a0_2)])] H (zab r) (zbg H r):=by
 refine CallS.mk (args:=[(Value.agg #[(Sl3.v a0_0),(Sl3.v a0_1),(Sl3.v a0_2)])]) Tryz.func126 (B:=B126) (by kernel_rfl) (fun E _=>?_)
 unfold zhe at h
 refine WS.sq (WS.rg (RS.mL 2 [kS 2 Sl3.nil,kL 1 0 0] ([some (77,[(Sl3.v a0_0),(Sl3.v a0_1),(Sl3.v a0_2)])]) (RS.dn (WS.nxt (WS.sq (WS.rg (RS.mS 1 [kS 3 Sl3.nil] (RS.dn (WS.nxt ?_)))))))))
 refine WS.sq (WS.sq (WS.rg (RS.mS 1 [kI 4 0] (RS.dn (WS.nxt (WS.bk 0 ?_))))))
 obtain ⟨o,hl,h⟩:=bind_some h
 rcases o with ⟨H4,v3_5,v4_6⟩ | r
 ·try dsimp only at h
  refine WS.lI (zdi (L:=L) (E:=E) (m:=m) (H:=H)) (L.ok hl) 1 ?_
  clear hl
  refine fun a w hs=>bkE ((WS.nxt ?_ a w hs))
  refine WS.sq (WS.sq (WS.rg (RS.mS 1 [kI 8 0] (RS.dn (WS.nxt (WS.bk 6 ?_))))))
  obtain ⟨o,hl,h⟩:=bind_some h
  rcases o with ⟨H20,v3_21,v8_22⟩ | r
  ·try dsimp only at h
   refine WS.lI (zdt (L:=L) (E:=E) (m:=m) (H:=H)) (L.ok hl) 1 ?_
   clear hl
   refine fun a w hs=>bkE ((WS.nxt ?_ a w hs))
   refine WS.sq (WS.rg (RS.mS 2 [kS 2 v3_21,kS 76 v3_21] (RS.dn (WS.nxt (WS.rt ?_)))))
   cases h
   exact fun a w hs=>rtR (rS hs)
  ·try dsimp only at h
   refine WS.lR (zdt (L:=L) (E:=E) (m:=m) (H:=H)) (L.ok hl) 1 ?_
   cases h
   exact fun a w hq=>bkR (sqR (rtR hq))
 ·try dsimp only at h
  refine WS.lR (zdi (L:=L) (E:=E) (m:=m) (H:=H)) (L.ok hl) 1 ?_
  cases h
  exact fun a w hq=>bkR (sqR (rtR hq))
noncomputable def B244:Code:=(Tryz.f244.body).getD .skip
def z6c:Bool→Value
 | r0=>(Value.bool r0)
def z7r (H:AH):Bool→AH:=fun _=>H
noncomputable def zd5 (_L:LC) (_H:AH) (_a0_0 _a0_1:Int) (_a0_2:ByteArray) (a0_3:Sl3) (_a1:Int):Int→Option (Lp Int Bool):=fun v5_1 =>
 if v5_1<(a0_3.n:Int) then
  none
 else
  some (.brk v5_1)
def zpb (_L:LC) (_H:AH) (a0_0 a0_1:Int) (a0_2:ByteArray) (a0_3:Sl3) (a1:Int):Int→KN×Lcs:=fun v5_1=>([kI 5 v5_1,kI 1 a1,kL 2 0 0],[some (56,[(Value.int .i64 a0_0),(Value.int .i64 a0_1),(Value.string a0_2),(Sl3.v a0_3)])])
noncomputable def z9q (L:LC) (H:AH) (a0_0 a0_1:Int) (a0_2:ByteArray) (a0_3:Sl3) (a1:Int):Option Bool :=
 if a1=0 then
  none
 else
  Option.bind (L.run (zd5 L H a0_0 a0_1 a0_2 a0_3 a1) 0) fun o=>match o with
  | .inl _ =>
   some false
  | .inr r=>some r
noncomputable def zi9 (L:LC) (n:Nat):(AH→Int→Int→ByteArray→Sl3→Int→Option Bool):=Nat.rec (motive:=fun _=>(AH→Int→Int→ByteArray→Sl3→Int→Option Bool)) (fun _ _ _ _ _ _=>none) (fun _ _=>z9q L) n
noncomputable def zpx (L:LC) (H:AH) (a0_0 a0_1:Int) (a0_2:ByteArray) (a0_3:Sl3) (a1:Int):Option Bool:=(zi9 L L.fuel) H a0_0 a0_1 a0_2 a0_3 a1
theorem zep {E m L H a0_0 a0_1 a0_2 a0_3 a1} :LoopF Tryz.prog (NE.plain 258) m E Tryz.f244 ((cfst (csnd (cfst (csnd (csnd B244)))))) (zpb L H a0_0 a0_1 a0_2 a0_3 a1) (fun _=>H) 0 z6c (z7r H) (zd5 L H a0_0 a0_1 a0_2 a0_3 a1):=by
 rintro v5_1 o h
 unfold zd5 at h
 try dsimp only at h
 refine WS.sq (WS.sq (WS.rg (RS.mS 5 [kB 12 (decide (v5_1<(a0_3.n:Int))),kI 11 (a0_3.n:Int),kS 10 a0_3,kL 9 0 3,kI 8 v5_1] (RS.dn (WS.nxt ?_)))))
 rcases z0 h with ⟨hp,h⟩ | ⟨hp,h⟩
 ·refine WS.fx 12 true (decide_eq_true hp) (WS.cT ?_)
  cases h
 ·refine WS.fx 12 false (decide_eq_false hp) (WS.cF (WS.ex 0 ?_))
  cases h
  exact fun a w hs=>sqE (lsB rfl (hs.sb 1))
theorem zmj {L:LC} {m:Nat} {H:AH} {a0_0 a0_1:Int} {a0_2:ByteArray} {a0_3:Sl3} {a1:Int} {r:Bool} (h:z9q L H a0_0 a0_1 a0_2 a0_3 a1=some r) :
  CallS Tryz.prog (NE.plain 258) m 244 #[(Value.agg #[(Value.int .i64 a0_0),(Value.int .i64 a0_1),(Value.string a0_2),(Sl3.v a0_3)]),(Value.int .i64 a1)] H (z6c r) (z7r H r):=by
 refine CallS.mk (args:=[(Value.agg #[(Value.int .i64 a0_0),(Value.int .i64 a0_1),(Value.string a0_2),(Sl3.v a0_3)]),(Value.int .i64 a1)]) Tryz.func244 (B:=B244) (by kernel_rfl) (fun E _=>?_)
 unfold z9q at h
 refine WS.sq (WS.rg (RS.mL 2 [kB 4 false,kL 2 0 0] ([some (56,[(Value.int .i64 a0_0),(Value.int .i64 a0_1),(Value.string a0_2),(Sl3.v a0_3)])]) (RS.dn (WS.nxt (WS.sq (WS.sq (WS.rg (RS.mS 2 [kB 7 (decide (a1=0)),kI 6 a1] (RS.dn ?_)))))))))
 refine WS.nxt ?_
 rcases z0 h with ⟨hp,h⟩ | ⟨hp,h⟩
 ·refine WS.fx 7 true (decide_eq_true hp) (WS.cT ?_)
  cases h
 ·refine WS.fx 7 false (decide_eq_false hp) (WS.cF (WS.sk (WS.nxt (WS.sq (WS.sq (WS.rg (RS.mS 1 [kI 5 0] (RS.dn (WS.nxt ?_)))))))))
  refine WS.bk 0 ?_
  obtain ⟨o,hl,h⟩:=bind_some h
  rcases o with v5_2 | r
  ·try dsimp only at h
   refine WS.lI (zep (L:=L) (E:=E) (m:=m) (H:=H)) (L.ok hl) 1 ?_
   clear hl
   refine fun a w hs=>bkE ((WS.nxt ?_ a w hs))
   refine WS.sq (WS.rg (RS.mS 1 [kB 4 false] (RS.dn (WS.nxt (WS.rt ?_)))))
   cases h
   exact fun a w hs=>rtR (rS hs)
  ·try dsimp only at h
   refine WS.lR (zep (L:=L) (E:=E) (m:=m) (H:=H)) (L.ok hl) 1 ?_
   cases h
   exact fun a w hq=>bkR (sqR (rtR hq))
theorem znq {L:LC}:∀n,(∀(m:Nat) (H:AH) (a0_0 a0_1:Int) (a0_2:ByteArray) (a0_3:Sl3) (a1:Int) (r:Bool),((zi9 L n)) H a0_0 a0_1 a0_2 a0_3 a1=some r→CallS Tryz.prog (NE.plain 258) m 244 #[(Value.agg #[(Value.int .i64 a0_0),(Value.int .i64 a0_1),(Value.string a0_2),(Sl3.v a0_3)]),(Value.int .i64 a1)] H (z6c r) (z7r H r)):=by
 intro n
 induction n with
 | zero=>exact (fun _ _ _ _ _ _ _ _ h=>(Option.some_ne_none _ h.symm).elim)
 | succ n ih=>exact (fun _ _ _ _ _ _ _ _ h=>zmj (L:=L)  h)
theorem zs5 {L:LC} {m:Nat} {H:AH} {a0_0 a0_1:Int} {a0_2:ByteArray} {a0_3:Sl3} {a1:Int} {r:Bool} (h:zpx L H a0_0 a0_1 a0_2 a0_3 a1=some r) :
  CallS Tryz.prog (NE.plain 258) m 244 #[(Value.agg #[(Value.int .i64 a0_0),(Value.int .i64 a0_1),(Value.string a0_2),(Sl3.v a0_3)]),(Value.int .i64 a1)] H (z6c r) (z7r H r) :=
 (znq _) _ _ _ _ _ _ _ _ h
end Go.Proofs.YtkecibinbgaedaaGreatDoor
namespace Go.Proofs.YtkecibinbgaedaaGreatDoor
open Go Go.Abs
set_option maxRecDepth 100000
noncomputable def B245:Code:=(Tryz.f245.body).getD .skip
def z58:Int→Value
 | r0=>(Value.int .i64 r0)
def z66 (H:AH):Int→AH:=fun _=>H
noncomputable def zax (_L:LC) (_H:AH) (_a0_0 _a0_1:Int) (_a0_2:ByteArray) (a0_3:Sl3):(Int×Int)→Option (Lp (Int×Int) Int):=fun (v3_1,v4_2) =>
 if v4_2<(a0_3.n:Int) then
  none
 else
  some (.brk (v3_1,v4_2))
def zna (_L:LC) (_H:AH) (a0_0 a0_1:Int) (a0_2:ByteArray) (a0_3:Sl3):(Int×Int)→KN×Lcs:=fun (v3_1,v4_2)=>([kI 3 v3_1,kI 4 v4_2,kL 1 0 0],[some (56,[(Value.int .i64 a0_0),(Value.int .i64 a0_1),(Value.string a0_2),(Sl3.v a0_3)])])
noncomputable def z7w (L:LC) (H:AH) (a0_0 a0_1:Int) (a0_2:ByteArray) (a0_3:Sl3):Option Int :=
 Option.bind (L.run (zax L H a0_0 a0_1 a0_2 a0_3) (1,0)) fun o=>match o with
 | .inl (v3_3,_) =>
  some v3_3
 | .inr r=>some r
noncomputable def zgh (L:LC) (n:Nat):(AH→Int→Int→ByteArray→Sl3→Option Int):=Nat.rec (motive:=fun _=>(AH→Int→Int→ByteArray→Sl3→Option Int)) (fun _ _ _ _ _=>none) (fun _ _=>z7w L) n
noncomputable def zog (L:LC) (H:AH) (a0_0 a0_1:Int) (a0_2:ByteArray) (a0_3:Sl3):Option Int:=(zgh L L.fuel) H a0_0 a0_1 a0_2 a0_3
theorem zdj {E m L H a0_0 a0_1 a0_2 a0_3} :LoopF Tryz.prog (NE.plain 258) m E Tryz.f245 ((cfst (csnd (cfst (csnd (csnd B245)))))) (zna L H a0_0 a0_1 a0_2 a0_3) (fun _=>H) 0 z58 (z66 H) (zax L H a0_0 a0_1 a0_2 a0_3):=by
 rintro ⟨v3_1,v4_2⟩ o h
 unfold zax at h
 try dsimp only at h
 refine WS.sq (WS.sq (WS.rg (RS.mS 6 [kB 10 (decide (v4_2<(a0_3.n:Int))),kB 9 (decide (v4_2<(a0_3.n:Int))),kI 8 (a0_3.n:Int),kS 7 a0_3,kL 6 0 3,kI 5 v4_2] ?_)))
 rcases z0 h with ⟨hp,h⟩ | ⟨hp,h⟩
 ·refine RS.fx 10 true (decide_eq_true hp) ?_
  cases h
 ·refine RS.fx 10 false (decide_eq_false hp) (RS.mS 3 [kB 13 false,kU 12,kU 11] (RS.dn (WS.nxt (WS.cF (WS.ex 0 ?_)))))
  cases h
  exact fun a w hs=>sqE (lsB rfl (hs.sb 1))
theorem zle {L:LC} {m:Nat} {H:AH} {a0_0 a0_1:Int} {a0_2:ByteArray} {a0_3:Sl3} {r:Int} (h:z7w L H a0_0 a0_1 a0_2 a0_3=some r) :
  CallS Tryz.prog (NE.plain 258) m 245 #[(Value.agg #[(Value.int .i64 a0_0),(Value.int .i64 a0_1),(Value.string a0_2),(Sl3.v a0_3)])] H (z58 r) (z66 H r):=by
 refine CallS.mk (args:=[(Value.agg #[(Value.int .i64 a0_0),(Value.int .i64 a0_1),(Value.string a0_2),(Sl3.v a0_3)])]) Tryz.func245 (B:=B245) (by kernel_rfl) (fun E _=>?_)
 unfold z7w at h
 refine WS.sq (WS.rg (RS.mL 2 [kI 2 0,kL 1 0 0] ([some (56,[(Value.int .i64 a0_0),(Value.int .i64 a0_1),(Value.string a0_2),(Sl3.v a0_3)])]) (RS.dn (WS.nxt (WS.sq (WS.rg (RS.mS 1 [kI 3 1] (RS.dn (WS.nxt ?_)))))))))
 refine WS.sq (WS.sq (WS.rg (RS.mS 1 [kI 4 0] (RS.dn (WS.nxt (WS.bk 0 ?_))))))
 obtain ⟨o,hl,h⟩:=bind_some h
 rcases o with ⟨v3_3,v4_4⟩ | r
 ·try dsimp only at h
  refine WS.lI (zdj (L:=L) (E:=E) (m:=m) (H:=H)) (L.ok hl) 1 ?_
  clear hl
  refine fun a w hs=>bkE ((WS.nxt ?_ a w hs))
  refine WS.sq (WS.rg (RS.mS 2 [kI 2 v3_3,kI 25 v3_3] (RS.dn (WS.nxt (WS.rt ?_)))))
  cases h
  exact fun a w hs=>rtR (rS hs)
 ·try dsimp only at h
  refine WS.lR (zdj (L:=L) (E:=E) (m:=m) (H:=H)) (L.ok hl) 1 ?_
  cases h
  exact fun a w hq=>bkR (sqR (rtR hq))
theorem zlo {L:LC}:∀n,(∀(m:Nat) (H:AH) (a0_0 a0_1:Int) (a0_2:ByteArray) (a0_3:Sl3) (r:Int),((zgh L n)) H a0_0 a0_1 a0_2 a0_3=some r→CallS Tryz.prog (NE.plain 258) m 245 #[(Value.agg #[(Value.int .i64 a0_0),(Value.int .i64 a0_1),(Value.string a0_2),(Sl3.v a0_3)])] H (z58 r) (z66 H r)):=by
 intro n
 induction n with
 | zero=>exact (fun _ _ _ _ _ _ _ h=>(Option.some_ne_none _ h.symm).elim)
 | succ n ih=>exact (fun _ _ _ _ _ _ _ h=>zle (L:=L)  h)
theorem zqt {L:LC} {m:Nat} {H:AH} {a0_0 a0_1:Int} {a0_2:ByteArray} {a0_3:Sl3} {r:Int} (h:zog L H a0_0 a0_1 a0_2 a0_3=some r) :
  CallS Tryz.prog (NE.plain 258) m 245 #[(Value.agg #[(Value.int .i64 a0_0),(Value.int .i64 a0_1),(Value.string a0_2),(Sl3.v a0_3)])] H (z58 r) (z66 H r) :=
 (zlo _) _ _ _ _ _ _ _ h
noncomputable def B246:Code:=(Tryz.f246.body).getD .skip
def z9e:Bool→Value
 | r0=>(Value.bool r0)
def zb6 (H:AH):Bool→AH:=fun _=>H
noncomputable def z87 (_L:LC) (_H:AH) (a0_0 a0_1:Int) (a0_2:ByteArray) (a0_3:Sl3):Option Bool :=
 if a0_0=1 then
  none
 else
  if a0_0=2 then
   none
  else
   if a0_0=3 then
    if a0_1≥1 then
     if a0_1≤4096 then
      if (a0_2.toList == (⟨#[]⟩:ByteArray).toList)=true then
       some (decide ((a0_3.n:Int)=0))
      else
       none
     else
      none
    else
     none
   else
    none
noncomputable def zgn (L:LC) (n:Nat):(AH→Int→Int→ByteArray→Sl3→Option Bool):=Nat.rec (motive:=fun _=>(AH→Int→Int→ByteArray→Sl3→Option Bool)) (fun _ _ _ _ _=>none) (fun _ _=>z87 L) n
noncomputable def zo5 (L:LC) (H:AH) (a0_0 a0_1:Int) (a0_2:ByteArray) (a0_3:Sl3):Option Bool:=(zgn L L.fuel) H a0_0 a0_1 a0_2 a0_3
theorem zl5 {L:LC} {m:Nat} {H:AH} {a0_0 a0_1:Int} {a0_2:ByteArray} {a0_3:Sl3} {r:Bool} (h:z87 L H a0_0 a0_1 a0_2 a0_3=some r) :
  CallS Tryz.prog (NE.plain 258) m 246 #[(Value.agg #[(Value.int .i64 a0_0),(Value.int .i64 a0_1),(Value.string a0_2),(Sl3.v a0_3)])] H (z9e r) (zb6 H r):=by
 refine CallS.mk (args:=[(Value.agg #[(Value.int .i64 a0_0),(Value.int .i64 a0_1),(Value.string a0_2),(Sl3.v a0_3)])]) Tryz.func246 (B:=B246) (by kernel_rfl) (fun E _=>?_)
 unfold z87 at h
 refine WS.sq (WS.rg (RS.mL 2 [kB 2 false,kL 1 0 0] ([some (56,[(Value.int .i64 a0_0),(Value.int .i64 a0_1),(Value.string a0_2),(Sl3.v a0_3)])]) (RS.dn (WS.nxt (WS.sq (WS.sq (WS.rg (RS.mS 2 [kI 4 a0_0,kL 3 0 0] (RS.dn ?_)))))))))
 refine WS.nxt (WS.bk 0 (WS.sq (WS.sq (WS.rg (RS.mS 2 [kB 5 (decide (a0_0=1)),kB 6 (decide (a0_0=1))] (RS.dn (WS.nxt ?_)))))))
 rcases z0 h with ⟨hp,h⟩ | ⟨hp,h⟩
 ·refine WS.fx 5 true (decide_eq_true hp) (WS.cT ?_)
  cases h
 ·refine WS.fx 5 false (decide_eq_false hp) (WS.cF (WS.rg (RS.mS 2 [kB 5 (decide (a0_0=2)),kB 7 (decide (a0_0=2))] (RS.dn (WS.nxt ?_)))))
  rcases z0 h with ⟨hp,h⟩ | ⟨hp,h⟩
  ·refine WS.fx 5 true (decide_eq_true hp) (WS.cT ?_)
   cases h
  ·refine WS.fx 5 false (decide_eq_false hp) (WS.cF (WS.sq (WS.rg (RS.mS 2 [kB 22 (decide (a0_0=3)),kB 23 (decide (a0_0=3))] (RS.dn (WS.nxt ?_))))))
   rcases z0 h with ⟨hp,h⟩ | ⟨hp,h⟩
   ·refine WS.fx 22 true (decide_eq_true hp) (WS.cT (WS.sq (WS.rg (RS.mS 4 [kB 27 (decide (a0_1≥1)),kB 26 (decide (a0_1≥1)),kI 25 a0_1,kL 24 0 1] ?_))))
    rcases z0 h with ⟨hp,h⟩ | ⟨hp,h⟩
    ·refine RS.fx 27 true (decide_eq_true hp) (RS.mS 5 [kB 32 (decide (a0_1≤4096)),kB 31 (decide (a0_1≤4096)),kB 30 (decide (a0_1≤4096)),kI 29 a0_1,kL 28 0 1] ?_)
     rcases z0 h with ⟨hp,h⟩ | ⟨hp,h⟩
     ·refine RS.fx 32 true (decide_eq_true hp) (RS.mS 5 [kB 37 (a0_2.toList == (⟨#[]⟩:ByteArray).toList),kB 36 (a0_2.toList == (⟨#[]⟩:ByteArray).toList),kB 35 (a0_2.toList == (⟨#[]⟩:ByteArray).toList),kT 34 a0_2,kL 33 0 2] ?_)
      rcases z0 h with ⟨hp,h⟩ | ⟨hp,h⟩
      ·refine RS.fx 37 true hp (RS.mS 6 [kB 2 (decide ((a0_3.n:Int)=0)),kB 42 (decide ((a0_3.n:Int)=0)),kB 41 (decide ((a0_3.n:Int)=0)),kI 40 (a0_3.n:Int),kS 39 a0_3,kL 38 0 3] (RS.dn (WS.nxt (WS.rt ?_))))
       cases h
       exact fun a w hs=>bkR (sqR (rtR (rS hs)))
      ·refine RS.fx 37 false (b_not hp) ?_
       cases h
     ·refine RS.fx 32 false (decide_eq_false hp) ?_
      cases h
    ·refine RS.fx 27 false (decide_eq_false hp) ?_
     cases h
   ·refine WS.fx 22 false (decide_eq_false hp) (WS.cF ?_)
    cases h
theorem zm9 {L:LC}:∀n,(∀(m:Nat) (H:AH) (a0_0 a0_1:Int) (a0_2:ByteArray) (a0_3:Sl3) (r:Bool),((zgn L n)) H a0_0 a0_1 a0_2 a0_3=some r→CallS Tryz.prog (NE.plain 258) m 246 #[(Value.agg #[(Value.int .i64 a0_0),(Value.int .i64 a0_1),(Value.string a0_2),(Sl3.v a0_3)])] H (z9e r) (zb6 H r)):=by
 intro n
 induction n with
 | zero=>exact (fun _ _ _ _ _ _ _ h=>(Option.some_ne_none _ h.symm).elim)
 | succ n ih=>exact (fun _ _ _ _ _ _ _ h=>zl5 (L:=L)  h)
theorem zqi {L:LC} {m:Nat} {H:AH} {a0_0 a0_1:Int} {a0_2:ByteArray} {a0_3:Sl3} {r:Bool} (h:zo5 L H a0_0 a0_1 a0_2 a0_3=some r) :
  CallS Tryz.prog (NE.plain 258) m 246 #[(Value.agg #[(Value.int .i64 a0_0),(Value.int .i64 a0_1),(Value.string a0_2),(Sl3.v a0_3)])] H (z9e r) (zb6 H r) :=
 (zm9 _) _ _ _ _ _ _ _ h
noncomputable def B197:Code:=(Tryz.f197.body).getD .skip
def zqf:Int→Value
 | r0=>(Value.int .i64 r0)
def zsn (H:AH):Int→AH:=fun _=>H
noncomputable def zjk (L:LC) (H:AH) (a0_0 a0_1:Int) (a0_2:ByteArray) (a0_3:Sl3):Option Int :=
 Option.bind (zpx L H a0_0 a0_1 a0_2 a0_3 16) fun x1 =>
 if x1=true then
  none
 else
  Option.bind (zog L H a0_0 a0_1 a0_2 a0_3) fun x2 =>
  if x2 > 256 then
   none
  else
   Option.bind (zo5 L H a0_0 a0_1 a0_2 a0_3) fun x3 =>
   if x3=true then
    some 0
   else
    none
theorem zs1 {L:LC} {m:Nat} {H:AH} {a0_0 a0_1:Int} {a0_2:ByteArray} {a0_3:Sl3} {r:Int} (h:zjk L H a0_0 a0_1 a0_2 a0_3=some r) :
  CallS Tryz.prog (NE.plain 258) m 197 #[(Value.agg #[(Value.int .i64 a0_0),(Value.int .i64 a0_1),(Value.string a0_2),(Sl3.v a0_3)])] H (zqf r) (zsn H r):=by
 refine CallS.mk (args:=[(Value.agg #[(Value.int .i64 a0_0),(Value.int .i64 a0_1),(Value.string a0_2),(Sl3.v a0_3)])]) Tryz.func197 (B:=B197) (by kernel_rfl) (fun E _=>?_)
 unfold zjk at h
 refine WS.sq (WS.rg (RS.mL 2 [kI 2 0,kL 1 0 0] ([some (56,[(Value.int .i64 a0_0),(Value.int .i64 a0_1),(Value.string a0_2),(Sl3.v a0_3)])]) (RS.dn (WS.nxt (WS.sq (WS.sq (WS.rg (RS.mS 1 [kA 3 #[(Value.int .i64 a0_0),(Value.int .i64 a0_1),(Value.string a0_2),(Sl3.v a0_3)]] ?_))))))))
 obtain ⟨x1,hx,h⟩:=bind_some h
 refine RS.cl (some 4) (v:=(Value.bool x1)) 244 #[(Value.agg #[(Value.int .i64 a0_0),(Value.int .i64 a0_1),(Value.string a0_2),(Sl3.v a0_3)]),(Value.int .i64 16)] (zs5 hx) (RS.mS 1 [kB 5 x1] ?_)
 rcases z0 h with ⟨hp,h⟩ | ⟨hp,h⟩
 ·refine RS.fx 5 true hp ?_
  cases h
 ·refine RS.fx 5 false (b_not hp) (RS.mS 1 [kA 6 #[(Value.int .i64 a0_0),(Value.int .i64 a0_1),(Value.string a0_2),(Sl3.v a0_3)]] ?_)
  obtain ⟨x2,hx,h⟩:=bind_some h
  refine RS.cl (some 7) (v:=(Value.int .i64 x2)) 245 #[(Value.agg #[(Value.int .i64 a0_0),(Value.int .i64 a0_1),(Value.string a0_2),(Sl3.v a0_3)])] (zqt hx) (RS.mS 2 [kB 9 (decide (x2 > 256)),kB 8 (decide (x2 > 256))] (RS.dn (WS.nxt ?_)))
  rcases z0 h with ⟨hp,h⟩ | ⟨hp,h⟩
  ·refine WS.fx 9 true (decide_eq_true hp) (WS.cT ?_)
   cases h
  ·refine WS.fx 9 false (decide_eq_false hp) (WS.cF (WS.sk (WS.nxt (WS.sq (WS.sq (WS.rg (RS.mS 1 [kA 10 #[(Value.int .i64 a0_0),(Value.int .i64 a0_1),(Value.string a0_2),(Sl3.v a0_3)]] ?_)))))))
   obtain ⟨x3,hx,h⟩:=bind_some h
   refine RS.cl (some 11) (v:=(Value.bool x3)) 246 #[(Value.agg #[(Value.int .i64 a0_0),(Value.int .i64 a0_1),(Value.string a0_2),(Sl3.v a0_3)])] (zqi hx) (RS.mS 1 [kB 12 (!x3)] (RS.dn (WS.nxt ?_)))
   rcases z0 h with ⟨hp,h⟩ | ⟨hp,h⟩
   ·refine WS.fx 12 false (nb_not hp) (WS.cF (WS.sk (WS.nxt (WS.sq (WS.rg (RS.mS 1 [kI 2 0] (RS.dn (WS.nxt (WS.rt ?_)))))))))
    cases h
    exact fun a w hs=>rtR (rS hs)
   ·refine WS.fx 12 true (zb hp) (WS.cT ?_)
    cases h
noncomputable def B198:Code:=(Tryz.f198.body).getD .skip
def z56:Bool→Value
 | r0=>(Value.bool r0)
def z6e (H:AH):Bool→AH:=fun _=>H
noncomputable def zbf (_L:LC) (_H:AH) (_a0_0 _a0_1:Int) (_a0_2:ByteArray) (a0_3 _a1_0:Sl3) (_a1_1 _a1_2:Sl3):Int→Option (Lp Int Bool):=fun v5_1 =>
 if v5_1<(a0_3.n:Int) then
  none
 else
  some (.brk v5_1)
def znv (_L:LC) (_H:AH) (a0_0 a0_1:Int) (a0_2:ByteArray) (a0_3 a1_0:Sl3) (a1_1 a1_2:Sl3):Int→KN×Lcs:=fun v5_1=>([kI 5 v5_1,kL 2 0 0,kL 3 1 0],[some (56,[(Value.int .i64 a0_0),(Value.int .i64 a0_1),(Value.string a0_2),(Sl3.v a0_3)]),some (77,[(Sl3.v a1_0),(Sl3.v a1_1),(Sl3.v a1_2)])])
noncomputable def z89 (L:LC) (H:AH) (a0_0 a0_1:Int) (a0_2:ByteArray) (a0_3 a1_0:Sl3) (a1_1 a1_2:Sl3):Option Bool :=
 if a0_0=5 then
  none
 else
  if a0_0=6 then
   none
  else
   Option.bind (L.run (zbf L H a0_0 a0_1 a0_2 a0_3 a1_0 a1_1 a1_2) 0) fun o=>match o with
   | .inl _ =>
    some true
   | .inr r=>some r
noncomputable def zg9 (L:LC) (n:Nat):(AH→Int→Int→ByteArray→Sl3→Sl3→Sl3→Sl3→Option Bool):=Nat.rec (motive:=fun _=>(AH→Int→Int→ByteArray→Sl3→Sl3→Sl3→Sl3→Option Bool)) (fun _ _ _ _ _ _ _ _=>none) (fun _ _=>z89 L) n
noncomputable def zoc (L:LC) (H:AH) (a0_0 a0_1:Int) (a0_2:ByteArray) (a0_3 a1_0:Sl3) (a1_1 a1_2:Sl3):Option Bool:=(zg9 L L.fuel) H a0_0 a0_1 a0_2 a0_3 a1_0 a1_1 a1_2
theorem zdq {E m L H a0_0 a0_1 a0_2 a0_3 a1_0 a1_1 a1_2} :LoopF Tryz.prog (NE.plain 258) m E Tryz.f198 ((cfst (csnd (cfst (csnd (csnd B198)))))) (znv L H a0_0 a0_1 a0_2 a0_3 a1_0 a1_1 a1_2) (fun _=>H) 0 z56 (z6e H) (zbf L H a0_0 a0_1 a0_2 a0_3 a1_0 a1_1 a1_2):=by
 rintro v5_1 o h
 unfold zbf at h
 try dsimp only at h
 refine WS.sq (WS.sq (WS.rg (RS.mS 5 [kB 33 (decide (v5_1<(a0_3.n:Int))),kI 32 (a0_3.n:Int),kS 31 a0_3,kL 30 0 3,kI 29 v5_1] (RS.dn (WS.nxt ?_)))))
 rcases z0 h with ⟨hp,h⟩ | ⟨hp,h⟩
 ·refine WS.fx 33 true (decide_eq_true hp) (WS.cT ?_)
  cases h
 ·refine WS.fx 33 false (decide_eq_false hp) (WS.cF (WS.ex 0 ?_))
  cases h
  exact fun a w hs=>sqE (lsB rfl (hs.sb 2))
theorem zky {L:LC} {m:Nat} {H:AH} {a0_0 a0_1:Int} {a0_2:ByteArray} {a0_3 a1_0:Sl3} {a1_1 a1_2:Sl3} {r:Bool} (h:z89 L H a0_0 a0_1 a0_2 a0_3 a1_0 a1_1 a1_2=some r) :
  CallS Tryz.prog (NE.plain 258) m 198 #[(Value.agg #[(Value.int .i64 a0_0),(Value.int .i64 a0_1),(Value.string a0_2),(Sl3.v a0_3)]),(Value.agg #[(Sl3.v a1_0),(Sl3.v a1_1),(Sl3.v a1_2)])] H (z56 r) (z6e H r):=by
 refine CallS.mk (args:=[(Value.agg #[(Value.int .i64 a0_0),(Value.int .i64 a0_1),(Value.string a0_2),(Sl3.v a0_3)]),(Value.agg #[(Sl3.v a1_0),(Sl3.v a1_1),(Sl3.v a1_2)])]) Tryz.func198 (B:=B198) (by kernel_rfl) (fun E _=>?_)
 unfold z89 at h
 refine WS.sq (WS.rg (RS.mL 3 [kB 4 false,kL 3 1 0,kL 2 0 0] ([some (56,[(Value.int .i64 a0_0),(Value.int .i64 a0_1),(Value.string a0_2),(Sl3.v a0_3)]),some (77,[(Sl3.v a1_0),(Sl3.v a1_1),(Sl3.v a1_2)])]) (RS.dn (WS.nxt (WS.sq (WS.sq (WS.rg (RS.mS 4 [kB 9 (decide (a0_0=5)),kB 8 (decide (a0_0=5)),kI 7 a0_0,kL 6 0 0] ?_))))))))
 rcases z0 h with ⟨hp,h⟩ | ⟨hp,h⟩
 ·refine RS.fx 9 true (decide_eq_true hp) ?_
  cases h
 ·refine RS.fx 9 false (decide_eq_false hp) (RS.mS 12 [kB 21 (decide (a0_0=6)),kB 20 (decide (a0_0=6)),kI 19 a0_0,kL 18 0 0,kB 17 false,kB 16 false,kU 15,kU 14,kU 13,kU 12,kU 11,kU 10] ?_)
  rcases z0 h with ⟨hp,h⟩ | ⟨hp,h⟩
  ·refine RS.fx 21 true (decide_eq_true hp) ?_
   cases h
  ·refine RS.fx 21 false (decide_eq_false hp) (RS.mS 7 [kB 28 false,kB 27 false,kU 26,kU 25,kU 24,kU 23,kU 22] (RS.dn (WS.nxt (WS.cF (WS.sk (WS.nxt (WS.sq (WS.sq (WS.rg ?_)))))))))
   refine RS.mS 1 [kI 5 0] (RS.dn (WS.nxt (WS.bk 0 ?_)))
   obtain ⟨o,hl,h⟩:=bind_some h
   rcases o with v5_2 | r
   ·try dsimp only at h
    refine WS.lI (zdq (L:=L) (E:=E) (m:=m) (H:=H)) (L.ok hl) 2 ?_
    clear hl
    refine fun a w hs=>bkE ((WS.nxt ?_ a w hs))
    refine WS.sq (WS.rg (RS.mS 1 [kB 4 true] (RS.dn (WS.nxt (WS.rt ?_)))))
    cases h
    exact fun a w hs=>rtR (rS hs)
   ·try dsimp only at h
    refine WS.lR (zdq (L:=L) (E:=E) (m:=m) (H:=H)) (L.ok hl) 2 ?_
    cases h
    exact fun a w hq=>bkR (sqR (rtR hq))
theorem zmz {L:LC}:∀n,(∀(m:Nat) (H:AH) (a0_0 a0_1:Int) (a0_2:ByteArray) (a0_3 a1_0:Sl3) (a1_1 a1_2:Sl3) (r:Bool),((zg9 L n)) H a0_0 a0_1 a0_2 a0_3 a1_0 a1_1 a1_2=some r→CallS Tryz.prog (NE.plain 258) m 198 #[(Value.agg #[(Value.int .i64 a0_0),(Value.int .i64 a0_1),(Value.string a0_2),(Sl3.v a0_3)]),(Value.agg #[(Sl3.v a1_0),(Sl3.v a1_1),(Sl3.v a1_2)])] H (z56 r) (z6e H r)):=by
 intro n
 induction n with
 | zero=>exact (fun _ _ _ _ _ _ _ _ _ _ h=>(Option.some_ne_none _ h.symm).elim)
 | succ n ih=>exact (fun _ _ _ _ _ _ _ _ _ _ h=>zky (L:=L)  h)
theorem zr9 {L:LC} {m:Nat} {H:AH} {a0_0 a0_1:Int} {a0_2:ByteArray} {a0_3 a1_0:Sl3} {a1_1 a1_2:Sl3} {r:Bool} (h:zoc L H a0_0 a0_1 a0_2 a0_3 a1_0 a1_1 a1_2=some r) :
  CallS Tryz.prog (NE.plain 258) m 198 #[(Value.agg #[(Value.int .i64 a0_0),(Value.int .i64 a0_1),(Value.string a0_2),(Sl3.v a0_3)]),(Value.agg #[(Sl3.v a1_0),(Sl3.v a1_1),(Sl3.v a1_2)])] H (z56 r) (z6e H r) :=
 (zmz _) _ _ _ _ _ _ _ _ _ _ h
noncomputable def B127:Code:=(Tryz.f127.body).getD .skip
def zpp:Int→Value
 | r0=>(Value.int .i64 r0)
def zqy (H:AH):Int→AH:=fun _=>H
noncomputable def zgt (L:LC) (H:AH) (a0_0 a0_1:Int) (a0_2:ByteArray) (a0_3 a1_0:Sl3) (a1_1 a1_2:Sl3):Option Int :=
 Option.bind (zjk L H a0_0 a0_1 a0_2 a0_3) fun x1 =>
 if x1=0 then
  Option.bind (zoc L H a0_0 a0_1 a0_2 a0_3 a1_0 a1_1 a1_2) fun x2 =>
  if x2=true then
   some 0
  else
   none
 else
  none
theorem zqv {L:LC} {m:Nat} {H:AH} {a0_0 a0_1:Int} {a0_2:ByteArray} {a0_3 a1_0:Sl3} {a1_1 a1_2:Sl3} {r:Int} (h:zgt L H a0_0 a0_1 a0_2 a0_3 a1_0 a1_1 a1_2=some r) :
  CallS Tryz.prog (NE.plain 258) m 127 #[(Value.agg #[(Value.int .i64 a0_0),(Value.int .i64 a0_1),(Value.string a0_2),(Sl3.v a0_3)]),(Value.agg #[(Sl3.v a1_0),(Sl3.v a1_1),(Sl3.v a1_2)])] H (zpp r) (zqy H r):=by
 refine CallS.mk (args:=[(Value.agg #[(Value.int .i64 a0_0),(Value.int .i64 a0_1),(Value.string a0_2),(Sl3.v a0_3)]),(Value.agg #[(Sl3.v a1_0),(Sl3.v a1_1),(Sl3.v a1_2)])]) Tryz.func127 (B:=B127) (by kernel_rfl) (fun E _=>?_)
 unfold zgt at h
 refine WS.sq (WS.rg (RS.mL 3 [kI 4 0,kL 3 1 0,kL 2 0 0] ([some (56,[(Value.int .i64 a0_0),(Value.int .i64 a0_1),(Value.string a0_2),(Sl3.v a0_3)]),some (77,[(Sl3.v a1_0),(Sl3.v a1_1),(Sl3.v a1_2)])]) (RS.dn (WS.nxt (WS.sq (WS.rg (RS.mS 1 [kA 6 #[(Value.int .i64 a0_0),(Value.int .i64 a0_1),(Value.string a0_2),(Sl3.v a0_3)]] ?_)))))))
 obtain ⟨x1,hx,h⟩:=bind_some h
 refine RS.cl (some 7) (v:=(Value.int .i64 x1)) 197 #[(Value.agg #[(Value.int .i64 a0_0),(Value.int .i64 a0_1),(Value.string a0_2),(Sl3.v a0_3)])] (zs1 hx) (RS.mS 1 [kI 5 x1] (RS.dn (WS.nxt (WS.sq (WS.sq (WS.rg (RS.mS 2 [kB 9 (!decide (x1=0)),kI 8 x1] (RS.dn (WS.nxt ?_)))))))))
 rcases z0 h with ⟨hp,h⟩ | ⟨hp,h⟩
 ·refine WS.fx 9 false (zd hp) (WS.cF (WS.sk (WS.nxt (WS.sq (WS.sq (WS.rg (RS.mS 2 [kA 12 #[(Sl3.v a1_0),(Sl3.v a1_1),(Sl3.v a1_2)],kA 11 #[(Value.int .i64 a0_0),(Value.int .i64 a0_1),(Value.string a0_2),(Sl3.v a0_3)]] ?_)))))))
  obtain ⟨x2,hx,h⟩:=bind_some h
  refine RS.cl (some 13) (v:=(Value.bool x2)) 198 #[(Value.agg #[(Value.int .i64 a0_0),(Value.int .i64 a0_1),(Value.string a0_2),(Sl3.v a0_3)]),(Value.agg #[(Sl3.v a1_0),(Sl3.v a1_1),(Sl3.v a1_2)])] (zr9 hx) (RS.mS 1 [kB 14 (!x2)] (RS.dn (WS.nxt ?_)))
  rcases z0 h with ⟨hp,h⟩ | ⟨hp,h⟩
  ·refine WS.fx 14 false (nb_not hp) (WS.cF (WS.sk (WS.nxt (WS.sq (WS.rg (RS.mS 1 [kI 4 0] (RS.dn (WS.nxt (WS.rt ?_)))))))))
   cases h
   exact fun a w hs=>rtR (rS hs)
  ·refine WS.fx 14 true (zb hp) (WS.cT ?_)
   cases h
 ·refine WS.fx 9 true (z9 hp) (WS.cT ?_)
  cases h
noncomputable def B129:Code:=(Tryz.f129.body).getD .skip
def zdl:(Sl3×AH)→Value
 | (r0,_)=>(Sl3.v r0)
def zef (_:AH):(Sl3×AH)→AH:=fun r=>r.2
noncomputable def z84 (_L:LC) (_a0_0 a0_1:Sl3) (_a0_2 _s1:Sl3):(AH×Int)→Option (Lp (AH×Int) (Sl3×AH)):=fun (H3,v4_4) =>
 if v4_4<(a0_1.n:Int) then
  none
 else
  some (.brk (H3,v4_4))
def zlf (_L:LC) (a0_0 a0_1:Sl3) (a0_2 s1:Sl3):(AH×Int)→KN×Lcs:=fun (_,v4_4)=>([kI 4 v4_4,kL 1 0 0,kS 3 s1],[some (77,[(Sl3.v a0_0),(Sl3.v a0_1),(Sl3.v a0_2)])])
noncomputable def zda (L:LC) (_m:Nat) (H:AH) (a0_0 a0_1 a0_2:Sl3):Option (Sl3×AH) :=
 Option.bind (mkS 4 1 1 #[(Value.bool false)] H (a0_1.n:Int) (a0_1.n:Int)) fun (s1,H2) =>
 Option.bind (L.run (z84 L a0_0 a0_1 a0_2 s1) (H2,0)) fun o=>match o with
 | .inl (H5,_) =>
  some (s1,H5)
 | .inr r=>some r
theorem zau {E m H L a0_0 a0_1 a0_2 s1} :LoopF Tryz.prog (NE.plain 258) m E Tryz.f129 ((cfst (csnd (cfst (csnd (csnd B129)))))) (zlf L a0_0 a0_1 a0_2 s1) (fun s=>s.1) 0 zdl (zef H) (z84 L a0_0 a0_1 a0_2 s1):=by
 rintro ⟨H3,v4_4⟩ o h
 unfold z84 at h
 try dsimp only at h
 refine WS.sq (WS.sq (WS.rg (RS.mS 5 [kB 14 (decide (v4_4<(a0_1.n:Int))),kI 13 (a0_1.n:Int),kS 12 a0_1,kL 11 0 1,kI 10 v4_4] (RS.dn (WS.nxt ?_)))))
 rcases z0 h with ⟨hp,h⟩ | ⟨hp,h⟩
 ·refine WS.fx 14 true (decide_eq_true hp) (WS.cT ?_)
  cases h
 ·refine WS.fx 14 false (decide_eq_false hp) (WS.cF (WS.ex 0 ?_))
  cases h
  exact fun a w hs=>sqE (lsB rfl (hs.sb 1))
theorem zov {L:LC} {m:Nat} {H:AH} {a0_0 a0_1 a0_2:Sl3} {r:(Sl3×AH)} (h:zda L m H a0_0 a0_1 a0_2=some r) :
  CallS Tryz.prog (NE.plain 258) m 129 #[(Value.agg #[(Sl3.v a0_0),(Sl3.v a0_1),(Sl3.v a0_2)])] H (zdl r) (zef H r):=by
 refine CallS.mk (args:=[(Value.agg #[(Sl3.v a0_0),(Sl3.v a0_1),(Sl3.v a0_2)])]) Tryz.func129 (B:=B129) (by kernel_rfl) (fun E _=>?_)
 unfold zda at h
 refine WS.sq (WS.rg (RS.mL 2 [kS 2 Sl3.nil,kL 1 0 0] ([some (77,[(Sl3.v a0_0),(Sl3.v a0_1),(Sl3.v a0_2)])]) (RS.dn (WS.nxt (WS.sq (WS.rg (RS.mS 3 [kI 8 (a0_1.n:Int),kS 7 a0_1,kL 6 0 1] ?_)))))))
 obtain ⟨⟨s1,H2⟩,hx,h⟩:=bind_some h
 try dsimp only at h
 refine RS.o (H':=H2) (some 9) (Sl3.v s1) (Abs.run_mk (t:=22) (x:=.tmp 8) (y:=.tmp 8) (k1:=.i64) (k2:=.i64) (by kernel_rfl) (by kernel_rfl) (by kernel_rfl) (by kernel_rfl) hx) (RS.mS 1 [kS 3 s1] (RS.dn (WS.nxt (WS.sq (WS.sq (WS.rg (RS.mS 1 [kI 4 0] (RS.dn (WS.nxt ?_)))))))))
 refine WS.bk 0 ?_
 obtain ⟨o,hl,h⟩:=bind_some h
 rcases o with ⟨H5,v4_6⟩ | r
 ·try dsimp only at h
  refine WS.lI (zau (L:=L) (E:=E) (m:=m) (H:=H)) (L.ok hl) 1 ?_
  clear hl
  refine fun a w hs=>bkE ((WS.nxt ?_ a w hs))
  refine WS.sq (WS.rg (RS.mS 2 [kS 2 s1,kS 35 s1] (RS.dn (WS.nxt (WS.rt ?_)))))
  cases h
  exact fun a w hs=>rtR (rS hs)
 ·try dsimp only at h
  refine WS.lR (zau (L:=L) (E:=E) (m:=m) (H:=H)) (L.ok hl) 1 ?_
  cases h
  exact fun a w hq=>bkR (sqR (rtR hq))
noncomputable def B74:Code:=(Tryz.f74.body).getD .skip
def z3b:(Int×AH)→Value
 | (r0,_)=>(Value.int .i64 r0)
def z3t (_:AH):(Int×AH)→AH:=fun r=>r.2
noncomputable def z78 (L:LC) (a0_0 a0_1:Sl3) (a0_2 x4:Sl3) (H5:AH):Int→Option (Lp Int (Int×AH)):=fun v5_6 =>
 if v5_6<(x4.n:Int) then
  Option.bind (idxA 4 x4 v5_6) fun p7 =>
  Option.bind (rd (deI .i64) H5 (Addr.add p7 0)) fun x8_0 =>
  Option.bind (rd (deI .i64) H5 (Addr.add p7 1)) fun x8_1 =>
  Option.bind (rd deS H5 (Addr.add p7 2)) fun x8_2 =>
  Option.bind (rd deSl H5 (Addr.add p7 3)) fun x8_3 =>
  Option.bind (zgt L H5 x8_0 x8_1 x8_2 x8_3 a0_0 a0_1 a0_2) fun x9 =>
  if x9=0 then
   some (.next (IntKind.i64.wrap (v5_6+1)))
  else
   none
 else
  some (.brk v5_6)
def zkb (_L:LC) (a0_0 a0_1:Sl3) (a0_2 x4:Sl3) (_H5:AH):Int→KN×Lcs:=fun v5_6=>([kI 5 v5_6,kL 1 0 0,kS 4 x4],[some (77,[(Sl3.v a0_0),(Sl3.v a0_1),(Sl3.v a0_2)])])
noncomputable def z6q (_L:LC) (_a0_0 a0_1 _a0_2:Sl3):(AH×Int)→Option (Lp (AH×Int) (Int×AH)):=fun (H11,v6_12) =>
 if v6_12<(a0_1.n:Int) then
  none
 else
  some (.brk (H11,v6_12))
def zk9 (_L:LC) (a0_0 a0_1 a0_2:Sl3):(AH×Int)→KN×Lcs:=fun (_,v6_12)=>([kI 6 v6_12,kL 1 0 0],[some (77,[(Sl3.v a0_0),(Sl3.v a0_1),(Sl3.v a0_2)])])
noncomputable def z6r (_L:LC) (_a0_0 _a0_1:Sl3) (_a0_2 x15:Sl3) (_H16:AH):Int→Option (Lp Int (Int×AH)):=fun v8_17 =>
 if v8_17<(x15.n:Int) then
  none
 else
  some (.brk v8_17)
def zj3 (_L:LC) (a0_0 a0_1:Sl3) (a0_2 x15:Sl3) (_H16:AH):Int→KN×Lcs:=fun v8_17=>([kI 8 v8_17,kS 7 x15],[some (77,[(Sl3.v a0_0),(Sl3.v a0_1),(Sl3.v a0_2)])])
noncomputable def zbr (L:LC) (m:Nat) (H:AH) (a0_0 a0_1 a0_2:Sl3):Option (Int×AH) :=
 Option.bind (zjr L H a0_0 a0_1 a0_2) fun x1 =>
 if x1=true then
  none
 else
  Option.bind (zh9 L m H a0_0 a0_1 a0_2) fun (x2,H3) =>
  if x2=0 then
   Option.bind (zhe L m H3 a0_0 a0_1 a0_2) fun (x4,H5) =>
   Option.bind (L.run (z78 L a0_0 a0_1 a0_2 x4 H5) 0) fun o=>match o with
   | .inl _ =>
    Option.bind (L.run (z6q L a0_0 a0_1 a0_2) (H5,0)) fun o=>match o with
    | .inl (H13,_) =>
     Option.bind (zda L m H13 a0_0 a0_1 a0_2) fun (x15,H16) =>
     Option.bind (L.run (z6r L a0_0 a0_1 a0_2 x15 H16) 0) fun o=>match o with
     | .inl _ =>
      some (0,H16)
     | .inr r=>some r
    | .inr r=>some r
   | .inr r=>some r
  else
   none
theorem z9t {E m H L a0_0 a0_1 a0_2 x4 H5} :LoopF Tryz.prog (NE.plain 258) m E Tryz.f74 ((cfst (csnd (cfst (csnd (csnd (csnd (csnd (csnd B74))))))))) (zkb L a0_0 a0_1 a0_2 x4 H5) (fun _=>H5) 0 z3b (z3t H) (z78 L a0_0 a0_1 a0_2 x4 H5):=by
 rintro v5_6 o h
 unfold z78 at h
 try dsimp only at h
 refine WS.sq (WS.sq (WS.rg (RS.mS 4 [kB 21 (decide (v5_6<(x4.n:Int))),kI 20 (x4.n:Int),kS 19 x4,kI 18 v5_6] (RS.dn (WS.nxt ?_)))))
 rcases z0 h with ⟨hp,h⟩ | ⟨hp,h⟩
 ·refine WS.fx 21 true (decide_eq_true hp) (WS.cT (WS.sk (WS.nxt (WS.sq (WS.bk 1 (WS.sq ?_))))))
  refine WS.dr [0,1,2,3,4] [0,0,3,7,0,31,63] 7 (fun hcl=>?_)
  refine DA.tK 0 (some 24) (Sl3.v x4) (DA.tK 1 (some 25) (Value.int .i64 v5_6) ?_)
  obtain ⟨p7,hx,h⟩:=bind_some h
  refine DA.tD 2 (some 26) (Value.pointer (some p7)) (Abs.det_idx (s:=x4) (k:=.i64) (t:=54) (e:=56) (x:=.tmp 24) (y:=.tmp 25) (by kernel_rfl) (by kernel_rfl) (by kernel_rfl) (by kernel_rfl) (by kernel_rfl) hx) ?_
  obtain ⟨x8_0,hx0,h⟩:=bind_some h
  obtain ⟨x8_1,hx1,h⟩:=bind_some h
  obtain ⟨x8_2,hx2,h⟩:=bind_some h
  obtain ⟨x8_3,hx3,h⟩:=bind_some h
  refine DA.tD 3 (some 27) (Value.agg #[(Value.int .i64 x8_0),(Value.int .i64 x8_1),(Value.string x8_2),(Sl3.v x8_3)]) (Abs.det_loadA (t:=56) (x:=.tmp 26) (a:=p7) (k:=4) (by kernel_rfl) (by kernel_rfl) (by kernel_rfl) (by kernel_rfl) (z2 (z1 hx0 z4) (z2 (z1 hx1 z4) (z2 (z1 hx2 za) (z2 (z1 hx3 z3) zq))))) (DA.tL 4 (some 28) (.val (Value.agg #[(Sl3.v a0_0),(Sl3.v a0_1),(Sl3.v a0_2)])) ?_)
  obtain ⟨x9,hx,h⟩:=bind_some h
  refine DA.on 5 (DA.aC 5 (some 29) (v:=(Value.int .i64 x9)) 127 #[(Value.agg #[(Value.int .i64 x8_0),(Value.int .i64 x8_1),(Value.string x8_2),(Sl3.v x8_3)]),(Value.agg #[(Sl3.v a0_0),(Sl3.v a0_1),(Sl3.v a0_2)])] (zqv hx) (DA.tP 6 (some 3) (Value.int .i64 x9) (DA.dn (WS.nxt (WS.sq (WS.rg (RS.mS 2 [kB 31 (!decide (x9=0)),kI 30 x9] (RS.dn (WS.nxt ?_)))))))))
  rcases z0 h with ⟨hp,h⟩ | ⟨hp,h⟩
  ·refine WS.fx 31 false (zd hp) (WS.cF (WS.sk ?_))
   refine fun a w hs=>bkN ((WS.nxt ?_ a w hs))
   refine WS.rg (RS.mS 3 [kI 5 (IntKind.i64.wrap (v5_6+1)),kI 23 (IntKind.i64.wrap (v5_6+1)),kI 22 v5_6] (RS.dn ?_))
   cases h
   exact fun a w hs=>lsN rfl (hs.sb 1)
  ·refine WS.fx 31 true (z9 hp) (WS.cT ?_)
   cases h
 ·refine WS.fx 21 false (decide_eq_false hp) (WS.cF (WS.ex 0 ?_))
  cases h
  exact fun a w hs=>sqE (lsB rfl (hs.sb 1))
theorem z9g {E m H L a0_0 a0_1 a0_2} :LoopF Tryz.prog (NE.plain 258) m E Tryz.f74 ((cfst (csnd (cfst (csnd (csnd (csnd (csnd (csnd (csnd B74)))))))))) (zk9 L a0_0 a0_1 a0_2) (fun s=>s.1) 2 z3b (z3t H) (z6q L a0_0 a0_1 a0_2):=by
 rintro ⟨H11,v6_12⟩ o h
 unfold z6q at h
 try dsimp only at h
 refine WS.sq (WS.sq (WS.rg (RS.mS 5 [kB 37 (decide (v6_12<(a0_1.n:Int))),kI 36 (a0_1.n:Int),kS 35 a0_1,kL 34 0 1,kI 33 v6_12] (RS.dn (WS.nxt ?_)))))
 rcases z0 h with ⟨hp,h⟩ | ⟨hp,h⟩
 ·refine WS.fx 37 true (decide_eq_true hp) (WS.cT ?_)
  cases h
 ·refine WS.fx 37 false (decide_eq_false hp) (WS.cF (WS.ex 2 ?_))
  cases h
  exact fun a w hs=>sqE (lsB rfl (hs.sb 1))
theorem z9n {E m H L a0_0 a0_1 a0_2 x15 H16} :LoopF Tryz.prog (NE.plain 258) m E Tryz.f74 ((cfst (csnd (cfst (csnd (csnd (csnd (csnd (csnd (csnd (csnd (csnd B74)))))))))))) (zj3 L a0_0 a0_1 a0_2 x15 H16) (fun _=>H16) 4 z3b (z3t H) (z6r L a0_0 a0_1 a0_2 x15 H16):=by
 rintro v8_17 o h
 unfold z6r at h
 try dsimp only at h
 refine WS.sq (WS.sq (WS.rg (RS.mS 4 [kB 48 (decide (v8_17<(x15.n:Int))),kI 47 (x15.n:Int),kS 46 x15,kI 45 v8_17] (RS.dn (WS.nxt ?_)))))
 rcases z0 h with ⟨hp,h⟩ | ⟨hp,h⟩
 ·refine WS.fx 48 true (decide_eq_true hp) (WS.cT ?_)
  cases h
 ·refine WS.fx 48 false (decide_eq_false hp) (WS.cF (WS.ex 4 ?_))
  cases h
  exact fun a w hs=>sqE (lsB rfl (hs.sb 1))
theorem znb {L:LC} {m:Nat} {H:AH} {a0_0 a0_1 a0_2:Sl3} {r:(Int×AH)} (h:zbr L m H a0_0 a0_1 a0_2=some r) :
  CallS Tryz.prog (NE.plain 258) m 74 #[(Value.agg #[(Sl3.v a0_0),(Sl3.v a0_1),(Sl3.v a0_2)])] H (z3b r) (z3t H r):=by
 refine CallS.mk (args:=[(Value.agg #[(Sl3.v a0_0),(Sl3.v a0_1),(Sl3.v a0_2)])]) Tryz.func74 (B:=B74) (by kernel_rfl) (fun E _=>?_)
 unfold zbr at h
 refine WS.sq (WS.rg (RS.mL 2 [kI 2 0,kL 1 0 0] ([some (77,[(Sl3.v a0_0),(Sl3.v a0_1),(Sl3.v a0_2)])]) (RS.dn (WS.nxt (WS.sq (WS.sq (WS.rg (RS.mS 1 [kA 9 #[(Sl3.v a0_0),(Sl3.v a0_1),(Sl3.v a0_2)]] ?_))))))))
 obtain ⟨x1,hx,h⟩:=bind_some h
 refine RS.cl (some 10) (v:=(Value.bool x1)) 124 #[(Value.agg #[(Sl3.v a0_0),(Sl3.v a0_1),(Sl3.v a0_2)])] (zrs hx) (RS.dn (WS.nxt ?_))
 rcases z0 h with ⟨hp,h⟩ | ⟨hp,h⟩
 ·refine WS.fx 10 true hp (WS.cT ?_)
  cases h
 ·refine WS.fx 10 false (b_not hp) (WS.cF (WS.sk (WS.nxt (WS.sq (WS.rg (RS.mS 1 [kA 11 #[(Sl3.v a0_0),(Sl3.v a0_1),(Sl3.v a0_2)]] ?_))))))
  obtain ⟨⟨x2,H3⟩,hx,h⟩:=bind_some h
  try dsimp only at h
  refine RS.cl (some 12) (v:=(Value.int .i64 x2)) 125 #[(Value.agg #[(Sl3.v a0_0),(Sl3.v a0_1),(Sl3.v a0_2)])] (zql hx) (RS.mS 1 [kI 3 x2] (RS.dn (WS.nxt (WS.sq (WS.sq (WS.rg (RS.mS 2 [kB 14 (!decide (x2=0)),kI 13 x2] (RS.dn (WS.nxt ?_)))))))))
  rcases z0 h with ⟨hp,h⟩ | ⟨hp,h⟩
  ·refine WS.fx 14 false (zd hp) (WS.cF (WS.sk (WS.nxt (WS.sq (WS.rg (RS.mS 1 [kA 16 #[(Sl3.v a0_0),(Sl3.v a0_1),(Sl3.v a0_2)]] ?_))))))
   obtain ⟨⟨x4,H5⟩,hx,h⟩:=bind_some h
   try dsimp only at h
   refine RS.cl (some 17) (v:=(Sl3.v x4)) 126 #[(Value.agg #[(Sl3.v a0_0),(Sl3.v a0_1),(Sl3.v a0_2)])] (zqu hx) (RS.mS 1 [kS 4 x4] (RS.dn (WS.nxt (WS.sq (WS.sq (WS.rg (RS.mS 1 [kI 5 0] (RS.dn (WS.nxt ?_)))))))))
   refine WS.bk 0 ?_
   obtain ⟨o,hl,h⟩:=bind_some h
   rcases o with v5_10 | r
   ·try dsimp only at h
    refine WS.lI (z9t (L:=L) (E:=E) (m:=m) (H:=H)) (L.ok hl) 1 ?_
    clear hl
    refine fun a w hs=>bkE ((WS.nxt ?_ a w hs))
    refine WS.sq (WS.sq (WS.rg (RS.mS 1 [kI 6 0] (RS.dn (WS.nxt (WS.bk 2 ?_))))))
    obtain ⟨o,hl,h⟩:=bind_some h
    rcases o with ⟨H13,v6_14⟩ | r
    ·try dsimp only at h
     refine WS.lI (z9g (L:=L) (E:=E) (m:=m) (H:=H)) (L.ok hl) 1 ?_
     clear hl
     refine fun a w hs=>bkE ((WS.nxt ?_ a w hs))
     refine WS.sq (WS.rg (RS.mS 1 [kA 43 #[(Sl3.v a0_0),(Sl3.v a0_1),(Sl3.v a0_2)]] ?_))
     obtain ⟨⟨x15,H16⟩,hx,h⟩:=bind_some h
     try dsimp only at h
     refine RS.cl (some 44) (v:=(Sl3.v x15)) 129 #[(Value.agg #[(Sl3.v a0_0),(Sl3.v a0_1),(Sl3.v a0_2)])] (zov hx) (RS.mS 1 [kS 7 x15] (RS.dn (WS.nxt (WS.sq (WS.sq (WS.rg (RS.mS 1 [kI 8 0] (RS.dn (WS.nxt ?_)))))))))
     refine WS.bk 4 ?_
     obtain ⟨o,hl,h⟩:=bind_some h
     rcases o with v8_18 | r
     ·try dsimp only at h
      refine WS.lI (z9n (L:=L) (E:=E) (m:=m) (H:=H)) (L.ok hl) 1 ?_
      clear hl
      refine fun a w hs=>bkE ((WS.nxt ?_ a w hs))
      refine WS.sq (WS.rg (RS.mS 1 [kI 2 0] (RS.dn (WS.nxt (WS.rt ?_)))))
      cases h
      exact fun a w hs=>rtR (rS hs)
     ·try dsimp only at h
      refine WS.lR (z9n (L:=L) (E:=E) (m:=m) (H:=H)) (L.ok hl) 1 ?_
      cases h
      exact fun a w hq=>bkR (sqR (rtR hq))
    ·try dsimp only at h
     refine WS.lR (z9g (L:=L) (E:=E) (m:=m) (H:=H)) (L.ok hl) 1 ?_
     cases h
     exact fun a w hq=>bkR (sqR (rtR hq))
   ·try dsimp only at h
    refine WS.lR (z9t (L:=L) (E:=E) (m:=m) (H:=H)) (L.ok hl) 1 ?_
    cases h
    exact fun a w hq=>bkR (sqR (rtR hq))
  ·refine WS.fx 14 true (z9 hp) (WS.cT ?_)
   cases h
noncomputable def B39:Code:=(Tryz.f39.body).getD .skip
def zrr:((Option Addr)×Int×AH)→Value
 | (r0,r1,_)=>(Value.tuple #[(Value.pointer r0),(Value.int .i64 r1)])
def zsr (_:AH):((Option Addr)×Int×AH)→AH:=fun r=>r.2.2
noncomputable def zmt (L:LC) (m:Nat) (H:AH) (a0_0 a0_1 a0_2:Sl3):Option ((Option Addr)×Int×AH) :=
 Option.bind (zbr L m H a0_0 a0_1 a0_2) fun (x1,H2) =>
 if x1=0 then
  Option.bind (newB 151 [(Sl3.v a0_0),(Sl3.v a0_1),(Sl3.v a0_2),(Sl3.v Sl3.nil),(Sl3.v Sl3.nil)] H2) fun (p3,H4) =>
  some ((some p3),0,H4)
 else
  none
theorem zth {L:LC} {m:Nat} {H:AH} {a0_0 a0_1 a0_2:Sl3} {r:((Option Addr)×Int×AH)} (h:zmt L m H a0_0 a0_1 a0_2=some r) :
  CallS Tryz.prog (NE.plain 258) m 39 #[(Value.agg #[(Sl3.v a0_0),(Sl3.v a0_1),(Sl3.v a0_2)])] H (zrr r) (zsr H r):=by
 refine CallS.mk (args:=[(Value.agg #[(Sl3.v a0_0),(Sl3.v a0_1),(Sl3.v a0_2)])]) Tryz.func39 (B:=B39) (by kernel_rfl) (fun E _=>?_)
 unfold zmt at h
 refine WS.sq (WS.rg (RS.mL 3 [kI 3 0,(2,.val (Value.pointer none)),kL 1 0 0] ([some (77,[(Sl3.v a0_0),(Sl3.v a0_1),(Sl3.v a0_2)])]) (RS.dn (WS.nxt (WS.sq (WS.rg (RS.mS 1 [kA 5 #[(Sl3.v a0_0),(Sl3.v a0_1),(Sl3.v a0_2)]] ?_)))))))
 obtain ⟨⟨x1,H2⟩,hx,h⟩:=bind_some h
 try dsimp only at h
 refine RS.cl (some 6) (v:=(Value.int .i64 x1)) 74 #[(Value.agg #[(Sl3.v a0_0),(Sl3.v a0_1),(Sl3.v a0_2)])] (znb hx) (RS.mS 1 [kI 4 x1] (RS.dn (WS.nxt (WS.sq (WS.sq (WS.rg (RS.mS 2 [kB 8 (!decide (x1=0)),kI 7 x1] (RS.dn (WS.nxt ?_)))))))))
 rcases z0 h with ⟨hp,h⟩ | ⟨hp,h⟩
 ·refine WS.fx 8 false (zd hp) (WS.cF (WS.sk (WS.nxt (WS.sq (WS.rg (RS.mS 2 [kA 11 #[(Sl3.v a0_0),(Sl3.v a0_1),(Sl3.v a0_2),(Sl3.v Sl3.nil),(Sl3.v Sl3.nil)],kA 10 #[(Sl3.v a0_0),(Sl3.v a0_1),(Sl3.v a0_2)]] ?_))))))
  obtain ⟨⟨p3,H4⟩,hx,h⟩:=bind_some h
  try dsimp only at h
  refine RS.o (H':=H4) (some 12) (Value.pointer (some p3)) (Abs.run_newB (by kernel_rfl) hx) (RS.mS 2 [kI 3 0,kP 2 p3] (RS.dn (WS.nxt (WS.rt ?_))))
  cases h
  exact fun a w hs=>rtR (rS hs)
 ·refine WS.fx 8 true (z9 hp) (WS.cT ?_)
  cases h
noncomputable def B24:Code:=(Tryz.f24.body).getD .skip
def zld:Bool→Value
 | r0=>(Value.bool r0)
def zm5 (H:AH):Bool→AH:=fun _=>H
noncomputable def z3d (_L:LC) (H:AH) (a0:Option Addr):Option Bool :=
 match a0 with
 | none =>
  none
 | some q1 =>
  Option.bind (rd deM H (Addr.add q1 4)) fun x2 =>
  match x2 with
  | none =>
   none
  | some _ =>
   some true
theorem z5f {L:LC} {m:Nat} {H:AH} {a0:Option Addr} {r:Bool} (h:z3d L H a0=some r) :
  CallS Tryz.prog (NE.plain 258) m 24 #[(Value.pointer a0)] H (zld r) (zm5 H r):=by
 refine CallS.mk (args:=[(Value.pointer a0)]) Tryz.func24 (B:=B24) (by kernel_rfl) (fun E _=>?_)
 unfold z3d at h
 refine WS.sq (WS.rg (RS.mS 1 [kB 2 false] (RS.dn (WS.nxt (WS.sq (WS.rg (RS.mS 1 [(3,.val (Value.pointer a0))] ?_)))))))
 rcases a0 with _ | q1
 ·try dsimp only at h
  cases h
 ·try dsimp only at h
  refine RS.mS 5 [(8,.val (Value.pointer (some (Addr.add q1 4)))),kP 7 q1,kP 6 q1,kB 5 true,kB 4 true] ?_
  obtain ⟨x2,hx,h⟩:=bind_some h
  refine RS.ld 9 98 (.tmp 8) (z1 hx zaw) ?_
  rcases x2 with _ | q3
  ·try dsimp only at h
   cases h
  ·try dsimp only at h
   refine RS.mS 3 [kB 2 true,kB 11 true,kB 10 true] (RS.dn (WS.nxt (WS.rt ?_)))
   cases h
   exact fun a w hs=>rtR (rS hs)
end Go.Proofs.YtkecibinbgaedaaGreatDoor
namespace Go.Proofs.YtkecibinbgaedaaGreatDoor
open Go Go.Abs
set_option maxRecDepth 100000
noncomputable def B108:Code:=(Tryz.f108.body).getD .skip
def zsf:(Int×Int×Int×Bool)→Value
 | (r0,r1,r2,r3)=>(Value.tuple #[(Value.int .i64 r0),(Value.int .i64 r1),(Value.int .i64 r2),(Value.bool r3)])
def ztv (H:AH):(Int×Int×Int×Bool)→AH:=fun _=>H
noncomputable def zgp (_L:LC) (a0:Int):Option (Int×Int×Int×Bool) :=
 if a0=1 then
  none
 else
  if a0=2 then
   none
  else
   if a0=20 then
    none
   else
    if a0=40 then
     none
    else
     if a0=3 then
      none
     else
      if a0=21 then
       none
      else
       if a0=27 then
        none
       else
        if a0=34 then
         none
        else
         if a0=43 then
          none
         else
          if a0=44 then
           none
          else
           if a0=4 then
            none
           else
            if a0=5 then
             none
            else
             if a0=9 then
              none
             else
              if a0=22 then
               none
              else
               if a0=10 then
                none
               else
                if a0=33 then
                 none
                else
                 Option.bind (α:=Bool) (
                  if a0=11 then
                   some true
                  else
                   if a0=12 then
                    none
                   else
                    if a0=13 then
                     none
                    else
                     some (decide (a0=14))) fun v28_1 =>
                 if v28_1=true then
                  some (0,64,0,true)
                 else
                  if a0=42 then
                   none
                  else
                   if a0=63 then
                    none
                   else
                    if a0=64 then
                     none
                    else
                     if a0=65 then
                      none
                     else
                      if a0=66 then
                       none
                      else
                       if a0=67 then
                        none
                       else
                        Option.bind (α:=Bool) (
                         if a0≥1 then
                          if a0≤14 then
                           none
                          else
                           if a0≥20 then
                            if a0≤34 then
                             none
                            else
                             if a0≥40 then
                              some (decide (a0≤75))
                             else
                              some false
                           else
                            if a0≥40 then
                             some (decide (a0≤75))
                            else
                             some false
                         else
                          if a0≥20 then
                           if a0≤34 then
                            none
                           else
                            if a0≥40 then
                             some (decide (a0≤75))
                            else
                             some false
                          else
                           if a0≥40 then
                            some (decide (a0≤75))
                           else
                            some false) fun v6_2 =>
                        some (2,2,0,v6_2)
theorem zn1 {L:LC} {m:Nat} {H:AH} {a0:Int} {r:(Int×Int×Int×Bool)} (h:zgp L a0=some r) :
  CallS Tryz.prog (NE.plain 258) m 108 #[(Value.int .i64 a0)] H (zsf r) (ztv H r):=by
 refine CallS.mk (args:=[(Value.int .i64 a0)]) Tryz.func108 (B:=B108) (by kernel_rfl) (fun E _=>?_)
 unfold zgp at h
 refine WS.sq (WS.rg (RS.mS 4 [kB 5 false,kI 4 0,kI 3 0,kI 2 0] (RS.dn (WS.nxt (WS.sq (WS.sq (WS.rg (RS.mS 1 [kI 7 a0] (RS.dn ?_)))))))))
 refine WS.nxt (WS.bk 0 (WS.sq (WS.sq (WS.rg (RS.mS 2 [kB 8 (decide (a0=1)),kB 9 (decide (a0=1))] (RS.dn (WS.nxt ?_)))))))
 rcases z0 h with ⟨hp,h⟩ | ⟨hp,h⟩
 ·refine WS.fx 8 true (decide_eq_true hp) (WS.cT ?_)
  cases h
 ·refine WS.fx 8 false (decide_eq_false hp) (WS.cF (WS.sq (WS.rg (RS.mS 2 [kB 8 (decide (a0=2)),kB 10 (decide (a0=2))] (RS.dn (WS.nxt ?_))))))
  rcases z0 h with ⟨hp,h⟩ | ⟨hp,h⟩
  ·refine WS.fx 8 true (decide_eq_true hp) (WS.cT ?_)
   cases h
  ·refine WS.fx 8 false (decide_eq_false hp) (WS.cF (WS.sq (WS.rg (RS.mS 2 [kB 8 (decide (a0=20)),kB 11 (decide (a0=20))] (RS.dn (WS.nxt ?_))))))
   rcases z0 h with ⟨hp,h⟩ | ⟨hp,h⟩
   ·refine WS.fx 8 true (decide_eq_true hp) (WS.cT ?_)
    cases h
   ·refine WS.fx 8 false (decide_eq_false hp) (WS.cF (WS.rg (RS.mS 2 [kB 8 (decide (a0=40)),kB 12 (decide (a0=40))] (RS.dn (WS.nxt ?_)))))
    rcases z0 h with ⟨hp,h⟩ | ⟨hp,h⟩
    ·refine WS.fx 8 true (decide_eq_true hp) (WS.cT ?_)
     cases h
    ·refine WS.fx 8 false (decide_eq_false hp) (WS.cF (WS.sq (WS.sq (WS.rg (RS.mS 2 [kB 13 (decide (a0=3)),kB 14 (decide (a0=3))] (RS.dn (WS.nxt ?_)))))))
     rcases z0 h with ⟨hp,h⟩ | ⟨hp,h⟩
     ·refine WS.fx 13 true (decide_eq_true hp) (WS.cT ?_)
      cases h
     ·refine WS.fx 13 false (decide_eq_false hp) (WS.cF (WS.sq (WS.rg (RS.mS 2 [kB 13 (decide (a0=21)),kB 15 (decide (a0=21))] (RS.dn (WS.nxt ?_))))))
      rcases z0 h with ⟨hp,h⟩ | ⟨hp,h⟩
      ·refine WS.fx 13 true (decide_eq_true hp) (WS.cT ?_)
       cases h
      ·refine WS.fx 13 false (decide_eq_false hp) (WS.cF (WS.sq (WS.rg (RS.mS 2 [kB 13 (decide (a0=27)),kB 16 (decide (a0=27))] (RS.dn (WS.nxt ?_))))))
       rcases z0 h with ⟨hp,h⟩ | ⟨hp,h⟩
       ·refine WS.fx 13 true (decide_eq_true hp) (WS.cT ?_)
        cases h
       ·refine WS.fx 13 false (decide_eq_false hp) (WS.cF (WS.sq (WS.rg (RS.mS 2 [kB 13 (decide (a0=34)),kB 17 (decide (a0=34))] (RS.dn (WS.nxt ?_))))))
        rcases z0 h with ⟨hp,h⟩ | ⟨hp,h⟩
        ·refine WS.fx 13 true (decide_eq_true hp) (WS.cT ?_)
         cases h
        ·refine WS.fx 13 false (decide_eq_false hp) (WS.cF (WS.sq (WS.rg (RS.mS 2 [kB 13 (decide (a0=43)),kB 18 (decide (a0=43))] (RS.dn (WS.nxt ?_))))))
         rcases z0 h with ⟨hp,h⟩ | ⟨hp,h⟩
         ·refine WS.fx 13 true (decide_eq_true hp) (WS.cT ?_)
          cases h
         ·refine WS.fx 13 false (decide_eq_false hp) (WS.cF (WS.rg (RS.mS 2 [kB 13 (decide (a0=44)),kB 19 (decide (a0=44))] (RS.dn (WS.nxt ?_)))))
          rcases z0 h with ⟨hp,h⟩ | ⟨hp,h⟩
          ·refine WS.fx 13 true (decide_eq_true hp) (WS.cT ?_)
           cases h
          ·refine WS.fx 13 false (decide_eq_false hp) (WS.cF (WS.sq (WS.sq (WS.rg (RS.mS 2 [kB 20 (decide (a0=4)),kB 21 (decide (a0=4))] (RS.dn (WS.nxt ?_)))))))
           rcases z0 h with ⟨hp,h⟩ | ⟨hp,h⟩
           ·refine WS.fx 20 true (decide_eq_true hp) (WS.cT ?_)
            cases h
           ·refine WS.fx 20 false (decide_eq_false hp) (WS.cF (WS.sq (WS.rg (RS.mS 2 [kB 20 (decide (a0=5)),kB 22 (decide (a0=5))] (RS.dn (WS.nxt ?_))))))
            rcases z0 h with ⟨hp,h⟩ | ⟨hp,h⟩
            ·refine WS.fx 20 true (decide_eq_true hp) (WS.cT ?_)
             cases h
            ·refine WS.fx 20 false (decide_eq_false hp) (WS.cF (WS.sq (WS.rg (RS.mS 2 [kB 20 (decide (a0=9)),kB 23 (decide (a0=9))] (RS.dn (WS.nxt ?_))))))
             rcases z0 h with ⟨hp,h⟩ | ⟨hp,h⟩
             ·refine WS.fx 20 true (decide_eq_true hp) (WS.cT ?_)
              cases h
             ·refine WS.fx 20 false (decide_eq_false hp) (WS.cF (WS.rg (RS.mS 2 [kB 20 (decide (a0=22)),kB 24 (decide (a0=22))] (RS.dn (WS.nxt ?_)))))
              rcases z0 h with ⟨hp,h⟩ | ⟨hp,h⟩
              ·refine WS.fx 20 true (decide_eq_true hp) (WS.cT ?_)
               cases h
              ·refine WS.fx 20 false (decide_eq_false hp) (WS.cF (WS.sq (WS.sq (WS.rg (RS.mS 2 [kB 25 (decide (a0=10)),kB 26 (decide (a0=10))] (RS.dn (WS.nxt ?_)))))))
               rcases z0 h with ⟨hp,h⟩ | ⟨hp,h⟩
               ·refine WS.fx 25 true (decide_eq_true hp) (WS.cT ?_)
                cases h
               ·refine WS.fx 25 false (decide_eq_false hp) (WS.cF (WS.rg (RS.mS 2 [kB 25 (decide (a0=33)),kB 27 (decide (a0=33))] (RS.dn (WS.nxt ?_)))))
                rcases z0 h with ⟨hp,h⟩ | ⟨hp,h⟩
                ·refine WS.fx 25 true (decide_eq_true hp) (WS.cT ?_)
                 cases h
                ·refine WS.fx 25 false (decide_eq_false hp) (WS.cF ?_)
                 obtain ⟨v28_1,hx,h⟩:=bind_some h
                 refine WS.sq ?_
                 refine WS.join ([kB 28 v28_1,kI 0 a0,kI 7 a0]) ([]) H ?_ (fun a w hs=>WS.nxt ?_ a w hs)
                 ·clear h; rename _=>h
                  refine WS.sq (WS.rg (RS.mS 2 [kB 28 (decide (a0=11)),kB 29 (decide (a0=11))] (RS.dn (WS.nxt ?_))))
                  rcases z0 h with ⟨hp,h⟩ | ⟨hp,h⟩
                  ·refine WS.fx 28 true (decide_eq_true hp) (WS.cT (WS.sk ?_))
                   cases h
                   exact fun a w hs=>(jsN (hs.sb 0))
                  ·refine WS.fx 28 false (decide_eq_false hp) (WS.cF (WS.sq (WS.rg (RS.mS 2 [kB 28 (decide (a0=12)),kB 30 (decide (a0=12))] (RS.dn (WS.nxt ?_))))))
                   rcases z0 h with ⟨hp,h⟩ | ⟨hp,h⟩
                   ·refine WS.fx 28 true (decide_eq_true hp) (WS.cT ?_)
                    cases h
                   ·refine WS.fx 28 false (decide_eq_false hp) (WS.cF (WS.sq (WS.rg (RS.mS 2 [kB 28 (decide (a0=13)),kB 31 (decide (a0=13))] (RS.dn (WS.nxt ?_))))))
                    rcases z0 h with ⟨hp,h⟩ | ⟨hp,h⟩
                    ·refine WS.fx 28 true (decide_eq_true hp) (WS.cT ?_)
                     cases h
                    ·refine WS.fx 28 false (decide_eq_false hp) (WS.cF (WS.rg (RS.mS 2 [kB 28 (decide (a0=14)),kB 32 (decide (a0=14))] (RS.dn ?_))))
                     cases h
                     exact fun a w hs=>(jsN (hs.sb 0))
                 ·clear hx
                  rcases z0 h with ⟨hp,h⟩ | ⟨hp,h⟩
                  ·refine WS.fx 28 true hp (WS.cT (WS.sq (WS.rg (RS.mS 4 [kB 5 true,kI 4 0,kI 3 64,kI 2 0] (RS.dn (WS.nxt (WS.rt ?_)))))))
                   cases h
                   exact fun a w hs=>bkR (sqR (rtR (rS hs)))
                  ·refine WS.fx 28 false (b_not hp) (WS.cF (WS.sq (WS.rg (RS.mS 2 [kB 33 (decide (a0=42)),kB 34 (decide (a0=42))] (RS.dn (WS.nxt ?_))))))
                   rcases z0 h with ⟨hp,h⟩ | ⟨hp,h⟩
                   ·refine WS.fx 33 true (decide_eq_true hp) (WS.cT ?_)
                    cases h
                   ·refine WS.fx 33 false (decide_eq_false hp) (WS.cF (WS.sq (WS.sq (WS.rg (RS.mS 2 [kB 35 (decide (a0=63)),kB 36 (decide (a0=63))] (RS.dn (WS.nxt ?_)))))))
                    rcases z0 h with ⟨hp,h⟩ | ⟨hp,h⟩
                    ·refine WS.fx 35 true (decide_eq_true hp) (WS.cT ?_)
                     cases h
                    ·refine WS.fx 35 false (decide_eq_false hp) (WS.cF (WS.sq (WS.rg (RS.mS 2 [kB 35 (decide (a0=64)),kB 37 (decide (a0=64))] (RS.dn (WS.nxt ?_))))))
                     rcases z0 h with ⟨hp,h⟩ | ⟨hp,h⟩
                     ·refine WS.fx 35 true (decide_eq_true hp) (WS.cT ?_)
                      cases h
                     ·refine WS.fx 35 false (decide_eq_false hp) (WS.cF (WS.sq (WS.rg (RS.mS 2 [kB 35 (decide (a0=65)),kB 38 (decide (a0=65))] (RS.dn (WS.nxt ?_))))))
                      rcases z0 h with ⟨hp,h⟩ | ⟨hp,h⟩
                      ·refine WS.fx 35 true (decide_eq_true hp) (WS.cT ?_)
                       cases h
                      ·refine WS.fx 35 false (decide_eq_false hp) (WS.cF (WS.sq (WS.rg (RS.mS 2 [kB 35 (decide (a0=66)),kB 39 (decide (a0=66))] (RS.dn (WS.nxt ?_))))))
                       rcases z0 h with ⟨hp,h⟩ | ⟨hp,h⟩
                       ·refine WS.fx 35 true (decide_eq_true hp) (WS.cT ?_)
                        cases h
                       ·refine WS.fx 35 false (decide_eq_false hp) (WS.cF (WS.rg (RS.mS 2 [kB 35 (decide (a0=67)),kB 40 (decide (a0=67))] (RS.dn (WS.nxt ?_)))))
                        rcases z0 h with ⟨hp,h⟩ | ⟨hp,h⟩
                        ·refine WS.fx 35 true (decide_eq_true hp) (WS.cT ?_)
                         cases h
                        ·refine WS.fx 35 false (decide_eq_false hp) (WS.cF (WS.sk ?_))
                         refine fun a w hs=>bkN ((WS.nxt ?_ a w hs))
                         obtain ⟨v6_2,hx,h⟩:=bind_some h
                         refine WS.sq ?_
                         refine WS.join ([kB 6 v6_2]) ([]) H ?_ (fun a w hs=>WS.nxt ?_ a w hs)
                         ·clear h; rename _=>h
                          refine WS.rg (RS.mS 3 [kB 43 (decide (a0≥1)),kB 42 (decide (a0≥1)),kI 41 a0] ?_)
                          rcases z0 h with ⟨hp,h⟩ | ⟨hp,h⟩
                          ·refine RS.fx 43 true (decide_eq_true hp) (RS.mS 4 [kB 47 (decide (a0≤14)),kB 46 (decide (a0≤14)),kB 45 (decide (a0≤14)),kI 44 a0] ?_)
                           rcases z0 h with ⟨hp,h⟩ | ⟨hp,h⟩
                           ·refine RS.fx 47 true (decide_eq_true hp) ?_
                            cases h
                           ·refine RS.fx 47 false (decide_eq_false hp) (RS.mS 3 [kB 50 (decide (a0≥20)),kB 49 (decide (a0≥20)),kI 48 a0] ?_)
                            rcases z0 h with ⟨hp,h⟩ | ⟨hp,h⟩
                            ·refine RS.fx 50 true (decide_eq_true hp) (RS.mS 5 [kB 55 (decide (a0≤34)),kB 54 (decide (a0≤34)),kB 53 (decide (a0≤34)),kB 52 (decide (a0≤34)),kI 51 a0] ?_)
                             rcases z0 h with ⟨hp,h⟩ | ⟨hp,h⟩
                             ·refine RS.fx 55 true (decide_eq_true hp) ?_
                              cases h
                             ·refine RS.fx 55 false (decide_eq_false hp) (RS.mS 3 [kB 58 (decide (a0≥40)),kB 57 (decide (a0≥40)),kI 56 a0] ?_)
                              rcases z0 h with ⟨hp,h⟩ | ⟨hp,h⟩
                              ·refine RS.fx 58 true (decide_eq_true hp) (RS.mS 5 [kB 6 (decide (a0≤75)),kB 62 (decide (a0≤75)),kB 61 (decide (a0≤75)),kB 60 (decide (a0≤75)),kI 59 a0] (RS.dn ?_))
                               cases h
                               exact fun a w hs=>(jsN (hs.sb 0))
                              ·refine RS.fx 58 false (decide_eq_false hp) (RS.mS 5 [kB 6 false,kB 62 false,kB 61 false,kU 60,kU 59] (RS.dn ?_))
                               cases h
                               exact fun a w hs=>(jsN (hs.sb 0))
                            ·refine RS.fx 50 false (decide_eq_false hp) (RS.mS 8 [kB 58 (decide (a0≥40)),kB 57 (decide (a0≥40)),kI 56 a0,kB 55 false,kB 54 false,kB 53 false,kU 52,kU 51] ?_)
                             rcases z0 h with ⟨hp,h⟩ | ⟨hp,h⟩
                             ·refine RS.fx 58 true (decide_eq_true hp) (RS.mS 5 [kB 6 (decide (a0≤75)),kB 62 (decide (a0≤75)),kB 61 (decide (a0≤75)),kB 60 (decide (a0≤75)),kI 59 a0] (RS.dn ?_))
                              cases h
                              exact fun a w hs=>(jsN (hs.sb 0))
                             ·refine RS.fx 58 false (decide_eq_false hp) (RS.mS 5 [kB 6 false,kB 62 false,kB 61 false,kU 60,kU 59] (RS.dn ?_))
                              cases h
                              exact fun a w hs=>(jsN (hs.sb 0))
                          ·refine RS.fx 43 false (decide_eq_false hp) (RS.mS 7 [kB 50 (decide (a0≥20)),kB 49 (decide (a0≥20)),kI 48 a0,kB 47 false,kB 46 false,kU 45,kU 44] ?_)
                           rcases z0 h with ⟨hp,h⟩ | ⟨hp,h⟩
                           ·refine RS.fx 50 true (decide_eq_true hp) (RS.mS 5 [kB 55 (decide (a0≤34)),kB 54 (decide (a0≤34)),kB 53 (decide (a0≤34)),kB 52 (decide (a0≤34)),kI 51 a0] ?_)
                            rcases z0 h with ⟨hp,h⟩ | ⟨hp,h⟩
                            ·refine RS.fx 55 true (decide_eq_true hp) ?_
                             cases h
                            ·refine RS.fx 55 false (decide_eq_false hp) (RS.mS 3 [kB 58 (decide (a0≥40)),kB 57 (decide (a0≥40)),kI 56 a0] ?_)
                             rcases z0 h with ⟨hp,h⟩ | ⟨hp,h⟩
                             ·refine RS.fx 58 true (decide_eq_true hp) (RS.mS 5 [kB 6 (decide (a0≤75)),kB 62 (decide (a0≤75)),kB 61 (decide (a0≤75)),kB 60 (decide (a0≤75)),kI 59 a0] (RS.dn ?_))
                              cases h
                              exact fun a w hs=>(jsN (hs.sb 0))
                             ·refine RS.fx 58 false (decide_eq_false hp) (RS.mS 5 [kB 6 false,kB 62 false,kB 61 false,kU 60,kU 59] (RS.dn ?_))
                              cases h
                              exact fun a w hs=>(jsN (hs.sb 0))
                           ·refine RS.fx 50 false (decide_eq_false hp) (RS.mS 8 [kB 58 (decide (a0≥40)),kB 57 (decide (a0≥40)),kI 56 a0,kB 55 false,kB 54 false,kB 53 false,kU 52,kU 51] ?_)
                            rcases z0 h with ⟨hp,h⟩ | ⟨hp,h⟩
                            ·refine RS.fx 58 true (decide_eq_true hp) (RS.mS 5 [kB 6 (decide (a0≤75)),kB 62 (decide (a0≤75)),kB 61 (decide (a0≤75)),kB 60 (decide (a0≤75)),kI 59 a0] (RS.dn ?_))
                             cases h
                             exact fun a w hs=>(jsN (hs.sb 0))
                            ·refine RS.fx 58 false (decide_eq_false hp) (RS.mS 5 [kB 6 false,kB 62 false,kB 61 false,kU 60,kU 59] (RS.dn ?_))
                             cases h
                             exact fun a w hs=>(jsN (hs.sb 0))
                         ·clear hx
                          refine WS.sq (WS.rg (RS.mS 5 [kB 5 v6_2,kI 4 0,kI 3 2,kI 2 2,kB 63 v6_2] (RS.dn (WS.nxt (WS.rt ?_)))))
                          cases h
                          exact fun a w hs=>rtR (rS hs)
noncomputable def B14:Code:=(Tryz.f14.body).getD .skip
def z7z:(Sl3×AH)→Value
 | (r0,_)=>(Sl3.v r0)
def z96 (_:AH):(Sl3×AH)→AH:=fun r=>r.2
noncomputable def z1k (_L:LC) (m:Nat) (H:AH) (a0:Sl3):Option (Sl3×AH) :=
 if (isNilS a0)=true then
  some (Sl3.nil,H)
 else
  Option.bind (newR 3 0 #[] H) fun (s1,H2) =>
  Option.bind (appS m 3 1 8 H2 s1 a0) fun (s3,H4) =>
  some (s3,H4)
theorem zm {L:LC} {m:Nat} {H:AH} {a0:Sl3} {r:(Sl3×AH)} (h:z1k L m H a0=some r) :
  CallS Tryz.prog (NE.plain 258) m 14 #[(Sl3.v a0)] H (z7z r) (z96 H r):=by
 refine CallS.mk (args:=[(Sl3.v a0)]) Tryz.func14 (B:=B14) (by kernel_rfl) (fun E _=>?_)
 unfold z1k at h
 refine WS.sq (WS.rg (RS.mS 1 [kS 2 Sl3.nil] (RS.dn (WS.nxt (WS.sq (WS.sq (WS.rg (RS.mS 1 [kS 3 a0] (RS.o (H':=H) (some 4) (Value.bool (isNilS a0)) (zbw (t:=28) (e:=3) (u:=28) (x:=.tmp 3) (y:=.const (Sl3.v Sl3.nil)) (s:=a0) (by kernel_rfl) (by kernel_rfl) (by kernel_rfl) (by kernel_rfl)) ?_)))))))))
 refine RS.dn (WS.nxt ?_)
 rcases z0 h with ⟨hp,h⟩ | ⟨hp,h⟩
 ·refine WS.fx 4 true hp (WS.cT (WS.sq (WS.rg (RS.mS 1 [kS 2 Sl3.nil] (RS.dn (WS.nxt (WS.rt ?_)))))))
  cases h
  exact fun a w hs=>sqR (rtR (rS hs))
 ·refine WS.fx 4 false (b_not hp) (WS.cF (WS.sk (WS.nxt (WS.sq (WS.rg ?_)))))
  obtain ⟨⟨s1,H2⟩,hx,h⟩:=bind_some h
  try dsimp only at h
  refine RS.o (H':=H2) (some 5) (Sl3.v s1) (Abs.run_newR (by kernel_rfl) (by kernel_rfl) hx) (RS.mS 1 [kS 6 a0] ?_)
  obtain ⟨⟨s3,H4⟩,hx,h⟩:=bind_some h
  try dsimp only at h
  refine RS.o (H':=H4) (some 7) (Sl3.v s3) (Abs.run_app (x:=.tmp 5) (y:=.tmp 6) (ts:=#[28,28]) (s:=s1) (z:=a0) (by kernel_rfl) (by kernel_rfl) (by kernel_rfl) (by kernel_rfl) hx) (RS.mS 1 [kS 2 s3] (RS.dn (WS.nxt (WS.rt ?_))))
  cases h
  exact fun a w hs=>rtR (rS hs)
end Go.Proofs.YtkecibinbgaedaaGreatDoor
namespace Go.Proofs.YtkecibinbgaedaaGreatDoor
open Go Go.Abs
set_option maxRecDepth 100000
noncomputable def B61:Code:=(Tryz.f61.body).getD .skip
def zqe:(Int×ByteArray×Bool×Sl3×Int×Sl3×Int×Int×ByteArray×Sl3×Sl3×Sl3×AH)→Value
 | (r0,r1,r2,r3,r4,r5,r6,r7,r8,r9,r10,r11,_)=>(Value.agg #[(Value.int .i64 r0),(Value.string r1),(Value.bool r2),(Sl3.v r3),(Value.int .i64 r4),(Sl3.v r5),(Value.int .i64 r6),(Value.int .i64 r7),(Value.string r8),(Sl3.v r9),(Sl3.v r10),(Sl3.v r11)])
def zsi (_:AH):(Int×ByteArray×Bool×Sl3×Int×Sl3×Int×Int×ByteArray×Sl3×Sl3×Sl3×AH)→AH:=fun r=>r.2.2.2.2.2.2.2.2.2.2.2.2
noncomputable def zdw (L:LC) (m:Nat) (H:AH) (a0_0:Int) (a0_1:ByteArray) (_a0_2:Bool) (_a0_3:Sl3) (_a0_4:Int) (_a0_5:Sl3) (_a0_6 _a0_7:Int) (_a0_8:ByteArray) (_a0_9 _a0_10 a0_11:Sl3):Option (Int×ByteArray×Bool×Sl3×Int×Sl3×Int×Int×ByteArray×Sl3×Sl3×Sl3×AH) :=
 Option.bind (z1k L (Nat.max m H.next) H a0_11) fun (x1,H2) =>
 Option.bind (α:=(AH×Int×ByteArray×Bool×Sl3×Int×Sl3×Int×Int×ByteArray×Sl3×Sl3×Sl3)) (
  if a0_0≥11 then
   if a0_0≤14 then
    some (H2,a0_0,a0_1,false,Sl3.nil,0,Sl3.nil,0,0,(⟨#[]⟩:ByteArray),Sl3.nil,Sl3.nil,x1)
   else
    if a0_0=20 then
     none
    else
     if a0_0=40 then
      none
     else
      if a0_0=34 then
       none
      else
       some (H2,a0_0,(⟨#[]⟩:ByteArray),false,Sl3.nil,0,Sl3.nil,0,0,(⟨#[]⟩:ByteArray),Sl3.nil,Sl3.nil,x1)
  else
   none) fun (H3,w2_4,w2_5,w2_6,w2_7,w2_8,w2_9,w2_10,w2_11,w2_12,w2_13,w2_14,w2_15) =>
 Option.bind (zgp L a0_0) fun (_,_,x18,_) =>
 if x18 > 0 then
  none
 else
  some (w2_4,w2_5,w2_6,w2_7,w2_8,w2_9,w2_10,w2_11,w2_12,w2_13,w2_14,w2_15,H3)
theorem zkq {L:LC} {m:Nat} {H:AH} {a0_0:Int} {a0_1:ByteArray} {a0_2:Bool} {a0_3:Sl3} {a0_4:Int} {a0_5:Sl3} {a0_6 a0_7:Int} {a0_8:ByteArray} {a0_9 a0_10 a0_11:Sl3} {r:(Int×ByteArray×Bool×Sl3×Int×Sl3×Int×Int×ByteArray×Sl3×Sl3×Sl3×AH)} (h:zdw L m H a0_0 a0_1 a0_2 a0_3 a0_4 a0_5 a0_6 a0_7 a0_8 a0_9 a0_10 a0_11=some r) :
  CallS Tryz.prog (NE.plain 258) m 61 #[(Value.agg #[(Value.int .i64 a0_0),(Value.string a0_1),(Value.bool a0_2),(Sl3.v a0_3),(Value.int .i64 a0_4),(Sl3.v a0_5),(Value.int .i64 a0_6),(Value.int .i64 a0_7),(Value.string a0_8),(Sl3.v a0_9),(Sl3.v a0_10),(Sl3.v a0_11)])] H (zqe r) (zsi H r):=by
 refine CallS.mk (args:=[(Value.agg #[(Value.int .i64 a0_0),(Value.string a0_1),(Value.bool a0_2),(Sl3.v a0_3),(Value.int .i64 a0_4),(Sl3.v a0_5),(Value.int .i64 a0_6),(Value.int .i64 a0_7),(Value.string a0_8),(Sl3.v a0_9),(Sl3.v a0_10),(Sl3.v a0_11)])]) Tryz.func61 (B:=B61) (by kernel_rfl) (fun E _=>?_)
 unfold zdw at h
 refine WS.sq (WS.rg (RS.mL 2 [kL 2 1 0,kL 1 0 0] ([some (82,[(Value.int .i64 a0_0),(Value.string a0_1),(Value.bool a0_2),(Sl3.v a0_3),(Value.int .i64 a0_4),(Sl3.v a0_5),(Value.int .i64 a0_6),(Value.int .i64 a0_7),(Value.string a0_8),(Sl3.v a0_9),(Sl3.v a0_10),(Sl3.v a0_11)]),some (82,[(Value.int .i64 0),(Value.string (⟨#[]⟩:ByteArray)),(Value.bool false),(Sl3.v Sl3.nil),(Value.int .i64 0),(Sl3.v Sl3.nil),(Value.int .i64 0),(Value.int .i64 0),(Value.string (⟨#[]⟩:ByteArray)),(Sl3.v Sl3.nil),(Sl3.v Sl3.nil),(Sl3.v Sl3.nil)])]) (RS.dn (WS.nxt (WS.sq ?_)))))
 obtain ⟨⟨x1,H2⟩,hx_4,h⟩:=bind_some h
 try dsimp only at h
 refine WS.toone ([kL 1 0 0,kL 2 1 0,kL 3 2 0]) ([some (82,[(Value.int .i64 a0_0),(Value.string a0_1),(Value.bool a0_2),(Sl3.v a0_3),(Value.int .i64 a0_4),(Sl3.v a0_5),(Value.int .i64 a0_6),(Value.int .i64 a0_7),(Value.string a0_8),(Sl3.v a0_9),(Sl3.v a0_10),(Sl3.v a0_11)]),some (82,[(Value.int .i64 0),(Value.string (⟨#[]⟩:ByteArray)),(Value.bool false),(Sl3.v Sl3.nil),(Value.int .i64 0),(Sl3.v Sl3.nil),(Value.int .i64 0),(Value.int .i64 0),(Value.string (⟨#[]⟩:ByteArray)),(Sl3.v Sl3.nil),(Sl3.v Sl3.nil),(Sl3.v Sl3.nil)]),some (82,[(Value.int .i64 a0_0),(Value.string (⟨#[]⟩:ByteArray)),(Value.bool false),(Sl3.v Sl3.nil),(Value.int .i64 0),(Sl3.v Sl3.nil),(Value.int .i64 0),(Value.int .i64 0),(Value.string (⟨#[]⟩:ByteArray)),(Sl3.v Sl3.nil),(Sl3.v Sl3.nil),(Sl3.v x1)])]) H2 ?_ ?_
 ·clear h
  refine WS.dr [2,3] [0,1,0,4,12,31,0,127] 8 (fun hcl=>?_)
  refine DA.tL 2 (some 10) (.loc 0 11) (DA.tL 3 (some 11) (.val (Sl3.v a0_11)) (DA.restart [0,2,3] (by kernel_rfl) (DA.tL 0 (some 8) (.loc 0 0) ?_)))
  refine DA.three 1 4 6 (by kernel_rfl) ?_ ?_ ?_
  ·refine DA.aL 1 (some 9) (.val (Value.int .i64 a0_0)) ([some (82,[(Value.int .i64 a0_0),(Value.string a0_1),(Value.bool a0_2),(Sl3.v a0_3),(Value.int .i64 a0_4),(Sl3.v a0_5),(Value.int .i64 a0_6),(Value.int .i64 a0_7),(Value.string a0_8),(Sl3.v a0_9),(Sl3.v a0_10),(Sl3.v a0_11)]),some (82,[(Value.int .i64 0),(Value.string (⟨#[]⟩:ByteArray)),(Value.bool false),(Sl3.v Sl3.nil),(Value.int .i64 0),(Sl3.v Sl3.nil),(Value.int .i64 0),(Value.int .i64 0),(Value.string (⟨#[]⟩:ByteArray)),(Sl3.v Sl3.nil),(Sl3.v Sl3.nil),(Sl3.v Sl3.nil)])]) true ?_
   refine DA.two 4 6 (by kernel_rfl) ?_ ?_
   ·refine DA.aCj 4 (some 12) true (v:=(Sl3.v x1)) 14 #[(Sl3.v a0_11)] (zm hx_4) ?_
    refine DA.two 5 6 (by kernel_rfl) ?_ ?_
    ·refine DA.aHj (H':=H2) 5 (some 13) true (Value.agg #[(Value.int .i64 a0_0),(Value.string (⟨#[]⟩:ByteArray)),(Value.bool false),(Sl3.v Sl3.nil),(Value.int .i64 0),(Sl3.v Sl3.nil),(Value.int .i64 0),(Value.int .i64 0),(Value.string (⟨#[]⟩:ByteArray)),(Sl3.v Sl3.nil),(Sl3.v Sl3.nil),(Sl3.v x1)]) (by kernel_rfl) (DA.on 6 (DA.aL 6 (some 3) (.loc 2 0) ([some (82,[(Value.int .i64 a0_0),(Value.string a0_1),(Value.bool a0_2),(Sl3.v a0_3),(Value.int .i64 a0_4),(Sl3.v a0_5),(Value.int .i64 a0_6),(Value.int .i64 a0_7),(Value.string a0_8),(Sl3.v a0_9),(Sl3.v a0_10),(Sl3.v a0_11)]),some (82,[(Value.int .i64 0),(Value.string (⟨#[]⟩:ByteArray)),(Value.bool false),(Sl3.v Sl3.nil),(Value.int .i64 0),(Sl3.v Sl3.nil),(Value.int .i64 0),(Value.int .i64 0),(Value.string (⟨#[]⟩:ByteArray)),(Sl3.v Sl3.nil),(Sl3.v Sl3.nil),(Sl3.v Sl3.nil)]),some (82,[(Value.int .i64 0),(Value.string (⟨#[]⟩:ByteArray)),(Value.bool false),(Sl3.v Sl3.nil),(Value.int .i64 0),(Sl3.v Sl3.nil),(Value.int .i64 0),(Value.int .i64 0),(Value.string (⟨#[]⟩:ByteArray)),(Sl3.v Sl3.nil),(Sl3.v Sl3.nil),(Sl3.v Sl3.nil)])]) false (DA.on 7 (DA.aL 7 none (.val undef) ([some (82,[(Value.int .i64 a0_0),(Value.string a0_1),(Value.bool a0_2),(Sl3.v a0_3),(Value.int .i64 a0_4),(Sl3.v a0_5),(Value.int .i64 a0_6),(Value.int .i64 a0_7),(Value.string a0_8),(Sl3.v a0_9),(Sl3.v a0_10),(Sl3.v a0_11)]),some (82,[(Value.int .i64 0),(Value.string (⟨#[]⟩:ByteArray)),(Value.bool false),(Sl3.v Sl3.nil),(Value.int .i64 0),(Sl3.v Sl3.nil),(Value.int .i64 0),(Value.int .i64 0),(Value.string (⟨#[]⟩:ByteArray)),(Sl3.v Sl3.nil),(Sl3.v Sl3.nil),(Sl3.v Sl3.nil)]),some (82,[(Value.int .i64 a0_0),(Value.string (⟨#[]⟩:ByteArray)),(Value.bool false),(Sl3.v Sl3.nil),(Value.int .i64 0),(Sl3.v Sl3.nil),(Value.int .i64 0),(Value.int .i64 0),(Value.string (⟨#[]⟩:ByteArray)),(Sl3.v Sl3.nil),(Sl3.v Sl3.nil),(Sl3.v x1)])]) false (DA.dn ?_)))))
     exact fun a w hs=>jsN (hs.sb 3)
    ·refine DA.aL 6 (some 3) (.loc 2 0) ([some (82,[(Value.int .i64 a0_0),(Value.string a0_1),(Value.bool a0_2),(Sl3.v a0_3),(Value.int .i64 a0_4),(Sl3.v a0_5),(Value.int .i64 a0_6),(Value.int .i64 a0_7),(Value.string a0_8),(Sl3.v a0_9),(Sl3.v a0_10),(Sl3.v a0_11)]),some (82,[(Value.int .i64 0),(Value.string (⟨#[]⟩:ByteArray)),(Value.bool false),(Sl3.v Sl3.nil),(Value.int .i64 0),(Sl3.v Sl3.nil),(Value.int .i64 0),(Value.int .i64 0),(Value.string (⟨#[]⟩:ByteArray)),(Sl3.v Sl3.nil),(Sl3.v Sl3.nil),(Sl3.v Sl3.nil)]),some (82,[(Value.int .i64 0),(Value.string (⟨#[]⟩:ByteArray)),(Value.bool false),(Sl3.v Sl3.nil),(Value.int .i64 0),(Sl3.v Sl3.nil),(Value.int .i64 0),(Value.int .i64 0),(Value.string (⟨#[]⟩:ByteArray)),(Sl3.v Sl3.nil),(Sl3.v Sl3.nil),(Sl3.v Sl3.nil)])]) false (DA.on 5 (DA.aH (H':=H2) 5 (some 13) (Value.agg #[(Value.int .i64 a0_0),(Value.string (⟨#[]⟩:ByteArray)),(Value.bool false),(Sl3.v Sl3.nil),(Value.int .i64 0),(Sl3.v Sl3.nil),(Value.int .i64 0),(Value.int .i64 0),(Value.string (⟨#[]⟩:ByteArray)),(Sl3.v Sl3.nil),(Sl3.v Sl3.nil),(Sl3.v x1)]) (by kernel_rfl) (DA.on 7 (DA.aL 7 none (.val undef) ([some (82,[(Value.int .i64 a0_0),(Value.string a0_1),(Value.bool a0_2),(Sl3.v a0_3),(Value.int .i64 a0_4),(Sl3.v a0_5),(Value.int .i64 a0_6),(Value.int .i64 a0_7),(Value.string a0_8),(Sl3.v a0_9),(Sl3.v a0_10),(Sl3.v a0_11)]),some (82,[(Value.int .i64 0),(Value.string (⟨#[]⟩:ByteArray)),(Value.bool false),(Sl3.v Sl3.nil),(Value.int .i64 0),(Sl3.v Sl3.nil),(Value.int .i64 0),(Value.int .i64 0),(Value.string (⟨#[]⟩:ByteArray)),(Sl3.v Sl3.nil),(Sl3.v Sl3.nil),(Sl3.v Sl3.nil)]),some (82,[(Value.int .i64 a0_0),(Value.string (⟨#[]⟩:ByteArray)),(Value.bool false),(Sl3.v Sl3.nil),(Value.int .i64 0),(Sl3.v Sl3.nil),(Value.int .i64 0),(Value.int .i64 0),(Value.string (⟨#[]⟩:ByteArray)),(Sl3.v Sl3.nil),(Sl3.v Sl3.nil),(Sl3.v x1)])]) false (DA.dn ?_)))))
     exact fun a w hs=>jsN (hs.sb 3)
   ·refine DA.aL 6 (some 3) (.loc 2 0) ([some (82,[(Value.int .i64 a0_0),(Value.string a0_1),(Value.bool a0_2),(Sl3.v a0_3),(Value.int .i64 a0_4),(Sl3.v a0_5),(Value.int .i64 a0_6),(Value.int .i64 a0_7),(Value.string a0_8),(Sl3.v a0_9),(Sl3.v a0_10),(Sl3.v a0_11)]),some (82,[(Value.int .i64 0),(Value.string (⟨#[]⟩:ByteArray)),(Value.bool false),(Sl3.v Sl3.nil),(Value.int .i64 0),(Sl3.v Sl3.nil),(Value.int .i64 0),(Value.int .i64 0),(Value.string (⟨#[]⟩:ByteArray)),(Sl3.v Sl3.nil),(Sl3.v Sl3.nil),(Sl3.v Sl3.nil)]),some (82,[(Value.int .i64 0),(Value.string (⟨#[]⟩:ByteArray)),(Value.bool false),(Sl3.v Sl3.nil),(Value.int .i64 0),(Sl3.v Sl3.nil),(Value.int .i64 0),(Value.int .i64 0),(Value.string (⟨#[]⟩:ByteArray)),(Sl3.v Sl3.nil),(Sl3.v Sl3.nil),(Sl3.v Sl3.nil)])]) true (DA.on 4 (DA.aCj 4 (some 12) false (v:=(Sl3.v x1)) 14 #[(Sl3.v a0_11)] (zm hx_4) (DA.on 5 (DA.aH (H':=H2) 5 (some 13) (Value.agg #[(Value.int .i64 a0_0),(Value.string (⟨#[]⟩:ByteArray)),(Value.bool false),(Sl3.v Sl3.nil),(Value.int .i64 0),(Sl3.v Sl3.nil),(Value.int .i64 0),(Value.int .i64 0),(Value.string (⟨#[]⟩:ByteArray)),(Sl3.v Sl3.nil),(Sl3.v Sl3.nil),(Sl3.v x1)]) (by kernel_rfl) (DA.on 7 (DA.aL 7 none (.val undef) ([some (82,[(Value.int .i64 a0_0),(Value.string a0_1),(Value.bool a0_2),(Sl3.v a0_3),(Value.int .i64 a0_4),(Sl3.v a0_5),(Value.int .i64 a0_6),(Value.int .i64 a0_7),(Value.string a0_8),(Sl3.v a0_9),(Sl3.v a0_10),(Sl3.v a0_11)]),some (82,[(Value.int .i64 0),(Value.string (⟨#[]⟩:ByteArray)),(Value.bool false),(Sl3.v Sl3.nil),(Value.int .i64 0),(Sl3.v Sl3.nil),(Value.int .i64 0),(Value.int .i64 0),(Value.string (⟨#[]⟩:ByteArray)),(Sl3.v Sl3.nil),(Sl3.v Sl3.nil),(Sl3.v Sl3.nil)]),some (82,[(Value.int .i64 a0_0),(Value.string (⟨#[]⟩:ByteArray)),(Value.bool false),(Sl3.v Sl3.nil),(Value.int .i64 0),(Sl3.v Sl3.nil),(Value.int .i64 0),(Value.int .i64 0),(Value.string (⟨#[]⟩:ByteArray)),(Sl3.v Sl3.nil),(Sl3.v Sl3.nil),(Sl3.v x1)])]) false (DA.dn ?_)))))))
    exact fun a w hs=>jsN (hs.sb 3)
  ·refine DA.aCj 4 (some 12) true (v:=(Sl3.v x1)) 14 #[(Sl3.v a0_11)] (zm hx_4) ?_
   refine DA.two 1 6 (by kernel_rfl) ?_ ?_
   ·refine DA.aL 1 (some 9) (.val (Value.int .i64 a0_0)) ([some (82,[(Value.int .i64 a0_0),(Value.string a0_1),(Value.bool a0_2),(Sl3.v a0_3),(Value.int .i64 a0_4),(Sl3.v a0_5),(Value.int .i64 a0_6),(Value.int .i64 a0_7),(Value.string a0_8),(Sl3.v a0_9),(Sl3.v a0_10),(Sl3.v a0_11)]),some (82,[(Value.int .i64 0),(Value.string (⟨#[]⟩:ByteArray)),(Value.bool false),(Sl3.v Sl3.nil),(Value.int .i64 0),(Sl3.v Sl3.nil),(Value.int .i64 0),(Value.int .i64 0),(Value.string (⟨#[]⟩:ByteArray)),(Sl3.v Sl3.nil),(Sl3.v Sl3.nil),(Sl3.v Sl3.nil)])]) true ?_
    refine DA.two 5 6 (by kernel_rfl) ?_ ?_
    ·refine DA.aHj (H':=H2) 5 (some 13) true (Value.agg #[(Value.int .i64 a0_0),(Value.string (⟨#[]⟩:ByteArray)),(Value.bool false),(Sl3.v Sl3.nil),(Value.int .i64 0),(Sl3.v Sl3.nil),(Value.int .i64 0),(Value.int .i64 0),(Value.string (⟨#[]⟩:ByteArray)),(Sl3.v Sl3.nil),(Sl3.v Sl3.nil),(Sl3.v x1)]) (by kernel_rfl) (DA.on 6 (DA.aL 6 (some 3) (.loc 2 0) ([some (82,[(Value.int .i64 a0_0),(Value.string a0_1),(Value.bool a0_2),(Sl3.v a0_3),(Value.int .i64 a0_4),(Sl3.v a0_5),(Value.int .i64 a0_6),(Value.int .i64 a0_7),(Value.string a0_8),(Sl3.v a0_9),(Sl3.v a0_10),(Sl3.v a0_11)]),some (82,[(Value.int .i64 0),(Value.string (⟨#[]⟩:ByteArray)),(Value.bool false),(Sl3.v Sl3.nil),(Value.int .i64 0),(Sl3.v Sl3.nil),(Value.int .i64 0),(Value.int .i64 0),(Value.string (⟨#[]⟩:ByteArray)),(Sl3.v Sl3.nil),(Sl3.v Sl3.nil),(Sl3.v Sl3.nil)]),some (82,[(Value.int .i64 0),(Value.string (⟨#[]⟩:ByteArray)),(Value.bool false),(Sl3.v Sl3.nil),(Value.int .i64 0),(Sl3.v Sl3.nil),(Value.int .i64 0),(Value.int .i64 0),(Value.string (⟨#[]⟩:ByteArray)),(Sl3.v Sl3.nil),(Sl3.v Sl3.nil),(Sl3.v Sl3.nil)])]) false (DA.on 7 (DA.aL 7 none (.val undef) ([some (82,[(Value.int .i64 a0_0),(Value.string a0_1),(Value.bool a0_2),(Sl3.v a0_3),(Value.int .i64 a0_4),(Sl3.v a0_5),(Value.int .i64 a0_6),(Value.int .i64 a0_7),(Value.string a0_8),(Sl3.v a0_9),(Sl3.v a0_10),(Sl3.v a0_11)]),some (82,[(Value.int .i64 0),(Value.string (⟨#[]⟩:ByteArray)),(Value.bool false),(Sl3.v Sl3.nil),(Value.int .i64 0),(Sl3.v Sl3.nil),(Value.int .i64 0),(Value.int .i64 0),(Value.string (⟨#[]⟩:ByteArray)),(Sl3.v Sl3.nil),(Sl3.v Sl3.nil),(Sl3.v Sl3.nil)]),some (82,[(Value.int .i64 a0_0),(Value.string (⟨#[]⟩:ByteArray)),(Value.bool false),(Sl3.v Sl3.nil),(Value.int .i64 0),(Sl3.v Sl3.nil),(Value.int .i64 0),(Value.int .i64 0),(Value.string (⟨#[]⟩:ByteArray)),(Sl3.v Sl3.nil),(Sl3.v Sl3.nil),(Sl3.v x1)])]) false (DA.dn ?_)))))
     exact fun a w hs=>jsN (hs.sb 3)
    ·refine DA.aL 6 (some 3) (.loc 2 0) ([some (82,[(Value.int .i64 a0_0),(Value.string a0_1),(Value.bool a0_2),(Sl3.v a0_3),(Value.int .i64 a0_4),(Sl3.v a0_5),(Value.int .i64 a0_6),(Value.int .i64 a0_7),(Value.string a0_8),(Sl3.v a0_9),(Sl3.v a0_10),(Sl3.v a0_11)]),some (82,[(Value.int .i64 0),(Value.string (⟨#[]⟩:ByteArray)),(Value.bool false),(Sl3.v Sl3.nil),(Value.int .i64 0),(Sl3.v Sl3.nil),(Value.int .i64 0),(Value.int .i64 0),(Value.string (⟨#[]⟩:ByteArray)),(Sl3.v Sl3.nil),(Sl3.v Sl3.nil),(Sl3.v Sl3.nil)]),some (82,[(Value.int .i64 0),(Value.string (⟨#[]⟩:ByteArray)),(Value.bool false),(Sl3.v Sl3.nil),(Value.int .i64 0),(Sl3.v Sl3.nil),(Value.int .i64 0),(Value.int .i64 0),(Value.string (⟨#[]⟩:ByteArray)),(Sl3.v Sl3.nil),(Sl3.v Sl3.nil),(Sl3.v Sl3.nil)])]) false (DA.on 5 (DA.aH (H':=H2) 5 (some 13) (Value.agg #[(Value.int .i64 a0_0),(Value.string (⟨#[]⟩:ByteArray)),(Value.bool false),(Sl3.v Sl3.nil),(Value.int .i64 0),(Sl3.v Sl3.nil),(Value.int .i64 0),(Value.int .i64 0),(Value.string (⟨#[]⟩:ByteArray)),(Sl3.v Sl3.nil),(Sl3.v Sl3.nil),(Sl3.v x1)]) (by kernel_rfl) (DA.on 7 (DA.aL 7 none (.val undef) ([some (82,[(Value.int .i64 a0_0),(Value.string a0_1),(Value.bool a0_2),(Sl3.v a0_3),(Value.int .i64 a0_4),(Sl3.v a0_5),(Value.int .i64 a0_6),(Value.int .i64 a0_7),(Value.string a0_8),(Sl3.v a0_9),(Sl3.v a0_10),(Sl3.v a0_11)]),some (82,[(Value.int .i64 0),(Value.string (⟨#[]⟩:ByteArray)),(Value.bool false),(Sl3.v Sl3.nil),(Value.int .i64 0),(Sl3.v Sl3.nil),(Value.int .i64 0),(Value.int .i64 0),(Value.string (⟨#[]⟩:ByteArray)),(Sl3.v Sl3.nil),(Sl3.v Sl3.nil),(Sl3.v Sl3.nil)]),some (82,[(Value.int .i64 a0_0),(Value.string (⟨#[]⟩:ByteArray)),(Value.bool false),(Sl3.v Sl3.nil),(Value.int .i64 0),(Sl3.v Sl3.nil),(Value.int .i64 0),(Value.int .i64 0),(Value.string (⟨#[]⟩:ByteArray)),(Sl3.v Sl3.nil),(Sl3.v Sl3.nil),(Sl3.v x1)])]) false (DA.dn ?_)))))
     exact fun a w hs=>jsN (hs.sb 3)
   ·refine DA.aL 6 (some 3) (.loc 2 0) ([some (82,[(Value.int .i64 a0_0),(Value.string a0_1),(Value.bool a0_2),(Sl3.v a0_3),(Value.int .i64 a0_4),(Sl3.v a0_5),(Value.int .i64 a0_6),(Value.int .i64 a0_7),(Value.string a0_8),(Sl3.v a0_9),(Sl3.v a0_10),(Sl3.v a0_11)]),some (82,[(Value.int .i64 0),(Value.string (⟨#[]⟩:ByteArray)),(Value.bool false),(Sl3.v Sl3.nil),(Value.int .i64 0),(Sl3.v Sl3.nil),(Value.int .i64 0),(Value.int .i64 0),(Value.string (⟨#[]⟩:ByteArray)),(Sl3.v Sl3.nil),(Sl3.v Sl3.nil),(Sl3.v Sl3.nil)]),some (82,[(Value.int .i64 0),(Value.string (⟨#[]⟩:ByteArray)),(Value.bool false),(Sl3.v Sl3.nil),(Value.int .i64 0),(Sl3.v Sl3.nil),(Value.int .i64 0),(Value.int .i64 0),(Value.string (⟨#[]⟩:ByteArray)),(Sl3.v Sl3.nil),(Sl3.v Sl3.nil),(Sl3.v Sl3.nil)])]) true (DA.on 1 (DA.aL 1 (some 9) (.val (Value.int .i64 a0_0)) ([some (82,[(Value.int .i64 a0_0),(Value.string a0_1),(Value.bool a0_2),(Sl3.v a0_3),(Value.int .i64 a0_4),(Sl3.v a0_5),(Value.int .i64 a0_6),(Value.int .i64 a0_7),(Value.string a0_8),(Sl3.v a0_9),(Sl3.v a0_10),(Sl3.v a0_11)]),some (82,[(Value.int .i64 0),(Value.string (⟨#[]⟩:ByteArray)),(Value.bool false),(Sl3.v Sl3.nil),(Value.int .i64 0),(Sl3.v Sl3.nil),(Value.int .i64 0),(Value.int .i64 0),(Value.string (⟨#[]⟩:ByteArray)),(Sl3.v Sl3.nil),(Sl3.v Sl3.nil),(Sl3.v Sl3.nil)]),some (82,[(Value.int .i64 0),(Value.string (⟨#[]⟩:ByteArray)),(Value.bool false),(Sl3.v Sl3.nil),(Value.int .i64 0),(Sl3.v Sl3.nil),(Value.int .i64 0),(Value.int .i64 0),(Value.string (⟨#[]⟩:ByteArray)),(Sl3.v Sl3.nil),(Sl3.v Sl3.nil),(Sl3.v Sl3.nil)])]) false (DA.on 5 (DA.aH (H':=H2) 5 (some 13) (Value.agg #[(Value.int .i64 a0_0),(Value.string (⟨#[]⟩:ByteArray)),(Value.bool false),(Sl3.v Sl3.nil),(Value.int .i64 0),(Sl3.v Sl3.nil),(Value.int .i64 0),(Value.int .i64 0),(Value.string (⟨#[]⟩:ByteArray)),(Sl3.v Sl3.nil),(Sl3.v Sl3.nil),(Sl3.v x1)]) (by kernel_rfl) (DA.on 7 (DA.aL 7 none (.val undef) ([some (82,[(Value.int .i64 a0_0),(Value.string a0_1),(Value.bool a0_2),(Sl3.v a0_3),(Value.int .i64 a0_4),(Sl3.v a0_5),(Value.int .i64 a0_6),(Value.int .i64 a0_7),(Value.string a0_8),(Sl3.v a0_9),(Sl3.v a0_10),(Sl3.v a0_11)]),some (82,[(Value.int .i64 0),(Value.string (⟨#[]⟩:ByteArray)),(Value.bool false),(Sl3.v Sl3.nil),(Value.int .i64 0),(Sl3.v Sl3.nil),(Value.int .i64 0),(Value.int .i64 0),(Value.string (⟨#[]⟩:ByteArray)),(Sl3.v Sl3.nil),(Sl3.v Sl3.nil),(Sl3.v Sl3.nil)]),some (82,[(Value.int .i64 a0_0),(Value.string (⟨#[]⟩:ByteArray)),(Value.bool false),(Sl3.v Sl3.nil),(Value.int .i64 0),(Sl3.v Sl3.nil),(Value.int .i64 0),(Value.int .i64 0),(Value.string (⟨#[]⟩:ByteArray)),(Sl3.v Sl3.nil),(Sl3.v Sl3.nil),(Sl3.v x1)])]) false (DA.dn ?_)))))))
    exact fun a w hs=>jsN (hs.sb 3)
  ·refine DA.aL 6 (some 3) (.loc 2 0) ([some (82,[(Value.int .i64 a0_0),(Value.string a0_1),(Value.bool a0_2),(Sl3.v a0_3),(Value.int .i64 a0_4),(Sl3.v a0_5),(Value.int .i64 a0_6),(Value.int .i64 a0_7),(Value.string a0_8),(Sl3.v a0_9),(Sl3.v a0_10),(Sl3.v a0_11)]),some (82,[(Value.int .i64 0),(Value.string (⟨#[]⟩:ByteArray)),(Value.bool false),(Sl3.v Sl3.nil),(Value.int .i64 0),(Sl3.v Sl3.nil),(Value.int .i64 0),(Value.int .i64 0),(Value.string (⟨#[]⟩:ByteArray)),(Sl3.v Sl3.nil),(Sl3.v Sl3.nil),(Sl3.v Sl3.nil)]),some (82,[(Value.int .i64 0),(Value.string (⟨#[]⟩:ByteArray)),(Value.bool false),(Sl3.v Sl3.nil),(Value.int .i64 0),(Sl3.v Sl3.nil),(Value.int .i64 0),(Value.int .i64 0),(Value.string (⟨#[]⟩:ByteArray)),(Sl3.v Sl3.nil),(Sl3.v Sl3.nil),(Sl3.v Sl3.nil)])]) true ?_
   refine DA.two 1 4 (by kernel_rfl) ?_ ?_
   ·refine DA.aL 1 (some 9) (.val (Value.int .i64 a0_0)) ([some (82,[(Value.int .i64 a0_0),(Value.string a0_1),(Value.bool a0_2),(Sl3.v a0_3),(Value.int .i64 a0_4),(Sl3.v a0_5),(Value.int .i64 a0_6),(Value.int .i64 a0_7),(Value.string a0_8),(Sl3.v a0_9),(Sl3.v a0_10),(Sl3.v a0_11)]),some (82,[(Value.int .i64 0),(Value.string (⟨#[]⟩:ByteArray)),(Value.bool false),(Sl3.v Sl3.nil),(Value.int .i64 0),(Sl3.v Sl3.nil),(Value.int .i64 0),(Value.int .i64 0),(Value.string (⟨#[]⟩:ByteArray)),(Sl3.v Sl3.nil),(Sl3.v Sl3.nil),(Sl3.v Sl3.nil)]),some (82,[(Value.int .i64 0),(Value.string (⟨#[]⟩:ByteArray)),(Value.bool false),(Sl3.v Sl3.nil),(Value.int .i64 0),(Sl3.v Sl3.nil),(Value.int .i64 0),(Value.int .i64 0),(Value.string (⟨#[]⟩:ByteArray)),(Sl3.v Sl3.nil),(Sl3.v Sl3.nil),(Sl3.v Sl3.nil)])]) true (DA.on 4 (DA.aCj 4 (some 12) false (v:=(Sl3.v x1)) 14 #[(Sl3.v a0_11)] (zm hx_4) (DA.on 5 (DA.aH (H':=H2) 5 (some 13) (Value.agg #[(Value.int .i64 a0_0),(Value.string (⟨#[]⟩:ByteArray)),(Value.bool false),(Sl3.v Sl3.nil),(Value.int .i64 0),(Sl3.v Sl3.nil),(Value.int .i64 0),(Value.int .i64 0),(Value.string (⟨#[]⟩:ByteArray)),(Sl3.v Sl3.nil),(Sl3.v Sl3.nil),(Sl3.v x1)]) (by kernel_rfl) (DA.on 7 (DA.aL 7 none (.val undef) ([some (82,[(Value.int .i64 a0_0),(Value.string a0_1),(Value.bool a0_2),(Sl3.v a0_3),(Value.int .i64 a0_4),(Sl3.v a0_5),(Value.int .i64 a0_6),(Value.int .i64 a0_7),(Value.string a0_8),(Sl3.v a0_9),(Sl3.v a0_10),(Sl3.v a0_11)]),some (82,[(Value.int .i64 0),(Value.string (⟨#[]⟩:ByteArray)),(Value.bool false),(Sl3.v Sl3.nil),(Value.int .i64 0),(Sl3.v Sl3.nil),(Value.int .i64 0),(Value.int .i64 0),(Value.string (⟨#[]⟩:ByteArray)),(Sl3.v Sl3.nil),(Sl3.v Sl3.nil),(Sl3.v Sl3.nil)]),some (82,[(Value.int .i64 a0_0),(Value.string (⟨#[]⟩:ByteArray)),(Value.bool false),(Sl3.v Sl3.nil),(Value.int .i64 0),(Sl3.v Sl3.nil),(Value.int .i64 0),(Value.int .i64 0),(Value.string (⟨#[]⟩:ByteArray)),(Sl3.v Sl3.nil),(Sl3.v Sl3.nil),(Sl3.v x1)])]) false (DA.dn ?_)))))))
    exact fun a w hs=>jsN (hs.sb 3)
   ·refine DA.aCj 4 (some 12) true (v:=(Sl3.v x1)) 14 #[(Sl3.v a0_11)] (zm hx_4) (DA.on 1 (DA.aL 1 (some 9) (.val (Value.int .i64 a0_0)) ([some (82,[(Value.int .i64 a0_0),(Value.string a0_1),(Value.bool a0_2),(Sl3.v a0_3),(Value.int .i64 a0_4),(Sl3.v a0_5),(Value.int .i64 a0_6),(Value.int .i64 a0_7),(Value.string a0_8),(Sl3.v a0_9),(Sl3.v a0_10),(Sl3.v a0_11)]),some (82,[(Value.int .i64 0),(Value.string (⟨#[]⟩:ByteArray)),(Value.bool false),(Sl3.v Sl3.nil),(Value.int .i64 0),(Sl3.v Sl3.nil),(Value.int .i64 0),(Value.int .i64 0),(Value.string (⟨#[]⟩:ByteArray)),(Sl3.v Sl3.nil),(Sl3.v Sl3.nil),(Sl3.v Sl3.nil)]),some (82,[(Value.int .i64 0),(Value.string (⟨#[]⟩:ByteArray)),(Value.bool false),(Sl3.v Sl3.nil),(Value.int .i64 0),(Sl3.v Sl3.nil),(Value.int .i64 0),(Value.int .i64 0),(Value.string (⟨#[]⟩:ByteArray)),(Sl3.v Sl3.nil),(Sl3.v Sl3.nil),(Sl3.v Sl3.nil)])]) false (DA.on 5 (DA.aH (H':=H2) 5 (some 13) (Value.agg #[(Value.int .i64 a0_0),(Value.string (⟨#[]⟩:ByteArray)),(Value.bool false),(Sl3.v Sl3.nil),(Value.int .i64 0),(Sl3.v Sl3.nil),(Value.int .i64 0),(Value.int .i64 0),(Value.string (⟨#[]⟩:ByteArray)),(Sl3.v Sl3.nil),(Sl3.v Sl3.nil),(Sl3.v x1)]) (by kernel_rfl) (DA.on 7 (DA.aL 7 none (.val undef) ([some (82,[(Value.int .i64 a0_0),(Value.string a0_1),(Value.bool a0_2),(Sl3.v a0_3),(Value.int .i64 a0_4),(Sl3.v a0_5),(Value.int .i64 a0_6),(Value.int .i64 a0_7),(Value.string a0_8),(Sl3.v a0_9),(Sl3.v a0_10),(Sl3.v a0_11)]),some (82,[(Value.int .i64 0),(Value.string (⟨#[]⟩:ByteArray)),(Value.bool false),(Sl3.v Sl3.nil),(Value.int .i64 0),(Sl3.v Sl3.nil),(Value.int .i64 0),(Value.int .i64 0),(Value.string (⟨#[]⟩:ByteArray)),(Sl3.v Sl3.nil),(Sl3.v Sl3.nil),(Sl3.v Sl3.nil)]),some (82,[(Value.int .i64 a0_0),(Value.string (⟨#[]⟩:ByteArray)),(Value.bool false),(Sl3.v Sl3.nil),(Value.int .i64 0),(Sl3.v Sl3.nil),(Value.int .i64 0),(Value.int .i64 0),(Value.string (⟨#[]⟩:ByteArray)),(Sl3.v Sl3.nil),(Sl3.v Sl3.nil),(Sl3.v x1)])]) false (DA.dn ?_)))))))
    exact fun a w hs=>jsN (hs.sb 3)
 ·refine WS.nxt ?_
  obtain ⟨⟨H3,w2_4,w2_5,w2_6,w2_7,w2_8,w2_9,w2_10,w2_11,w2_12,w2_13,w2_14,w2_15⟩,hx,h⟩:=bind_some h
  try dsimp only at h
  refine WS.sq ?_
  refine WS.join ([kL 1 0 0,kL 2 1 0,kL 3 2 0]) ([some (82,[(Value.int .i64 a0_0),(Value.string a0_1),(Value.bool a0_2),(Sl3.v a0_3),(Value.int .i64 a0_4),(Sl3.v a0_5),(Value.int .i64 a0_6),(Value.int .i64 a0_7),(Value.string a0_8),(Sl3.v a0_9),(Sl3.v a0_10),(Sl3.v a0_11)]),some (82,[(Value.int .i64 0),(Value.string (⟨#[]⟩:ByteArray)),(Value.bool false),(Sl3.v Sl3.nil),(Value.int .i64 0),(Sl3.v Sl3.nil),(Value.int .i64 0),(Value.int .i64 0),(Value.string (⟨#[]⟩:ByteArray)),(Sl3.v Sl3.nil),(Sl3.v Sl3.nil),(Sl3.v Sl3.nil)]),some (82,[(Value.int .i64 w2_4),(Value.string w2_5),(Value.bool w2_6),(Sl3.v w2_7),(Value.int .i64 w2_8),(Sl3.v w2_9),(Value.int .i64 w2_10),(Value.int .i64 w2_11),(Value.string w2_12),(Sl3.v w2_13),(Sl3.v w2_14),(Sl3.v w2_15)])]) H3 ?_ (fun a w hs=>WS.nxt ?_ a w hs)
  ·clear h; rename _=>h
   refine WS.bk 0 (WS.sq (WS.rg (RS.mS 4 [kB 18 (decide (a0_0≥11)),kB 17 (decide (a0_0≥11)),kI 16 a0_0,kL 15 0 0] ?_)))
   rcases z0 h with ⟨hp,h⟩ | ⟨hp,h⟩
   ·refine RS.fx 18 true (decide_eq_true hp) (RS.mS 5 [kB 14 (decide (a0_0≤14)),kB 22 (decide (a0_0≤14)),kB 21 (decide (a0_0≤14)),kI 20 a0_0,kL 19 0 0] (RS.dn (WS.nxt ?_)))
    rcases z0 h with ⟨hp,h⟩ | ⟨hp,h⟩
    ·refine WS.fx 14 true (decide_eq_true hp) (WS.cT (WS.rg (RS.mL 4 [kL 25 2 1,kT 24 a0_1,kL 23 0 1] ([some (82,[(Value.int .i64 a0_0),(Value.string a0_1),(Value.bool a0_2),(Sl3.v a0_3),(Value.int .i64 a0_4),(Sl3.v a0_5),(Value.int .i64 a0_6),(Value.int .i64 a0_7),(Value.string a0_8),(Sl3.v a0_9),(Sl3.v a0_10),(Sl3.v a0_11)]),some (82,[(Value.int .i64 0),(Value.string (⟨#[]⟩:ByteArray)),(Value.bool false),(Sl3.v Sl3.nil),(Value.int .i64 0),(Sl3.v Sl3.nil),(Value.int .i64 0),(Value.int .i64 0),(Value.string (⟨#[]⟩:ByteArray)),(Sl3.v Sl3.nil),(Sl3.v Sl3.nil),(Sl3.v Sl3.nil)]),some (82,[(Value.int .i64 a0_0),(Value.string a0_1),(Value.bool false),(Sl3.v Sl3.nil),(Value.int .i64 0),(Sl3.v Sl3.nil),(Value.int .i64 0),(Value.int .i64 0),(Value.string (⟨#[]⟩:ByteArray)),(Sl3.v Sl3.nil),(Sl3.v Sl3.nil),(Sl3.v x1)])]) (RS.dn ?_))))
     cases h
     exact fun a w hs=>bkN ((jsN (hs.sb 3)))
    ·refine WS.fx 14 false (decide_eq_false hp) (WS.cF (WS.sq (WS.rg (RS.mS 4 [kB 26 (decide (a0_0=20)),kB 29 (decide (a0_0=20)),kI 28 a0_0,kL 27 0 0] (RS.dn (WS.nxt ?_))))))
     rcases z0 h with ⟨hp,h⟩ | ⟨hp,h⟩
     ·refine WS.fx 26 true (decide_eq_true hp) (WS.cT ?_)
      cases h
     ·refine WS.fx 26 false (decide_eq_false hp) (WS.cF (WS.sq (WS.rg (RS.mS 4 [kB 34 (decide (a0_0=40)),kB 37 (decide (a0_0=40)),kI 36 a0_0,kL 35 0 0] (RS.dn (WS.nxt ?_))))))
      rcases z0 h with ⟨hp,h⟩ | ⟨hp,h⟩
      ·refine WS.fx 34 true (decide_eq_true hp) (WS.cT ?_)
       cases h
      ·refine WS.fx 34 false (decide_eq_false hp) (WS.cF (WS.sq (WS.rg (RS.mS 4 [kB 49 (decide (a0_0=34)),kB 52 (decide (a0_0=34)),kI 51 a0_0,kL 50 0 0] (RS.dn (WS.nxt ?_))))))
       rcases z0 h with ⟨hp,h⟩ | ⟨hp,h⟩
       ·refine WS.fx 49 true (decide_eq_true hp) (WS.cT ?_)
        cases h
       ·refine WS.fx 49 false (decide_eq_false hp) (WS.cF (WS.sk ?_))
        cases h
        exact fun a w hs=>bkN ((jsN (hs.sb 3)))
   ·refine RS.fx 18 false (decide_eq_false hp) ?_
    cases h
  ·clear hx
   refine WS.sq (WS.sq (WS.rg (RS.mS 2 [kI 59 a0_0,kL 58 0 0] ?_)))
   obtain ⟨⟨x16,x17,x18,x19⟩,hx,h⟩:=bind_some h
   try dsimp only at h
   refine RS.cl (some 60) (v:=(Value.tuple #[(Value.int .i64 x16),(Value.int .i64 x17),(Value.int .i64 x18),(Value.bool x19)])) 108 #[(Value.int .i64 a0_0)] (zn1 hx) (RS.mS 9 [kB 7 x19,kI 6 x18,kI 5 x17,kI 4 x16,kB 64 x19,kI 63 x18,kI 62 x17,kI 61 x16,(57,.val (Value.tuple #[(Value.int .i64 x16),(Value.int .i64 x17),(Value.int .i64 x18),(Value.bool x19)]))] (RS.dn (WS.nxt (WS.sq (WS.rg (RS.mS 2 [kB 66 (decide (x18 > 0)),kI 65 x18] (RS.dn (WS.nxt ?_))))))))
   rcases z0 h with ⟨hp,h⟩ | ⟨hp,h⟩
   ·refine WS.fx 66 true (decide_eq_true hp) (WS.cT ?_)
    cases h
   ·refine WS.fx 66 false (decide_eq_false hp) (WS.cF (WS.sk (WS.nxt (WS.sq (WS.rg (RS.mL 2 [kA 71 #[(Value.int .i64 w2_4),(Value.string w2_5),(Value.bool w2_6),(Sl3.v w2_7),(Value.int .i64 w2_8),(Sl3.v w2_9),(Value.int .i64 w2_10),(Value.int .i64 w2_11),(Value.string w2_12),(Sl3.v w2_13),(Sl3.v w2_14),(Sl3.v w2_15)]] ([some (82,[(Value.int .i64 a0_0),(Value.string a0_1),(Value.bool a0_2),(Sl3.v a0_3),(Value.int .i64 a0_4),(Sl3.v a0_5),(Value.int .i64 a0_6),(Value.int .i64 a0_7),(Value.string a0_8),(Sl3.v a0_9),(Sl3.v a0_10),(Sl3.v a0_11)]),some (82,[(Value.int .i64 w2_4),(Value.string w2_5),(Value.bool w2_6),(Sl3.v w2_7),(Value.int .i64 w2_8),(Sl3.v w2_9),(Value.int .i64 w2_10),(Value.int .i64 w2_11),(Value.string w2_12),(Sl3.v w2_13),(Sl3.v w2_14),(Sl3.v w2_15)]),some (82,[(Value.int .i64 w2_4),(Value.string w2_5),(Value.bool w2_6),(Sl3.v w2_7),(Value.int .i64 w2_8),(Sl3.v w2_9),(Value.int .i64 w2_10),(Value.int .i64 w2_11),(Value.string w2_12),(Sl3.v w2_13),(Sl3.v w2_14),(Sl3.v w2_15)])]) (RS.dn (WS.nxt (WS.rt ?_)))))))))
    cases h
    exact fun a w hs=>rtR (rS hs)
noncomputable def B251:Code:=(Tryz.f251.body).getD .skip
def zfr:Bool→Value
 | r0=>(Value.bool r0)
def zh6 (H:AH):Bool→AH:=fun _=>H
noncomputable def z4y (_L:LC) (H:AH) (a0_0:ByteArray) (_a0_1:Sl3) (_a0_2 _a0_3:Int) (_a0_4:ByteArray) (_a0_5:Sl3) (a1:Option Addr):Option Bool :=
 Option.bind a1 fun q1 =>
 Option.bind (rd deS H q1) fun x2 =>
 some (a0_0.toList == x2.toList)
theorem zho {L:LC} {m:Nat} {H:AH} {a0_0:ByteArray} {a0_1:Sl3} {a0_2 a0_3:Int} {a0_4:ByteArray} {a0_5:Sl3} {a1:Option Addr} {r:Bool} (h:z4y L H a0_0 a0_1 a0_2 a0_3 a0_4 a0_5 a1=some r) :
  CallS Tryz.prog (NE.plain 258) m 251 #[(Value.agg #[(Value.string a0_0),(Sl3.v a0_1),(Value.int .i64 a0_2),(Value.int .i64 a0_3),(Value.string a0_4),(Sl3.v a0_5)]),(Value.pointer a1)] H (zfr r) (zh6 H r):=by
 refine CallS.mk (args:=[(Value.agg #[(Value.string a0_0),(Sl3.v a0_1),(Value.int .i64 a0_2),(Value.int .i64 a0_3),(Value.string a0_4),(Sl3.v a0_5)]),(Value.pointer a1)]) Tryz.func251 (B:=B251) (by kernel_rfl) (fun E _=>?_)
 unfold z4y at h
 refine WS.sq (WS.rg (RS.mL 2 [kB 3 false,kL 2 0 0] ([some (72,[(Value.string a0_0),(Sl3.v a0_1),(Value.int .i64 a0_2),(Value.int .i64 a0_3),(Value.string a0_4),(Sl3.v a0_5)])]) (RS.dn (WS.nxt (WS.sq (WS.rg (RS.mS 2 [kT 5 a0_0,kL 4 0 0] ?_)))))))
 obtain ⟨q1,hx,hq1⟩:=bind_some h
 subst hx
 have h:=hq1
 obtain ⟨x2,hx,h⟩:=bind_some h
 refine RS.ld 6 9 (.tmp 1) (z1 hx za) (RS.mS 2 [kB 3 (a0_0.toList == x2.toList),kB 7 (a0_0.toList == x2.toList)] (RS.dn (WS.nxt (WS.rt ?_))))
 cases h
 exact fun a w hs=>rtR (rS hs)
noncomputable def B250:Code:=(Tryz.f250.body).getD .skip
def z3q:Int→Value
 | r0=>(Value.int .i64 r0)
def z3w (H:AH):Int→AH:=fun _=>H
noncomputable def z1u (L:LC) (H:AH) (a0:Sl3) (a1_0:Option Addr):Int→Option (Lp Int Int):=fun v8_1 =>
 if v8_1<(a0.n:Int) then
  Option.bind (idxA 6 a0 v8_1) fun p2 =>
  Option.bind (rd deS H (Addr.add p2 0)) fun x3_0 =>
  Option.bind (rd deSl H (Addr.add p2 1)) fun x3_1 =>
  Option.bind (rd (deI .i64) H (Addr.add p2 2)) fun x3_2 =>
  Option.bind (rd (deI .i64) H (Addr.add p2 3)) fun x3_3 =>
  Option.bind (rd deS H (Addr.add p2 4)) fun x3_4 =>
  Option.bind (rd deSl H (Addr.add p2 5)) fun x3_5 =>
  Option.bind (z4y L H x3_0 x3_1 x3_2 x3_3 x3_4 x3_5 a1_0) fun x4 =>
  if x4=true then
   some (.ret v8_1)
  else
   some (.next (IntKind.i64.wrap (v8_1+1)))
 else
  none
def z8v (_L:LC) (_H:AH) (a0:Sl3) (a1_0:Option Addr):Int→KN×Lcs:=fun v8_1=>([kI 8 v8_1,kS 0 a0,(1,.val (Value.func (.func 251) #[] #[(Value.pointer a1_0)])),kI 7 (a0.n:Int)],[])
noncomputable def z2h (L:LC) (H:AH) (a0:Sl3) (a1_0:Option Addr):Option Int :=
 Option.bind (L.run (z1u L H a0 a1_0) 0) fun o=>match o with
 | .inl _ =>
  some (-1)
 | .inr r=>some r
theorem z31 {E m L H a0 a1_0} :LoopF Tryz.prog (NE.plain 258) m E Tryz.f250 ((cfst (csnd (cfst (csnd B250))))) (z8v L H a0 a1_0) (fun _=>H) 0 z3q (z3w H) (z1u L H a0 a1_0):=by
 rintro v8_1 o h
 unfold z1u at h
 try dsimp only at h
 refine WS.sq (WS.rg (RS.mS 1 [kB 9 (decide (v8_1<(a0.n:Int)))] (RS.dn (WS.nxt (WS.sq ?_)))))
 rcases z0 h with ⟨hp,h⟩ | ⟨hp,h⟩
 ·refine WS.fx 9 true (decide_eq_true hp) (WS.cT (WS.sk (WS.nxt (WS.sq (WS.bk 1 (WS.sq (WS.rg (RS.mS 2 [kI 5 v8_1,kI 10 v8_1] (RS.dn ?_)))))))))
  refine WS.nxt (WS.sq (WS.rg (RS.mS 3 [kI 13 v8_1,kS 12 a0,(11,.val (Value.func (.func 251) #[] #[(Value.pointer a1_0)]))] ?_)))
  obtain ⟨p2,hx,h⟩:=bind_some h
  refine RS.ix 14 73 72 (.tmp 12) (.tmp 13) hx ?_
  obtain ⟨x3_0,hx0,h⟩:=bind_some h
  obtain ⟨x3_1,hx1,h⟩:=bind_some h
  obtain ⟨x3_2,hx2,h⟩:=bind_some h
  obtain ⟨x3_3,hx3,h⟩:=bind_some h
  obtain ⟨x3_4,hx4,h⟩:=bind_some h
  obtain ⟨x3_5,hx5,h⟩:=bind_some h
  refine RS.la 15 72 (.tmp 14) 6 (z2 (z1 hx0 za) (z2 (z1 hx1 z3) (z2 (z1 hx2 z4) (z2 (z1 hx3 z4) (z2 (z1 hx4 za) (z2 (z1 hx5 z3) zq)))))) ?_
  obtain ⟨x4,hx,h⟩:=bind_some h
  refine RS.cl (some 16) (v:=(Value.bool x4)) 251 #[(Value.agg #[(Value.string x3_0),(Sl3.v x3_1),(Value.int .i64 x3_2),(Value.int .i64 x3_3),(Value.string x3_4),(Sl3.v x3_5)]),(Value.pointer a1_0)] (zho hx) (RS.dn (WS.nxt ?_))
  rcases z0 h with ⟨hp,h⟩ | ⟨hp,h⟩
  ·refine WS.fx 16 true hp (WS.cT (WS.sq (WS.rg (RS.mS 2 [kI 4 v8_1,kI 17 v8_1] (RS.dn (WS.nxt (WS.rt ?_)))))))
   cases h
   exact fun a w hs=>bkR (sqR (lsR rfl (rS hs)))
  ·refine WS.fx 16 false (b_not hp) (WS.cF (WS.sk ?_))
   refine fun a w hs=>bkN ((WS.nxt ?_ a w hs))
   refine WS.rg (RS.mS 2 [kI 8 (IntKind.i64.wrap (v8_1+1)),kI 18 (IntKind.i64.wrap (v8_1+1))] (RS.dn ?_))
   cases h
   exact fun a w hs=>lsN rfl (hs.sb 0)
 ·refine WS.fx 9 false (decide_eq_false hp) (WS.cF ?_)
  cases h
theorem zbb {L:LC} {m:Nat} {H:AH} {a0:Sl3} {a1_0:Option Addr} {r:Int} (h:z2h L H a0 a1_0=some r) :
  CallS Tryz.prog (NE.plain 258) m 250 #[(Sl3.v a0),(Value.func (.func 251) #[] #[(Value.pointer a1_0)])] H (z3q r) (z3w H r):=by
 refine CallS.mk (args:=[(Sl3.v a0),(Value.func (.func 251) #[] #[(Value.pointer a1_0)])]) Tryz.func250 (B:=B250) (by kernel_rfl) (fun E _=>?_)
 unfold z2h at h
 refine WS.sq (WS.rg (RS.mS 1 [kI 4 0] (RS.dn (WS.nxt (WS.sq (WS.sq (WS.rg (RS.mS 3 [kI 8 0,kI 7 (a0.n:Int),kS 6 a0] (RS.dn ?_)))))))))
 refine WS.nxt (WS.bk 0 ?_)
 obtain ⟨o,hl,h⟩:=bind_some h
 rcases o with v8_5 | r
 ·try dsimp only at h
  refine WS.lI (z31 (L:=L) (E:=E) (m:=m) (H:=H)) (L.ok hl) 0 ?_
  clear hl
  refine fun a w hs=>bkE ((WS.nxt ?_ a w hs))
  refine WS.sq (WS.rg (RS.mS 1 [kI 4 (-1)] (RS.dn (WS.nxt (WS.rt ?_)))))
  cases h
  exact fun a w hs=>rtR (rS hs)
 ·try dsimp only at h
  refine WS.lR (z31 (L:=L) (E:=E) (m:=m) (H:=H)) (L.ok hl) 0 ?_
  cases h
  exact fun a w hq=>bkR (sqR (rtR hq))
noncomputable def B202:Code:=(Tryz.f202.body).getD .skip
def ziw:(Sl3×Int×Int×ByteArray×Sl3×Bool×AH)→Value
 | (r0,r1,r2,r3,r4,r5,_)=>(Value.tuple #[(Sl3.v r0),(Value.agg #[(Value.int .i64 r1),(Value.int .i64 r2),(Value.string r3),(Sl3.v r4)]),(Value.bool r5)])
def zjz (_:AH):(Sl3×Int×Int×ByteArray×Sl3×Bool×AH)→AH:=fun r=>r.2.2.2.2.2.2
noncomputable def z77 (L:LC) (_m:Nat) (H:AH) (a0:Option Addr) (a1:Int) (a2:ByteArray):Option (Sl3×Int×Int×ByteArray×Sl3×Bool×AH) :=
 Option.bind (newB 9 [(Value.string a2)] H) fun (p1,H2) =>
 if a1=11 then
  Option.bind a0 fun q3 =>
  Option.bind (rd deSl H2 (Addr.add (Addr.add q3 0) 2)) fun x4 =>
  Option.bind (z2h L H2 x4 (some p1)) fun x5 =>
  if x5<0 then
   none
  else
   Option.bind (rd deSl H2 (Addr.add (Addr.add q3 0) 2)) fun x6 =>
   Option.bind (idxA 6 x6 x5) fun p7 =>
   Option.bind (rd deSl H2 (Addr.add p7 1)) fun x8 =>
   Option.bind (rd deSl H2 (Addr.add (Addr.add q3 0) 2)) fun x9 =>
   Option.bind (idxA 6 x9 x5) fun p10 =>
   Option.bind (rd (deI .i64) H2 (Addr.add (Addr.add p10 2) 0)) fun x11_0 =>
   Option.bind (rd (deI .i64) H2 (Addr.add (Addr.add p10 2) 1)) fun x11_1 =>
   Option.bind (rd deS H2 (Addr.add (Addr.add p10 2) 2)) fun x11_2 =>
   Option.bind (rd deSl H2 (Addr.add (Addr.add p10 2) 3)) fun x11_3 =>
   some (x8,x11_0,x11_1,x11_2,x11_3,true,H2)
 else
  none
theorem za3 {L:LC} {m:Nat} {H:AH} {a0:Option Addr} {a1:Int} {a2:ByteArray} {r:(Sl3×Int×Int×ByteArray×Sl3×Bool×AH)} (h:z77 L m H a0 a1 a2=some r) :
  CallS Tryz.prog (NE.plain 258) m 202 #[(Value.pointer a0),(Value.int .i64 a1),(Value.string a2)] H (ziw r) (zjz H r):=by
 refine CallS.mk (args:=[(Value.pointer a0),(Value.int .i64 a1),(Value.string a2)]) Tryz.func202 (B:=B202) (by kernel_rfl) (fun E _=>?_)
 unfold z77 at h
 refine WS.sq (WS.rg ?_)
 obtain ⟨⟨p1,H2⟩,hx,h⟩:=bind_some h
 try dsimp only at h
 refine RS.o (H':=H2) (some 5) (Value.pointer (some p1)) (Abs.run_newB (by kernel_rfl) hx) (RS.mL 3 [kB 8 false,kL 7 0 0,kS 6 Sl3.nil] ([some (56,[(Value.int .i64 0),(Value.int .i64 0),(Value.string (⟨#[]⟩:ByteArray)),(Sl3.v Sl3.nil)])]) (RS.dn (WS.nxt (WS.sq (WS.sq (WS.rg (RS.mS 2 [kB 21 (decide (a1=11)),kI 20 a1] (RS.dn (WS.nxt ?_)))))))))
 rcases z0 h with ⟨hp,h⟩ | ⟨hp,h⟩
 ·refine WS.fx 21 true (decide_eq_true hp) (WS.cT (WS.sq (WS.rg (RS.mS 1 [(22,.val (Value.pointer a0))] ?_))))
  obtain ⟨q3,hx,hq3⟩:=bind_some h
  subst hx
  have h:=hq3
  refine RS.mS 3 [(25,.val (Value.pointer (some (Addr.add (Addr.add q3 0) 2)))),(24,.val (Value.pointer (some (Addr.add q3 0)))),kP 23 q3] ?_
  obtain ⟨x4,hx,h⟩:=bind_some h
  refine RS.ld 26 73 (.tmp 25) (z1 hx z3) (RS.mS 1 [(27,.val (Value.func (.func 251) #[] #[(Value.pointer (some p1))]))] ?_)
  obtain ⟨x5,hx,h⟩:=bind_some h
  refine RS.cl (some 28) (v:=(Value.int .i64 x5)) 250 #[(Sl3.v x4),(Value.func (.func 251) #[] #[(Value.pointer (some p1))])] (zbb hx) (RS.mS 1 [kI 9 x5] (RS.dn (WS.nxt (WS.sq (WS.sq (WS.rg (RS.mS 2 [kB 30 (decide (x5<0)),kI 29 x5] (RS.dn (WS.nxt ?_)))))))))
  rcases z0 h with ⟨hp,h⟩ | ⟨hp,h⟩
  ·refine WS.fx 30 true (decide_eq_true hp) (WS.cT ?_)
   cases h
  ·refine WS.fx 30 false (decide_eq_false hp) (WS.cF (WS.sk (WS.nxt (WS.sq ?_))))
   refine WS.dr [0,1,2,3,4,5,6,7,8,9,10,11,12,13,14,15,16,17] [0,1,3,7,15,0,63,127,255,0,512,1536,3584,7680,0,32256,65024,130560,511,524287,1048575] 21 (fun hcl=>?_)
   refine DA.tK 0 (some 32) (Value.pointer (some q3)) (DA.tK 1 (some 33) (Value.pointer (some q3)) (DA.tK 2 (some 34) (Value.pointer (some (Addr.add q3 0))) (DA.tK 3 (some 35) (Value.pointer (some (Addr.add (Addr.add q3 0) 2))) ?_)))
   obtain ⟨x6,hx,h⟩:=bind_some h
   refine DA.tD 4 (some 36) (Sl3.v x6) (Abs.det_load (t:=73) (x:=.tmp 35) (a:=(Addr.add (Addr.add q3 0) 2)) (by kernel_rfl) (by kernel_rfl) (by kernel_rfl) (by kernel_rfl) (z1 hx z3)) (DA.tK 5 (some 37) (Value.int .i64 x5) ?_)
   obtain ⟨p7,hx,h⟩:=bind_some h
   refine DA.tD 6 (some 38) (Value.pointer (some p7)) (Abs.det_idx (s:=x6) (k:=.i64) (t:=73) (e:=72) (x:=.tmp 36) (y:=.tmp 37) (by kernel_rfl) (by kernel_rfl) (by kernel_rfl) (by kernel_rfl) (by kernel_rfl) hx) (DA.tK 7 (some 39) (Value.pointer (some (Addr.add p7 1))) ?_)
   obtain ⟨x8,hx,h⟩:=bind_some h
   refine DA.tD 8 (some 40) (Sl3.v x8) (Abs.det_load (t:=54) (x:=.tmp 39) (a:=(Addr.add p7 1)) (by kernel_rfl) (by kernel_rfl) (by kernel_rfl) (by kernel_rfl) (z1 hx z3)) (DA.tK 9 (some 41) (Value.pointer (some q3)) (DA.tK 10 (some 42) (Value.pointer (some q3)) (DA.tK 11 (some 43) (Value.pointer (some (Addr.add q3 0))) (DA.tK 12 (some 44) (Value.pointer (some (Addr.add (Addr.add q3 0) 2))) ?_))))
   obtain ⟨x9,hx,h⟩:=bind_some h
   refine DA.tD 13 (some 45) (Sl3.v x9) (Abs.det_load (t:=73) (x:=.tmp 44) (a:=(Addr.add (Addr.add q3 0) 2)) (by kernel_rfl) (by kernel_rfl) (by kernel_rfl) (by kernel_rfl) (z1 hx z3)) (DA.tK 14 (some 46) (Value.int .i64 x5) ?_)
   obtain ⟨p10,hx,h⟩:=bind_some h
   refine DA.tD 15 (some 47) (Value.pointer (some p10)) (Abs.det_idx (s:=x9) (k:=.i64) (t:=73) (e:=72) (x:=.tmp 45) (y:=.tmp 46) (by kernel_rfl) (by kernel_rfl) (by kernel_rfl) (by kernel_rfl) (by kernel_rfl) hx) (DA.tK 16 (some 48) (Value.pointer (some (Addr.add p10 2))) ?_)
   obtain ⟨x11_0,hx0,h⟩:=bind_some h
   obtain ⟨x11_1,hx1,h⟩:=bind_some h
   obtain ⟨x11_2,hx2,h⟩:=bind_some h
   obtain ⟨x11_3,hx3,h⟩:=bind_some h
   refine DA.tD 17 (some 49) (Value.agg #[(Value.int .i64 x11_0),(Value.int .i64 x11_1),(Value.string x11_2),(Sl3.v x11_3)]) (Abs.det_loadA (t:=56) (x:=.tmp 48) (a:=(Addr.add p10 2)) (k:=4) (by kernel_rfl) (by kernel_rfl) (by kernel_rfl) (by kernel_rfl) (z2 (z1 hx0 z4) (z2 (z1 hx1 z4) (z2 (z1 hx2 za) (z2 (z1 hx3 z3) zq))))) (DA.tP 18 (some 6) (Sl3.v x8) (DA.on 19 (DA.aL 19 none (.val undef) ([some (56,[(Value.int .i64 x11_0),(Value.int .i64 x11_1),(Value.string x11_2),(Sl3.v x11_3)])]) false (DA.tP 20 (some 8) (Value.bool true) (DA.dn (WS.nxt (WS.rt ?_)))))))
   cases h
   exact fun a w hs=>sqR (rtR (rS hs))
 ·refine WS.fx 21 false (decide_eq_false hp) (WS.cF ?_)
  cases h
noncomputable def B203:Code:=(Tryz.f203.body).getD .skip
def zin:(Bool×AH)→Value
 | (r0,_)=>(Value.bool r0)
def zk6 (_:AH):(Bool×AH)→AH:=fun r=>r.2
noncomputable def z74 (_L:LC) (_m:Nat) (H:AH) (_a0:Option Addr) (a1_0:Int) (_a1_1:ByteArray) (_a1_2:Bool) (_a1_3:Sl3) (_a1_4:Int) (_a1_5:Sl3) (_a1_6 _a1_7:Int) (_a1_8:ByteArray) (_a1_9 _a1_10 _a1_11:Sl3) (a2:Int):Option (Bool×AH) :=
 if a1_0=34 then
  none
 else
  if a2=0 then
   some (true,H)
  else
   none
theorem zkd {L:LC} {m:Nat} {H:AH} {a0:Option Addr} {a1_0:Int} {a1_1:ByteArray} {a1_2:Bool} {a1_3:Sl3} {a1_4:Int} {a1_5:Sl3} {a1_6 a1_7:Int} {a1_8:ByteArray} {a1_9 a1_10 a1_11:Sl3} {a2:Int} {r:(Bool×AH)} (h:z74 L m H a0 a1_0 a1_1 a1_2 a1_3 a1_4 a1_5 a1_6 a1_7 a1_8 a1_9 a1_10 a1_11 a2=some r) :
  CallS Tryz.prog (NE.plain 258) m 203 #[(Value.pointer a0),(Value.agg #[(Value.int .i64 a1_0),(Value.string a1_1),(Value.bool a1_2),(Sl3.v a1_3),(Value.int .i64 a1_4),(Sl3.v a1_5),(Value.int .i64 a1_6),(Value.int .i64 a1_7),(Value.string a1_8),(Sl3.v a1_9),(Sl3.v a1_10),(Sl3.v a1_11)]),(Value.int .i64 a2)] H (zin r) (zk6 H r):=by
 refine CallS.mk (args:=[(Value.pointer a0),(Value.agg #[(Value.int .i64 a1_0),(Value.string a1_1),(Value.bool a1_2),(Sl3.v a1_3),(Value.int .i64 a1_4),(Sl3.v a1_5),(Value.int .i64 a1_6),(Value.int .i64 a1_7),(Value.string a1_8),(Sl3.v a1_9),(Sl3.v a1_10),(Sl3.v a1_11)]),(Value.int .i64 a2)]) Tryz.func203 (B:=B203) (by kernel_rfl) (fun E _=>?_)
 unfold z74 at h
 refine WS.sq (WS.rg (RS.mL 2 [kB 6 false,kL 4 0 0] ([some (82,[(Value.int .i64 a1_0),(Value.string a1_1),(Value.bool a1_2),(Sl3.v a1_3),(Value.int .i64 a1_4),(Sl3.v a1_5),(Value.int .i64 a1_6),(Value.int .i64 a1_7),(Value.string a1_8),(Sl3.v a1_9),(Sl3.v a1_10),(Sl3.v a1_11)])]) (RS.dn (WS.nxt (WS.sq (WS.sq (WS.rg (RS.mS 3 [kB 9 (decide (a1_0=34)),kI 8 a1_0,kL 7 0 0] (RS.dn ?_)))))))))
 refine WS.nxt ?_
 rcases z0 h with ⟨hp,h⟩ | ⟨hp,h⟩
 ·refine WS.fx 9 true (decide_eq_true hp) (WS.cT ?_)
  cases h
 ·refine WS.fx 9 false (decide_eq_false hp) (WS.cF (WS.sk (WS.nxt (WS.sq (WS.sq (WS.rg (RS.mS 2 [kB 25 (decide (a2=0)),kI 24 a2] (RS.dn (WS.nxt ?_)))))))))
  rcases z0 h with ⟨hp,h⟩ | ⟨hp,h⟩
  ·refine WS.fx 25 true (decide_eq_true hp) (WS.cT (WS.sq (WS.rg (RS.mS 1 [kB 6 true] (RS.dn (WS.nxt (WS.rt ?_)))))))
   cases h
   exact fun a w hs=>sqR (rtR (rS hs))
  ·refine WS.fx 25 false (decide_eq_false hp) (WS.cF ?_)
   cases h
noncomputable def B204:Code:=(Tryz.f204.body).getD .skip
def zr6:Int→Value
 | r0=>(Value.int .i64 r0)
def zrz (H:AH):Int→AH:=fun _=>H
noncomputable def zjd (_L:LC) (_H:AH) (a0_0:Int) (_a0_1:ByteArray) (_a0_2:Bool) (_a0_3:Sl3) (_a0_4:Int) (_a0_5:Sl3) (_a0_6 _a0_7:Int) (_a0_8:ByteArray) (_a0_9 _a0_10 _a0_11:Sl3):Option Int :=
 if a0_0=20 then
  none
 else
  if a0_0=40 then
   none
  else
   some 0
theorem zsc {L:LC} {m:Nat} {H:AH} {a0_0:Int} {a0_1:ByteArray} {a0_2:Bool} {a0_3:Sl3} {a0_4:Int} {a0_5:Sl3} {a0_6 a0_7:Int} {a0_8:ByteArray} {a0_9 a0_10 a0_11:Sl3} {r:Int} (h:zjd L H a0_0 a0_1 a0_2 a0_3 a0_4 a0_5 a0_6 a0_7 a0_8 a0_9 a0_10 a0_11=some r) :
  CallS Tryz.prog (NE.plain 258) m 204 #[(Value.agg #[(Value.int .i64 a0_0),(Value.string a0_1),(Value.bool a0_2),(Sl3.v a0_3),(Value.int .i64 a0_4),(Sl3.v a0_5),(Value.int .i64 a0_6),(Value.int .i64 a0_7),(Value.string a0_8),(Sl3.v a0_9),(Sl3.v a0_10),(Sl3.v a0_11)])] H (zr6 r) (zrz H r):=by
 refine CallS.mk (args:=[(Value.agg #[(Value.int .i64 a0_0),(Value.string a0_1),(Value.bool a0_2),(Sl3.v a0_3),(Value.int .i64 a0_4),(Sl3.v a0_5),(Value.int .i64 a0_6),(Value.int .i64 a0_7),(Value.string a0_8),(Sl3.v a0_9),(Sl3.v a0_10),(Sl3.v a0_11)])]) Tryz.func204 (B:=B204) (by kernel_rfl) (fun E _=>?_)
 unfold zjd at h
 refine WS.sq (WS.rg (RS.mL 2 [kI 2 0,kL 1 0 0] ([some (82,[(Value.int .i64 a0_0),(Value.string a0_1),(Value.bool a0_2),(Sl3.v a0_3),(Value.int .i64 a0_4),(Sl3.v a0_5),(Value.int .i64 a0_6),(Value.int .i64 a0_7),(Value.string a0_8),(Sl3.v a0_9),(Sl3.v a0_10),(Sl3.v a0_11)])]) (RS.dn (WS.nxt (WS.sq (WS.sq (WS.rg (RS.mS 2 [kI 4 a0_0,kL 3 0 0] (RS.dn ?_)))))))))
 refine WS.nxt (WS.bk 0 (WS.sq (WS.rg (RS.mS 2 [kB 5 (decide (a0_0=20)),kB 6 (decide (a0_0=20))] (RS.dn (WS.nxt ?_))))))
 rcases z0 h with ⟨hp,h⟩ | ⟨hp,h⟩
 ·refine WS.fx 5 true (decide_eq_true hp) (WS.cT ?_)
  cases h
 ·refine WS.fx 5 false (decide_eq_false hp) (WS.cF (WS.sq (WS.rg (RS.mS 2 [kB 12 (decide (a0_0=40)),kB 13 (decide (a0_0=40))] (RS.dn (WS.nxt ?_))))))
  rcases z0 h with ⟨hp,h⟩ | ⟨hp,h⟩
  ·refine WS.fx 12 true (decide_eq_true hp) (WS.cT ?_)
   cases h
  ·refine WS.fx 12 false (decide_eq_false hp) (WS.cF (WS.sk ?_))
   refine fun a w hs=>bkN ((WS.nxt ?_ a w hs))
   refine WS.sq (WS.rg (RS.mS 1 [kI 2 0] (RS.dn (WS.nxt (WS.rt ?_)))))
   cases h
   exact fun a w hs=>rtR (rS hs)
end Go.Proofs.YtkecibinbgaedaaGreatDoor
namespace Go.Proofs.YtkecibinbgaedaaGreatDoor
open Go Go.Abs
set_option maxRecDepth 100000
noncomputable def B130:Code:=(Tryz.f130.body).getD .skip
def zci:(Sl3×Int×Int×ByteArray×Sl3×Int×AH)→Value
 | (r0,r1,r2,r3,r4,r5,_)=>(Value.tuple #[(Sl3.v r0),(Value.agg #[(Value.int .i64 r1),(Value.int .i64 r2),(Value.string r3),(Sl3.v r4)]),(Value.int .i64 r5)])
def zdm (_:AH):(Sl3×Int×Int×ByteArray×Sl3×Int×AH)→AH:=fun r=>r.2.2.2.2.2.2
noncomputable def z72 (_L:LC) (a0:Option Addr) (_a1_0:Int) (_a1_1:ByteArray) (_a1_2:Bool) (_a1_3:Sl3) (_a1_4:Int) (_a1_5:Sl3) (_a1_6 _a1_7:Int) (_a1_8:ByteArray) (_a1_9 _a1_10 a1_11:Sl3) (_x3:Int) (H5:AH) (_v11_8:Sl3) (_w2_13 _w2_14:Int) (_w2_15:ByteArray) (_w2_16:Sl3):(Int×Int×Int×ByteArray×Sl3)→Option (Lp (Int×Int×Int×ByteArray×Sl3) (Sl3×Int×Int×ByteArray×Sl3×Int×AH)):=fun (v67_21,w1_22,w1_23,w1_24,w1_25) =>
 if v67_21<(a1_11.n:Int) then
  Option.bind (idxA 1 a1_11 v67_21) fun p26 =>
  Option.bind (rd (deI .i64) H5 p26) fun x27 =>
  if x27<0 then
   none
  else
   Option.bind a0 fun q28 =>
   Option.bind (rd deSl H5 (Addr.add q28 3)) fun x29 =>
   if x27≥(x29.n:Int) then
    none
   else
    some (.next ((IntKind.i64.wrap (v67_21+1)),w1_22,w1_23,w1_24,w1_25))
 else
  some (.brk (v67_21,w1_22,w1_23,w1_24,w1_25))
def zkc (_L:LC) (a0:Option Addr) (a1_0:Int) (a1_1:ByteArray) (a1_2:Bool) (a1_3:Sl3) (a1_4:Int) (a1_5:Sl3) (a1_6 a1_7:Int) (a1_8:ByteArray) (a1_9 a1_10 a1_11:Sl3) (x3:Int) (_H5:AH) (v11_8:Sl3) (w2_13 w2_14:Int) (w2_15:ByteArray) (w2_16:Sl3):(Int×Int×Int×ByteArray×Sl3)→KN×Lcs:=fun (v67_21,w1_22,w1_23,w1_24,w1_25)=>([kI 67 v67_21,(0,.val (Value.pointer a0)),kL 3 0 0,kL 5 1 0,kI 9 x3,kS 11 v11_8,kL 12 2 0,kS 65 a1_11,kI 66 (a1_11.n:Int)],[some (82,[(Value.int .i64 a1_0),(Value.string a1_1),(Value.bool a1_2),(Sl3.v a1_3),(Value.int .i64 a1_4),(Sl3.v a1_5),(Value.int .i64 a1_6),(Value.int .i64 a1_7),(Value.string a1_8),(Sl3.v a1_9),(Sl3.v a1_10),(Sl3.v a1_11)]),some (56,[(Value.int .i64 w1_22),(Value.int .i64 w1_23),(Value.string w1_24),(Sl3.v w1_25)]),some (56,[(Value.int .i64 w2_13),(Value.int .i64 w2_14),(Value.string w2_15),(Sl3.v w2_16)])])
noncomputable def zbq (L:LC) (m:Nat) (H:AH) (a0:Option Addr) (a1_0:Int) (a1_1:ByteArray) (a1_2:Bool) (a1_3:Sl3) (a1_4:Int) (a1_5:Sl3) (a1_6 a1_7:Int) (a1_8:ByteArray) (a1_9 a1_10 a1_11:Sl3):Option (Sl3×Int×Int×ByteArray×Sl3×Int×AH) :=
 Option.bind (zgp L a1_0) fun (x1,x2,x3,x4) =>
 if x4=true then
  Option.bind (α:=(AH×Int×Int×Sl3×Int×Int×ByteArray×Sl3×Int×Int×ByteArray×Sl3)⊕(Sl3×Int×Int×ByteArray×Sl3×Int×AH)) (
   if a1_0≥11 then
    if a1_0≤14 then
     Option.bind (z77 L m H a0 a1_0 a1_1) fun (x17,x18_0,x18_1,x18_2,x18_3,x19,H20) =>
     if x19=true then
      some (.inl (H20,(x17.n:Int),(x17.n:Int),x17,0,0,(⟨#[]⟩:ByteArray),Sl3.nil,x18_0,x18_1,x18_2,x18_3))
     else
      none
    else
     some (.inl (H,x1,x2,Sl3.nil,0,0,(⟨#[]⟩:ByteArray),Sl3.nil,0,0,(⟨#[]⟩:ByteArray),Sl3.nil))
   else
    none) fun o=>match o with
  | .inl (H5,v7_6,v8_7,v11_8,w1_9,w1_10,w1_11,w1_12,w2_13,w2_14,w2_15,w2_16) =>
   if (a1_11.n:Int)<v7_6 then
    none
   else
    if (a1_11.n:Int) > v8_7 then
     none
    else
     Option.bind (L.run (z72 L a0 a1_0 a1_1 a1_2 a1_3 a1_4 a1_5 a1_6 a1_7 a1_8 a1_9 a1_10 a1_11 x3 H5 v11_8 w2_13 w2_14 w2_15 w2_16) (0,w1_9,w1_10,w1_11,w1_12)) fun o=>match o with
     | .inl (_,_,_,_,_) =>
      Option.bind (z74 L m H5 a0 a1_0 a1_1 a1_2 a1_3 a1_4 a1_5 a1_6 a1_7 a1_8 a1_9 a1_10 a1_11 x3) fun (x35,H36) =>
      if x35=true then
       Option.bind (zjd L H36 a1_0 a1_1 a1_2 a1_3 a1_4 a1_5 a1_6 a1_7 a1_8 a1_9 a1_10 a1_11) fun x37 =>
       some (v11_8,w2_13,w2_14,w2_15,w2_16,x37,H36)
      else
       none
     | .inr r=>some r
  | .inr r=>some r
 else
  some (Sl3.nil,0,0,(⟨#[]⟩:ByteArray),Sl3.nil,50,H)
theorem z9b {E m H L a0 a1_0 a1_1 a1_2 a1_3 a1_4 a1_5 a1_6 a1_7 a1_8 a1_9 a1_10 a1_11 x3 H5 v11_8 w2_13 w2_14 w2_15 w2_16} :LoopF Tryz.prog (NE.plain 258) m E Tryz.f130 ((cfst (csnd (cfst (csnd (csnd (csnd (csnd (csnd (csnd (csnd B130))))))))))) (zkc L a0 a1_0 a1_1 a1_2 a1_3 a1_4 a1_5 a1_6 a1_7 a1_8 a1_9 a1_10 a1_11 x3 H5 v11_8 w2_13 w2_14 w2_15 w2_16) (fun _=>H5) 0 zci (zdm H) (z72 L a0 a1_0 a1_1 a1_2 a1_3 a1_4 a1_5 a1_6 a1_7 a1_8 a1_9 a1_10 a1_11 x3 H5 v11_8 w2_13 w2_14 w2_15 w2_16):=by
 rintro ⟨v67_21,w1_22,w1_23,w1_24,w1_25⟩ o h
 unfold z72 at h
 try dsimp only at h
 refine WS.sq (WS.rg (RS.mS 1 [kB 68 (decide (v67_21<(a1_11.n:Int)))] (RS.dn (WS.nxt (WS.sq ?_)))))
 rcases z0 h with ⟨hp,h⟩ | ⟨hp,h⟩
 ·refine WS.fx 68 true (decide_eq_true hp) (WS.cT (WS.sk (WS.nxt (WS.sq (WS.bk 1 (WS.sq (WS.rg ?_)))))))
  obtain ⟨p26,hx,h⟩:=bind_some h
  refine RS.ix 69 28 3 (.tmp 65) (.tmp 67) hx ?_
  obtain ⟨x27,hx,h⟩:=bind_some h
  refine RS.ld 70 3 (.tmp 69) (z1 hx z4) (RS.mS 1 [kI 14 x27] (RS.dn (WS.nxt (WS.sq (WS.rg (RS.mS 3 [kB 73 (decide (x27<0)),kB 72 (decide (x27<0)),kI 71 x27] ?_))))))
  rcases z0 h with ⟨hp,h⟩ | ⟨hp,h⟩
  ·refine RS.fx 73 true (decide_eq_true hp) ?_
   cases h
  ·refine RS.fx 73 false (decide_eq_false hp) (RS.mS 2 [(75,.val (Value.pointer a0)),kI 74 x27] ?_)
   obtain ⟨q28,hx,hq28⟩:=bind_some h
   subst hx
   have h:=hq28
   refine RS.mS 2 [(77,.val (Value.pointer (some (Addr.add q28 3)))),kP 76 q28] ?_
   obtain ⟨x29,hx,h⟩:=bind_some h
   refine RS.ld 78 97 (.tmp 77) (z1 hx z3) (RS.mS 3 [kB 81 (decide (x27≥(x29.n:Int))),kB 80 (decide (x27≥(x29.n:Int))),kI 79 (x29.n:Int)] (RS.dn (WS.nxt ?_)))
   rcases z0 h with ⟨hp,h⟩ | ⟨hp,h⟩
   ·refine WS.fx 81 true (decide_eq_true hp) (WS.cT ?_)
    cases h
   ·refine WS.fx 81 false (decide_eq_false hp) (WS.cF (WS.sk ?_))
    refine fun a w hs=>bkN ((WS.nxt ?_ a w hs))
    refine WS.rg (RS.mS 2 [kI 67 (IntKind.i64.wrap (v67_21+1)),kI 83 (IntKind.i64.wrap (v67_21+1))] (RS.dn ?_))
    cases h
    exact fun a w hs=>lsN rfl (hs.sb 3)
 ·refine WS.fx 68 false (decide_eq_false hp) (WS.cF (WS.ex 0 ?_))
  cases h
  exact fun a w hs=>sqE (lsB rfl (hs.sb 3))
theorem zo1 {L:LC} {m:Nat} {H:AH} {a0:Option Addr} {a1_0:Int} {a1_1:ByteArray} {a1_2:Bool} {a1_3:Sl3} {a1_4:Int} {a1_5:Sl3} {a1_6 a1_7:Int} {a1_8:ByteArray} {a1_9 a1_10 a1_11:Sl3} {r:(Sl3×Int×Int×ByteArray×Sl3×Int×AH)} (h:zbq L m H a0 a1_0 a1_1 a1_2 a1_3 a1_4 a1_5 a1_6 a1_7 a1_8 a1_9 a1_10 a1_11=some r) :
  CallS Tryz.prog (NE.plain 258) m 130 #[(Value.pointer a0),(Value.agg #[(Value.int .i64 a1_0),(Value.string a1_1),(Value.bool a1_2),(Sl3.v a1_3),(Value.int .i64 a1_4),(Sl3.v a1_5),(Value.int .i64 a1_6),(Value.int .i64 a1_7),(Value.string a1_8),(Sl3.v a1_9),(Sl3.v a1_10),(Sl3.v a1_11)])] H (zci r) (zdm H r):=by
 refine CallS.mk (args:=[(Value.pointer a0),(Value.agg #[(Value.int .i64 a1_0),(Value.string a1_1),(Value.bool a1_2),(Sl3.v a1_3),(Value.int .i64 a1_4),(Sl3.v a1_5),(Value.int .i64 a1_6),(Value.int .i64 a1_7),(Value.string a1_8),(Sl3.v a1_9),(Sl3.v a1_10),(Sl3.v a1_11)])]) Tryz.func130 (B:=B130) (by kernel_rfl) (fun E _=>?_)
 unfold zbq at h
 refine WS.sq (WS.rg (RS.mL 4 [kI 6 0,kL 5 1 0,kS 4 Sl3.nil,kL 3 0 0] ([some (82,[(Value.int .i64 a1_0),(Value.string a1_1),(Value.bool a1_2),(Sl3.v a1_3),(Value.int .i64 a1_4),(Sl3.v a1_5),(Value.int .i64 a1_6),(Value.int .i64 a1_7),(Value.string a1_8),(Sl3.v a1_9),(Sl3.v a1_10),(Sl3.v a1_11)]),some (56,[(Value.int .i64 0),(Value.int .i64 0),(Value.string (⟨#[]⟩:ByteArray)),(Sl3.v Sl3.nil)])]) (RS.dn (WS.nxt (WS.sq (WS.rg (RS.mS 2 [kI 17 a1_0,kL 16 0 0] ?_)))))))
 obtain ⟨⟨x1,x2,x3,x4⟩,hx,h⟩:=bind_some h
 try dsimp only at h
 refine RS.cl (some 18) (v:=(Value.tuple #[(Value.int .i64 x1),(Value.int .i64 x2),(Value.int .i64 x3),(Value.bool x4)])) 108 #[(Value.int .i64 a1_0)] (zn1 hx) (RS.mS 9 [kB 10 x4,kI 9 x3,kI 8 x2,kI 7 x1,kB 22 x4,kI 21 x3,kI 20 x2,kI 19 x1,(15,.val (Value.tuple #[(Value.int .i64 x1),(Value.int .i64 x2),(Value.int .i64 x3),(Value.bool x4)]))] (RS.dn (WS.nxt (WS.sq (WS.sq (WS.rg (RS.mS 2 [kB 24 (!x4),kB 23 x4] (RS.dn (WS.nxt ?_)))))))))
 rcases z0 h with ⟨hp,h⟩ | ⟨hp,h⟩
 ·refine WS.fx 24 false (nb_not hp) (WS.cF (WS.sk (WS.nxt (WS.sq (WS.rg (RS.mS 1 [kS 11 Sl3.nil] (RS.dn (WS.nxt (WS.sq ?_)))))))))
  refine WS.rg (RS.mL 1 [kL 12 2 0] ([some (82,[(Value.int .i64 a1_0),(Value.string a1_1),(Value.bool a1_2),(Sl3.v a1_3),(Value.int .i64 a1_4),(Sl3.v a1_5),(Value.int .i64 a1_6),(Value.int .i64 a1_7),(Value.string a1_8),(Sl3.v a1_9),(Sl3.v a1_10),(Sl3.v a1_11)]),some (56,[(Value.int .i64 0),(Value.int .i64 0),(Value.string (⟨#[]⟩:ByteArray)),(Sl3.v Sl3.nil)]),some (56,[(Value.int .i64 0),(Value.int .i64 0),(Value.string (⟨#[]⟩:ByteArray)),(Sl3.v Sl3.nil)])]) (RS.dn (WS.nxt ?_)))
  obtain ⟨o,hx,h⟩:=bind_some h
  rcases o with ⟨H5,v7_6,v8_7,v11_8,w1_9,w1_10,w1_11,w1_12,w2_13,w2_14,w2_15,w2_16⟩ | ro
  ·try dsimp only at h
   refine WS.sq ?_
   refine WS.join ([kI 7 v7_6,kI 8 v8_7,kS 11 v11_8,(0,.val (Value.pointer a0)),kL 3 0 0,kL 5 1 0,kI 9 x3,kL 12 2 0]) ([some (82,[(Value.int .i64 a1_0),(Value.string a1_1),(Value.bool a1_2),(Sl3.v a1_3),(Value.int .i64 a1_4),(Sl3.v a1_5),(Value.int .i64 a1_6),(Value.int .i64 a1_7),(Value.string a1_8),(Sl3.v a1_9),(Sl3.v a1_10),(Sl3.v a1_11)]),some (56,[(Value.int .i64 w1_9),(Value.int .i64 w1_10),(Value.string w1_11),(Sl3.v w1_12)]),some (56,[(Value.int .i64 w2_13),(Value.int .i64 w2_14),(Value.string w2_15),(Sl3.v w2_16)])]) H5 ?_ (fun a w hs=>WS.nxt ?_ a w hs)
   ·clear h; rename _=>h
    refine WS.sq (WS.rg (RS.mS 4 [kB 29 (decide (a1_0≥11)),kB 28 (decide (a1_0≥11)),kI 27 a1_0,kL 26 0 0] ?_))
    rcases z0 h with ⟨hp,h⟩ | ⟨hp,h⟩
    ·refine RS.fx 29 true (decide_eq_true hp) (RS.mS 4 [kB 33 (decide (a1_0≤14)),kB 32 (decide (a1_0≤14)),kI 31 a1_0,kL 30 0 0] (RS.dn (WS.nxt ?_)))
     rcases z0 h with ⟨hp,h⟩ | ⟨hp,h⟩
     ·refine WS.fx 33 true (decide_eq_true hp) (WS.cT (WS.sq (WS.rg (RS.mS 5 [kT 39 a1_1,kL 38 0 1,kI 37 a1_0,kL 36 0 0,(35,.val (Value.pointer a0))] ?_))))
      obtain ⟨⟨x17,x18_0,x18_1,x18_2,x18_3,x19,H20⟩,hx,h⟩:=bind_some h
      try dsimp only at h
      refine RS.cl (some 40) (v:=(Value.tuple #[(Sl3.v x17),(Value.agg #[(Value.int .i64 x18_0),(Value.int .i64 x18_1),(Value.string x18_2),(Sl3.v x18_3)]),(Value.bool x19)])) 202 #[(Value.pointer a0),(Value.int .i64 a1_0),(Value.string a1_1)] (za3 hx) (RS.mL 7 [kB 10 x19,kS 11 x17,kB 43 x19,kA 42 #[(Value.int .i64 x18_0),(Value.int .i64 x18_1),(Value.string x18_2),(Sl3.v x18_3)],kS 41 x17,(34,.val (Value.tuple #[(Sl3.v x17),(Value.agg #[(Value.int .i64 x18_0),(Value.int .i64 x18_1),(Value.string x18_2),(Sl3.v x18_3)]),(Value.bool x19)]))] ([some (82,[(Value.int .i64 a1_0),(Value.string a1_1),(Value.bool a1_2),(Sl3.v a1_3),(Value.int .i64 a1_4),(Sl3.v a1_5),(Value.int .i64 a1_6),(Value.int .i64 a1_7),(Value.string a1_8),(Sl3.v a1_9),(Sl3.v a1_10),(Sl3.v a1_11)]),some (56,[(Value.int .i64 0),(Value.int .i64 0),(Value.string (⟨#[]⟩:ByteArray)),(Sl3.v Sl3.nil)]),some (56,[(Value.int .i64 x18_0),(Value.int .i64 x18_1),(Value.string x18_2),(Sl3.v x18_3)])]) (RS.dn (WS.nxt (WS.sq (WS.sq (WS.rg (RS.mS 2 [kB 45 (!x19),kB 44 x19] (RS.dn (WS.nxt ?_)))))))))
      rcases z0 h with ⟨hp,h⟩ | ⟨hp,h⟩
      ·refine WS.fx 45 false (nb_not hp) (WS.cF (WS.sk (WS.nxt (WS.rg (RS.mS 6 [kI 8 (x17.n:Int),kI 7 (x17.n:Int),kI 50 (x17.n:Int),kS 49 x17,kI 48 (x17.n:Int),kS 47 x17] (RS.dn ?_))))))
       cases h
       exact fun a w hs=>(jsN (hs.sb 3))
      ·refine WS.fx 45 true (zb hp) (WS.cT ?_)
       cases h
     ·refine WS.fx 33 false (decide_eq_false hp) (WS.cF (WS.sk ?_))
      cases h
      exact fun a w hs=>(jsN (hs.sb 3))
    ·refine RS.fx 29 false (decide_eq_false hp) ?_
     cases h
   ·clear hx
    refine WS.sq (WS.sq (WS.rg (RS.mS 6 [kB 56 (decide ((a1_11.n:Int)<v7_6)),kB 55 (decide ((a1_11.n:Int)<v7_6)),kI 54 v7_6,kI 53 (a1_11.n:Int),kS 52 a1_11,kL 51 0 11] ?_)))
    rcases z0 h with ⟨hp,h⟩ | ⟨hp,h⟩
    ·refine RS.fx 56 true (decide_eq_true hp) ?_
     cases h
    ·refine RS.fx 56 false (decide_eq_false hp) (RS.mS 6 [kB 62 (decide ((a1_11.n:Int) > v8_7)),kB 61 (decide ((a1_11.n:Int) > v8_7)),kI 60 v8_7,kI 59 (a1_11.n:Int),kS 58 a1_11,kL 57 0 11] (RS.dn (WS.nxt ?_)))
     rcases z0 h with ⟨hp,h⟩ | ⟨hp,h⟩
     ·refine WS.fx 62 true (decide_eq_true hp) (WS.cT ?_)
      cases h
     ·refine WS.fx 62 false (decide_eq_false hp) (WS.cF (WS.sk (WS.nxt (WS.sq (WS.sq (WS.rg (RS.mS 4 [kI 67 0,kI 66 (a1_11.n:Int),kS 65 a1_11,kL 64 0 11] (RS.dn (WS.nxt ?_)))))))))
      refine WS.bk 0 ?_
      obtain ⟨o,hl,h⟩:=bind_some h
      rcases o with ⟨v67_30,w1_31,w1_32,w1_33,w1_34⟩ | r
      ·try dsimp only at h
       refine WS.lI (z9b (L:=L) (E:=E) (m:=m) (H:=H)) (L.ok hl) 3 ?_
       clear hl
       refine fun a w hs=>bkE ((WS.nxt ?_ a w hs))
       refine WS.sq (WS.sq (WS.rg (RS.mS 3 [kI 86 x3,kA 85 #[(Value.int .i64 a1_0),(Value.string a1_1),(Value.bool a1_2),(Sl3.v a1_3),(Value.int .i64 a1_4),(Sl3.v a1_5),(Value.int .i64 a1_6),(Value.int .i64 a1_7),(Value.string a1_8),(Sl3.v a1_9),(Sl3.v a1_10),(Sl3.v a1_11)],(84,.val (Value.pointer a0))] ?_)))
       obtain ⟨⟨x35,H36⟩,hx,h⟩:=bind_some h
       try dsimp only at h
       refine RS.cl (some 87) (v:=(Value.bool x35)) 203 #[(Value.pointer a0),(Value.agg #[(Value.int .i64 a1_0),(Value.string a1_1),(Value.bool a1_2),(Sl3.v a1_3),(Value.int .i64 a1_4),(Sl3.v a1_5),(Value.int .i64 a1_6),(Value.int .i64 a1_7),(Value.string a1_8),(Sl3.v a1_9),(Sl3.v a1_10),(Sl3.v a1_11)]),(Value.int .i64 x3)] (zkd hx) (RS.mS 1 [kB 88 (!x35)] (RS.dn (WS.nxt ?_)))
       rcases z0 h with ⟨hp,h⟩ | ⟨hp,h⟩
       ·refine WS.fx 88 false (nb_not hp) (WS.cF (WS.sk (WS.nxt (WS.sq ?_))))
        refine WS.dr [1,2] [0,0,0,4,13,31,63] 7 (fun hcl=>?_)
        refine DA.tL 1 (some 91) (.val (Value.agg #[(Value.int .i64 w2_13),(Value.int .i64 w2_14),(Value.string w2_15),(Sl3.v w2_16)])) (DA.tL 2 (some 92) (.val (Value.agg #[(Value.int .i64 a1_0),(Value.string a1_1),(Value.bool a1_2),(Sl3.v a1_3),(Value.int .i64 a1_4),(Sl3.v a1_5),(Value.int .i64 a1_6),(Value.int .i64 a1_7),(Value.string a1_8),(Sl3.v a1_9),(Sl3.v a1_10),(Sl3.v a1_11)])) (DA.tP 0 (some 90) (Sl3.v v11_8) ?_))
        obtain ⟨x37,hx,h⟩:=bind_some h
        refine DA.on 3 (DA.aCj 3 (some 93) false (v:=(Value.int .i64 x37)) 204 #[(Value.agg #[(Value.int .i64 a1_0),(Value.string a1_1),(Value.bool a1_2),(Sl3.v a1_3),(Value.int .i64 a1_4),(Sl3.v a1_5),(Value.int .i64 a1_6),(Value.int .i64 a1_7),(Value.string a1_8),(Sl3.v a1_9),(Sl3.v a1_10),(Sl3.v a1_11)])] (zsc hx) (DA.tP 4 (some 4) (Sl3.v v11_8) (DA.on 5 (DA.aL 5 none (.val undef) ([some (82,[(Value.int .i64 a1_0),(Value.string a1_1),(Value.bool a1_2),(Sl3.v a1_3),(Value.int .i64 a1_4),(Sl3.v a1_5),(Value.int .i64 a1_6),(Value.int .i64 a1_7),(Value.string a1_8),(Sl3.v a1_9),(Sl3.v a1_10),(Sl3.v a1_11)]),some (56,[(Value.int .i64 w2_13),(Value.int .i64 w2_14),(Value.string w2_15),(Sl3.v w2_16)]),some (56,[(Value.int .i64 w2_13),(Value.int .i64 w2_14),(Value.string w2_15),(Sl3.v w2_16)])]) false (DA.tP 6 (some 6) (Value.int .i64 x37) (DA.dn (WS.nxt (WS.rt ?_))))))))
        cases h
        exact fun a w hs=>rtR (rS hs)
       ·refine WS.fx 88 true (zb hp) (WS.cT ?_)
        cases h
      ·try dsimp only at h
       refine WS.lR (z9b (L:=L) (E:=E) (m:=m) (H:=H)) (L.ok hl) 3 ?_
       cases h
       exact fun a w hq=>bkR (sqR (rtR hq))
  ·cases h; rename _=>h
   refine WS.sq (WS.sq (WS.rg (RS.mS 4 [kB 29 (decide (a1_0≥11)),kB 28 (decide (a1_0≥11)),kI 27 a1_0,kL 26 0 0] ?_)))
   rcases z0 h with ⟨hp,h⟩ | ⟨hp,h⟩
   ·refine RS.fx 29 true (decide_eq_true hp) (RS.mS 4 [kB 33 (decide (a1_0≤14)),kB 32 (decide (a1_0≤14)),kI 31 a1_0,kL 30 0 0] (RS.dn (WS.nxt ?_)))
    rcases z0 h with ⟨hp,h⟩ | ⟨hp,h⟩
    ·refine WS.fx 33 true (decide_eq_true hp) (WS.cT (WS.sq (WS.rg (RS.mS 5 [kT 39 a1_1,kL 38 0 1,kI 37 a1_0,kL 36 0 0,(35,.val (Value.pointer a0))] ?_))))
     obtain ⟨⟨x17,x18_0,x18_1,x18_2,x18_3,x19,H20⟩,hx,h⟩:=bind_some h
     try dsimp only at h
     refine RS.cl (some 40) (v:=(Value.tuple #[(Sl3.v x17),(Value.agg #[(Value.int .i64 x18_0),(Value.int .i64 x18_1),(Value.string x18_2),(Sl3.v x18_3)]),(Value.bool x19)])) 202 #[(Value.pointer a0),(Value.int .i64 a1_0),(Value.string a1_1)] (za3 hx) (RS.mL 7 [kB 10 x19,kS 11 x17,kB 43 x19,kA 42 #[(Value.int .i64 x18_0),(Value.int .i64 x18_1),(Value.string x18_2),(Sl3.v x18_3)],kS 41 x17,(34,.val (Value.tuple #[(Sl3.v x17),(Value.agg #[(Value.int .i64 x18_0),(Value.int .i64 x18_1),(Value.string x18_2),(Sl3.v x18_3)]),(Value.bool x19)]))] ([some (82,[(Value.int .i64 a1_0),(Value.string a1_1),(Value.bool a1_2),(Sl3.v a1_3),(Value.int .i64 a1_4),(Sl3.v a1_5),(Value.int .i64 a1_6),(Value.int .i64 a1_7),(Value.string a1_8),(Sl3.v a1_9),(Sl3.v a1_10),(Sl3.v a1_11)]),some (56,[(Value.int .i64 0),(Value.int .i64 0),(Value.string (⟨#[]⟩:ByteArray)),(Sl3.v Sl3.nil)]),some (56,[(Value.int .i64 x18_0),(Value.int .i64 x18_1),(Value.string x18_2),(Sl3.v x18_3)])]) (RS.dn (WS.nxt (WS.sq (WS.sq (WS.rg (RS.mS 2 [kB 45 (!x19),kB 44 x19] (RS.dn (WS.nxt ?_)))))))))
     rcases z0 h with ⟨hp,h⟩ | ⟨hp,h⟩
     ·refine WS.fx 45 false (nb_not hp) (WS.cF (WS.sk (WS.nxt (WS.rg (RS.mS 6 [kI 8 (x17.n:Int),kI 7 (x17.n:Int),kI 50 (x17.n:Int),kS 49 x17,kI 48 (x17.n:Int),kS 47 x17] (RS.dn ?_))))))
      cases h
     ·refine WS.fx 45 true (zb hp) (WS.cT ?_)
      cases h
    ·refine WS.fx 33 false (decide_eq_false hp) (WS.cF (WS.sk ?_))
     cases h
   ·refine RS.fx 29 false (decide_eq_false hp) ?_
    cases h
 ·refine WS.fx 24 true (zb hp) (WS.cT (WS.sq (WS.rg (RS.mS 4 [kI 6 50,kS 4 Sl3.nil,kA 25 #[(Value.int .i64 0),(Value.int .i64 0),(Value.string (⟨#[]⟩:ByteArray)),(Sl3.v Sl3.nil)]] (RS.dn (WS.nxt (WS.rt ?_)))))))
  cases h
  exact fun a w hs=>sqR (rtR (rS hs))
noncomputable def B131:Code:=(Tryz.f131.body).getD .skip
noncomputable def B205:Code:=(Tryz.f205.body).getD .skip
def zd8:Bool→Value
 | r0=>(Value.bool r0)
def zfh (H:AH):Bool→AH:=fun _=>H
def z1b:Bool→Value
 | r0=>(Value.bool r0)
def z1i (H:AH):Bool→AH:=fun _=>H
noncomputable def zb9 (_L:LC) (rec_slices_EqualFunc__131:AH→Sl3→Sl3→Option Bool) (H:AH) (a0_0 a0_1:Int) (a0_2:ByteArray) (a0_3:Sl3) (a1_0 a1_1:Int) (a1_2:ByteArray) (a1_3:Sl3):Option Bool :=
 if a0_0=a1_0 then
  if a0_1=a1_1 then
   if (a0_2.toList == a1_2.toList)=true then
    Option.bind (rec_slices_EqualFunc__131 H a0_3 a1_3) fun x1 =>
    some x1
   else
    none
  else
   none
 else
  none
noncomputable def z2s (_L:LC) (_H:AH) (a0 _a1:Sl3):Int→Option (Lp Int Bool):=fun v17_1 =>
 if v17_1<(a0.n:Int) then
  none
 else
  some (.brk v17_1)
def zbz (_L:LC) (_H:AH) (a0 a1:Sl3):Int→KN×Lcs:=fun v17_1=>([kI 17 v17_1,kS 1 a1,(2,.val (Value.func (.func 131) #[] #[])),kS 15 a0,kI 16 (a0.n:Int)],[])
noncomputable def z2e (L:LC) (H:AH) (a0 a1:Sl3):Option Bool :=
 if (a0.n:Int)=(a1.n:Int) then
  Option.bind (L.run (z2s L H a0 a1) 0) fun o=>match o with
  | .inl _ =>
   some true
  | .inr r=>some r
 else
  none
noncomputable def zcm (L:LC) (n:Nat):(AH→Int→Int→ByteArray→Sl3→Int→Int→ByteArray→Sl3→Option Bool)×(AH→Sl3→Sl3→Option Bool):=Nat.rec (motive:=fun _=>(AH→Int→Int→ByteArray→Sl3→Int→Int→ByteArray→Sl3→Option Bool)×(AH→Sl3→Sl3→Option Bool)) ((fun _ _ _ _ _ _ _ _ _=>none),(fun _ _ _=>none)) (fun _ p=>(zb9 L p.2,z2e L)) n
noncomputable def zrn (L:LC) (H:AH) (a0_0 a0_1:Int) (a0_2:ByteArray) (a0_3:Sl3) (a1_0 a1_1:Int) (a1_2:ByteArray) (a1_3:Sl3):Option Bool:=((zcm L L.fuel).1) H a0_0 a0_1 a0_2 a0_3 a1_0 a1_1 a1_2 a1_3
theorem znx {L:LC} {rec_slices_EqualFunc__131:AH→Sl3→Sl3→Option Bool} (hrec_slices_EqualFunc__131:∀(m:Nat) (H:AH) (a0 a1:Sl3) (r:Bool),rec_slices_EqualFunc__131 H a0 a1=some r→CallS Tryz.prog (NE.plain 258) m 205 #[(Sl3.v a0),(Sl3.v a1),(Value.func (.func 131) #[] #[])] H (z1b r) (z1i H r)) {m:Nat} {H:AH} {a0_0 a0_1:Int} {a0_2:ByteArray} {a0_3:Sl3} {a1_0 a1_1:Int} {a1_2:ByteArray} {a1_3:Sl3} {r:Bool} (h:zb9 L rec_slices_EqualFunc__131 H a0_0 a0_1 a0_2 a0_3 a1_0 a1_1 a1_2 a1_3=some r) :
  CallS Tryz.prog (NE.plain 258) m 131 #[(Value.agg #[(Value.int .i64 a0_0),(Value.int .i64 a0_1),(Value.string a0_2),(Sl3.v a0_3)]),(Value.agg #[(Value.int .i64 a1_0),(Value.int .i64 a1_1),(Value.string a1_2),(Sl3.v a1_3)])] H (zd8 r) (zfh H r):=by
 refine CallS.mk (args:=[(Value.agg #[(Value.int .i64 a0_0),(Value.int .i64 a0_1),(Value.string a0_2),(Sl3.v a0_3)]),(Value.agg #[(Value.int .i64 a1_0),(Value.int .i64 a1_1),(Value.string a1_2),(Sl3.v a1_3)])]) Tryz.func131 (B:=B131) (by kernel_rfl) (fun E _=>?_)
 unfold zb9 at h
 refine WS.sq (WS.rg (RS.mL 3 [kB 4 false,kL 3 1 0,kL 2 0 0] ([some (56,[(Value.int .i64 a0_0),(Value.int .i64 a0_1),(Value.string a0_2),(Sl3.v a0_3)]),some (56,[(Value.int .i64 a1_0),(Value.int .i64 a1_1),(Value.string a1_2),(Sl3.v a1_3)])]) (RS.dn (WS.nxt (WS.sq (WS.rg (RS.mS 6 [kB 10 (decide (a0_0=a1_0)),kB 9 (decide (a0_0=a1_0)),kI 8 a1_0,kL 7 1 0,kI 6 a0_0,kL 5 0 0] ?_)))))))
 rcases z0 h with ⟨hp,h⟩ | ⟨hp,h⟩
 ·refine RS.fx 10 true (decide_eq_true hp) (RS.mS 7 [kB 17 (decide (a0_1=a1_1)),kB 16 (decide (a0_1=a1_1)),kB 15 (decide (a0_1=a1_1)),kI 14 a1_1,kL 13 1 1,kI 12 a0_1,kL 11 0 1] ?_)
  rcases z0 h with ⟨hp,h⟩ | ⟨hp,h⟩
  ·refine RS.fx 17 true (decide_eq_true hp) (RS.mS 7 [kB 24 (a0_2.toList == a1_2.toList),kB 23 (a0_2.toList == a1_2.toList),kB 22 (a0_2.toList == a1_2.toList),kT 21 a1_2,kL 20 1 2,kT 19 a0_2,kL 18 0 2] ?_)
   rcases z0 h with ⟨hp,h⟩ | ⟨hp,h⟩
   ·refine RS.fx 24 true hp (RS.mS 4 [kS 28 a1_3,kL 27 1 3,kS 26 a0_3,kL 25 0 3] ?_)
    obtain ⟨x1,hx,h⟩:=bind_some h
    refine RS.cl (some 29) (v:=(Value.bool x1)) 205 #[(Sl3.v a0_3),(Sl3.v a1_3),(Value.func (.func 131) #[] #[])] (hrec_slices_EqualFunc__131 _ _ _ _ _ hx) (RS.mS 2 [kB 4 x1,kB 30 x1] (RS.dn (WS.nxt (WS.rt ?_))))
    cases h
    exact fun a w hs=>rtR (rS hs)
   ·refine RS.fx 24 false (b_not hp) ?_
    cases h
  ·refine RS.fx 17 false (decide_eq_false hp) ?_
   cases h
 ·refine RS.fx 10 false (decide_eq_false hp) ?_
  cases h
theorem z49 {E m L H a0 a1} :LoopF Tryz.prog (NE.plain 258) m E Tryz.f205 ((cfst (csnd (cfst (csnd (csnd B205)))))) (zbz L H a0 a1) (fun _=>H) 0 z1b (z1i H) (z2s L H a0 a1):=by
 rintro v17_1 o h
 unfold z2s at h
 try dsimp only at h
 refine WS.sq (WS.rg (RS.mS 1 [kB 18 (decide (v17_1<(a0.n:Int)))] (RS.dn (WS.nxt (WS.sq ?_)))))
 rcases z0 h with ⟨hp,h⟩ | ⟨hp,h⟩
 ·refine WS.fx 18 true (decide_eq_true hp) (WS.cT ?_)
  cases h
 ·refine WS.fx 18 false (decide_eq_false hp) (WS.cF (WS.ex 0 ?_))
  cases h
  exact fun a w hs=>sqE (lsB rfl (hs.sb 0))
theorem zad {L:LC} {m:Nat} {H:AH} {a0 a1:Sl3} {r:Bool} (h:z2e L H a0 a1=some r) :
  CallS Tryz.prog (NE.plain 258) m 205 #[(Sl3.v a0),(Sl3.v a1),(Value.func (.func 131) #[] #[])] H (z1b r) (z1i H r):=by
 refine CallS.mk (args:=[(Sl3.v a0),(Sl3.v a1),(Value.func (.func 131) #[] #[])]) Tryz.func205 (B:=B205) (by kernel_rfl) (fun E _=>?_)
 unfold z2e at h
 refine WS.sq (WS.rg (RS.mS 1 [kB 6 false] (RS.dn (WS.nxt (WS.sq (WS.sq (WS.rg (RS.mS 5 [kB 14 (!decide ((a0.n:Int)=(a1.n:Int))),kI 13 (a1.n:Int),kS 12 a1,kI 11 (a0.n:Int),kS 10 a0] (RS.dn ?_)))))))))
 refine WS.nxt ?_
 rcases z0 h with ⟨hp,h⟩ | ⟨hp,h⟩
 ·refine WS.fx 14 false (zd hp) (WS.cF (WS.sk (WS.nxt (WS.sq (WS.sq (WS.rg (RS.mS 3 [kI 17 0,kI 16 (a0.n:Int),kS 15 a0] (RS.dn (WS.nxt ?_)))))))))
  refine WS.bk 0 ?_
  obtain ⟨o,hl,h⟩:=bind_some h
  rcases o with v17_2 | r
  ·try dsimp only at h
   refine WS.lI (z49 (L:=L) (E:=E) (m:=m) (H:=H)) (L.ok hl) 0 ?_
   clear hl
   refine fun a w hs=>bkE ((WS.nxt ?_ a w hs))
   refine WS.sq (WS.rg (RS.mS 1 [kB 6 true] (RS.dn (WS.nxt (WS.rt ?_)))))
   cases h
   exact fun a w hs=>rtR (rS hs)
  ·try dsimp only at h
   refine WS.lR (z49 (L:=L) (E:=E) (m:=m) (H:=H)) (L.ok hl) 0 ?_
   cases h
   exact fun a w hq=>bkR (sqR (rtR hq))
 ·refine WS.fx 14 true (z9 hp) (WS.cT ?_)
  cases h
theorem zow {L:LC}:∀n,(∀(m:Nat) (H:AH) (a0_0 a0_1:Int) (a0_2:ByteArray) (a0_3:Sl3) (a1_0 a1_1:Int) (a1_2:ByteArray) (a1_3:Sl3) (r:Bool),((zcm L n).1) H a0_0 a0_1 a0_2 a0_3 a1_0 a1_1 a1_2 a1_3=some r→CallS Tryz.prog (NE.plain 258) m 131 #[(Value.agg #[(Value.int .i64 a0_0),(Value.int .i64 a0_1),(Value.string a0_2),(Sl3.v a0_3)]),(Value.agg #[(Value.int .i64 a1_0),(Value.int .i64 a1_1),(Value.string a1_2),(Sl3.v a1_3)])] H (zd8 r) (zfh H r))∧(∀(m:Nat) (H:AH) (a0 a1:Sl3) (r:Bool),((zcm L n).2) H a0 a1=some r→CallS Tryz.prog (NE.plain 258) m 205 #[(Sl3.v a0),(Sl3.v a1),(Value.func (.func 131) #[] #[])] H (z1b r) (z1i H r)):=by
 intro n
 induction n with
 | zero=>exact ⟨(fun _ _ _ _ _ _ _ _ _ _ _ h=>(Option.some_ne_none _ h.symm).elim),(fun _ _ _ _ _ h=>(Option.some_ne_none _ h.symm).elim)⟩
 | succ n ih=>exact ⟨(fun _ _ _ _ _ _ _ _ _ _ _ h=>znx (L:=L) ih.2 h),(fun _ _ _ _ _ h=>zad (L:=L)  h)⟩
theorem ztn {L:LC} {m:Nat} {H:AH} {a0_0 a0_1:Int} {a0_2:ByteArray} {a0_3:Sl3} {a1_0 a1_1:Int} {a1_2:ByteArray} {a1_3:Sl3} {r:Bool} (h:zrn L H a0_0 a0_1 a0_2 a0_3 a1_0 a1_1 a1_2 a1_3=some r) :
  CallS Tryz.prog (NE.plain 258) m 131 #[(Value.agg #[(Value.int .i64 a0_0),(Value.int .i64 a0_1),(Value.string a0_2),(Sl3.v a0_3)]),(Value.agg #[(Value.int .i64 a1_0),(Value.int .i64 a1_1),(Value.string a1_2),(Sl3.v a1_3)])] H (zd8 r) (zfh H r) :=
 ((zow _).1) _ _ _ _ _ _ _ _ _ _ _ h
noncomputable def B256:Code:=(Tryz.f256.body).getD .skip
def zqq:Bool→Value
 | r0=>(Value.bool r0)
def zse (H:AH):Bool→AH:=fun _=>H
noncomputable def zje (L:LC) (H:AH) (a0_0 a0_1:Int) (a0_2:ByteArray) (a0_3:Sl3) (a1:Option Addr):Option Bool :=
 Option.bind a1 fun q1 =>
 Option.bind (rd (deI .i64) H (Addr.add q1 0)) fun x2_0 =>
 Option.bind (rd (deI .i64) H (Addr.add q1 1)) fun x2_1 =>
 Option.bind (rd deS H (Addr.add q1 2)) fun x2_2 =>
 Option.bind (rd deSl H (Addr.add q1 3)) fun x2_3 =>
 Option.bind (zrn L H a0_0 a0_1 a0_2 a0_3 x2_0 x2_1 x2_2 x2_3) fun x3 =>
 some (!x3)
theorem zs3 {L:LC} {m:Nat} {H:AH} {a0_0 a0_1:Int} {a0_2:ByteArray} {a0_3:Sl3} {a1:Option Addr} {r:Bool} (h:zje L H a0_0 a0_1 a0_2 a0_3 a1=some r) :
  CallS Tryz.prog (NE.plain 258) m 256 #[(Value.agg #[(Value.int .i64 a0_0),(Value.int .i64 a0_1),(Value.string a0_2),(Sl3.v a0_3)]),(Value.pointer a1)] H (zqq r) (zse H r):=by
 refine CallS.mk (args:=[(Value.agg #[(Value.int .i64 a0_0),(Value.int .i64 a0_1),(Value.string a0_2),(Sl3.v a0_3)]),(Value.pointer a1)]) Tryz.func256 (B:=B256) (by kernel_rfl) (fun E _=>?_)
 unfold zje at h
 refine WS.sq (WS.rg (RS.mL 2 [kB 3 false,kL 2 0 0] ([some (56,[(Value.int .i64 a0_0),(Value.int .i64 a0_1),(Value.string a0_2),(Sl3.v a0_3)])]) (RS.dn (WS.nxt (WS.sq (WS.rg (RS.mS 1 [kA 4 #[(Value.int .i64 a0_0),(Value.int .i64 a0_1),(Value.string a0_2),(Sl3.v a0_3)]] ?_)))))))
 obtain ⟨q1,hx,hq1⟩:=bind_some h
 subst hx
 have h:=hq1
 obtain ⟨x2_0,hx0,h⟩:=bind_some h
 obtain ⟨x2_1,hx1,h⟩:=bind_some h
 obtain ⟨x2_2,hx2,h⟩:=bind_some h
 obtain ⟨x2_3,hx3,h⟩:=bind_some h
 refine RS.la 5 56 (.tmp 1) 4 (z2 (z1 hx0 z4) (z2 (z1 hx1 z4) (z2 (z1 hx2 za) (z2 (z1 hx3 z3) zq)))) ?_
 obtain ⟨x3,hx,h⟩:=bind_some h
 refine RS.cl (some 6) (v:=(Value.bool x3)) 131 #[(Value.agg #[(Value.int .i64 a0_0),(Value.int .i64 a0_1),(Value.string a0_2),(Sl3.v a0_3)]),(Value.agg #[(Value.int .i64 x2_0),(Value.int .i64 x2_1),(Value.string x2_2),(Sl3.v x2_3)])] (ztn hx) (RS.mS 2 [kB 3 (!x3),kB 7 (!x3)] (RS.dn (WS.nxt (WS.rt ?_))))
 cases h
 exact fun a w hs=>rtR (rS hs)
noncomputable def B271:Code:=(Tryz.f271.body).getD .skip
def z3p:Int→Value
 | r0=>(Value.int .i64 r0)
def z47 (H:AH):Int→AH:=fun _=>H
noncomputable def z1y (L:LC) (H:AH) (a0:Sl3) (a1_0:Option Addr):Int→Option (Lp Int Int):=fun v8_1 =>
 if v8_1<(a0.n:Int) then
  Option.bind (idxA 4 a0 v8_1) fun p2 =>
  Option.bind (rd (deI .i64) H (Addr.add p2 0)) fun x3_0 =>
  Option.bind (rd (deI .i64) H (Addr.add p2 1)) fun x3_1 =>
  Option.bind (rd deS H (Addr.add p2 2)) fun x3_2 =>
  Option.bind (rd deSl H (Addr.add p2 3)) fun x3_3 =>
  Option.bind (zje L H x3_0 x3_1 x3_2 x3_3 a1_0) fun x4 =>
  if x4=true then
   none
  else
   some (.next (IntKind.i64.wrap (v8_1+1)))
 else
  some (.brk v8_1)
def z93 (_L:LC) (_H:AH) (a0:Sl3) (a1_0:Option Addr):Int→KN×Lcs:=fun v8_1=>([kI 8 v8_1,kS 0 a0,(1,.val (Value.func (.func 256) #[] #[(Value.pointer a1_0)])),kI 7 (a0.n:Int)],[])
noncomputable def z2l (L:LC) (H:AH) (a0:Sl3) (a1_0:Option Addr):Option Int :=
 Option.bind (L.run (z1y L H a0 a1_0) 0) fun o=>match o with
 | .inl _ =>
  some (-1)
 | .inr r=>some r
theorem z2z {E m L H a0 a1_0} :LoopF Tryz.prog (NE.plain 258) m E Tryz.f271 ((cfst (csnd (cfst (csnd B271))))) (z93 L H a0 a1_0) (fun _=>H) 0 z3p (z47 H) (z1y L H a0 a1_0):=by
 rintro v8_1 o h
 unfold z1y at h
 try dsimp only at h
 refine WS.sq (WS.rg (RS.mS 1 [kB 9 (decide (v8_1<(a0.n:Int)))] (RS.dn (WS.nxt (WS.sq ?_)))))
 rcases z0 h with ⟨hp,h⟩ | ⟨hp,h⟩
 ·refine WS.fx 9 true (decide_eq_true hp) (WS.cT (WS.sk (WS.nxt (WS.sq (WS.bk 1 (WS.sq (WS.rg (RS.mS 2 [kI 5 v8_1,kI 10 v8_1] (RS.dn ?_)))))))))
  refine WS.nxt (WS.sq (WS.rg (RS.mS 3 [kI 13 v8_1,kS 12 a0,(11,.val (Value.func (.func 256) #[] #[(Value.pointer a1_0)]))] ?_)))
  obtain ⟨p2,hx,h⟩:=bind_some h
  refine RS.ix 14 54 56 (.tmp 12) (.tmp 13) hx ?_
  obtain ⟨x3_0,hx0,h⟩:=bind_some h
  obtain ⟨x3_1,hx1,h⟩:=bind_some h
  obtain ⟨x3_2,hx2,h⟩:=bind_some h
  obtain ⟨x3_3,hx3,h⟩:=bind_some h
  refine RS.la 15 56 (.tmp 14) 4 (z2 (z1 hx0 z4) (z2 (z1 hx1 z4) (z2 (z1 hx2 za) (z2 (z1 hx3 z3) zq)))) ?_
  obtain ⟨x4,hx,h⟩:=bind_some h
  refine RS.cl (some 16) (v:=(Value.bool x4)) 256 #[(Value.agg #[(Value.int .i64 x3_0),(Value.int .i64 x3_1),(Value.string x3_2),(Sl3.v x3_3)]),(Value.pointer a1_0)] (zs3 hx) (RS.dn (WS.nxt ?_))
  rcases z0 h with ⟨hp,h⟩ | ⟨hp,h⟩
  ·refine WS.fx 16 true hp (WS.cT ?_)
   cases h
  ·refine WS.fx 16 false (b_not hp) (WS.cF (WS.sk ?_))
   refine fun a w hs=>bkN ((WS.nxt ?_ a w hs))
   refine WS.rg (RS.mS 2 [kI 8 (IntKind.i64.wrap (v8_1+1)),kI 18 (IntKind.i64.wrap (v8_1+1))] (RS.dn ?_))
   cases h
   exact fun a w hs=>lsN rfl (hs.sb 0)
 ·refine WS.fx 9 false (decide_eq_false hp) (WS.cF (WS.ex 0 ?_))
  cases h
  exact fun a w hs=>sqE (lsB rfl (hs.sb 0))
theorem zb2 {L:LC} {m:Nat} {H:AH} {a0:Sl3} {a1_0:Option Addr} {r:Int} (h:z2l L H a0 a1_0=some r) :
  CallS Tryz.prog (NE.plain 258) m 271 #[(Sl3.v a0),(Value.func (.func 256) #[] #[(Value.pointer a1_0)])] H (z3p r) (z47 H r):=by
 refine CallS.mk (args:=[(Sl3.v a0),(Value.func (.func 256) #[] #[(Value.pointer a1_0)])]) Tryz.func271 (B:=B271) (by kernel_rfl) (fun E _=>?_)
 unfold z2l at h
 refine WS.sq (WS.rg (RS.mS 1 [kI 4 0] (RS.dn (WS.nxt (WS.sq (WS.sq (WS.rg (RS.mS 3 [kI 8 0,kI 7 (a0.n:Int),kS 6 a0] (RS.dn ?_)))))))))
 refine WS.nxt (WS.bk 0 ?_)
 obtain ⟨o,hl,h⟩:=bind_some h
 rcases o with v8_5 | r
 ·try dsimp only at h
  refine WS.lI (z2z (L:=L) (E:=E) (m:=m) (H:=H)) (L.ok hl) 0 ?_
  clear hl
  refine fun a w hs=>bkE ((WS.nxt ?_ a w hs))
  refine WS.sq (WS.rg (RS.mS 1 [kI 4 (-1)] (RS.dn (WS.nxt (WS.rt ?_)))))
  cases h
  exact fun a w hs=>rtR (rS hs)
 ·try dsimp only at h
  refine WS.lR (z2z (L:=L) (E:=E) (m:=m) (H:=H)) (L.ok hl) 0 ?_
  cases h
  exact fun a w hq=>bkR (sqR (rtR hq))
noncomputable def B255:Code:=(Tryz.f255.body).getD .skip
def z8d:Bool→Value
 | r0=>(Value.bool r0)
def z8w (H:AH):Bool→AH:=fun _=>H
noncomputable def z1z (L:LC) (H:AH) (a0:Sl3) (a1_0:Option Addr):Option Bool :=
 Option.bind (z2l L H a0 a1_0) fun x1 =>
 some (decide (x1≥0))
theorem z90 {L:LC} {m:Nat} {H:AH} {a0:Sl3} {a1_0:Option Addr} {r:Bool} (h:z1z L H a0 a1_0=some r) :
  CallS Tryz.prog (NE.plain 258) m 255 #[(Sl3.v a0),(Value.func (.func 256) #[] #[(Value.pointer a1_0)])] H (z8d r) (z8w H r):=by
 refine CallS.mk (args:=[(Sl3.v a0),(Value.func (.func 256) #[] #[(Value.pointer a1_0)])]) Tryz.func255 (B:=B255) (by kernel_rfl) (fun E _=>?_)
 unfold z1z at h
 refine WS.sq (WS.rg (RS.mS 1 [kB 4 false] (RS.dn (WS.nxt (WS.sq (WS.rg (RS.mS 2 [(6,.val (Value.func (.func 256) #[] #[(Value.pointer a1_0)])),kS 5 a0] ?_)))))))
 obtain ⟨x1,hx,h⟩:=bind_some h
 refine RS.cl (some 7) (v:=(Value.int .i64 x1)) 271 #[(Sl3.v a0),(Value.func (.func 256) #[] #[(Value.pointer a1_0)])] (zb2 hx) (RS.mS 2 [kB 4 (decide (x1≥0)),kB 8 (decide (x1≥0))] (RS.dn (WS.nxt (WS.rt ?_))))
 cases h
 exact fun a w hs=>rtR (rS hs)
noncomputable def B207:Code:=(Tryz.f207.body).getD .skip
def zst:(Bool×AH)→Value
 | (r0,_)=>(Value.bool r0)
def zu5 (_:AH):(Bool×AH)→AH:=fun r=>r.2
noncomputable def zp1 (L:LC) (_m:Nat) (H:AH) (a0:Sl3) (a1_0 a1_1:Int) (a1_2:ByteArray) (a1_3:Sl3):Option (Bool×AH) :=
 Option.bind (newB 56 [(Value.int .i64 a1_0),(Value.int .i64 a1_1),(Value.string a1_2),(Sl3.v a1_3)] H) fun (p1,H2) =>
 Option.bind (z1z L H2 a0 (some p1)) fun x3 =>
 some ((!x3),H2)
theorem zus {L:LC} {m:Nat} {H:AH} {a0:Sl3} {a1_0 a1_1:Int} {a1_2:ByteArray} {a1_3:Sl3} {r:(Bool×AH)} (h:zp1 L m H a0 a1_0 a1_1 a1_2 a1_3=some r) :
  CallS Tryz.prog (NE.plain 258) m 207 #[(Sl3.v a0),(Value.agg #[(Value.int .i64 a1_0),(Value.int .i64 a1_1),(Value.string a1_2),(Sl3.v a1_3)])] H (zst r) (zu5 H r):=by
 refine CallS.mk (args:=[(Sl3.v a0),(Value.agg #[(Value.int .i64 a1_0),(Value.int .i64 a1_1),(Value.string a1_2),(Sl3.v a1_3)])]) Tryz.func207 (B:=B207) (by kernel_rfl) (fun E _=>?_)
 unfold zp1 at h
 refine WS.sq (WS.rg ?_)
 obtain ⟨⟨p1,H2⟩,hx,h⟩:=bind_some h
 try dsimp only at h
 refine RS.o (H':=H2) (some 3) (Value.pointer (some p1)) (Abs.run_newB (by kernel_rfl) hx) (RS.mS 1 [kB 4 false] (RS.dn (WS.nxt (WS.sq (WS.rg (RS.mS 2 [(6,.val (Value.func (.func 256) #[] #[(Value.pointer (some p1))])),kS 5 a0] ?_))))))
 obtain ⟨x3,hx,h⟩:=bind_some h
 refine RS.cl (some 7) (v:=(Value.bool x3)) 255 #[(Sl3.v a0),(Value.func (.func 256) #[] #[(Value.pointer (some p1))])] (z90 hx) (RS.mS 2 [kB 4 (!x3),kB 8 (!x3)] (RS.dn (WS.nxt (WS.rt ?_))))
 cases h
 exact fun a w hs=>rtR (rS hs)
noncomputable def B257:Code:=(Tryz.f257.body).getD .skip
def zm1:Bool→Value
 | r0=>(Value.bool r0)
def znl (H:AH):Bool→AH:=fun _=>H
noncomputable def zbl (_L:LC) (a0_0 _a0_1:Int) (_a0_2:ByteArray) (_a0_3:Sl3):Option Bool :=
 some (!decide (a0_0=3))
theorem znd {L:LC} {m:Nat} {H:AH} {a0_0 a0_1:Int} {a0_2:ByteArray} {a0_3:Sl3} {r:Bool} (h:zbl L a0_0 a0_1 a0_2 a0_3=some r) :
  CallS Tryz.prog (NE.plain 258) m 257 #[(Value.agg #[(Value.int .i64 a0_0),(Value.int .i64 a0_1),(Value.string a0_2),(Sl3.v a0_3)])] H (zm1 r) (znl H r):=by
 refine CallS.mk (args:=[(Value.agg #[(Value.int .i64 a0_0),(Value.int .i64 a0_1),(Value.string a0_2),(Sl3.v a0_3)])]) Tryz.func257 (B:=B257) (by kernel_rfl) (fun E _=>?_)
 unfold zbl at h
 refine WS.sq (WS.rg (RS.mL 2 [kB 2 false,kL 1 0 0] ([some (56,[(Value.int .i64 a0_0),(Value.int .i64 a0_1),(Value.string a0_2),(Sl3.v a0_3)])]) (RS.dn (WS.nxt (WS.sq (WS.rg (RS.mS 4 [kB 2 (!decide (a0_0=3)),kB 5 (!decide (a0_0=3)),kI 4 a0_0,kL 3 0 0] (RS.dn (WS.nxt ?_)))))))))
 refine WS.rt ?_
 cases h
 exact fun a w hs=>rtR (rS hs)
def z3o:Int→Value
 | r0=>(Value.int .i64 r0)
def z41 (H:AH):Int→AH:=fun _=>H
noncomputable def z1r (L:LC) (H:AH) (a0:Sl3):Int→Option (Lp Int Int):=fun v8_1 =>
 if v8_1<(a0.n:Int) then
  Option.bind (idxA 4 a0 v8_1) fun p2 =>
  Option.bind (rd (deI .i64) H (Addr.add p2 0)) fun x3_0 =>
  Option.bind (rd (deI .i64) H (Addr.add p2 1)) fun x3_1 =>
  Option.bind (rd deS H (Addr.add p2 2)) fun x3_2 =>
  Option.bind (rd deSl H (Addr.add p2 3)) fun x3_3 =>
  Option.bind (zbl L x3_0 x3_1 x3_2 x3_3) fun x4 =>
  if x4=true then
   none
  else
   some (.next (IntKind.i64.wrap (v8_1+1)))
 else
  some (.brk v8_1)
def z8y (_L:LC) (_H:AH) (a0:Sl3):Int→KN×Lcs:=fun v8_1=>([kI 8 v8_1,kS 0 a0,(1,.val (Value.func (.func 257) #[] #[])),kI 7 (a0.n:Int)],[])
noncomputable def z2k (L:LC) (H:AH) (a0:Sl3):Option Int :=
 Option.bind (L.run (z1r L H a0) 0) fun o=>match o with
 | .inl _ =>
  some (-1)
 | .inr r=>some r
theorem z2x {E m L H a0} :LoopF Tryz.prog (NE.plain 258) m E Tryz.f271 ((cfst (csnd (cfst (csnd B271))))) (z8y L H a0) (fun _=>H) 0 z3o (z41 H) (z1r L H a0):=by
 rintro v8_1 o h
 unfold z1r at h
 try dsimp only at h
 refine WS.sq (WS.rg (RS.mS 1 [kB 9 (decide (v8_1<(a0.n:Int)))] (RS.dn (WS.nxt (WS.sq ?_)))))
 rcases z0 h with ⟨hp,h⟩ | ⟨hp,h⟩
 ·refine WS.fx 9 true (decide_eq_true hp) (WS.cT (WS.sk (WS.nxt (WS.sq (WS.bk 1 (WS.sq (WS.rg (RS.mS 2 [kI 5 v8_1,kI 10 v8_1] (RS.dn ?_)))))))))
  refine WS.nxt (WS.sq (WS.rg (RS.mS 3 [kI 13 v8_1,kS 12 a0,(11,.val (Value.func (.func 257) #[] #[]))] ?_)))
  obtain ⟨p2,hx,h⟩:=bind_some h
  refine RS.ix 14 54 56 (.tmp 12) (.tmp 13) hx ?_
  obtain ⟨x3_0,hx0,h⟩:=bind_some h
  obtain ⟨x3_1,hx1,h⟩:=bind_some h
  obtain ⟨x3_2,hx2,h⟩:=bind_some h
  obtain ⟨x3_3,hx3,h⟩:=bind_some h
  refine RS.la 15 56 (.tmp 14) 4 (z2 (z1 hx0 z4) (z2 (z1 hx1 z4) (z2 (z1 hx2 za) (z2 (z1 hx3 z3) zq)))) ?_
  obtain ⟨x4,hx,h⟩:=bind_some h
  refine RS.cl (some 16) (v:=(Value.bool x4)) 257 #[(Value.agg #[(Value.int .i64 x3_0),(Value.int .i64 x3_1),(Value.string x3_2),(Sl3.v x3_3)])] (znd hx) (RS.dn (WS.nxt ?_))
  rcases z0 h with ⟨hp,h⟩ | ⟨hp,h⟩
  ·refine WS.fx 16 true hp (WS.cT ?_)
   cases h
  ·refine WS.fx 16 false (b_not hp) (WS.cF (WS.sk ?_))
   refine fun a w hs=>bkN ((WS.nxt ?_ a w hs))
   refine WS.rg (RS.mS 2 [kI 8 (IntKind.i64.wrap (v8_1+1)),kI 18 (IntKind.i64.wrap (v8_1+1))] (RS.dn ?_))
   cases h
   exact fun a w hs=>lsN rfl (hs.sb 0)
 ·refine WS.fx 9 false (decide_eq_false hp) (WS.cF (WS.ex 0 ?_))
  cases h
  exact fun a w hs=>sqE (lsB rfl (hs.sb 0))
theorem zb3 {L:LC} {m:Nat} {H:AH} {a0:Sl3} {r:Int} (h:z2k L H a0=some r) :
  CallS Tryz.prog (NE.plain 258) m 271 #[(Sl3.v a0),(Value.func (.func 257) #[] #[])] H (z3o r) (z41 H r):=by
 refine CallS.mk (args:=[(Sl3.v a0),(Value.func (.func 257) #[] #[])]) Tryz.func271 (B:=B271) (by kernel_rfl) (fun E _=>?_)
 unfold z2k at h
 refine WS.sq (WS.rg (RS.mS 1 [kI 4 0] (RS.dn (WS.nxt (WS.sq (WS.sq (WS.rg (RS.mS 3 [kI 8 0,kI 7 (a0.n:Int),kS 6 a0] (RS.dn ?_)))))))))
 refine WS.nxt (WS.bk 0 ?_)
 obtain ⟨o,hl,h⟩:=bind_some h
 rcases o with v8_5 | r
 ·try dsimp only at h
  refine WS.lI (z2x (L:=L) (E:=E) (m:=m) (H:=H)) (L.ok hl) 0 ?_
  clear hl
  refine fun a w hs=>bkE ((WS.nxt ?_ a w hs))
  refine WS.sq (WS.rg (RS.mS 1 [kI 4 (-1)] (RS.dn (WS.nxt (WS.rt ?_)))))
  cases h
  exact fun a w hs=>rtR (rS hs)
 ·try dsimp only at h
  refine WS.lR (z2x (L:=L) (E:=E) (m:=m) (H:=H)) (L.ok hl) 0 ?_
  cases h
  exact fun a w hq=>bkR (sqR (rtR hq))
def z85:Bool→Value
 | r0=>(Value.bool r0)
def z94 (H:AH):Bool→AH:=fun _=>H
noncomputable def z1x (L:LC) (H:AH) (a0:Sl3):Option Bool :=
 Option.bind (z2k L H a0) fun x1 =>
 some (decide (x1≥0))
theorem z8z {L:LC} {m:Nat} {H:AH} {a0:Sl3} {r:Bool} (h:z1x L H a0=some r) :
  CallS Tryz.prog (NE.plain 258) m 255 #[(Sl3.v a0),(Value.func (.func 257) #[] #[])] H (z85 r) (z94 H r):=by
 refine CallS.mk (args:=[(Sl3.v a0),(Value.func (.func 257) #[] #[])]) Tryz.func255 (B:=B255) (by kernel_rfl) (fun E _=>?_)
 unfold z1x at h
 refine WS.sq (WS.rg (RS.mS 1 [kB 4 false] (RS.dn (WS.nxt (WS.sq (WS.rg (RS.mS 2 [(6,.val (Value.func (.func 257) #[] #[])),kS 5 a0] ?_)))))))
 obtain ⟨x1,hx,h⟩:=bind_some h
 refine RS.cl (some 7) (v:=(Value.int .i64 x1)) 271 #[(Sl3.v a0),(Value.func (.func 257) #[] #[])] (zb3 hx) (RS.mS 2 [kB 4 (decide (x1≥0)),kB 8 (decide (x1≥0))] (RS.dn (WS.nxt (WS.rt ?_))))
 cases h
 exact fun a w hs=>rtR (rS hs)
end Go.Proofs.YtkecibinbgaedaaGreatDoor
namespace Go.Proofs.YtkecibinbgaedaaGreatDoor
open Go Go.Abs
set_option maxRecDepth 100000
noncomputable def B210:Code:=(Tryz.f210.body).getD .skip
def zox:(Int×Int×ByteArray×Sl3×Bool×AH)→Value
 | (r0,r1,r2,r3,r4,_)=>(Value.tuple #[(Value.agg #[(Value.int .i64 r0),(Value.int .i64 r1),(Value.string r2),(Sl3.v r3)]),(Value.bool r4)])
def zpq (_:AH):(Int×Int×ByteArray×Sl3×Bool×AH)→AH:=fun r=>r.2.2.2.2.2
noncomputable def zeq (L:LC) (m:Nat) (H:AH) (a0_0:Int) (_a0_1:ByteArray) (_a0_2:Bool) (_a0_3:Sl3) (_a0_4:Int) (_a0_5:Sl3) (_a0_6 _a0_7:Int) (_a0_8:ByteArray) (_a0_9 _a0_10:Sl3) (_a0_11 a1:Sl3):Option (Int×Int×ByteArray×Sl3×Bool×AH) :=
 Option.bind (z1x L H a1) fun x1 =>
 if x1=true then
  none
 else
  Option.bind (idxA 4 a1 0) fun p2 =>
  Option.bind (rd (deI .i64) H (Addr.add p2 1)) fun _ =>
  if a0_0=41 then
   none
  else
   if a0_0=42 then
    none
   else
    if a0_0=63 then
     none
    else
     if a0_0=64 then
      none
     else
      if a0_0=65 then
       none
      else
       if a0_0=51 then
        none
       else
        if a0_0≥68 then
         none
        else
         Option.bind (idxA 4 a1 0) fun p4 =>
         Option.bind (rd (deI .i64) H (Addr.add p4 0)) fun x5_0 =>
         Option.bind (rd (deI .i64) H (Addr.add p4 1)) fun x5_1 =>
         Option.bind (rd deS H (Addr.add p4 2)) fun x5_2 =>
         Option.bind (rd deSl H (Addr.add p4 3)) fun x5_3 =>
         Option.bind (idxA 4 a1 0) fun p6 =>
         Option.bind (rd (deI .i64) H (Addr.add p6 0)) fun x7_0 =>
         Option.bind (rd (deI .i64) H (Addr.add p6 1)) fun x7_1 =>
         Option.bind (rd deS H (Addr.add p6 2)) fun x7_2 =>
         Option.bind (rd deSl H (Addr.add p6 3)) fun x7_3 =>
         Option.bind (zp1 L (Nat.max m H.next) H a1 x7_0 x7_1 x7_2 x7_3) fun (x8,H9) =>
         some (x5_0,x5_1,x5_2,x5_3,x8,H9)
theorem zq2 {L:LC} {m:Nat} {H:AH} {a0_0:Int} {a0_1:ByteArray} {a0_2:Bool} {a0_3:Sl3} {a0_4:Int} {a0_5:Sl3} {a0_6 a0_7:Int} {a0_8:ByteArray} {a0_9 a0_10:Sl3} {a0_11 a1:Sl3} {r:(Int×Int×ByteArray×Sl3×Bool×AH)} (h:zeq L m H a0_0 a0_1 a0_2 a0_3 a0_4 a0_5 a0_6 a0_7 a0_8 a0_9 a0_10 a0_11 a1=some r) :
  CallS Tryz.prog (NE.plain 258) m 210 #[(Value.agg #[(Value.int .i64 a0_0),(Value.string a0_1),(Value.bool a0_2),(Sl3.v a0_3),(Value.int .i64 a0_4),(Sl3.v a0_5),(Value.int .i64 a0_6),(Value.int .i64 a0_7),(Value.string a0_8),(Sl3.v a0_9),(Sl3.v a0_10),(Sl3.v a0_11)]),(Sl3.v a1)] H (zox r) (zpq H r):=by
 refine CallS.mk (args:=[(Value.agg #[(Value.int .i64 a0_0),(Value.string a0_1),(Value.bool a0_2),(Sl3.v a0_3),(Value.int .i64 a0_4),(Sl3.v a0_5),(Value.int .i64 a0_6),(Value.int .i64 a0_7),(Value.string a0_8),(Sl3.v a0_9),(Sl3.v a0_10),(Sl3.v a0_11)]),(Sl3.v a1)]) Tryz.func210 (B:=B210) (by kernel_rfl) (fun E _=>?_)
 unfold zeq at h
 refine WS.sq (WS.rg (RS.mL 3 [kB 5 false,kL 4 1 0,kL 2 0 0] ([some (82,[(Value.int .i64 a0_0),(Value.string a0_1),(Value.bool a0_2),(Sl3.v a0_3),(Value.int .i64 a0_4),(Sl3.v a0_5),(Value.int .i64 a0_6),(Value.int .i64 a0_7),(Value.string a0_8),(Sl3.v a0_9),(Sl3.v a0_10),(Sl3.v a0_11)]),some (56,[(Value.int .i64 0),(Value.int .i64 0),(Value.string (⟨#[]⟩:ByteArray)),(Sl3.v Sl3.nil)])]) (RS.dn (WS.nxt (WS.sq (WS.sq (WS.rg (RS.mS 1 [kS 7 a1] ?_))))))))
 obtain ⟨x1,hx,h⟩:=bind_some h
 refine RS.cl (some 8) (v:=(Value.bool x1)) 255 #[(Sl3.v a1),(Value.func (.func 257) #[] #[])] (z8z hx) (RS.dn (WS.nxt ?_))
 rcases z0 h with ⟨hp,h⟩ | ⟨hp,h⟩
 ·refine WS.fx 8 true hp (WS.cT ?_)
  cases h
 ·refine WS.fx 8 false (b_not hp) (WS.cF (WS.sk (WS.nxt (WS.sq (WS.rg (RS.mS 1 [kS 10 a1] ?_))))))
  obtain ⟨p2,hx,h⟩:=bind_some h
  refine RS.ix 11 54 56 (.tmp 10) (.const (Value.int .i64 0)) hx (RS.mS 1 [(12,.val (Value.pointer (some (Addr.add p2 1))))] ?_)
  obtain ⟨x3,hx,h⟩:=bind_some h
  refine RS.ld 13 3 (.tmp 12) (z1 hx z4) (RS.mS 1 [kI 6 x3] (RS.dn (WS.nxt (WS.sq (WS.sq (WS.rg (RS.mS 2 [kI 15 a0_0,kL 14 0 0] (RS.dn (WS.nxt ?_)))))))))
  refine WS.bk 0 (WS.sq (WS.rg (RS.mS 2 [kB 16 (decide (a0_0=41)),kB 17 (decide (a0_0=41))] (RS.dn (WS.nxt ?_)))))
  rcases z0 h with ⟨hp,h⟩ | ⟨hp,h⟩
  ·refine WS.fx 16 true (decide_eq_true hp) (WS.cT ?_)
   cases h
  ·refine WS.fx 16 false (decide_eq_false hp) (WS.cF (WS.sq (WS.rg (RS.mS 2 [kB 25 (decide (a0_0=42)),kB 26 (decide (a0_0=42))] (RS.dn (WS.nxt ?_))))))
   rcases z0 h with ⟨hp,h⟩ | ⟨hp,h⟩
   ·refine WS.fx 25 true (decide_eq_true hp) (WS.cT ?_)
    cases h
   ·refine WS.fx 25 false (decide_eq_false hp) (WS.cF (WS.sq (WS.rg (RS.mS 2 [kB 38 (decide (a0_0=63)),kB 39 (decide (a0_0=63))] (RS.dn (WS.nxt ?_))))))
    rcases z0 h with ⟨hp,h⟩ | ⟨hp,h⟩
    ·refine WS.fx 38 true (decide_eq_true hp) (WS.cT ?_)
     cases h
    ·refine WS.fx 38 false (decide_eq_false hp) (WS.cF (WS.sq (WS.sq (WS.rg (RS.mS 2 [kB 47 (decide (a0_0=64)),kB 48 (decide (a0_0=64))] (RS.dn (WS.nxt ?_)))))))
     rcases z0 h with ⟨hp,h⟩ | ⟨hp,h⟩
     ·refine WS.fx 47 true (decide_eq_true hp) (WS.cT ?_)
      cases h
     ·refine WS.fx 47 false (decide_eq_false hp) (WS.cF (WS.rg (RS.mS 2 [kB 47 (decide (a0_0=65)),kB 49 (decide (a0_0=65))] (RS.dn (WS.nxt ?_)))))
      rcases z0 h with ⟨hp,h⟩ | ⟨hp,h⟩
      ·refine WS.fx 47 true (decide_eq_true hp) (WS.cT ?_)
       cases h
      ·refine WS.fx 47 false (decide_eq_false hp) (WS.cF (WS.sq (WS.rg (RS.mS 2 [kB 57 (decide (a0_0=51)),kB 58 (decide (a0_0=51))] (RS.dn (WS.nxt ?_))))))
       rcases z0 h with ⟨hp,h⟩ | ⟨hp,h⟩
       ·refine WS.fx 57 true (decide_eq_true hp) (WS.cT ?_)
        cases h
       ·refine WS.fx 57 false (decide_eq_false hp) (WS.cF (WS.sk ?_))
        refine fun a w hs=>bkN ((WS.nxt ?_ a w hs))
        refine WS.sq (WS.sq (WS.rg (RS.mS 3 [kB 67 (decide (a0_0≥68)),kI 66 a0_0,kL 65 0 0] (RS.dn (WS.nxt ?_)))))
        rcases z0 h with ⟨hp,h⟩ | ⟨hp,h⟩
        ·refine WS.fx 67 true (decide_eq_true hp) (WS.cT ?_)
         cases h
        ·refine WS.fx 67 false (decide_eq_false hp) (WS.cF (WS.sk (WS.nxt (WS.sq ?_))))
         refine WS.dr [0,1,2,4,5,6] [0,1,3,0,0,16,48,120,255,511] 10 (fun hcl=>?_)
         refine DA.tK 0 (some 74) (Sl3.v a1) ?_
         obtain ⟨p4,hx,h⟩:=bind_some h
         refine DA.tD 1 (some 75) (Value.pointer (some p4)) (Abs.det_idx (s:=a1) (k:=.i64) (t:=54) (e:=56) (x:=.tmp 74) (y:=.const (Value.int .i64 0)) (by kernel_rfl) (by kernel_rfl) (by kernel_rfl) (by kernel_rfl) (by kernel_rfl) hx) ?_
         obtain ⟨x5_0,hx0,h⟩:=bind_some h
         obtain ⟨x5_1,hx1,h⟩:=bind_some h
         obtain ⟨x5_2,hx2,h⟩:=bind_some h
         obtain ⟨x5_3,hx3,h⟩:=bind_some h
         refine DA.tD 2 (some 76) (Value.agg #[(Value.int .i64 x5_0),(Value.int .i64 x5_1),(Value.string x5_2),(Sl3.v x5_3)]) (Abs.det_loadA (t:=56) (x:=.tmp 75) (a:=p4) (k:=4) (by kernel_rfl) (by kernel_rfl) (by kernel_rfl) (by kernel_rfl) (z2 (z1 hx0 z4) (z2 (z1 hx1 z4) (z2 (z1 hx2 za) (z2 (z1 hx3 z3) zq))))) (DA.tK 4 (some 78) (Sl3.v a1) ?_)
         obtain ⟨p6,hx,h⟩:=bind_some h
         refine DA.tD 5 (some 79) (Value.pointer (some p6)) (Abs.det_idx (s:=a1) (k:=.i64) (t:=54) (e:=56) (x:=.tmp 78) (y:=.const (Value.int .i64 0)) (by kernel_rfl) (by kernel_rfl) (by kernel_rfl) (by kernel_rfl) (by kernel_rfl) hx) ?_
         obtain ⟨x7_0,hx0,h⟩:=bind_some h
         obtain ⟨x7_1,hx1,h⟩:=bind_some h
         obtain ⟨x7_2,hx2,h⟩:=bind_some h
         obtain ⟨x7_3,hx3,h⟩:=bind_some h
         refine DA.tD 6 (some 80) (Value.agg #[(Value.int .i64 x7_0),(Value.int .i64 x7_1),(Value.string x7_2),(Sl3.v x7_3)]) (Abs.det_loadA (t:=56) (x:=.tmp 79) (a:=p6) (k:=4) (by kernel_rfl) (by kernel_rfl) (by kernel_rfl) (by kernel_rfl) (z2 (z1 hx0 z4) (z2 (z1 hx1 z4) (z2 (z1 hx2 za) (z2 (z1 hx3 z3) zq))))) (DA.tP 3 (some 77) (Sl3.v a1) ?_)
         obtain ⟨⟨x8,H9⟩,hx,h⟩:=bind_some h
         try dsimp only at h
         refine DA.on 7 (DA.aCj 7 (some 81) false (v:=(Value.bool x8)) 207 #[(Sl3.v a1),(Value.agg #[(Value.int .i64 x7_0),(Value.int .i64 x7_1),(Value.string x7_2),(Sl3.v x7_3)])] (zus hx) (DA.on 8 (DA.aL 8 none (.val undef) ([some (82,[(Value.int .i64 a0_0),(Value.string a0_1),(Value.bool a0_2),(Sl3.v a0_3),(Value.int .i64 a0_4),(Sl3.v a0_5),(Value.int .i64 a0_6),(Value.int .i64 a0_7),(Value.string a0_8),(Sl3.v a0_9),(Sl3.v a0_10),(Sl3.v a0_11)]),some (56,[(Value.int .i64 x5_0),(Value.int .i64 x5_1),(Value.string x5_2),(Sl3.v x5_3)])]) false (DA.tP 9 (some 5) (Value.bool x8) (DA.dn (WS.nxt (WS.rt ?_)))))))
         cases h
         exact fun a w hs=>rtR (rS hs)
noncomputable def B132:Code:=(Tryz.f132.body).getD .skip
def zpt:(Int×Int×ByteArray×Sl3×Bool×AH)→Value
 | (r0,r1,r2,r3,r4,_)=>(Value.tuple #[(Value.agg #[(Value.int .i64 r0),(Value.int .i64 r1),(Value.string r2),(Sl3.v r3)]),(Value.bool r4)])
def zr4 (_:AH):(Int×Int×ByteArray×Sl3×Bool×AH)→AH:=fun r=>r.2.2.2.2.2
noncomputable def zh2 (L:LC) (m:Nat) (H:AH) (a0_0:Int) (a0_1:ByteArray) (a0_2:Bool) (a0_3:Sl3) (a0_4:Int) (a0_5:Sl3) (a0_6 a0_7:Int) (a0_8:ByteArray) (a0_9 a0_10:Sl3) (a0_11 a1:Sl3):Option (Int×Int×ByteArray×Sl3×Bool×AH) :=
 if a0_0≤7 then
  none
 else
  if a0_0≤9 then
   none
  else
   if a0_0=10 then
    none
   else
    if a0_0=20 then
     none
    else
     if a0_0≤27 then
      none
     else
      if a0_0≤31 then
       none
      else
       if a0_0=34 then
        none
       else
        if a0_0≤33 then
         none
        else
         if a0_0=40 then
          none
         else
          Option.bind (zeq L m H a0_0 a0_1 a0_2 a0_3 a0_4 a0_5 a0_6 a0_7 a0_8 a0_9 a0_10 a0_11 a1) fun (x1_0,x1_1,x1_2,x1_3,x2,H3) =>
          some (x1_0,x1_1,x1_2,x1_3,x2,H3)
theorem zra {L:LC} {m:Nat} {H:AH} {a0_0:Int} {a0_1:ByteArray} {a0_2:Bool} {a0_3:Sl3} {a0_4:Int} {a0_5:Sl3} {a0_6 a0_7:Int} {a0_8:ByteArray} {a0_9 a0_10:Sl3} {a0_11 a1:Sl3} {r:(Int×Int×ByteArray×Sl3×Bool×AH)} (h:zh2 L m H a0_0 a0_1 a0_2 a0_3 a0_4 a0_5 a0_6 a0_7 a0_8 a0_9 a0_10 a0_11 a1=some r) :
  CallS Tryz.prog (NE.plain 258) m 132 #[(Value.agg #[(Value.int .i64 a0_0),(Value.string a0_1),(Value.bool a0_2),(Sl3.v a0_3),(Value.int .i64 a0_4),(Sl3.v a0_5),(Value.int .i64 a0_6),(Value.int .i64 a0_7),(Value.string a0_8),(Sl3.v a0_9),(Sl3.v a0_10),(Sl3.v a0_11)]),(Sl3.v a1)] H (zpt r) (zr4 H r):=by
 refine CallS.mk (args:=[(Value.agg #[(Value.int .i64 a0_0),(Value.string a0_1),(Value.bool a0_2),(Sl3.v a0_3),(Value.int .i64 a0_4),(Sl3.v a0_5),(Value.int .i64 a0_6),(Value.int .i64 a0_7),(Value.string a0_8),(Sl3.v a0_9),(Sl3.v a0_10),(Sl3.v a0_11)]),(Sl3.v a1)]) Tryz.func132 (B:=B132) (by kernel_rfl) (fun E _=>?_)
 unfold zh2 at h
 refine WS.sq (WS.rg (RS.mL 3 [kB 5 false,kL 4 1 0,kL 2 0 0] ([some (82,[(Value.int .i64 a0_0),(Value.string a0_1),(Value.bool a0_2),(Sl3.v a0_3),(Value.int .i64 a0_4),(Sl3.v a0_5),(Value.int .i64 a0_6),(Value.int .i64 a0_7),(Value.string a0_8),(Sl3.v a0_9),(Sl3.v a0_10),(Sl3.v a0_11)]),some (56,[(Value.int .i64 0),(Value.int .i64 0),(Value.string (⟨#[]⟩:ByteArray)),(Sl3.v Sl3.nil)])]) (RS.dn (WS.nxt (WS.sq (WS.bk 0 (WS.sq (WS.rg (RS.mS 4 [kB 6 (decide (a0_0≤7)),kB 9 (decide (a0_0≤7)),kI 8 a0_0,kL 7 0 0] ?_)))))))))
 refine RS.dn (WS.nxt ?_)
 rcases z0 h with ⟨hp,h⟩ | ⟨hp,h⟩
 ·refine WS.fx 6 true (decide_eq_true hp) (WS.cT ?_)
  cases h
 ·refine WS.fx 6 false (decide_eq_false hp) (WS.cF (WS.sq (WS.rg (RS.mS 4 [kB 14 (decide (a0_0≤9)),kB 17 (decide (a0_0≤9)),kI 16 a0_0,kL 15 0 0] (RS.dn (WS.nxt ?_))))))
  rcases z0 h with ⟨hp,h⟩ | ⟨hp,h⟩
  ·refine WS.fx 14 true (decide_eq_true hp) (WS.cT ?_)
   cases h
  ·refine WS.fx 14 false (decide_eq_false hp) (WS.cF (WS.sq (WS.rg (RS.mS 4 [kB 24 (decide (a0_0=10)),kB 27 (decide (a0_0=10)),kI 26 a0_0,kL 25 0 0] (RS.dn (WS.nxt ?_))))))
   rcases z0 h with ⟨hp,h⟩ | ⟨hp,h⟩
   ·refine WS.fx 24 true (decide_eq_true hp) (WS.cT ?_)
    cases h
   ·refine WS.fx 24 false (decide_eq_false hp) (WS.cF (WS.sq (WS.rg (RS.mS 4 [kB 45 (decide (a0_0=20)),kB 48 (decide (a0_0=20)),kI 47 a0_0,kL 46 0 0] (RS.dn (WS.nxt ?_))))))
    rcases z0 h with ⟨hp,h⟩ | ⟨hp,h⟩
    ·refine WS.fx 45 true (decide_eq_true hp) (WS.cT ?_)
     cases h
    ·refine WS.fx 45 false (decide_eq_false hp) (WS.cF (WS.sq (WS.rg (RS.mS 4 [kB 50 (decide (a0_0≤27)),kB 53 (decide (a0_0≤27)),kI 52 a0_0,kL 51 0 0] (RS.dn (WS.nxt ?_))))))
     rcases z0 h with ⟨hp,h⟩ | ⟨hp,h⟩
     ·refine WS.fx 50 true (decide_eq_true hp) (WS.cT ?_)
      cases h
     ·refine WS.fx 50 false (decide_eq_false hp) (WS.cF (WS.sq (WS.rg (RS.mS 4 [kB 58 (decide (a0_0≤31)),kB 61 (decide (a0_0≤31)),kI 60 a0_0,kL 59 0 0] (RS.dn (WS.nxt ?_))))))
      rcases z0 h with ⟨hp,h⟩ | ⟨hp,h⟩
      ·refine WS.fx 58 true (decide_eq_true hp) (WS.cT ?_)
       cases h
      ·refine WS.fx 58 false (decide_eq_false hp) (WS.cF (WS.sq (WS.rg (RS.mS 4 [kB 66 (decide (a0_0=34)),kB 69 (decide (a0_0=34)),kI 68 a0_0,kL 67 0 0] (RS.dn (WS.nxt ?_))))))
       rcases z0 h with ⟨hp,h⟩ | ⟨hp,h⟩
       ·refine WS.fx 66 true (decide_eq_true hp) (WS.cT ?_)
        cases h
       ·refine WS.fx 66 false (decide_eq_false hp) (WS.cF (WS.sq (WS.rg (RS.mS 4 [kB 81 (decide (a0_0≤33)),kB 84 (decide (a0_0≤33)),kI 83 a0_0,kL 82 0 0] (RS.dn (WS.nxt ?_))))))
        rcases z0 h with ⟨hp,h⟩ | ⟨hp,h⟩
        ·refine WS.fx 81 true (decide_eq_true hp) (WS.cT ?_)
         cases h
        ·refine WS.fx 81 false (decide_eq_false hp) (WS.cF (WS.sq (WS.rg (RS.mS 4 [kB 126 (decide (a0_0=40)),kB 129 (decide (a0_0=40)),kI 128 a0_0,kL 127 0 0] (RS.dn (WS.nxt ?_))))))
         rcases z0 h with ⟨hp,h⟩ | ⟨hp,h⟩
         ·refine WS.fx 126 true (decide_eq_true hp) (WS.cT ?_)
          cases h
         ·refine WS.fx 126 false (decide_eq_false hp) (WS.cF (WS.sk ?_))
          refine fun a w hs=>bkN ((WS.nxt ?_ a w hs))
          refine WS.sq (WS.rg (RS.mS 2 [kS 135 a1,kA 134 #[(Value.int .i64 a0_0),(Value.string a0_1),(Value.bool a0_2),(Sl3.v a0_3),(Value.int .i64 a0_4),(Sl3.v a0_5),(Value.int .i64 a0_6),(Value.int .i64 a0_7),(Value.string a0_8),(Sl3.v a0_9),(Sl3.v a0_10),(Sl3.v a0_11)]] ?_))
          obtain ⟨⟨x1_0,x1_1,x1_2,x1_3,x2,H3⟩,hx,h⟩:=bind_some h
          try dsimp only at h
          refine RS.cl (some 136) (v:=(Value.tuple #[(Value.agg #[(Value.int .i64 x1_0),(Value.int .i64 x1_1),(Value.string x1_2),(Sl3.v x1_3)]),(Value.bool x2)])) 210 #[(Value.agg #[(Value.int .i64 a0_0),(Value.string a0_1),(Value.bool a0_2),(Sl3.v a0_3),(Value.int .i64 a0_4),(Sl3.v a0_5),(Value.int .i64 a0_6),(Value.int .i64 a0_7),(Value.string a0_8),(Sl3.v a0_9),(Sl3.v a0_10),(Sl3.v a0_11)]),(Sl3.v a1)] (zq2 hx) (RS.mL 4 [kB 5 x2,kB 138 x2,kA 137 #[(Value.int .i64 x1_0),(Value.int .i64 x1_1),(Value.string x1_2),(Sl3.v x1_3)]] ([some (82,[(Value.int .i64 a0_0),(Value.string a0_1),(Value.bool a0_2),(Sl3.v a0_3),(Value.int .i64 a0_4),(Sl3.v a0_5),(Value.int .i64 a0_6),(Value.int .i64 a0_7),(Value.string a0_8),(Sl3.v a0_9),(Sl3.v a0_10),(Sl3.v a0_11)]),some (56,[(Value.int .i64 x1_0),(Value.int .i64 x1_1),(Value.string x1_2),(Sl3.v x1_3)])]) (RS.dn (WS.nxt (WS.rt ?_))))
          cases h
          exact fun a w hs=>rtR (rS hs)
noncomputable def B133:Code:=(Tryz.f133.body).getD .skip
def zhz:Bool→Value
 | r0=>(Value.bool r0)
def zjo (H:AH):Bool→AH:=fun _=>H
noncomputable def z7b (_L:LC) (_H:AH) (_a0:Option Addr) (a1_0:Int) (_a1_1:ByteArray) (_a1_2:Bool) (_a1_3:Sl3) (_a1_4:Int) (_a1_5:Sl3) (_a1_6 _a1_7:Int) (_a1_8:ByteArray) (_a1_9 _a1_10 _a1_11:Sl3):Option Bool :=
 if a1_0=24 then
  none
 else
  if a1_0=25 then
   none
  else
   if a1_0=26 then
    none
   else
    some true
theorem zjt {L:LC} {m:Nat} {H:AH} {a0:Option Addr} {a1_0:Int} {a1_1:ByteArray} {a1_2:Bool} {a1_3:Sl3} {a1_4:Int} {a1_5:Sl3} {a1_6 a1_7:Int} {a1_8:ByteArray} {a1_9 a1_10 a1_11:Sl3} {r:Bool} (h:z7b L H a0 a1_0 a1_1 a1_2 a1_3 a1_4 a1_5 a1_6 a1_7 a1_8 a1_9 a1_10 a1_11=some r) :
  CallS Tryz.prog (NE.plain 258) m 133 #[(Value.pointer a0),(Value.agg #[(Value.int .i64 a1_0),(Value.string a1_1),(Value.bool a1_2),(Sl3.v a1_3),(Value.int .i64 a1_4),(Sl3.v a1_5),(Value.int .i64 a1_6),(Value.int .i64 a1_7),(Value.string a1_8),(Sl3.v a1_9),(Sl3.v a1_10),(Sl3.v a1_11)])] H (zhz r) (zjo H r):=by
 refine CallS.mk (args:=[(Value.pointer a0),(Value.agg #[(Value.int .i64 a1_0),(Value.string a1_1),(Value.bool a1_2),(Sl3.v a1_3),(Value.int .i64 a1_4),(Sl3.v a1_5),(Value.int .i64 a1_6),(Value.int .i64 a1_7),(Value.string a1_8),(Sl3.v a1_9),(Sl3.v a1_10),(Sl3.v a1_11)])]) Tryz.func133 (B:=B133) (by kernel_rfl) (fun E _=>?_)
 unfold z7b at h
 refine WS.sq (WS.rg (RS.mL 2 [kB 4 false,kL 3 0 0] ([some (82,[(Value.int .i64 a1_0),(Value.string a1_1),(Value.bool a1_2),(Sl3.v a1_3),(Value.int .i64 a1_4),(Sl3.v a1_5),(Value.int .i64 a1_6),(Value.int .i64 a1_7),(Value.string a1_8),(Sl3.v a1_9),(Sl3.v a1_10),(Sl3.v a1_11)])]) (RS.dn (WS.nxt (WS.sq (WS.sq (WS.rg (RS.mS 2 [kI 12 a1_0,kL 11 0 0] (RS.dn ?_)))))))))
 refine WS.nxt (WS.bk 0 (WS.sq (WS.rg (RS.mS 2 [kB 13 (decide (a1_0=24)),kB 14 (decide (a1_0=24))] (RS.dn (WS.nxt ?_))))))
 rcases z0 h with ⟨hp,h⟩ | ⟨hp,h⟩
 ·refine WS.fx 13 true (decide_eq_true hp) (WS.cT ?_)
  cases h
 ·refine WS.fx 13 false (decide_eq_false hp) (WS.cF (WS.sq (WS.sq (WS.rg (RS.mS 2 [kB 37 (decide (a1_0=25)),kB 38 (decide (a1_0=25))] (RS.dn (WS.nxt ?_)))))))
  rcases z0 h with ⟨hp,h⟩ | ⟨hp,h⟩
  ·refine WS.fx 37 true (decide_eq_true hp) (WS.cT ?_)
   cases h
  ·refine WS.fx 37 false (decide_eq_false hp) (WS.cF (WS.rg (RS.mS 2 [kB 37 (decide (a1_0=26)),kB 39 (decide (a1_0=26))] (RS.dn (WS.nxt ?_)))))
   rcases z0 h with ⟨hp,h⟩ | ⟨hp,h⟩
   ·refine WS.fx 37 true (decide_eq_true hp) (WS.cT ?_)
    cases h
   ·refine WS.fx 37 false (decide_eq_false hp) (WS.cF (WS.sk ?_))
    refine fun a w hs=>bkN ((WS.nxt ?_ a w hs))
    refine WS.sq (WS.rg (RS.mS 1 [kB 4 true] (RS.dn (WS.nxt (WS.rt ?_)))))
    cases h
    exact fun a w hs=>rtR (rS hs)
noncomputable def B75:Code:=(Tryz.f75.body).getD .skip
def z4b:(Int×Int×ByteArray×Sl3×Int×AH)→Value
 | (r0,r1,r2,r3,r4,_)=>(Value.tuple #[(Value.agg #[(Value.int .i64 r0),(Value.int .i64 r1),(Value.string r2),(Sl3.v r3)]),(Value.int .i64 r4)])
def z4q (_:AH):(Int×Int×ByteArray×Sl3×Int×AH)→AH:=fun r=>r.2.2.2.2.2
noncomputable def z4t (_L:LC) (m:Nat) (a0:Option Addr) (_a1_0:Int) (_a1_1:ByteArray) (_a1_2:Bool) (_a1_3:Sl3) (_a1_4:Int) (_a1_5:Sl3) (_a1_6 _a1_7:Int) (_a1_8:ByteArray) (_a1_9 _a1_10:Sl3) (a1_11 _x1:Sl3) (_x2_0 _x2_1:Int) (_x2_2:ByteArray) (_x2_3:Sl3):(AH×Sl3×Int)→Option (Lp (AH×Sl3×Int) (Int×Int×ByteArray×Sl3×Int×AH)):=fun (H5,v9_6,v30_7) =>
 if v30_7<(a1_11.n:Int) then
  Option.bind (idxA 1 a1_11 v30_7) fun p8 =>
  Option.bind (rd (deI .i64) H5 p8) fun x9 =>
  Option.bind a0 fun q10 =>
  Option.bind (rd deSl H5 (Addr.add q10 3)) fun x11 =>
  Option.bind (idxA 16 x11 x9) fun p12 =>
  Option.bind (rd (deI .i64) H5 (Addr.add (Addr.add p12 12) 0)) fun x13_0 =>
  Option.bind (rd (deI .i64) H5 (Addr.add (Addr.add p12 12) 1)) fun x13_1 =>
  Option.bind (rd deS H5 (Addr.add (Addr.add p12 12) 2)) fun x13_2 =>
  Option.bind (rd deSl H5 (Addr.add (Addr.add p12 12) 3)) fun x13_3 =>
  Option.bind (newR 56 1 #[(Value.int .i64 x13_0),(Value.int .i64 x13_1),(Value.string x13_2),(Sl3.v x13_3)] H5) fun (s14,H15) =>
  Option.bind (appS m 56 4 56 H15 v9_6 s14) fun (s16,H17) =>
  some (.next (H17,s16,(IntKind.i64.wrap (v30_7+1))))
 else
  some (.brk (H5,v9_6,v30_7))
def zhd (_L:LC) (_m:Nat) (a0:Option Addr) (a1_0:Int) (a1_1:ByteArray) (a1_2:Bool) (a1_3:Sl3) (a1_4:Int) (a1_5:Sl3) (a1_6 a1_7:Int) (a1_8:ByteArray) (a1_9 a1_10:Sl3) (a1_11 x1:Sl3) (x2_0 x2_1:Int) (x2_2:ByteArray) (x2_3:Sl3):(AH×Sl3×Int)→KN×Lcs:=fun (_,v9_6,v30_7)=>([kS 9 v9_6,kI 30 v30_7,(0,.val (Value.pointer a0)),kL 3 0 0,kL 4 1 0,kS 6 x1,kL 7 2 0,kS 28 a1_11,kI 29 (a1_11.n:Int)],[some (82,[(Value.int .i64 a1_0),(Value.string a1_1),(Value.bool a1_2),(Sl3.v a1_3),(Value.int .i64 a1_4),(Sl3.v a1_5),(Value.int .i64 a1_6),(Value.int .i64 a1_7),(Value.string a1_8),(Sl3.v a1_9),(Sl3.v a1_10),(Sl3.v a1_11)]),some (56,[(Value.int .i64 0),(Value.int .i64 0),(Value.string (⟨#[]⟩:ByteArray)),(Sl3.v Sl3.nil)]),some (56,[(Value.int .i64 x2_0),(Value.int .i64 x2_1),(Value.string x2_2),(Sl3.v x2_3)])])
noncomputable def z50 (_L:LC) (_a1_0:Int) (_a1_1:ByteArray) (_a1_2:Bool) (_a1_3:Sl3) (_a1_4:Int) (_a1_5:Sl3) (_a1_6 _a1_7:Int) (_a1_8:ByteArray) (_a1_9 _a1_10:Sl3) (_a1_11 _x1:Sl3) (_x2_0 _x2_1:Int) (_x2_2:ByteArray) (_x2_3:Sl3) (_H18:AH) (v9_19:Sl3):(Int×Int×Int×ByteArray×Sl3)→Option (Lp (Int×Int×Int×ByteArray×Sl3) (Int×Int×ByteArray×Sl3×Int×AH)):=fun (v56_21,w1_22,w1_23,w1_24,w1_25) =>
 if v56_21<(v9_19.n:Int) then
  none
 else
  some (.brk (v56_21,w1_22,w1_23,w1_24,w1_25))
def zh3 (_L:LC) (a1_0:Int) (a1_1:ByteArray) (a1_2:Bool) (a1_3:Sl3) (a1_4:Int) (a1_5:Sl3) (a1_6 a1_7:Int) (a1_8:ByteArray) (a1_9 a1_10:Sl3) (a1_11 x1:Sl3) (x2_0 x2_1:Int) (x2_2:ByteArray) (x2_3:Sl3) (_H18:AH) (v9_19:Sl3):(Int×Int×Int×ByteArray×Sl3)→KN×Lcs:=fun (v56_21,w1_22,w1_23,w1_24,w1_25)=>([kI 56 v56_21,kL 4 1 0,kS 6 x1,kL 7 2 0,kS 54 v9_19,kI 55 (v9_19.n:Int)],[some (82,[(Value.int .i64 a1_0),(Value.string a1_1),(Value.bool a1_2),(Sl3.v a1_3),(Value.int .i64 a1_4),(Sl3.v a1_5),(Value.int .i64 a1_6),(Value.int .i64 a1_7),(Value.string a1_8),(Sl3.v a1_9),(Sl3.v a1_10),(Sl3.v a1_11)]),some (56,[(Value.int .i64 w1_22),(Value.int .i64 w1_23),(Value.string w1_24),(Sl3.v w1_25)]),some (56,[(Value.int .i64 x2_0),(Value.int .i64 x2_1),(Value.string x2_2),(Sl3.v x2_3)])])
noncomputable def z80 (L:LC) (m:Nat) (H:AH) (a0:Option Addr) (a1_0:Int) (a1_1:ByteArray) (a1_2:Bool) (a1_3:Sl3) (a1_4:Int) (a1_5:Sl3) (a1_6 a1_7:Int) (a1_8:ByteArray) (a1_9 a1_10 a1_11:Sl3):Option (Int×Int×ByteArray×Sl3×Int×AH) :=
 Option.bind (zbq L m H a0 a1_0 a1_1 a1_2 a1_3 a1_4 a1_5 a1_6 a1_7 a1_8 a1_9 a1_10 a1_11) fun (x1,x2_0,x2_1,x2_2,x2_3,x3,H4) =>
 if x3=0 then
  Option.bind (L.run (z4t L m a0 a1_0 a1_1 a1_2 a1_3 a1_4 a1_5 a1_6 a1_7 a1_8 a1_9 a1_10 a1_11 x1 x2_0 x2_1 x2_2 x2_3) (H4,Sl3.nil,0)) fun o=>match o with
  | .inl (H18,v9_19,_) =>
   if a1_0≥11 then
    if a1_0≤14 then
     Option.bind (L.run (z50 L a1_0 a1_1 a1_2 a1_3 a1_4 a1_5 a1_6 a1_7 a1_8 a1_9 a1_10 a1_11 x1 x2_0 x2_1 x2_2 x2_3 H18 v9_19) (0,0,0,(⟨#[]⟩:ByteArray),Sl3.nil)) fun o=>match o with
     | .inl (_,_,_,_,_) =>
      some (x2_0,x2_1,x2_2,x2_3,0,H18)
     | .inr r=>some r
    else
     Option.bind (zh2 L m H18 a1_0 a1_1 a1_2 a1_3 a1_4 a1_5 a1_6 a1_7 a1_8 a1_9 a1_10 a1_11 v9_19) fun (x31_0,x31_1,x31_2,x31_3,x32,H33) =>
     if x32=true then
      if a1_0=42 then
       none
      else
       if x31_0=3 then
        if x31_1 > 4096 then
         none
        else
         Option.bind (z7b L H33 a0 a1_0 a1_1 a1_2 a1_3 a1_4 a1_5 a1_6 a1_7 a1_8 a1_9 a1_10 a1_11) fun x34 =>
         if x34=true then
          some (x31_0,x31_1,x31_2,x31_3,0,H33)
         else
          none
       else
        none
     else
      none
   else
    none
  | .inr r=>some r
 else
  some (x2_0,x2_1,x2_2,x2_3,x3,H4)
theorem z7m {E H L m a0 a1_0 a1_1 a1_2 a1_3 a1_4 a1_5 a1_6 a1_7 a1_8 a1_9 a1_10 a1_11 x1 x2_0 x2_1 x2_2 x2_3} :LoopF Tryz.prog (NE.plain 258) m E Tryz.f75 ((cfst (csnd (cfst (csnd (csnd (csnd (csnd B75)))))))) (zhd L m a0 a1_0 a1_1 a1_2 a1_3 a1_4 a1_5 a1_6 a1_7 a1_8 a1_9 a1_10 a1_11 x1 x2_0 x2_1 x2_2 x2_3) (fun s=>s.1) 0 z4b (z4q H) (z4t L m a0 a1_0 a1_1 a1_2 a1_3 a1_4 a1_5 a1_6 a1_7 a1_8 a1_9 a1_10 a1_11 x1 x2_0 x2_1 x2_2 x2_3):=by
 rintro ⟨H5,v9_6,v30_7⟩ o h
 unfold z4t at h
 try dsimp only at h
 refine WS.sq (WS.rg (RS.mS 1 [kB 31 (decide (v30_7<(a1_11.n:Int)))] (RS.dn (WS.nxt (WS.sq ?_)))))
 rcases z0 h with ⟨hp,h⟩ | ⟨hp,h⟩
 ·refine WS.fx 31 true (decide_eq_true hp) (WS.cT (WS.sk (WS.nxt (WS.sq (WS.bk 1 (WS.sq (WS.rg ?_)))))))
  obtain ⟨p8,hx,h⟩:=bind_some h
  refine RS.ix 32 28 3 (.tmp 28) (.tmp 30) hx ?_
  obtain ⟨x9,hx,h⟩:=bind_some h
  refine RS.ld 33 3 (.tmp 32) (z1 hx z4) (RS.mS 1 [kI 11 x9] (RS.dn (WS.nxt (WS.rg (RS.mS 2 [(35,.val (Value.pointer a0)),kS 34 v9_6] ?_)))))
  obtain ⟨q10,hx,hq10⟩:=bind_some h
  subst hx
  have h:=hq10
  refine RS.mS 2 [(37,.val (Value.pointer (some (Addr.add q10 3)))),kP 36 q10] ?_
  obtain ⟨x11,hx,h⟩:=bind_some h
  refine RS.ld 38 97 (.tmp 37) (z1 hx z3) (RS.mS 1 [kI 39 x9] ?_)
  obtain ⟨p12,hx,h⟩:=bind_some h
  refine RS.ix 40 97 103 (.tmp 38) (.tmp 39) hx (RS.mS 1 [(41,.val (Value.pointer (some (Addr.add p12 12))))] ?_)
  obtain ⟨x13_0,hx0,h⟩:=bind_some h
  obtain ⟨x13_1,hx1,h⟩:=bind_some h
  obtain ⟨x13_2,hx2,h⟩:=bind_some h
  obtain ⟨x13_3,hx3,h⟩:=bind_some h
  refine RS.la 42 56 (.tmp 41) 4 (z2 (z1 hx0 z4) (z2 (z1 hx1 z4) (z2 (z1 hx2 za) (z2 (z1 hx3 z3) zq)))) ?_
  obtain ⟨⟨s14,H15⟩,hx,h⟩:=bind_some h
  try dsimp only at h
  refine RS.o (H':=H15) (some 43) (Sl3.v s14) (Abs.run_newR (by kernel_rfl) (by kernel_rfl) hx) ?_
  obtain ⟨⟨s16,H17⟩,hx,h⟩:=bind_some h
  try dsimp only at h
  refine RS.o (H':=H17) (some 44) (Sl3.v s16) (Abs.run_app (x:=.tmp 34) (y:=.tmp 43) (ts:=#[54,54]) (s:=v9_6) (z:=s14) (by kernel_rfl) (by kernel_rfl) (by kernel_rfl) (by kernel_rfl) hx) (RS.mS 1 [kS 9 s16] (RS.dn ?_))
  refine fun a w hs=>bkN ((WS.nxt ?_ a w hs))
  refine WS.rg (RS.mS 2 [kI 30 (IntKind.i64.wrap (v30_7+1)),kI 45 (IntKind.i64.wrap (v30_7+1))] (RS.dn ?_))
  cases h
  exact fun a w hs=>lsN rfl (hs.sb 3)
 ·refine WS.fx 31 false (decide_eq_false hp) (WS.cF (WS.ex 0 ?_))
  cases h
  exact fun a w hs=>sqE (lsB rfl (hs.sb 3))
theorem z7j {E m H L a1_0 a1_1 a1_2 a1_3 a1_4 a1_5 a1_6 a1_7 a1_8 a1_9 a1_10 a1_11 x1 x2_0 x2_1 x2_2 x2_3 H18 v9_19} :LoopF Tryz.prog (NE.plain 258) m E Tryz.f75 ((cfst (csnd (cfst (cfst (csnd (cfst (csnd (csnd (csnd (csnd (csnd B75)))))))))))) (zh3 L a1_0 a1_1 a1_2 a1_3 a1_4 a1_5 a1_6 a1_7 a1_8 a1_9 a1_10 a1_11 x1 x2_0 x2_1 x2_2 x2_3 H18 v9_19) (fun _=>H18) 2 z4b (z4q H) (z50 L a1_0 a1_1 a1_2 a1_3 a1_4 a1_5 a1_6 a1_7 a1_8 a1_9 a1_10 a1_11 x1 x2_0 x2_1 x2_2 x2_3 H18 v9_19):=by
 rintro ⟨v56_21,w1_22,w1_23,w1_24,w1_25⟩ o h
 unfold z50 at h
 try dsimp only at h
 refine WS.sq (WS.rg (RS.mS 1 [kB 57 (decide (v56_21<(v9_19.n:Int)))] (RS.dn (WS.nxt (WS.sq ?_)))))
 rcases z0 h with ⟨hp,h⟩ | ⟨hp,h⟩
 ·refine WS.fx 57 true (decide_eq_true hp) (WS.cT ?_)
  cases h
 ·refine WS.fx 57 false (decide_eq_false hp) (WS.cF (WS.ex 2 ?_))
  cases h
  exact fun a w hs=>sqE (lsB rfl (hs.sb 3))
theorem zl1 {L:LC} {m:Nat} {H:AH} {a0:Option Addr} {a1_0:Int} {a1_1:ByteArray} {a1_2:Bool} {a1_3:Sl3} {a1_4:Int} {a1_5:Sl3} {a1_6 a1_7:Int} {a1_8:ByteArray} {a1_9 a1_10 a1_11:Sl3} {r:(Int×Int×ByteArray×Sl3×Int×AH)} (h:z80 L m H a0 a1_0 a1_1 a1_2 a1_3 a1_4 a1_5 a1_6 a1_7 a1_8 a1_9 a1_10 a1_11=some r) :
  CallS Tryz.prog (NE.plain 258) m 75 #[(Value.pointer a0),(Value.agg #[(Value.int .i64 a1_0),(Value.string a1_1),(Value.bool a1_2),(Sl3.v a1_3),(Value.int .i64 a1_4),(Sl3.v a1_5),(Value.int .i64 a1_6),(Value.int .i64 a1_7),(Value.string a1_8),(Sl3.v a1_9),(Sl3.v a1_10),(Sl3.v a1_11)])] H (z4b r) (z4q H r):=by
 refine CallS.mk (args:=[(Value.pointer a0),(Value.agg #[(Value.int .i64 a1_0),(Value.string a1_1),(Value.bool a1_2),(Sl3.v a1_3),(Value.int .i64 a1_4),(Sl3.v a1_5),(Value.int .i64 a1_6),(Value.int .i64 a1_7),(Value.string a1_8),(Sl3.v a1_9),(Sl3.v a1_10),(Sl3.v a1_11)])]) Tryz.func75 (B:=B75) (by kernel_rfl) (fun E _=>?_)
 unfold z80 at h
 refine WS.sq (WS.rg (RS.mL 3 [kI 5 0,kL 4 1 0,kL 3 0 0] ([some (82,[(Value.int .i64 a1_0),(Value.string a1_1),(Value.bool a1_2),(Sl3.v a1_3),(Value.int .i64 a1_4),(Sl3.v a1_5),(Value.int .i64 a1_6),(Value.int .i64 a1_7),(Value.string a1_8),(Sl3.v a1_9),(Sl3.v a1_10),(Sl3.v a1_11)]),some (56,[(Value.int .i64 0),(Value.int .i64 0),(Value.string (⟨#[]⟩:ByteArray)),(Sl3.v Sl3.nil)])]) (RS.dn (WS.nxt (WS.sq (WS.rg (RS.mS 2 [kA 18 #[(Value.int .i64 a1_0),(Value.string a1_1),(Value.bool a1_2),(Sl3.v a1_3),(Value.int .i64 a1_4),(Sl3.v a1_5),(Value.int .i64 a1_6),(Value.int .i64 a1_7),(Value.string a1_8),(Sl3.v a1_9),(Sl3.v a1_10),(Sl3.v a1_11)],(17,.val (Value.pointer a0))] ?_)))))))
 obtain ⟨⟨x1,x2_0,x2_1,x2_2,x2_3,x3,H4⟩,hx,h⟩:=bind_some h
 try dsimp only at h
 refine RS.cl (some 19) (v:=(Value.tuple #[(Sl3.v x1),(Value.agg #[(Value.int .i64 x2_0),(Value.int .i64 x2_1),(Value.string x2_2),(Sl3.v x2_3)]),(Value.int .i64 x3)])) 130 #[(Value.pointer a0),(Value.agg #[(Value.int .i64 a1_0),(Value.string a1_1),(Value.bool a1_2),(Sl3.v a1_3),(Value.int .i64 a1_4),(Sl3.v a1_5),(Value.int .i64 a1_6),(Value.int .i64 a1_7),(Value.string a1_8),(Sl3.v a1_9),(Sl3.v a1_10),(Sl3.v a1_11)])] (zo1 hx) (RS.mL 8 [kI 8 x3,kS 6 x1,kL 7 2 0,kI 22 x3,kA 21 #[(Value.int .i64 x2_0),(Value.int .i64 x2_1),(Value.string x2_2),(Sl3.v x2_3)],kS 20 x1,(16,.val (Value.tuple #[(Sl3.v x1),(Value.agg #[(Value.int .i64 x2_0),(Value.int .i64 x2_1),(Value.string x2_2),(Sl3.v x2_3)]),(Value.int .i64 x3)]))] ([some (82,[(Value.int .i64 a1_0),(Value.string a1_1),(Value.bool a1_2),(Sl3.v a1_3),(Value.int .i64 a1_4),(Sl3.v a1_5),(Value.int .i64 a1_6),(Value.int .i64 a1_7),(Value.string a1_8),(Sl3.v a1_9),(Sl3.v a1_10),(Sl3.v a1_11)]),some (56,[(Value.int .i64 0),(Value.int .i64 0),(Value.string (⟨#[]⟩:ByteArray)),(Sl3.v Sl3.nil)]),some (56,[(Value.int .i64 x2_0),(Value.int .i64 x2_1),(Value.string x2_2),(Sl3.v x2_3)])]) (RS.dn (WS.nxt (WS.sq (WS.sq (WS.rg (RS.mS 2 [kB 24 (!decide (x3=0)),kI 23 x3] (RS.dn (WS.nxt ?_)))))))))
 rcases z0 h with ⟨hp,h⟩ | ⟨hp,h⟩
 ·refine WS.fx 24 false (zd hp) (WS.cF (WS.sk (WS.nxt (WS.sq (WS.rg (RS.mS 1 [kS 9 Sl3.nil] (RS.dn (WS.nxt (WS.sq ?_)))))))))
  refine WS.sq (WS.rg (RS.mS 4 [kI 30 0,kI 29 (a1_11.n:Int),kS 28 a1_11,kL 27 0 11] (RS.dn (WS.nxt (WS.bk 0 ?_)))))
  obtain ⟨o,hl,h⟩:=bind_some h
  rcases o with ⟨H18,v9_19,v30_20⟩ | r
  ·try dsimp only at h
   refine WS.lI (z7m (L:=L) (E:=E) (m:=m) (H:=H)) (L.ok hl) 3 ?_
   clear hl
   refine fun a w hs=>bkE ((WS.nxt ?_ a w hs))
   refine WS.sq (WS.sq (WS.rg (RS.mS 4 [kB 49 (decide (a1_0≥11)),kB 48 (decide (a1_0≥11)),kI 47 a1_0,kL 46 0 0] ?_)))
   rcases z0 h with ⟨hp,h⟩ | ⟨hp,h⟩
   ·refine RS.fx 49 true (decide_eq_true hp) (RS.mS 4 [kB 53 (decide (a1_0≤14)),kB 52 (decide (a1_0≤14)),kI 51 a1_0,kL 50 0 0] (RS.dn (WS.nxt ?_)))
    rcases z0 h with ⟨hp,h⟩ | ⟨hp,h⟩
    ·refine WS.fx 53 true (decide_eq_true hp) (WS.cT (WS.sq (WS.sq (WS.rg (RS.mS 3 [kI 56 0,kI 55 (v9_19.n:Int),kS 54 v9_19] (RS.dn (WS.nxt (WS.bk 2 ?_))))))))
     obtain ⟨o,hl,h⟩:=bind_some h
     rcases o with ⟨v56_26,w1_27,w1_28,w1_29,w1_30⟩ | r
     ·try dsimp only at h
      refine WS.lI (z7j (L:=L) (E:=E) (m:=m) (H:=H)) (L.ok hl) 3 ?_
      clear hl
      refine fun a w hs=>bkE ((WS.nxt ?_ a w hs))
      refine WS.sq (WS.rg (RS.mL 3 [kI 5 0,kA 70 #[(Value.int .i64 x2_0),(Value.int .i64 x2_1),(Value.string x2_2),(Sl3.v x2_3)]] ([some (82,[(Value.int .i64 a1_0),(Value.string a1_1),(Value.bool a1_2),(Sl3.v a1_3),(Value.int .i64 a1_4),(Sl3.v a1_5),(Value.int .i64 a1_6),(Value.int .i64 a1_7),(Value.string a1_8),(Sl3.v a1_9),(Sl3.v a1_10),(Sl3.v a1_11)]),some (56,[(Value.int .i64 x2_0),(Value.int .i64 x2_1),(Value.string x2_2),(Sl3.v x2_3)]),some (56,[(Value.int .i64 x2_0),(Value.int .i64 x2_1),(Value.string x2_2),(Sl3.v x2_3)])]) (RS.dn (WS.nxt (WS.rt ?_)))))
      cases h
      exact fun a w hs=>sqR (rtR (rS hs))
     ·try dsimp only at h
      refine WS.lR (z7j (L:=L) (E:=E) (m:=m) (H:=H)) (L.ok hl) 3 ?_
      cases h
      exact fun a w hq=>bkR (sqR (sqR (rtR hq)))
    ·refine WS.fx 53 false (decide_eq_false hp) (WS.cF (WS.sk (WS.nxt (WS.sq (WS.rg (RS.mS 2 [kS 73 v9_19,kA 72 #[(Value.int .i64 a1_0),(Value.string a1_1),(Value.bool a1_2),(Sl3.v a1_3),(Value.int .i64 a1_4),(Sl3.v a1_5),(Value.int .i64 a1_6),(Value.int .i64 a1_7),(Value.string a1_8),(Sl3.v a1_9),(Sl3.v a1_10),(Sl3.v a1_11)]] ?_))))))
     obtain ⟨⟨x31_0,x31_1,x31_2,x31_3,x32,H33⟩,hx,h⟩:=bind_some h
     try dsimp only at h
     refine RS.cl (some 74) (v:=(Value.tuple #[(Value.agg #[(Value.int .i64 x31_0),(Value.int .i64 x31_1),(Value.string x31_2),(Sl3.v x31_3)]),(Value.bool x32)])) 132 #[(Value.agg #[(Value.int .i64 a1_0),(Value.string a1_1),(Value.bool a1_2),(Sl3.v a1_3),(Value.int .i64 a1_4),(Sl3.v a1_5),(Value.int .i64 a1_6),(Value.int .i64 a1_7),(Value.string a1_8),(Sl3.v a1_9),(Sl3.v a1_10),(Sl3.v a1_11)]),(Sl3.v v9_19)] (zra hx) (RS.mL 6 [kB 15 x32,kL 14 3 0,kB 76 x32,kA 75 #[(Value.int .i64 x31_0),(Value.int .i64 x31_1),(Value.string x31_2),(Sl3.v x31_3)],(71,.val (Value.tuple #[(Value.agg #[(Value.int .i64 x31_0),(Value.int .i64 x31_1),(Value.string x31_2),(Sl3.v x31_3)]),(Value.bool x32)]))] ([some (82,[(Value.int .i64 a1_0),(Value.string a1_1),(Value.bool a1_2),(Sl3.v a1_3),(Value.int .i64 a1_4),(Sl3.v a1_5),(Value.int .i64 a1_6),(Value.int .i64 a1_7),(Value.string a1_8),(Sl3.v a1_9),(Sl3.v a1_10),(Sl3.v a1_11)]),some (56,[(Value.int .i64 0),(Value.int .i64 0),(Value.string (⟨#[]⟩:ByteArray)),(Sl3.v Sl3.nil)]),some (56,[(Value.int .i64 x2_0),(Value.int .i64 x2_1),(Value.string x2_2),(Sl3.v x2_3)]),some (56,[(Value.int .i64 x31_0),(Value.int .i64 x31_1),(Value.string x31_2),(Sl3.v x31_3)])]) (RS.dn (WS.nxt (WS.sq (WS.bk 4 (WS.sq (WS.rg (RS.mS 3 [kB 77 (!x32),kB 79 (!x32),kB 78 x32] (RS.dn ?_)))))))))
     refine WS.nxt ?_
     rcases z0 h with ⟨hp,h⟩ | ⟨hp,h⟩
     ·refine WS.fx 77 false (nb_not hp) (WS.cF (WS.sq ?_))
      refine WS.dr [0,1,2,3,4,5,6,7,8,9,10,11,12,13,14,15,16,17,18,19,20] [0,1,3,7,15,31,63,127,15,271,783,1807,4095,8191,16383,32767,65535,131071,262143,524287,1048575,2097151,4194303,8388607,16777215] 25 (fun hcl=>?_)
      refine DA.tL 0 (some 82) (.loc 0 0) (DA.tL 1 (some 83) (.val (Value.int .i64 a1_0)) (DA.tK 2 (some 84) (Value.bool (decide (a1_0=42))) (DA.tK 3 (some 85) (Value.bool (decide (a1_0=42))) ?_)))
      rcases z0 h with ⟨hp,h⟩ | ⟨hp,h⟩
      ·refine DA.fx 85 true (decide_eq_true hp) ?_
       cases h
      ·refine DA.fx 85 false (decide_eq_false hp) ?_
       refine DA.tskipD 4 (some 86) (by kernel_rfl) (by kernel_rfl) (by kernel_rfl) hcl (fun _ _ _ h=>h) (by kernel_rfl) ?_
       refine DA.tskipD 5 (some 87) (by kernel_rfl) (by kernel_rfl) (by kernel_rfl) hcl (fun _ _ _ h=>h) (by kernel_rfl) ?_
       refine DA.tskipD 6 (some 88) (by kernel_rfl) (by kernel_rfl) (by kernel_rfl) hcl (fun _ _ _ h=>h) (by kernel_rfl) ?_
       refine DA.tskipD 7 (some 89) (by kernel_rfl) (by kernel_rfl) (by kernel_rfl) hcl (fun _ _ _ h=>h) (by kernel_rfl) ?_
       refine DA.tskipD 8 (some 90) (by kernel_rfl) (by kernel_rfl) (by kernel_rfl) hcl (fun _ _ _ h=>h) (by kernel_rfl) ?_
       refine DA.tskipD 9 (some 91) (by kernel_rfl) (by kernel_rfl) (by kernel_rfl) hcl (fun _ _ _ h=>h) (by kernel_rfl) ?_
       refine DA.tskipD 10 (some 92) (by kernel_rfl) (by kernel_rfl) (by kernel_rfl) hcl (fun _ _ _ h=>h) (by kernel_rfl) ?_
       refine DA.tskipD 11 (some 93) (by kernel_rfl) (by kernel_rfl) (by kernel_rfl) hcl (fun _ _ _ h=>h) (by kernel_rfl) ?_
       refine DA.tskipD 12 (some 94) (by kernel_rfl) (by kernel_rfl) (by kernel_rfl) hcl (fun _ _ _ h=>h) (by kernel_rfl) ?_
       refine DA.tK 13 (some 95) (Value.bool false) (DA.tK 14 (some 96) (Value.bool false) (DA.tL 15 (some 97) (.loc 3 0) (DA.tL 16 (some 98) (.val (Value.int .i64 x31_0)) (DA.tK 17 (some 99) (Value.bool (decide (x31_0=3))) (DA.tK 18 (some 100) (Value.bool (decide (x31_0=3))) ?_)))))
       rcases z0 h with ⟨hp,h⟩ | ⟨hp,h⟩
       ·refine DA.fx 100 true (decide_eq_true hp) (DA.tL 19 (some 101) (.loc 3 1) (DA.tL 20 (some 102) (.val (Value.int .i64 x31_1)) (DA.tP 21 (some 103) (Value.bool (decide (x31_1 > 4096))) (DA.tP 22 (some 104) (Value.bool (decide (x31_1 > 4096))) (DA.tP 23 (some 105) (Value.bool (decide (x31_1 > 4096))) (DA.tP 24 (some 81) (Value.bool (decide (x31_1 > 4096))) (DA.dn (WS.nxt ?_))))))))
        rcases z0 h with ⟨hp,h⟩ | ⟨hp,h⟩
        ·refine WS.fx 81 true (decide_eq_true hp) (WS.cT ?_)
         cases h
        ·refine WS.fx 81 false (decide_eq_false hp) (WS.cF (WS.sq (WS.rg (RS.mS 2 [kA 109 #[(Value.int .i64 a1_0),(Value.string a1_1),(Value.bool a1_2),(Sl3.v a1_3),(Value.int .i64 a1_4),(Sl3.v a1_5),(Value.int .i64 a1_6),(Value.int .i64 a1_7),(Value.string a1_8),(Sl3.v a1_9),(Sl3.v a1_10),(Sl3.v a1_11)],(108,.val (Value.pointer a0))] ?_))))
         obtain ⟨x34,hx,h⟩:=bind_some h
         refine RS.cl (some 110) (v:=(Value.bool x34)) 133 #[(Value.pointer a0),(Value.agg #[(Value.int .i64 a1_0),(Value.string a1_1),(Value.bool a1_2),(Sl3.v a1_3),(Value.int .i64 a1_4),(Sl3.v a1_5),(Value.int .i64 a1_6),(Value.int .i64 a1_7),(Value.string a1_8),(Sl3.v a1_9),(Sl3.v a1_10),(Sl3.v a1_11)])] (zjt hx) (RS.mS 2 [kB 107 (!x34),kB 111 (!x34)] (RS.dn (WS.nxt ?_)))
         rcases z0 h with ⟨hp,h⟩ | ⟨hp,h⟩
         ·refine WS.fx 107 false (nb_not hp) (WS.cF (WS.sk ?_))
          refine fun a w hs=>bkN ((WS.nxt ?_ a w hs))
          refine WS.sq (WS.rg (RS.mL 3 [kI 5 0,kA 113 #[(Value.int .i64 x31_0),(Value.int .i64 x31_1),(Value.string x31_2),(Sl3.v x31_3)]] ([some (82,[(Value.int .i64 a1_0),(Value.string a1_1),(Value.bool a1_2),(Sl3.v a1_3),(Value.int .i64 a1_4),(Sl3.v a1_5),(Value.int .i64 a1_6),(Value.int .i64 a1_7),(Value.string a1_8),(Sl3.v a1_9),(Sl3.v a1_10),(Sl3.v a1_11)]),some (56,[(Value.int .i64 x31_0),(Value.int .i64 x31_1),(Value.string x31_2),(Sl3.v x31_3)]),some (56,[(Value.int .i64 x2_0),(Value.int .i64 x2_1),(Value.string x2_2),(Sl3.v x2_3)]),some (56,[(Value.int .i64 x31_0),(Value.int .i64 x31_1),(Value.string x31_2),(Sl3.v x31_3)])]) (RS.dn (WS.nxt (WS.rt ?_)))))
          cases h
          exact fun a w hs=>rtR (rS hs)
         ·refine WS.fx 107 true (zb hp) (WS.cT ?_)
          cases h
       ·refine DA.fx 100 false (decide_eq_false hp) ?_
        cases h
     ·refine WS.fx 77 true (zb hp) (WS.cT ?_)
      cases h
   ·refine RS.fx 49 false (decide_eq_false hp) ?_
    cases h
  ·try dsimp only at h
   refine WS.lR (z7m (L:=L) (E:=E) (m:=m) (H:=H)) (L.ok hl) 3 ?_
   cases h
   exact fun a w hq=>bkR (sqR (rtR hq))
 ·refine WS.fx 24 true (z9 hp) (WS.cT (WS.sq (WS.rg (RS.mL 4 [kI 5 x3,kI 26 x3,kA 25 #[(Value.int .i64 x2_0),(Value.int .i64 x2_1),(Value.string x2_2),(Sl3.v x2_3)]] ([some (82,[(Value.int .i64 a1_0),(Value.string a1_1),(Value.bool a1_2),(Sl3.v a1_3),(Value.int .i64 a1_4),(Sl3.v a1_5),(Value.int .i64 a1_6),(Value.int .i64 a1_7),(Value.string a1_8),(Sl3.v a1_9),(Sl3.v a1_10),(Sl3.v a1_11)]),some (56,[(Value.int .i64 x2_0),(Value.int .i64 x2_1),(Value.string x2_2),(Sl3.v x2_3)]),some (56,[(Value.int .i64 x2_0),(Value.int .i64 x2_1),(Value.string x2_2),(Sl3.v x2_3)])]) (RS.dn (WS.nxt (WS.rt ?_)))))))
  cases h
  exact fun a w hs=>sqR (rtR (rS hs))
noncomputable def B212:Code:=(Tryz.f212.body).getD .skip
def zaf:AH→Value
 | _=>(Value.tuple #[])
def zb0 (_:AH):AH→AH:=fun r=>r
noncomputable def z1c (_L:LC) (m:Nat) (H:AH) (a0:Option Addr):Option AH :=
 Option.bind a0 fun q1 =>
 Option.bind (rd deP H (Addr.add q1 0)) fun x2 =>
 match x2 with
 | none =>
  Option.bind (gOp Tryz.prog m (opsOf (cfst (csnd B212))) 2 [(8,.val (Value.pointer (some q1)))] deP H) fun (x7,H8) =>
  Option.bind x7 fun q9 =>
  Option.bind (gOp Tryz.prog m (opsOf (cfst (csnd B212))) 4 [(10,.val (Value.pointer (some q9)))] deP H8) fun (x10,H11) =>
  Option.bind (H11.setCell m (Addr.add q1 0) (Value.pointer x10)) fun H12 =>
  some H12
 | some _ =>
  Option.bind (rd deP H (Addr.add q1 0)) fun x4 =>
  match x4 with
  | none =>
   none
  | some q5 =>
   Option.bind (gOp1 Tryz.prog (opsOf (cfst (csnd (csnd B212)))) 5 [(17,.val (Value.pointer (some q5))),(18,.val (Value.pointer (some q1)))] deB H) fun x6 =>
   if x6=true then
    none
   else
    some H
theorem z43 {L:LC} {m:Nat} {H:AH} {a0:Option Addr} {r:AH} (h:z1c L m H a0=some r) :
  CallS Tryz.prog (NE.plain 258) m 212 #[(Value.pointer a0)] H (zaf r) (zb0 H r):=by
 refine CallS.mk (args:=[(Value.pointer a0)]) Tryz.func212 (B:=B212) (by kernel_rfl) (fun E _=>?_)
 unfold z1c at h
 refine WS.sq (WS.rg (RS.mS 1 [(2,.val (Value.pointer a0))] ?_))
 obtain ⟨q1,hx,hq1⟩:=bind_some h
 subst hx
 have h:=hq1
 refine RS.mS 2 [(4,.val (Value.pointer (some (Addr.add q1 0)))),kP 3 q1] ?_
 obtain ⟨x2,hx,h⟩:=bind_some h
 refine RS.ld 5 210 (.tmp 4) (z1 hx zu) ?_
 rcases x2 with _ | q3
 ·try dsimp only at h
  refine RS.mS 1 [kB 6 true] (RS.dn (WS.nxt (WS.cT (WS.rg (RS.mS 2 [kP 8 q1,kP 7 q1] ?_)))))
  obtain ⟨⟨x7,H8⟩,hx,h⟩:=bind_some h
  try dsimp only at h
  refine RS.o (H':=H8) (some 9) (Value.pointer x7) (zid hx zu (by kernel_rfl)) ?_
  obtain ⟨q9,hx,hq9⟩:=bind_some h
  subst hx
  have h:=hq9
  refine RS.esc (H':=H8) (some 10) (Value.pointer (some q9)) (by kernel_rfl) (by kernel_rfl) (by kernel_rfl) (by kernel_rfl) ?_
  obtain ⟨⟨x10,H11⟩,hx,h⟩:=bind_some h
  try dsimp only at h
  refine RS.o (H':=H11) (some 11) (Value.pointer x10) (zid hx zu (by kernel_rfl)) (RS.mS 2 [(13,.val (Value.pointer (some (Addr.add q1 0)))),kP 12 q1] ?_)
  obtain ⟨H12,hx,h⟩:=bind_some h
  refine RS.o (H':=H12) none undef (Abs.run_store1 (t:=210) (x:=.tmp 13) (y:=.tmp 11) (a:=(Addr.add q1 0)) (v:=(Value.pointer x10)) (by kernel_rfl) (by kernel_rfl) (by kernel_rfl) (by kernel_rfl) (by kernel_rfl) hx) (RS.dn ?_)
  cases h
  exact fun a w hs=>rtN (rS hs)
 ·try dsimp only at h
  refine RS.mS 1 [kB 6 false] (RS.dn (WS.nxt (WS.cF (WS.sq (WS.rg (RS.mS 3 [(16,.val (Value.pointer (some (Addr.add q1 0)))),kP 15 q1,kP 14 q1] ?_))))))
  obtain ⟨x4,hx,h⟩:=bind_some h
  refine RS.ld 17 210 (.tmp 16) (z1 hx zu) (RS.mS 1 [kP 18 q1] ?_)
  rcases x4 with _ | q5
  ·try dsimp only at h
   cases h
  ·try dsimp only at h
   obtain ⟨x6,hx,h⟩:=bind_some h
   refine RS.o (H':=H) (some 19) (Value.bool x6) (zt2 hx zaz (by kernel_rfl) (by kernel_rfl)) (RS.dn (WS.nxt ?_))
   rcases z0 h with ⟨hp,h⟩ | ⟨hp,h⟩
   ·refine WS.fx 19 true hp (WS.cT ?_)
    cases h
   ·refine WS.fx 19 false (b_not hp) (WS.cF (WS.sk ?_))
    cases h
    exact fun a w hs=>rtN (rS hs)
noncomputable def B135:Code:=(Tryz.f135.body).getD .skip
def z92:(Int×Value×AH)→Value
 | (r0,r1,_)=>(Value.tuple #[(Value.int .i64 r0),r1])
def z99 (_:AH):(Int×Value×AH)→AH:=fun r=>r.2.2
noncomputable def z25 (L:LC) (m:Nat) (H:AH) (a0:Option Addr) (a1:ByteArray):Option (Int×Value×AH) :=
 Option.bind (z1c L m H a0) fun H1 =>
 Option.bind a0 fun q2 =>
 Option.bind (rd deSl H1 (Addr.add q2 1)) fun x3 =>
 Option.bind (gOp Tryz.prog m (opsOf (cfst (csnd (csnd B135)))) 6 [(12,.val (Sl3.v x3)),(13,.val (Value.string a1))] deSl H1) fun (x4,H5) =>
 Option.bind (H5.setCell m (Addr.add q2 1) (Sl3.v x4)) fun H6 =>
 some ((a1.size:Int),Value.nilIface,H6)
theorem z9y {L:LC} {m:Nat} {H:AH} {a0:Option Addr} {a1:ByteArray} {r:(Int×Value×AH)} (h:z25 L m H a0 a1=some r) :
  CallS Tryz.prog (NE.plain 258) m 135 #[(Value.pointer a0),(Value.string a1)] H (z92 r) (z99 H r):=by
 refine CallS.mk (args:=[(Value.pointer a0),(Value.string a1)]) Tryz.func135 (B:=B135) (by kernel_rfl) (fun E _=>?_)
 unfold z25 at h
 refine WS.sq (WS.rg (RS.mS 2 [(5,.val Value.nilIface),kI 4 0] (RS.dn (WS.nxt (WS.sq (WS.rg (RS.mS 1 [(6,.val (Value.pointer a0))] ?_)))))))
 obtain ⟨H1,hx,h⟩:=bind_some h
 refine RS.cl (some 7) (v:=(Value.tuple #[])) 212 #[(Value.pointer a0)] (z43 hx) (RS.dn (WS.nxt (WS.sq (WS.rg (RS.mS 2 [(9,.val (Value.pointer a0)),(8,.val (Value.pointer a0))] ?_)))))
 obtain ⟨q2,hx,hq2⟩:=bind_some h
 subst hx
 have h:=hq2
 refine RS.mS 2 [(11,.val (Value.pointer (some (Addr.add q2 1)))),kP 10 q2] ?_
 obtain ⟨x3,hx,h⟩:=bind_some h
 refine RS.ld 12 211 (.tmp 11) (z1 hx z3) (RS.mS 1 [kT 13 a1] ?_)
 obtain ⟨⟨x4,H5⟩,hx,h⟩:=bind_some h
 try dsimp only at h
 refine RS.o (H':=H5) (some 14) (Sl3.v x4) (zid hx z3 (by kernel_rfl)) (RS.mS 2 [(16,.val (Value.pointer (some (Addr.add q2 1)))),kP 15 q2] ?_)
 obtain ⟨H6,hx,h⟩:=bind_some h
 refine RS.o (H':=H6) none undef (Abs.run_store1 (t:=211) (x:=.tmp 16) (y:=.tmp 14) (a:=(Addr.add q2 1)) (v:=(Sl3.v x4)) (by kernel_rfl) (by kernel_rfl) (by kernel_rfl) (by kernel_rfl) (by kernel_rfl) hx) (RS.dn (WS.nxt (WS.sq (WS.rg (RS.mS 4 [(5,.val Value.nilIface),kI 4 (a1.size:Int),kI 18 (a1.size:Int),kT 17 a1] (RS.dn (WS.nxt (WS.rt ?_))))))))
 cases h
 exact fun a w hs=>rtR (rS hs)
end Go.Proofs.YtkecibinbgaedaaGreatDoor
namespace Go.Proofs.YtkecibinbgaedaaGreatDoor
open Go Go.Abs
set_option maxRecDepth 100000
noncomputable def B260:Code:=(Tryz.f260.body).getD .skip
def znc:ByteArray→Value
 | r0=>(Value.string r0)
def zp9 (H:AH):ByteArray→AH:=fun _=>H
noncomputable def zcl (_L:LC) (a0:Int):Option ByteArray :=
 if a0<10 then
  Option.bind (strC (⟨#[48,49,50,51,52,53,54,55,56,57,97,98,99,100,101,102,103,104,105,106,107,108,109,110,111,112,113,114,115,116,117,118,119,120,121,122]⟩:ByteArray) (some a0) (some (IntKind.i64.wrap (a0+1)))) fun s1 =>
  some s1
 else
  Option.bind (strC (⟨#[48,48,48,49,48,50,48,51,48,52,48,53,48,54,48,55,48,56,48,57,49,48,49,49,49,50,49,51,49,52,49,53,49,54,49,55,49,56,49,57,50,48,50,49,50,50,50,51,50,52,50,53,50,54,50,55,50,56,50,57,51,48,51,49,51,50,51,51,51,52,51,53,51,54,51,55,51,56,51,57,52,48,52,49,52,50,52,51,52,52,52,53,52,54,52,55,52,56,52,57,53,48,53,49,53,50,53,51,53,52,53,53,53,54,53,55,53,56,53,57,54,48,54,49,54,50,54,51,54,52,54,53,54,54,54,55,54,56,54,57,55,48,55,49,55,50,55,51,55,52,55,53,55,54,55,55,55,56,55,57,56,48,56,49,56,50,56,51,56,52,56,53,56,54,56,55,56,56,56,57,57,48,57,49,57,50,57,51,57,52,57,53,57,54,57,55,57,56,57,57]⟩:ByteArray) (some (IntKind.i64.wrap (a0*2))) (some (IntKind.i64.wrap ((IntKind.i64.wrap (a0*2))+2)))) fun s2 =>
  some s2
theorem zom {L:LC} {m:Nat} {H:AH} {a0:Int} {r:ByteArray} (h:zcl L a0=some r) :
  CallS Tryz.prog (NE.plain 258) m 260 #[(Value.int .i64 a0)] H (znc r) (zp9 H r):=by
 refine CallS.mk (args:=[(Value.int .i64 a0)]) Tryz.func260 (B:=B260) (by kernel_rfl) (fun E _=>?_)
 unfold zcl at h
 refine WS.sq (WS.rg (RS.mS 1 [kT 2 (⟨#[]⟩:ByteArray)] (RS.dn (WS.nxt (WS.sq (WS.sq (WS.rg (RS.mS 2 [kB 4 (decide (a0<10)),kI 3 a0] (RS.dn ?_)))))))))
 refine WS.nxt ?_
 rcases z0 h with ⟨hp,h⟩ | ⟨hp,h⟩
 ·refine WS.fx 4 true (decide_eq_true hp) (WS.cT (WS.sq (WS.rg (RS.mS 3 [kI 7 (IntKind.i64.wrap (a0+1)),kI 6 a0,kI 5 a0] ?_))))
  obtain ⟨s1,hx,h⟩:=bind_some h
  refine RS.o (H':=H) (some 8) (Value.string s1) (Abs.run_strC (t:=9) (x:=.const (Value.string (⟨#[48,49,50,51,52,53,54,55,56,57,97,98,99,100,101,102,103,104,105,106,107,108,109,110,111,112,113,114,115,116,117,118,119,120,121,122]⟩:ByteArray))) (lo:=(some (.tmp 5))) (hi:=(some (.tmp 7))) (s:=(⟨#[48,49,50,51,52,53,54,55,56,57,97,98,99,100,101,102,103,104,105,106,107,108,109,110,111,112,113,114,115,116,117,118,119,120,121,122]⟩:ByteArray)) (k1:=.i64) (k2:=.i64) (by kernel_rfl) (by kernel_rfl) (by kernel_rfl) (by kernel_rfl) (by kernel_rfl) hx) (RS.mS 1 [kT 2 s1] (RS.dn (WS.nxt (WS.rt ?_))))
  cases h
  exact fun a w hs=>sqR (rtR (rS hs))
 ·refine WS.fx 4 false (decide_eq_false hp) (WS.cF (WS.sk (WS.nxt (WS.sq (WS.rg (RS.mS 5 [kI 13 (IntKind.i64.wrap ((IntKind.i64.wrap (a0*2))+2)),kI 12 (IntKind.i64.wrap (a0*2)),kI 11 a0,kI 10 (IntKind.i64.wrap (a0*2)),kI 9 a0] ?_))))))
  obtain ⟨s2,hx,h⟩:=bind_some h
  refine RS.o (H':=H) (some 14) (Value.string s2) (Abs.run_strC (t:=9) (x:=.const (Value.string (⟨#[48,48,48,49,48,50,48,51,48,52,48,53,48,54,48,55,48,56,48,57,49,48,49,49,49,50,49,51,49,52,49,53,49,54,49,55,49,56,49,57,50,48,50,49,50,50,50,51,50,52,50,53,50,54,50,55,50,56,50,57,51,48,51,49,51,50,51,51,51,52,51,53,51,54,51,55,51,56,51,57,52,48,52,49,52,50,52,51,52,52,52,53,52,54,52,55,52,56,52,57,53,48,53,49,53,50,53,51,53,52,53,53,53,54,53,55,53,56,53,57,54,48,54,49,54,50,54,51,54,52,54,53,54,54,54,55,54,56,54,57,55,48,55,49,55,50,55,51,55,52,55,53,55,54,55,55,55,56,55,57,56,48,56,49,56,50,56,51,56,52,56,53,56,54,56,55,56,56,56,57,57,48,57,49,57,50,57,51,57,52,57,53,57,54,57,55,57,56,57,57]⟩:ByteArray))) (lo:=(some (.tmp 10))) (hi:=(some (.tmp 13))) (s:=(⟨#[48,48,48,49,48,50,48,51,48,52,48,53,48,54,48,55,48,56,48,57,49,48,49,49,49,50,49,51,49,52,49,53,49,54,49,55,49,56,49,57,50,48,50,49,50,50,50,51,50,52,50,53,50,54,50,55,50,56,50,57,51,48,51,49,51,50,51,51,51,52,51,53,51,54,51,55,51,56,51,57,52,48,52,49,52,50,52,51,52,52,52,53,52,54,52,55,52,56,52,57,53,48,53,49,53,50,53,51,53,52,53,53,53,54,53,55,53,56,53,57,54,48,54,49,54,50,54,51,54,52,54,53,54,54,54,55,54,56,54,57,55,48,55,49,55,50,55,51,55,52,55,53,55,54,55,55,55,56,55,57,56,48,56,49,56,50,56,51,56,52,56,53,56,54,56,55,56,56,56,57,57,48,57,49,57,50,57,51,57,52,57,53,57,54,57,55,57,56,57,57]⟩:ByteArray)) (k1:=.i64) (k2:=.i64) (by kernel_rfl) (by kernel_rfl) (by kernel_rfl) (by kernel_rfl) (by kernel_rfl) hx) (RS.mS 1 [kT 2 s2] (RS.dn (WS.nxt (WS.rt ?_))))
  cases h
  exact fun a w hs=>rtR (rS hs)
noncomputable def B259:Code:=(Tryz.f259.body).getD .skip
def zht:(ByteArray×AH)→Value
 | (r0,_)=>(Value.string r0)
def zjf (_:AH):(ByteArray×AH)→AH:=fun r=>r.2
noncomputable def z71 (L:LC) (_m:Nat) (H:AH) (a0 a1:Int):Option (ByteArray×AH) :=
 if a1=10 then
  if 0≤a0 then
   if a0<100 then
    Option.bind (zcl L a0) fun x1 =>
    some (x1,H)
   else
    none
  else
   none
 else
  none
theorem zke {L:LC} {m:Nat} {H:AH} {a0 a1:Int} {r:(ByteArray×AH)} (h:z71 L m H a0 a1=some r) :
  CallS Tryz.prog (NE.plain 258) m 259 #[(Value.int .i64 a0),(Value.int .i64 a1)] H (zht r) (zjf H r):=by
 refine CallS.mk (args:=[(Value.int .i64 a0),(Value.int .i64 a1)]) Tryz.func259 (B:=B259) (by kernel_rfl) (fun E _=>?_)
 unfold z71 at h
 refine WS.sq (WS.rg (RS.mS 1 [kT 4 (⟨#[]⟩:ByteArray)] (RS.dn (WS.nxt (WS.sq (WS.sq (WS.rg (RS.mS 2 [kB 11 (decide (a1=10)),kI 10 a1] (RS.dn ?_)))))))))
 refine WS.nxt ?_
 rcases z0 h with ⟨hp,h⟩ | ⟨hp,h⟩
 ·refine WS.fx 11 true (decide_eq_true hp) (WS.cT (WS.sq (WS.sq (WS.rg (RS.mS 3 [kB 14 (decide (0≤a0)),kB 13 (decide (0≤a0)),kI 12 a0] ?_)))))
  rcases z0 h with ⟨hp,h⟩ | ⟨hp,h⟩
  ·refine RS.fx 14 true (decide_eq_true hp) (RS.mS 3 [kB 17 (decide (a0<100)),kB 16 (decide (a0<100)),kI 15 a0] (RS.dn (WS.nxt ?_)))
   rcases z0 h with ⟨hp,h⟩ | ⟨hp,h⟩
   ·refine WS.fx 17 true (decide_eq_true hp) (WS.cT (WS.sq (WS.rg (RS.mS 1 [kI 18 a0] ?_))))
    obtain ⟨x1,hx,h⟩:=bind_some h
    refine RS.cl (some 19) (v:=(Value.string x1)) 260 #[(Value.int .i64 a0)] (zom hx) (RS.mS 1 [kT 4 x1] (RS.dn (WS.nxt (WS.rt ?_))))
    cases h
    exact fun a w hs=>sqR (sqR (rtR (rS hs)))
   ·refine WS.fx 17 false (decide_eq_false hp) (WS.cF ?_)
    cases h
  ·refine RS.fx 14 false (decide_eq_false hp) ?_
   cases h
 ·refine WS.fx 11 false (decide_eq_false hp) (WS.cF ?_)
  cases h
noncomputable def B213:Code:=(Tryz.f213.body).getD .skip
def zjs:(ByteArray×AH)→Value
 | (r0,_)=>(Value.string r0)
def zll (_:AH):(ByteArray×AH)→AH:=fun r=>r.2
noncomputable def z8e (L:LC) (m:Nat) (H:AH) (a0:Int):Option (ByteArray×AH) :=
 Option.bind (z71 L m H a0 10) fun (x1,H2) =>
 some (x1,H2)
theorem zl2 {L:LC} {m:Nat} {H:AH} {a0:Int} {r:(ByteArray×AH)} (h:z8e L m H a0=some r) :
  CallS Tryz.prog (NE.plain 258) m 213 #[(Value.int .i64 a0)] H (zjs r) (zll H r):=by
 refine CallS.mk (args:=[(Value.int .i64 a0)]) Tryz.func213 (B:=B213) (by kernel_rfl) (fun E _=>?_)
 unfold z8e at h
 refine WS.sq (WS.rg (RS.mS 1 [kT 2 (⟨#[]⟩:ByteArray)] (RS.dn (WS.nxt (WS.sq (WS.rg (RS.mS 1 [kI 3 a0] ?_)))))))
 obtain ⟨⟨x1,H2⟩,hx,h⟩:=bind_some h
 try dsimp only at h
 refine RS.cl (some 4) (v:=(Value.string x1)) 259 #[(Value.int .i64 a0),(Value.int .i64 10)] (zke hx) (RS.mS 1 [kT 2 x1] (RS.dn (WS.nxt (WS.rt ?_))))
 cases h
 exact fun a w hs=>rtR (rS hs)
noncomputable def B136:Code:=(Tryz.f136.body).getD .skip
def zoi:(ByteArray×AH)→Value
 | (r0,_)=>(Value.string r0)
def zpd (_:AH):(ByteArray×AH)→AH:=fun r=>r.2
noncomputable def zf1 (L:LC) (m:Nat) (H:AH) (a0:Int):Option (ByteArray×AH) :=
 Option.bind (z8e L m H a0) fun (x1,H2) =>
 some (x1,H2)
theorem zps {L:LC} {m:Nat} {H:AH} {a0:Int} {r:(ByteArray×AH)} (h:zf1 L m H a0=some r) :
  CallS Tryz.prog (NE.plain 258) m 136 #[(Value.int .i64 a0)] H (zoi r) (zpd H r):=by
 refine CallS.mk (args:=[(Value.int .i64 a0)]) Tryz.func136 (B:=B136) (by kernel_rfl) (fun E _=>?_)
 unfold zf1 at h
 refine WS.sq (WS.rg (RS.mS 1 [kT 2 (⟨#[]⟩:ByteArray)] (RS.dn (WS.nxt (WS.sq (WS.rg (RS.mS 1 [kI 3 a0] ?_)))))))
 obtain ⟨⟨x1,H2⟩,hx,h⟩:=bind_some h
 try dsimp only at h
 refine RS.cl (some 4) (v:=(Value.string x1)) 213 #[(Value.int .i64 a0)] (zl2 hx) (RS.mS 1 [kT 2 x1] (RS.dn (WS.nxt (WS.rt ?_))))
 cases h
 exact fun a w hs=>rtR (rS hs)
noncomputable def B137:Code:=(Tryz.f137.body).getD .skip
def zae:(Value×AH)→Value
 | (r0,_)=>r0
def zbe (_:AH):(Value×AH)→AH:=fun r=>r.2
noncomputable def z2o (L:LC) (m:Nat) (H:AH) (a0:Option Addr) (a1:Int):Option (Value×AH) :=
 Option.bind (z1c L m H a0) fun H1 =>
 Option.bind a0 fun q2 =>
 Option.bind (rd deSl H1 (Addr.add q2 1)) fun x3 =>
 Option.bind (newR 5 1 #[(Value.int .u8 a1)] H1) fun (s4,H5) =>
 Option.bind (appS m 5 1 1 H5 x3 s4) fun (s6,H7) =>
 Option.bind (H7.setCell m (Addr.add q2 1) (Sl3.v s6)) fun H8 =>
 some (Value.nilIface,H8)
theorem zb8 {L:LC} {m:Nat} {H:AH} {a0:Option Addr} {a1:Int} {r:(Value×AH)} (h:z2o L m H a0 a1=some r) :
  CallS Tryz.prog (NE.plain 258) m 137 #[(Value.pointer a0),(Value.int .u8 a1)] H (zae r) (zbe H r):=by
 refine CallS.mk (args:=[(Value.pointer a0),(Value.int .u8 a1)]) Tryz.func137 (B:=B137) (by kernel_rfl) (fun E _=>?_)
 unfold z2o at h
 refine WS.sq (WS.rg (RS.mS 1 [(4,.val Value.nilIface)] (RS.dn (WS.nxt (WS.sq (WS.rg (RS.mS 1 [(5,.val (Value.pointer a0))] ?_)))))))
 obtain ⟨H1,hx,h⟩:=bind_some h
 refine RS.cl (some 6) (v:=(Value.tuple #[])) 212 #[(Value.pointer a0)] (z43 hx) (RS.dn (WS.nxt (WS.sq (WS.rg (RS.mS 2 [(8,.val (Value.pointer a0)),(7,.val (Value.pointer a0))] ?_)))))
 obtain ⟨q2,hx,hq2⟩:=bind_some h
 subst hx
 have h:=hq2
 refine RS.mS 2 [(10,.val (Value.pointer (some (Addr.add q2 1)))),kP 9 q2] ?_
 obtain ⟨x3,hx,h⟩:=bind_some h
 refine RS.ld 11 211 (.tmp 10) (z1 hx z3) (RS.mS 1 [(12,.val (Value.int .u8 a1))] ?_)
 obtain ⟨⟨s4,H5⟩,hx,h⟩:=bind_some h
 try dsimp only at h
 refine RS.o (H':=H5) (some 13) (Sl3.v s4) (Abs.run_newR (by kernel_rfl) (by kernel_rfl) hx) ?_
 obtain ⟨⟨s6,H7⟩,hx,h⟩:=bind_some h
 try dsimp only at h
 refine RS.o (H':=H7) (some 14) (Sl3.v s6) (Abs.run_app (x:=.tmp 11) (y:=.tmp 13) (ts:=#[211,211]) (s:=x3) (z:=s4) (by kernel_rfl) (by kernel_rfl) (by kernel_rfl) (by kernel_rfl) hx) (RS.mS 2 [(16,.val (Value.pointer (some (Addr.add q2 1)))),kP 15 q2] ?_)
 obtain ⟨H8,hx,h⟩:=bind_some h
 refine RS.o (H':=H8) none undef (Abs.run_store1 (t:=211) (x:=.tmp 16) (y:=.tmp 14) (a:=(Addr.add q2 1)) (v:=(Sl3.v s6)) (by kernel_rfl) (by kernel_rfl) (by kernel_rfl) (by kernel_rfl) (by kernel_rfl) hx) (RS.dn (WS.nxt (WS.sq (WS.rg (RS.mS 1 [(4,.val Value.nilIface)] (RS.dn (WS.nxt (WS.rt ?_))))))))
 cases h
 exact fun a w hs=>rtR (rS hs)
noncomputable def B134:Code:=(Tryz.f134.body).getD .skip
def zqn:AH→Value
 | _=>(Value.tuple #[])
def zs9 (_:AH):AH→AH:=fun r=>r
noncomputable def zdy (L:LC) (m:Nat) (H:AH) (a0:Int) (a1:Option Addr):Option AH :=
 Option.bind (zf1 L m H a0) fun (x1,H2) =>
 Option.bind (z25 L m H2 a1 x1) fun (_,_,H5) =>
 Option.bind (z2o L m H5 a1 32) fun (_,H7) =>
 some H7
theorem zkv {L:LC} {m:Nat} {H:AH} {a0:Int} {a1:Option Addr} {r:AH} (h:zdy L m H a0 a1=some r) :
  CallS Tryz.prog (NE.plain 258) m 134 #[(Value.int .i64 a0),(Value.pointer a1)] H (zqn r) (zs9 H r):=by
 refine CallS.mk (args:=[(Value.int .i64 a0),(Value.pointer a1)]) Tryz.func134 (B:=B134) (by kernel_rfl) (fun E _=>?_)
 unfold zdy at h
 refine WS.sq (WS.rg (RS.mS 1 [kI 3 a0] ?_))
 obtain ⟨⟨x1,H2⟩,hx,h⟩:=bind_some h
 try dsimp only at h
 refine RS.cl (some 4) (v:=(Value.string x1)) 136 #[(Value.int .i64 a0)] (zps hx) ?_
 obtain ⟨⟨x3,x4,H5⟩,hx,h⟩:=bind_some h
 try dsimp only at h
 refine RS.cl (some 5) (v:=(Value.tuple #[(Value.int .i64 x3),x4])) 135 #[(Value.pointer a1),(Value.string x1)] (z9y hx) (RS.dn (WS.nxt (WS.rg ?_)))
 obtain ⟨⟨x6,H7⟩,hx,h⟩:=bind_some h
 try dsimp only at h
 refine RS.cl (some 6) (v:=x6) 137 #[(Value.pointer a1),(Value.int .u8 32)] (zb8 hx) (RS.dn ?_)
 cases h
 exact fun a w hs=>rtN (rS hs)
noncomputable def B141:Code:=(Tryz.f141.body).getD .skip
def zcq:(ByteArray×AH)→Value
 | (r0,_)=>(Value.string r0)
def ze2 (_:AH):(ByteArray×AH)→AH:=fun r=>r.2
noncomputable def z3m (_L:LC) (m:Nat) (H:AH) (a0:Option Addr):Option (ByteArray×AH) :=
 Option.bind a0 fun q1 =>
 Option.bind (rd deSl H (Addr.add q1 1)) fun x2 =>
 Option.bind (rd deSl H (Addr.add q1 1)) fun x3 =>
 Option.bind (gOp1 Tryz.prog (opsOf (cfst (csnd B141))) 4 [(6,.val (Sl3.v x2))] deP H) fun x4 =>
 Option.bind (gOp Tryz.prog m (opsOf (cfst (csnd B141))) 10 [(7,.val (Value.pointer x4)),(12,.val (Value.int .i64 (x3.n:Int)))] deS H) fun (x5,H6) =>
 some (x5,H6)
theorem z55 {L:LC} {m:Nat} {H:AH} {a0:Option Addr} {r:(ByteArray×AH)} (h:z3m L m H a0=some r) :
  CallS Tryz.prog (NE.plain 258) m 141 #[(Value.pointer a0)] H (zcq r) (ze2 H r):=by
 refine CallS.mk (args:=[(Value.pointer a0)]) Tryz.func141 (B:=B141) (by kernel_rfl) (fun E _=>?_)
 unfold z3m at h
 refine WS.sq (WS.rg (RS.mS 1 [kT 2 (⟨#[]⟩:ByteArray)] (RS.dn (WS.nxt (WS.sq ?_)))))
 refine WS.dr [0,1,2,3,5,6,7,8] [0,1,3,7,15,0,32,96,224,480,1023,2047] 12 (fun hcl=>?_)
 refine DA.tK 0 (some 3) (Value.pointer a0) ?_
 obtain ⟨q1,hx,hq1⟩:=bind_some h
 subst hx
 have h:=hq1
 refine DA.tK 1 (some 4) (Value.pointer (some q1)) (DA.tK 2 (some 5) (Value.pointer (some (Addr.add q1 1))) ?_)
 obtain ⟨x2,hx,h⟩:=bind_some h
 refine DA.tD 3 (some 6) (Sl3.v x2) (Abs.det_load (t:=211) (x:=.tmp 5) (a:=(Addr.add q1 1)) (by kernel_rfl) (by kernel_rfl) (by kernel_rfl) (by kernel_rfl) (z1 hx z3)) (DA.tK 5 (some 8) (Value.pointer (some q1)) (DA.tK 6 (some 9) (Value.pointer (some q1)) (DA.tK 7 (some 10) (Value.pointer (some (Addr.add q1 1))) ?_)))
 obtain ⟨x3,hx,h⟩:=bind_some h
 refine DA.tD 8 (some 11) (Sl3.v x3) (Abs.det_load (t:=211) (x:=.tmp 10) (a:=(Addr.add q1 1)) (by kernel_rfl) (by kernel_rfl) (by kernel_rfl) (by kernel_rfl) (z1 hx z3)) (DA.restart [0,1,2,3,5,6,7,8,9] (by kernel_rfl) (DA.tK 9 (some 12) (Value.int .i64 (x3.n:Int)) ?_))
 obtain ⟨x4,hx,h⟩:=bind_some h
 refine DA.on 4 (DA.aHj (H':=H) 4 (some 7) false (Value.pointer x4) (zt2 hx zu (by kernel_rfl) (by kernel_rfl)) ?_)
 obtain ⟨⟨x5,H6⟩,hx,h⟩:=bind_some h
 try dsimp only at h
 refine DA.on 10 (DA.aH (H':=H6) 10 (some 13) (Value.string x5) (zid hx za (by kernel_rfl)) (DA.tP 11 (some 2) (Value.string x5) (DA.dn (WS.nxt (WS.rt ?_)))))
 cases h
 exact fun a w hs=>rtR (rS hs)
noncomputable def B76:Code:=(Tryz.f76.body).getD .skip
def zeg:(ByteArray×AH)→Value
 | (r0,_)=>(Value.string r0)
def zh5 (_:AH):(ByteArray×AH)→AH:=fun r=>r.2
noncomputable def zgw (L:LC) (m:Nat) (_a0_0:Int) (_a0_1:ByteArray) (_a0_2:Bool) (_a0_3:Sl3) (_a0_4:Int) (_a0_5:Sl3) (_a0_6 _a0_7:Int) (_a0_8:ByteArray) (_a0_9 _a0_10 a0_11:Sl3) (p1:Addr):(AH×Int)→Option (Lp (AH×Int) (ByteArray×AH)):=fun (H4,v23_5) =>
 if v23_5<(a0_11.n:Int) then
  Option.bind (idxA 1 a0_11 v23_5) fun p6 =>
  Option.bind (rd (deI .i64) H4 p6) fun x7 =>
  Option.bind (zdy L m H4 x7 (some p1)) fun H8 =>
  some (.next (H8,(IntKind.i64.wrap (v23_5+1))))
 else
  some (.brk (H4,v23_5))
def zrc (_L:LC) (_m:Nat) (a0_0:Int) (a0_1:ByteArray) (a0_2:Bool) (a0_3:Sl3) (a0_4:Int) (a0_5:Sl3) (a0_6 a0_7:Int) (a0_8:ByteArray) (a0_9 a0_10 a0_11:Sl3) (p1:Addr):(AH×Int)→KN×Lcs:=fun (_,v23_5)=>([kI 23 v23_5,kL 1 0 0,kP 3 p1,(4,.val (Value.func (.func 134) #[] #[(Value.pointer (some p1))])),kS 21 a0_11,kI 22 (a0_11.n:Int)],[some (82,[(Value.int .i64 a0_0),(Value.string a0_1),(Value.bool a0_2),(Sl3.v a0_3),(Value.int .i64 a0_4),(Sl3.v a0_5),(Value.int .i64 a0_6),(Value.int .i64 a0_7),(Value.string a0_8),(Sl3.v a0_9),(Sl3.v a0_10),(Sl3.v a0_11)])])
noncomputable def zh0 (_L:LC) (_a0_0:Int) (_a0_1:ByteArray) (_a0_2:Bool) (_a0_3:Sl3) (_a0_4:Int) (_a0_5:Sl3) (_a0_6 _a0_7:Int) (_a0_8:ByteArray) (_a0_9 a0_10 _a0_11:Sl3) (_p1:Addr):(AH×Int)→Option (Lp (AH×Int) (ByteArray×AH)):=fun (H11,v34_12) =>
 if v34_12<(a0_10.n:Int) then
  none
 else
  some (.brk (H11,v34_12))
def zqh (_L:LC) (a0_0:Int) (a0_1:ByteArray) (a0_2:Bool) (a0_3:Sl3) (a0_4:Int) (a0_5:Sl3) (a0_6 a0_7:Int) (a0_8:ByteArray) (a0_9 a0_10 a0_11:Sl3) (p1:Addr):(AH×Int)→KN×Lcs:=fun (_,v34_12)=>([kI 34 v34_12,kL 1 0 0,kP 3 p1,(4,.val (Value.func (.func 134) #[] #[(Value.pointer (some p1))])),kS 32 a0_10,kI 33 (a0_10.n:Int)],[some (82,[(Value.int .i64 a0_0),(Value.string a0_1),(Value.bool a0_2),(Sl3.v a0_3),(Value.int .i64 a0_4),(Sl3.v a0_5),(Value.int .i64 a0_6),(Value.int .i64 a0_7),(Value.string a0_8),(Sl3.v a0_9),(Sl3.v a0_10),(Sl3.v a0_11)])])
noncomputable def zp7 (L:LC) (m:Nat) (H:AH) (a0_0:Int) (a0_1:ByteArray) (a0_2:Bool) (a0_3:Sl3) (a0_4:Int) (a0_5:Sl3) (a0_6 a0_7:Int) (a0_8:ByteArray) (a0_9 a0_10 a0_11:Sl3):Option (ByteArray×AH) :=
 Option.bind (newB 213 [(Value.pointer none),(Sl3.v Sl3.nil)] H) fun (p1,H2) =>
 Option.bind (zdy L m H2 a0_0 (some p1)) fun H3 =>
 Option.bind (L.run (zgw L m a0_0 a0_1 a0_2 a0_3 a0_4 a0_5 a0_6 a0_7 a0_8 a0_9 a0_10 a0_11 p1) (H3,0)) fun o=>match o with
 | .inl (H9,_) =>
  Option.bind (L.run (zh0 L a0_0 a0_1 a0_2 a0_3 a0_4 a0_5 a0_6 a0_7 a0_8 a0_9 a0_10 a0_11 p1) (H9,0)) fun o=>match o with
  | .inl (H13,_) =>
   if a0_0=20 then
    none
   else
    if a0_0=40 then
     none
    else
     if a0_0=34 then
      none
     else
      Option.bind (z3m L m H13 (some p1)) fun (x15,H16) =>
      Option.bind (strcat x15 a0_1) fun s17 =>
      some (s17,H16)
  | .inr r=>some r
 | .inr r=>some r
theorem zik {E H L m a0_0 a0_1 a0_2 a0_3 a0_4 a0_5 a0_6 a0_7 a0_8 a0_9 a0_10 a0_11 p1} :LoopF Tryz.prog (NE.plain 258) m E Tryz.f76 ((cfst (csnd (cfst (csnd (csnd (csnd (csnd B76)))))))) (zrc L m a0_0 a0_1 a0_2 a0_3 a0_4 a0_5 a0_6 a0_7 a0_8 a0_9 a0_10 a0_11 p1) (fun s=>s.1) 0 zeg (zh5 H) (zgw L m a0_0 a0_1 a0_2 a0_3 a0_4 a0_5 a0_6 a0_7 a0_8 a0_9 a0_10 a0_11 p1):=by
 rintro ⟨H4,v23_5⟩ o h
 unfold zgw at h
 try dsimp only at h
 refine WS.sq (WS.rg (RS.mS 1 [kB 24 (decide (v23_5<(a0_11.n:Int)))] (RS.dn (WS.nxt (WS.sq ?_)))))
 rcases z0 h with ⟨hp,h⟩ | ⟨hp,h⟩
 ·refine WS.fx 24 true (decide_eq_true hp) (WS.cT (WS.sk (WS.nxt (WS.sq (WS.bk 1 (WS.sq (WS.rg ?_)))))))
  obtain ⟨p6,hx,h⟩:=bind_some h
  refine RS.ix 25 28 3 (.tmp 21) (.tmp 23) hx ?_
  obtain ⟨x7,hx,h⟩:=bind_some h
  refine RS.ld 26 3 (.tmp 25) (z1 hx z4) (RS.mS 1 [kI 6 x7] (RS.dn (WS.nxt (WS.rg (RS.mS 2 [kI 28 x7,(27,.val (Value.func (.func 134) #[] #[(Value.pointer (some p1))]))] ?_)))))
  obtain ⟨H8,hx,h⟩:=bind_some h
  refine RS.cl (some 29) (v:=(Value.tuple #[])) 134 #[(Value.int .i64 x7),(Value.pointer (some p1))] (zkv hx) (RS.dn ?_)
  refine fun a w hs=>bkN ((WS.nxt ?_ a w hs))
  refine WS.rg (RS.mS 2 [kI 23 (IntKind.i64.wrap (v23_5+1)),kI 30 (IntKind.i64.wrap (v23_5+1))] (RS.dn ?_))
  cases h
  exact fun a w hs=>lsN rfl (hs.sb 1)
 ·refine WS.fx 24 false (decide_eq_false hp) (WS.cF (WS.ex 0 ?_))
  cases h
  exact fun a w hs=>sqE (lsB rfl (hs.sb 1))
theorem zie {E m H L a0_0 a0_1 a0_2 a0_3 a0_4 a0_5 a0_6 a0_7 a0_8 a0_9 a0_10 a0_11 p1} :LoopF Tryz.prog (NE.plain 258) m E Tryz.f76 ((cfst (csnd (cfst (csnd (csnd (csnd (csnd (csnd B76))))))))) (zqh L a0_0 a0_1 a0_2 a0_3 a0_4 a0_5 a0_6 a0_7 a0_8 a0_9 a0_10 a0_11 p1) (fun s=>s.1) 2 zeg (zh5 H) (zh0 L a0_0 a0_1 a0_2 a0_3 a0_4 a0_5 a0_6 a0_7 a0_8 a0_9 a0_10 a0_11 p1):=by
 rintro ⟨H11,v34_12⟩ o h
 unfold zh0 at h
 try dsimp only at h
 refine WS.sq (WS.rg (RS.mS 1 [kB 35 (decide (v34_12<(a0_10.n:Int)))] (RS.dn (WS.nxt (WS.sq ?_)))))
 rcases z0 h with ⟨hp,h⟩ | ⟨hp,h⟩
 ·refine WS.fx 35 true (decide_eq_true hp) (WS.cT ?_)
  cases h
 ·refine WS.fx 35 false (decide_eq_false hp) (WS.cF (WS.ex 2 ?_))
  cases h
  exact fun a w hs=>sqE (lsB rfl (hs.sb 1))
theorem zu3 {L:LC} {m:Nat} {H:AH} {a0_0:Int} {a0_1:ByteArray} {a0_2:Bool} {a0_3:Sl3} {a0_4:Int} {a0_5:Sl3} {a0_6 a0_7:Int} {a0_8:ByteArray} {a0_9 a0_10 a0_11:Sl3} {r:(ByteArray×AH)} (h:zp7 L m H a0_0 a0_1 a0_2 a0_3 a0_4 a0_5 a0_6 a0_7 a0_8 a0_9 a0_10 a0_11=some r) :
  CallS Tryz.prog (NE.plain 258) m 76 #[(Value.agg #[(Value.int .i64 a0_0),(Value.string a0_1),(Value.bool a0_2),(Sl3.v a0_3),(Value.int .i64 a0_4),(Sl3.v a0_5),(Value.int .i64 a0_6),(Value.int .i64 a0_7),(Value.string a0_8),(Sl3.v a0_9),(Sl3.v a0_10),(Sl3.v a0_11)])] H (zeg r) (zh5 H r):=by
 refine CallS.mk (args:=[(Value.agg #[(Value.int .i64 a0_0),(Value.string a0_1),(Value.bool a0_2),(Sl3.v a0_3),(Value.int .i64 a0_4),(Sl3.v a0_5),(Value.int .i64 a0_6),(Value.int .i64 a0_7),(Value.string a0_8),(Sl3.v a0_9),(Sl3.v a0_10),(Sl3.v a0_11)])]) Tryz.func76 (B:=B76) (by kernel_rfl) (fun E _=>?_)
 unfold zp7 at h
 refine WS.sq (WS.rg (RS.mL 2 [kT 2 (⟨#[]⟩:ByteArray),kL 1 0 0] ([some (82,[(Value.int .i64 a0_0),(Value.string a0_1),(Value.bool a0_2),(Sl3.v a0_3),(Value.int .i64 a0_4),(Sl3.v a0_5),(Value.int .i64 a0_6),(Value.int .i64 a0_7),(Value.string a0_8),(Sl3.v a0_9),(Sl3.v a0_10),(Sl3.v a0_11)])]) (RS.dn (WS.nxt (WS.sq (WS.rg ?_))))))
 obtain ⟨⟨p1,H2⟩,hx,h⟩:=bind_some h
 try dsimp only at h
 refine RS.o (H':=H2) (some 3) (Value.pointer (some p1)) (Abs.run_newB (by kernel_rfl) hx) (RS.dn (WS.nxt (WS.sq (WS.rg (RS.mS 2 [(4,.val (Value.func (.func 134) #[] #[(Value.pointer (some p1))])),(15,.val (Value.func (.func 134) #[] #[(Value.pointer (some p1))]))] (RS.dn (WS.nxt (WS.sq (WS.rg ?_)))))))))
 refine RS.mS 3 [kI 18 a0_0,kL 17 0 0,(16,.val (Value.func (.func 134) #[] #[(Value.pointer (some p1))]))] ?_
 obtain ⟨H3,hx,h⟩:=bind_some h
 refine RS.cl (some 19) (v:=(Value.tuple #[])) 134 #[(Value.int .i64 a0_0),(Value.pointer (some p1))] (zkv hx) (RS.dn (WS.nxt (WS.sq (WS.sq (WS.rg (RS.mS 4 [kI 23 0,kI 22 (a0_11.n:Int),kS 21 a0_11,kL 20 0 11] (RS.dn (WS.nxt (WS.bk 0 ?_)))))))))
 obtain ⟨o,hl,h⟩:=bind_some h
 rcases o with ⟨H9,v23_10⟩ | r
 ·try dsimp only at h
  refine WS.lI (zik (L:=L) (E:=E) (m:=m) (H:=H)) (L.ok hl) 1 ?_
  clear hl
  refine fun a w hs=>bkE ((WS.nxt ?_ a w hs))
  refine WS.sq (WS.sq (WS.rg (RS.mS 4 [kI 34 0,kI 33 (a0_10.n:Int),kS 32 a0_10,kL 31 0 10] (RS.dn (WS.nxt (WS.bk 2 ?_))))))
  obtain ⟨o,hl,h⟩:=bind_some h
  rcases o with ⟨H13,v34_14⟩ | r
  ·try dsimp only at h
   refine WS.lI (zie (L:=L) (E:=E) (m:=m) (H:=H)) (L.ok hl) 1 ?_
   clear hl
   refine fun a w hs=>bkE ((WS.nxt ?_ a w hs))
   refine WS.sq (WS.sq (WS.rg (RS.mS 2 [kI 43 a0_0,kL 42 0 0] (RS.dn (WS.nxt (WS.bk 4 (WS.sq (WS.rg (RS.mS 2 [kB 44 (decide (a0_0=20)),kB 45 (decide (a0_0=20))] ?_)))))))))
   refine RS.dn (WS.nxt ?_)
   rcases z0 h with ⟨hp,h⟩ | ⟨hp,h⟩
   ·refine WS.fx 44 true (decide_eq_true hp) (WS.cT ?_)
    cases h
   ·refine WS.fx 44 false (decide_eq_false hp) (WS.cF (WS.sq (WS.rg (RS.mS 2 [kB 64 (decide (a0_0=40)),kB 65 (decide (a0_0=40))] (RS.dn (WS.nxt ?_))))))
    rcases z0 h with ⟨hp,h⟩ | ⟨hp,h⟩
    ·refine WS.fx 64 true (decide_eq_true hp) (WS.cT ?_)
     cases h
    ·refine WS.fx 64 false (decide_eq_false hp) (WS.cF (WS.sq (WS.rg (RS.mS 2 [kB 84 (decide (a0_0=34)),kB 85 (decide (a0_0=34))] (RS.dn (WS.nxt ?_))))))
     rcases z0 h with ⟨hp,h⟩ | ⟨hp,h⟩
     ·refine WS.fx 84 true (decide_eq_true hp) (WS.cT ?_)
      cases h
     ·refine WS.fx 84 false (decide_eq_false hp) (WS.cF (WS.sk ?_))
      refine fun a w hs=>bkN ((WS.nxt ?_ a w hs))
      refine WS.sq ?_
      obtain ⟨⟨x15,H16⟩,hx_0,h⟩:=bind_some h
      try dsimp only at h
      obtain ⟨s17,hx_3,h⟩:=bind_some h
      refine WS.toone ([kT 2 s17]) ([some (82,[(Value.int .i64 a0_0),(Value.string a0_1),(Value.bool a0_2),(Sl3.v a0_3),(Value.int .i64 a0_4),(Sl3.v a0_5),(Value.int .i64 a0_6),(Value.int .i64 a0_7),(Value.string a0_8),(Sl3.v a0_9),(Sl3.v a0_10),(Sl3.v a0_11)])]) H16 ?_ ?_
      ·clear h
       refine WS.dr [] [0,0,2,7,15] 5 (fun hcl=>?_)
       refine DA.tPL 1 (some 95) (.loc 0 1) ?_
       refine DA.two 0 2 (by kernel_rfl) ?_ ?_
       ·refine DA.aC 0 (some 94) (v:=(Value.string x15)) 141 #[(Value.pointer (some p1))] (z55 hx_0) (DA.on 2 (DA.aL 2 (some 96) (.val (Value.string a0_1)) ([some (82,[(Value.int .i64 a0_0),(Value.string a0_1),(Value.bool a0_2),(Sl3.v a0_3),(Value.int .i64 a0_4),(Sl3.v a0_5),(Value.int .i64 a0_6),(Value.int .i64 a0_7),(Value.string a0_8),(Sl3.v a0_9),(Sl3.v a0_10),(Sl3.v a0_11)])]) false (DA.tPx 3 (some 97) (Value.string s17) (Abs.det_strcat (t:=9) (u:=9) (x:=.tmp 94) (y:=.tmp 96) (a:=x15) (b:=a0_1) (by kernel_rfl) (by kernel_rfl) (by kernel_rfl) hx_3) (DA.tP 4 (some 2) (Value.string s17) (DA.dn ?_)))))
        exact fun a w hs=>jsN (hs.sb 1)
       ·refine DA.aL 2 (some 96) (.val (Value.string a0_1)) ([some (82,[(Value.int .i64 a0_0),(Value.string a0_1),(Value.bool a0_2),(Sl3.v a0_3),(Value.int .i64 a0_4),(Sl3.v a0_5),(Value.int .i64 a0_6),(Value.int .i64 a0_7),(Value.string a0_8),(Sl3.v a0_9),(Sl3.v a0_10),(Sl3.v a0_11)])]) false (DA.on 0 (DA.aC 0 (some 94) (v:=(Value.string x15)) 141 #[(Value.pointer (some p1))] (z55 hx_0) (DA.tPx 3 (some 97) (Value.string s17) (Abs.det_strcat (t:=9) (u:=9) (x:=.tmp 94) (y:=.tmp 96) (a:=x15) (b:=a0_1) (by kernel_rfl) (by kernel_rfl) (by kernel_rfl) hx_3) (DA.tP 4 (some 2) (Value.string s17) (DA.dn ?_)))))
        exact fun a w hs=>jsN (hs.sb 1)
      ·refine WS.nxt (WS.rt ?_)
       cases h
       exact fun a w hs=>rtR (rS hs)
  ·try dsimp only at h
   refine WS.lR (zie (L:=L) (E:=E) (m:=m) (H:=H)) (L.ok hl) 1 ?_
   cases h
   exact fun a w hq=>bkR (sqR (rtR hq))
 ·try dsimp only at h
  refine WS.lR (zik (L:=L) (E:=E) (m:=m) (H:=H)) (L.ok hl) 1 ?_
  cases h
  exact fun a w hq=>bkR (sqR (rtR hq))
noncomputable def B40:Code:=(Tryz.f40.body).getD .skip
def zn6:(Int×Int×AH)→Value
 | (r0,r1,_)=>(Value.tuple #[(Value.int .i64 r0),(Value.int .i64 r1)])
def znr (_:AH):(Int×Int×AH)→AH:=fun r=>r.2.2
noncomputable def z6f (L:LC) (m:Nat) (H:AH) (a0:Option Addr) (a1_0:Int) (a1_1:ByteArray) (a1_2:Bool) (a1_3:Sl3) (a1_4:Int) (a1_5:Sl3) (a1_6 a1_7:Int) (a1_8:ByteArray) (a1_9 a1_10 a1_11:Sl3):Option (Int×Int×AH) :=
 Option.bind (z3d L H a0) fun x1 =>
 if x1=true then
  Option.bind (z80 L m H a0 a1_0 a1_1 a1_2 a1_3 a1_4 a1_5 a1_6 a1_7 a1_8 a1_9 a1_10 a1_11) fun (x2_0,x2_1,x2_2,x2_3,x3,H4) =>
  if x3=0 then
   Option.bind (zdw L m H4 a1_0 a1_1 a1_2 a1_3 a1_4 a1_5 a1_6 a1_7 a1_8 a1_9 a1_10 a1_11) fun (x5_0,x5_1,x5_2,x5_3,x5_4,x5_5,x5_6,x5_7,x5_8,x5_9,x5_10,x5_11,H6) =>
   Option.bind (zp7 L m H6 x5_0 x5_1 x5_2 x5_3 x5_4 x5_5 x5_6 x5_7 x5_8 x5_9 x5_10 x5_11) fun (x7,H8) =>
   Option.bind a0 fun q9 =>
   Option.bind (rd deM H8 (Addr.add q9 4)) fun x10 =>
   Option.bind (lkM Tryz.prog 98 (deI .i64) H8 x10 (Value.string x7)) fun (_,b12) =>
   if b12=true then
    none
   else
    Option.bind (rd deSl H8 (Addr.add q9 3)) fun x13 =>
    if (x13.n:Int)≥1048576 then
     none
    else
     Option.bind (rd deM H8 (Addr.add q9 4)) fun x14 =>
     Option.bind (rd deSl H8 (Addr.add q9 3)) fun x15 =>
     Option.bind (upM Tryz.prog m 98 H8 x14 (Value.string x7) (Value.int .i64 (x15.n:Int))) fun H16 =>
     Option.bind (rd deSl H16 (Addr.add q9 3)) fun x17 =>
     Option.bind (z7t L (Nat.max m H16.next) H16 x2_0 x2_1 x2_2 x2_3) fun (x18_0,x18_1,x18_2,x18_3,H19) =>
     Option.bind (newS 103 [(Value.int .i64 x5_0),(Value.string x5_1),(Value.bool x5_2),(Sl3.v x5_3),(Value.int .i64 x5_4),(Sl3.v x5_5),(Value.int .i64 x5_6),(Value.int .i64 x5_7),(Value.string x5_8),(Sl3.v x5_9),(Sl3.v x5_10),(Sl3.v x5_11),(Value.int .i64 x18_0),(Value.int .i64 x18_1),(Value.string x18_2),(Sl3.v x18_3)] H19) fun (k20,H21) =>
     Option.bind (appS m 103 16 248 H21 x17 (⟨some ⟨k20,0,none⟩,1,1⟩:Sl3)) fun (s22,H23) =>
     Option.bind (H23.setCell m (Addr.add q9 3) (Sl3.v s22)) fun H24 =>
     Option.bind (rd deSl H24 (Addr.add q9 3)) fun x25 =>
     some ((IntKind.i64.wrap ((x25.n:Int) - 1)),0,H24)
  else
   some (0,x3,H4)
 else
  none
theorem zdg {L:LC} {m:Nat} {H:AH} {a0:Option Addr} {a1_0:Int} {a1_1:ByteArray} {a1_2:Bool} {a1_3:Sl3} {a1_4:Int} {a1_5:Sl3} {a1_6 a1_7:Int} {a1_8:ByteArray} {a1_9 a1_10 a1_11:Sl3} {r:(Int×Int×AH)} (h:z6f L m H a0 a1_0 a1_1 a1_2 a1_3 a1_4 a1_5 a1_6 a1_7 a1_8 a1_9 a1_10 a1_11=some r) :
  CallS Tryz.prog (NE.plain 258) m 40 #[(Value.pointer a0),(Value.agg #[(Value.int .i64 a1_0),(Value.string a1_1),(Value.bool a1_2),(Sl3.v a1_3),(Value.int .i64 a1_4),(Sl3.v a1_5),(Value.int .i64 a1_6),(Value.int .i64 a1_7),(Value.string a1_8),(Sl3.v a1_9),(Sl3.v a1_10),(Sl3.v a1_11)])] H (zn6 r) (znr H r):=by
 refine CallS.mk (args:=[(Value.pointer a0),(Value.agg #[(Value.int .i64 a1_0),(Value.string a1_1),(Value.bool a1_2),(Sl3.v a1_3),(Value.int .i64 a1_4),(Sl3.v a1_5),(Value.int .i64 a1_6),(Value.int .i64 a1_7),(Value.string a1_8),(Sl3.v a1_9),(Sl3.v a1_10),(Sl3.v a1_11)])]) Tryz.func40 (B:=B40) (by kernel_rfl) (fun E _=>?_)
 unfold z6f at h
 refine WS.sq (WS.rg (RS.mL 3 [kI 5 0,kI 4 0,kL 3 0 0] ([some (82,[(Value.int .i64 a1_0),(Value.string a1_1),(Value.bool a1_2),(Sl3.v a1_3),(Value.int .i64 a1_4),(Sl3.v a1_5),(Value.int .i64 a1_6),(Value.int .i64 a1_7),(Value.string a1_8),(Sl3.v a1_9),(Sl3.v a1_10),(Sl3.v a1_11)])]) (RS.dn (WS.nxt (WS.sq (WS.sq (WS.rg (RS.mS 1 [(12,.val (Value.pointer a0))] ?_))))))))
 obtain ⟨x1,hx,h⟩:=bind_some h
 refine RS.cl (some 13) (v:=(Value.bool x1)) 24 #[(Value.pointer a0)] (z5f hx) (RS.mS 1 [kB 14 (!x1)] (RS.dn (WS.nxt ?_)))
 rcases z0 h with ⟨hp,h⟩ | ⟨hp,h⟩
 ·refine WS.fx 14 false (nb_not hp) (WS.cF (WS.sk (WS.nxt (WS.sq (WS.rg (RS.mS 2 [kA 17 #[(Value.int .i64 a1_0),(Value.string a1_1),(Value.bool a1_2),(Sl3.v a1_3),(Value.int .i64 a1_4),(Sl3.v a1_5),(Value.int .i64 a1_6),(Value.int .i64 a1_7),(Value.string a1_8),(Sl3.v a1_9),(Sl3.v a1_10),(Sl3.v a1_11)],(16,.val (Value.pointer a0))] ?_))))))
  obtain ⟨⟨x2_0,x2_1,x2_2,x2_3,x3,H4⟩,hx,h⟩:=bind_some h
  try dsimp only at h
  refine RS.cl (some 18) (v:=(Value.tuple #[(Value.agg #[(Value.int .i64 x2_0),(Value.int .i64 x2_1),(Value.string x2_2),(Sl3.v x2_3)]),(Value.int .i64 x3)])) 75 #[(Value.pointer a0),(Value.agg #[(Value.int .i64 a1_0),(Value.string a1_1),(Value.bool a1_2),(Sl3.v a1_3),(Value.int .i64 a1_4),(Sl3.v a1_5),(Value.int .i64 a1_6),(Value.int .i64 a1_7),(Value.string a1_8),(Sl3.v a1_9),(Sl3.v a1_10),(Sl3.v a1_11)])] (zl1 hx) (RS.mL 6 [kI 7 x3,kL 6 1 0,kI 20 x3,kA 19 #[(Value.int .i64 x2_0),(Value.int .i64 x2_1),(Value.string x2_2),(Sl3.v x2_3)],(15,.val (Value.tuple #[(Value.agg #[(Value.int .i64 x2_0),(Value.int .i64 x2_1),(Value.string x2_2),(Sl3.v x2_3)]),(Value.int .i64 x3)]))] ([some (82,[(Value.int .i64 a1_0),(Value.string a1_1),(Value.bool a1_2),(Sl3.v a1_3),(Value.int .i64 a1_4),(Sl3.v a1_5),(Value.int .i64 a1_6),(Value.int .i64 a1_7),(Value.string a1_8),(Sl3.v a1_9),(Sl3.v a1_10),(Sl3.v a1_11)]),some (56,[(Value.int .i64 x2_0),(Value.int .i64 x2_1),(Value.string x2_2),(Sl3.v x2_3)])]) (RS.dn (WS.nxt (WS.sq (WS.sq (WS.rg (RS.mS 2 [kB 22 (!decide (x3=0)),kI 21 x3] (RS.dn (WS.nxt ?_)))))))))
  rcases z0 h with ⟨hp,h⟩ | ⟨hp,h⟩
  ·refine WS.fx 22 false (zd hp) (WS.cF (WS.sk (WS.nxt (WS.sq (WS.rg (RS.mS 1 [kA 24 #[(Value.int .i64 a1_0),(Value.string a1_1),(Value.bool a1_2),(Sl3.v a1_3),(Value.int .i64 a1_4),(Sl3.v a1_5),(Value.int .i64 a1_6),(Value.int .i64 a1_7),(Value.string a1_8),(Sl3.v a1_9),(Sl3.v a1_10),(Sl3.v a1_11)]] ?_))))))
   obtain ⟨⟨x5_0,x5_1,x5_2,x5_3,x5_4,x5_5,x5_6,x5_7,x5_8,x5_9,x5_10,x5_11,H6⟩,hx,h⟩:=bind_some h
   try dsimp only at h
   refine RS.cl (some 25) (v:=(Value.agg #[(Value.int .i64 x5_0),(Value.string x5_1),(Value.bool x5_2),(Sl3.v x5_3),(Value.int .i64 x5_4),(Sl3.v x5_5),(Value.int .i64 x5_6),(Value.int .i64 x5_7),(Value.string x5_8),(Sl3.v x5_9),(Sl3.v x5_10),(Sl3.v x5_11)])) 61 #[(Value.agg #[(Value.int .i64 a1_0),(Value.string a1_1),(Value.bool a1_2),(Sl3.v a1_3),(Value.int .i64 a1_4),(Sl3.v a1_5),(Value.int .i64 a1_6),(Value.int .i64 a1_7),(Value.string a1_8),(Sl3.v a1_9),(Sl3.v a1_10),(Sl3.v a1_11)])] (zkq hx) (RS.mL 2 [kL 8 2 0] ([some (82,[(Value.int .i64 a1_0),(Value.string a1_1),(Value.bool a1_2),(Sl3.v a1_3),(Value.int .i64 a1_4),(Sl3.v a1_5),(Value.int .i64 a1_6),(Value.int .i64 a1_7),(Value.string a1_8),(Sl3.v a1_9),(Sl3.v a1_10),(Sl3.v a1_11)]),some (56,[(Value.int .i64 x2_0),(Value.int .i64 x2_1),(Value.string x2_2),(Sl3.v x2_3)]),some (82,[(Value.int .i64 x5_0),(Value.string x5_1),(Value.bool x5_2),(Sl3.v x5_3),(Value.int .i64 x5_4),(Sl3.v x5_5),(Value.int .i64 x5_6),(Value.int .i64 x5_7),(Value.string x5_8),(Sl3.v x5_9),(Sl3.v x5_10),(Sl3.v x5_11)])]) (RS.dn (WS.nxt (WS.sq (WS.rg (RS.mS 1 [kA 26 #[(Value.int .i64 x5_0),(Value.string x5_1),(Value.bool x5_2),(Sl3.v x5_3),(Value.int .i64 x5_4),(Sl3.v x5_5),(Value.int .i64 x5_6),(Value.int .i64 x5_7),(Value.string x5_8),(Sl3.v x5_9),(Sl3.v x5_10),(Sl3.v x5_11)]] ?_))))))
   obtain ⟨⟨x7,H8⟩,hx,h⟩:=bind_some h
   try dsimp only at h
   refine RS.cl (some 27) (v:=(Value.string x7)) 76 #[(Value.agg #[(Value.int .i64 x5_0),(Value.string x5_1),(Value.bool x5_2),(Sl3.v x5_3),(Value.int .i64 x5_4),(Sl3.v x5_5),(Value.int .i64 x5_6),(Value.int .i64 x5_7),(Value.string x5_8),(Sl3.v x5_9),(Sl3.v x5_10),(Sl3.v x5_11)])] (zu3 hx) (RS.mS 1 [kT 9 x7] (RS.dn (WS.nxt (WS.sq (WS.sq (WS.rg (RS.mS 1 [(29,.val (Value.pointer a0))] ?_)))))))
   obtain ⟨q9,hx,hq9⟩:=bind_some h
   subst hx
   have h:=hq9
   refine RS.mS 2 [(31,.val (Value.pointer (some (Addr.add q9 4)))),kP 30 q9] ?_
   obtain ⟨x10,hx,h⟩:=bind_some h
   refine RS.ld 32 98 (.tmp 31) (z1 hx zaw) (RS.mS 1 [kT 33 x7] ?_)
   obtain ⟨⟨x11,b12⟩,hx,h⟩:=bind_some h
   try dsimp only at h
   refine RS.o (H':=H8) (some 34) (Value.tuple #[(Value.int .i64 x11),(Value.bool b12)]) (Abs.run_look (t:=98) (x:=.tmp 32) (y:=.tmp 33) (mm:=x10) (k:=(Value.string x7)) (by kernel_rfl) (by kernel_rfl) (by kernel_rfl) (by kernel_rfl) (lkM_eq hx z4)) (RS.mS 5 [kB 11 b12,kI 10 x11,kB 36 b12,kI 35 x11,(28,.val (Value.tuple #[(Value.int .i64 x11),(Value.bool b12)]))] (RS.dn (WS.nxt (WS.sq (WS.rg (RS.mS 1 [kB 37 b12] (RS.dn (WS.nxt ?_))))))))
   rcases z0 h with ⟨hp,h⟩ | ⟨hp,h⟩
   ·refine WS.fx 37 true hp (WS.cT ?_)
    cases h
   ·refine WS.fx 37 false (b_not hp) (WS.cF (WS.sk (WS.nxt (WS.sq (WS.sq (WS.rg (RS.mS 3 [(41,.val (Value.pointer (some (Addr.add q9 3)))),kP 40 q9,kP 39 q9] ?_)))))))
    obtain ⟨x13,hx,h⟩:=bind_some h
    refine RS.ld 42 97 (.tmp 41) (z1 hx z3) (RS.mS 2 [kB 44 (decide ((x13.n:Int)≥1048576)),kI 43 (x13.n:Int)] (RS.dn (WS.nxt ?_)))
    rcases z0 h with ⟨hp,h⟩ | ⟨hp,h⟩
    ·refine WS.fx 44 true (decide_eq_true hp) (WS.cT ?_)
     cases h
    ·refine WS.fx 44 false (decide_eq_false hp) (WS.cF (WS.sk (WS.nxt (WS.sq ?_))))
     refine WS.dr [0,1,2,3,5,6,7,8] [0,1,3,7,0,0,32,96,224,480,1023] 11 (fun hcl=>?_)
     refine DA.tK 0 (some 45) (Value.pointer (some q9)) (DA.tK 1 (some 46) (Value.pointer (some q9)) (DA.tK 2 (some 47) (Value.pointer (some (Addr.add q9 4))) ?_))
     obtain ⟨x14,hx,h⟩:=bind_some h
     refine DA.tD 3 (some 48) (Value.map x14) (Abs.det_load (t:=98) (x:=.tmp 47) (a:=(Addr.add q9 4)) (by kernel_rfl) (by kernel_rfl) (by kernel_rfl) (by kernel_rfl) (z1 hx zaw)) (DA.tK 5 (some 50) (Value.pointer (some q9)) (DA.tK 6 (some 51) (Value.pointer (some q9)) (DA.tK 7 (some 52) (Value.pointer (some (Addr.add q9 3))) ?_)))
     obtain ⟨x15,hx,h⟩:=bind_some h
     refine DA.tD 8 (some 53) (Sl3.v x15) (Abs.det_load (t:=97) (x:=.tmp 52) (a:=(Addr.add q9 3)) (by kernel_rfl) (by kernel_rfl) (by kernel_rfl) (by kernel_rfl) (z1 hx z3)) (DA.tP 4 (some 49) (Value.string x7) (DA.on 9 (DA.aHj (H':=H8) 9 (some 54) false (Value.int .i64 (x15.n:Int)) (by kernel_rfl) ?_)))
     obtain ⟨H16,hx,h⟩:=bind_some h
     refine DA.on 10 (DA.aH (H':=H16) 10 none undef (Abs.run_upM (t:=98) (x:=.tmp 48) (y:=.tmp 49) (z:=.tmp 54) (mm:=x14) (k:=(Value.string x7)) (v:=(Value.int .i64 (x15.n:Int))) (by kernel_rfl) (by kernel_rfl) (by kernel_rfl) (by kernel_rfl) (by kernel_rfl) hx) (DA.dn (WS.nxt (WS.sq ?_))))
     obtain ⟨x17,hx_4,h⟩:=bind_some h
     obtain ⟨⟨x18_0,x18_1,x18_2,x18_3,H19⟩,hx_7,h⟩:=bind_some h
     try dsimp only at h
     obtain ⟨⟨k20,H21⟩,hx_k20,h⟩:=bind_some h
     try dsimp only at h
     obtain ⟨⟨s22,H23⟩,hx_10,h⟩:=bind_some h
     try dsimp only at h
     obtain ⟨H24,hx_13,h⟩:=bind_some h
     refine WS.toone ([kP 0 q9]) ([some (82,[(Value.int .i64 a1_0),(Value.string a1_1),(Value.bool a1_2),(Sl3.v a1_3),(Value.int .i64 a1_4),(Sl3.v a1_5),(Value.int .i64 a1_6),(Value.int .i64 a1_7),(Value.string a1_8),(Sl3.v a1_9),(Sl3.v a1_10),(Sl3.v a1_11)]),some (56,[(Value.int .i64 x2_0),(Value.int .i64 x2_1),(Value.string x2_2),(Sl3.v x2_3)]),some (82,[(Value.int .i64 x5_0),(Value.string x5_1),(Value.bool x5_2),(Sl3.v x5_3),(Value.int .i64 x5_4),(Sl3.v x5_5),(Value.int .i64 x5_6),(Value.int .i64 x5_7),(Value.string x5_8),(Sl3.v x5_9),(Sl3.v x5_10),(Sl3.v x5_11)]),none]) H24 ?_ ?_
     ·clear h
      refine WS.dr [1,2,3,4,6] [0,0,2,6,14,0,0,64,224,480,1022,2047,4095,8191] 14 (fun hcl=>?_)
      refine DA.tK 1 (some 56) (Value.pointer (some q9)) (DA.tK 2 (some 57) (Value.pointer (some q9)) (DA.tK 3 (some 58) (Value.pointer (some (Addr.add q9 3))) (DA.tD 4 (some 59) (Sl3.v x17) (Abs.det_load (t:=97) (x:=.tmp 58) (a:=(Addr.add q9 3)) (by kernel_rfl) (by kernel_rfl) (by kernel_rfl) (by kernel_rfl) (z1 hx_4 z3)) (DA.tL 6 (some 61) (.val (Value.agg #[(Value.int .i64 x2_0),(Value.int .i64 x2_1),(Value.string x2_2),(Sl3.v x2_3)])) (DA.tP 0 (some 55) (Value.pointer (some q9)) ?_)))))
      refine DA.two 5 7 (by kernel_rfl) ?_ ?_
      ·refine DA.aL 5 (some 60) (.val (Value.agg #[(Value.int .i64 x5_0),(Value.string x5_1),(Value.bool x5_2),(Sl3.v x5_3),(Value.int .i64 x5_4),(Sl3.v x5_5),(Value.int .i64 x5_6),(Value.int .i64 x5_7),(Value.string x5_8),(Sl3.v x5_9),(Sl3.v x5_10),(Sl3.v x5_11)])) ([some (82,[(Value.int .i64 a1_0),(Value.string a1_1),(Value.bool a1_2),(Sl3.v a1_3),(Value.int .i64 a1_4),(Sl3.v a1_5),(Value.int .i64 a1_6),(Value.int .i64 a1_7),(Value.string a1_8),(Sl3.v a1_9),(Sl3.v a1_10),(Sl3.v a1_11)]),some (56,[(Value.int .i64 x2_0),(Value.int .i64 x2_1),(Value.string x2_2),(Sl3.v x2_3)]),some (82,[(Value.int .i64 x5_0),(Value.string x5_1),(Value.bool x5_2),(Sl3.v x5_3),(Value.int .i64 x5_4),(Sl3.v x5_5),(Value.int .i64 x5_6),(Value.int .i64 x5_7),(Value.string x5_8),(Sl3.v x5_9),(Sl3.v x5_10),(Sl3.v x5_11)])]) true (DA.on 7 (DA.aCj 7 (some 62) true (v:=(Value.agg #[(Value.int .i64 x18_0),(Value.int .i64 x18_1),(Value.string x18_2),(Sl3.v x18_3)])) 25 #[(Value.agg #[(Value.int .i64 x2_0),(Value.int .i64 x2_1),(Value.string x2_2),(Sl3.v x2_3)])] (z10 hx_7) (DA.on 8 (DA.aHj (H':=H19) 8 (some 63) true (Value.agg #[(Value.int .i64 x5_0),(Value.string x5_1),(Value.bool x5_2),(Sl3.v x5_3),(Value.int .i64 x5_4),(Sl3.v x5_5),(Value.int .i64 x5_6),(Value.int .i64 x5_7),(Value.string x5_8),(Sl3.v x5_9),(Sl3.v x5_10),(Sl3.v x5_11),(Value.int .i64 x18_0),(Value.int .i64 x18_1),(Value.string x18_2),(Sl3.v x18_3)]) (by kernel_rfl) (DA.on 9 (DA.actS 9 (some 64) (.sli 3 1) ([some (82,[(Value.int .i64 a1_0),(Value.string a1_1),(Value.bool a1_2),(Sl3.v a1_3),(Value.int .i64 a1_4),(Sl3.v a1_5),(Value.int .i64 a1_6),(Value.int .i64 a1_7),(Value.string a1_8),(Sl3.v a1_9),(Sl3.v a1_10),(Sl3.v a1_11)]),some (56,[(Value.int .i64 x2_0),(Value.int .i64 x2_1),(Value.string x2_2),(Sl3.v x2_3)]),some (82,[(Value.int .i64 x5_0),(Value.string x5_1),(Value.bool x5_2),(Sl3.v x5_3),(Value.int .i64 x5_4),(Sl3.v x5_5),(Value.int .i64 x5_6),(Value.int .i64 x5_7),(Value.string x5_8),(Sl3.v x5_9),(Sl3.v x5_10),(Sl3.v x5_11)]),some (103,[(Value.int .i64 x5_0),(Value.string x5_1),(Value.bool x5_2),(Sl3.v x5_3),(Value.int .i64 x5_4),(Sl3.v x5_5),(Value.int .i64 x5_6),(Value.int .i64 x5_7),(Value.string x5_8),(Sl3.v x5_9),(Sl3.v x5_10),(Sl3.v x5_11),(Value.int .i64 x18_0),(Value.int .i64 x18_1),(Value.string x18_2),(Sl3.v x18_3)])]) (by kernel_rfl) (by kernel_rfl) (by kernel_rfl) hcl (by kernel_rfl) (by kernel_rfl) (by kernel_rfl) (DA.on 10 (DA.pubK 3 _ _ hx_k20 (by kernel_rfl) rfl rfl (DA.aH (H':=H23) 10 (some 65) (Sl3.v s22) (Abs.run_app (x:=.tmp 59) (y:=.tmp 64) (ts:=#[97,97]) (s:=x17) (z:=(⟨some ⟨k20,0,none⟩,1,1⟩:Sl3)) (by kernel_rfl) (by kernel_rfl) (by kernel_rfl) (by kernel_rfl) hx_10) ?_)))))))))
       refine DA.tP 11 (some 66) (Value.pointer (some q9)) (DA.tP 12 (some 67) (Value.pointer (some (Addr.add q9 3))) (DA.on 13 (DA.aH (H':=H24) 13 none undef (Abs.run_store1 (t:=97) (x:=.tmp 67) (y:=.tmp 65) (a:=(Addr.add q9 3)) (v:=(Sl3.v s22)) (by kernel_rfl) (by kernel_rfl) (by kernel_rfl) (by kernel_rfl) (by kernel_rfl) hx_13) (DA.dn ?_))))
       exact fun a w hs=>jsN (hs.sb 4)
      ·refine DA.aCj 7 (some 62) true (v:=(Value.agg #[(Value.int .i64 x18_0),(Value.int .i64 x18_1),(Value.string x18_2),(Sl3.v x18_3)])) 25 #[(Value.agg #[(Value.int .i64 x2_0),(Value.int .i64 x2_1),(Value.string x2_2),(Sl3.v x2_3)])] (z10 hx_7) (DA.on 5 (DA.aL 5 (some 60) (.val (Value.agg #[(Value.int .i64 x5_0),(Value.string x5_1),(Value.bool x5_2),(Sl3.v x5_3),(Value.int .i64 x5_4),(Sl3.v x5_5),(Value.int .i64 x5_6),(Value.int .i64 x5_7),(Value.string x5_8),(Sl3.v x5_9),(Sl3.v x5_10),(Sl3.v x5_11)])) ([some (82,[(Value.int .i64 a1_0),(Value.string a1_1),(Value.bool a1_2),(Sl3.v a1_3),(Value.int .i64 a1_4),(Sl3.v a1_5),(Value.int .i64 a1_6),(Value.int .i64 a1_7),(Value.string a1_8),(Sl3.v a1_9),(Sl3.v a1_10),(Sl3.v a1_11)]),some (56,[(Value.int .i64 x2_0),(Value.int .i64 x2_1),(Value.string x2_2),(Sl3.v x2_3)]),some (82,[(Value.int .i64 x5_0),(Value.string x5_1),(Value.bool x5_2),(Sl3.v x5_3),(Value.int .i64 x5_4),(Sl3.v x5_5),(Value.int .i64 x5_6),(Value.int .i64 x5_7),(Value.string x5_8),(Sl3.v x5_9),(Sl3.v x5_10),(Sl3.v x5_11)])]) true (DA.on 8 (DA.aHj (H':=H19) 8 (some 63) true (Value.agg #[(Value.int .i64 x5_0),(Value.string x5_1),(Value.bool x5_2),(Sl3.v x5_3),(Value.int .i64 x5_4),(Sl3.v x5_5),(Value.int .i64 x5_6),(Value.int .i64 x5_7),(Value.string x5_8),(Sl3.v x5_9),(Sl3.v x5_10),(Sl3.v x5_11),(Value.int .i64 x18_0),(Value.int .i64 x18_1),(Value.string x18_2),(Sl3.v x18_3)]) (by kernel_rfl) (DA.on 9 (DA.actS 9 (some 64) (.sli 3 1) ([some (82,[(Value.int .i64 a1_0),(Value.string a1_1),(Value.bool a1_2),(Sl3.v a1_3),(Value.int .i64 a1_4),(Sl3.v a1_5),(Value.int .i64 a1_6),(Value.int .i64 a1_7),(Value.string a1_8),(Sl3.v a1_9),(Sl3.v a1_10),(Sl3.v a1_11)]),some (56,[(Value.int .i64 x2_0),(Value.int .i64 x2_1),(Value.string x2_2),(Sl3.v x2_3)]),some (82,[(Value.int .i64 x5_0),(Value.string x5_1),(Value.bool x5_2),(Sl3.v x5_3),(Value.int .i64 x5_4),(Sl3.v x5_5),(Value.int .i64 x5_6),(Value.int .i64 x5_7),(Value.string x5_8),(Sl3.v x5_9),(Sl3.v x5_10),(Sl3.v x5_11)]),some (103,[(Value.int .i64 x5_0),(Value.string x5_1),(Value.bool x5_2),(Sl3.v x5_3),(Value.int .i64 x5_4),(Sl3.v x5_5),(Value.int .i64 x5_6),(Value.int .i64 x5_7),(Value.string x5_8),(Sl3.v x5_9),(Sl3.v x5_10),(Sl3.v x5_11),(Value.int .i64 x18_0),(Value.int .i64 x18_1),(Value.string x18_2),(Sl3.v x18_3)])]) (by kernel_rfl) (by kernel_rfl) (by kernel_rfl) hcl (by kernel_rfl) (by kernel_rfl) (by kernel_rfl) (DA.on 10 (DA.pubK 3 _ _ hx_k20 (by kernel_rfl) rfl rfl (DA.aH (H':=H23) 10 (some 65) (Sl3.v s22) (Abs.run_app (x:=.tmp 59) (y:=.tmp 64) (ts:=#[97,97]) (s:=x17) (z:=(⟨some ⟨k20,0,none⟩,1,1⟩:Sl3)) (by kernel_rfl) (by kernel_rfl) (by kernel_rfl) (by kernel_rfl) hx_10) ?_)))))))))
       refine DA.tP 11 (some 66) (Value.pointer (some q9)) (DA.tP 12 (some 67) (Value.pointer (some (Addr.add q9 3))) (DA.on 13 (DA.aH (H':=H24) 13 none undef (Abs.run_store1 (t:=97) (x:=.tmp 67) (y:=.tmp 65) (a:=(Addr.add q9 3)) (v:=(Sl3.v s22)) (by kernel_rfl) (by kernel_rfl) (by kernel_rfl) (by kernel_rfl) (by kernel_rfl) hx_13) (DA.dn ?_))))
       exact fun a w hs=>jsN (hs.sb 4)
     ·refine WS.nxt (WS.sq (WS.rg (RS.mS 3 [(70,.val (Value.pointer (some (Addr.add q9 3)))),kP 69 q9,kP 68 q9] ?_)))
      obtain ⟨x25,hx,h⟩:=bind_some h
      refine RS.ld 71 97 (.tmp 70) (z1 hx z3) (RS.mS 4 [kI 5 0,kI 4 (IntKind.i64.wrap ((x25.n:Int) - 1)),kI 73 (IntKind.i64.wrap ((x25.n:Int) - 1)),kI 72 (x25.n:Int)] (RS.dn (WS.nxt (WS.rt ?_))))
      cases h
      exact fun a w hs=>rtR (rS hs)
  ·refine WS.fx 22 true (z9 hp) (WS.cT (WS.sq (WS.rg (RS.mS 3 [kI 5 x3,kI 4 0,kI 23 x3] (RS.dn (WS.nxt (WS.rt ?_)))))))
   cases h
   exact fun a w hs=>sqR (rtR (rS hs))
 ·refine WS.fx 14 true (zb hp) (WS.cT ?_)
  cases h
end Go.Proofs.YtkecibinbgaedaaGreatDoor
