/- RewriteNobody is proved: at every input the call returns true and its arguments read as before. No condition beyond the row's own (five listed tables of Go's library as the text lays them). -/
import Derived.Test.YtfbinmgldpnjhaaGreatDoorNb4
import Derived.Test.YtfbinmgldpnjhaaGreatDoorTie
import Derived.Test.YtfbinmgldpnjhaaGreatDoorCards
import Derived.Test.YtfbinmgldpnjhaaGreatDoorChecked
namespace Go.Proofs.YtfbinmgldpnjhaaGreatDoor
open Go Go.Abs
set_option maxRecDepth 100000
noncomputable def B142:Code:=(Tryz.f142.body).getD .skip
def z8c:Int→Value
 | r0=>(Value.int .i64 r0)
def z97 (H:AH):Int→AH:=fun _=>H
noncomputable def z52 (_L:LC) (_H:AH) (a0:Sl3) (_a1:Bool):Int→Option (Lp Int Int):=fun v8_1 =>
 if v8_1<(a0.n:Int) then
  none
 else
  some (.brk v8_1)
def zep (_L:LC) (_H:AH) (a0:Sl3) (a1:Bool):Int→KN×Lcs:=fun v8_1=>([kI 8 v8_1,kS 0 a0,kB 1 a1,kI 7 (a0.n:Int)],[])
noncomputable def z7b (L:LC) (H:AH) (a0:Sl3) (a1:Bool):Option Int :=
 Option.bind (L.run (z52 L H a0 a1) 0) fun o=>match o with
 | .inl _ =>
  some (-1)
 | .inr r=>some r
theorem z76 {E m L H a0 a1} :LoopF Tryz.prog (NE.plain 202) m E Tryz.f142 ((cfst (csnd (cfst (csnd B142))))) (zep L H a0 a1) (fun _=>H) 0 z8c (z97 H) (z52 L H a0 a1):=by
 rintro v8_1 o h
 unfold z52 at h
 try dsimp only at h
 refine WS.sq (WS.rg (RS.mS 1 [kB 9 (decide (v8_1<(a0.n:Int)))] (RS.dn (WS.nxt (WS.sq ?_)))))
 rcases z0 h with ⟨hp,h⟩ | ⟨hp,h⟩
 ·refine WS.fx 9 true (decide_eq_true hp) (WS.cT ?_)
  cases h
 ·refine WS.fx 9 false (decide_eq_false hp) (WS.cF (WS.ex 0 ?_))
  cases h
  exact fun a w hs=>sqE (lsB rfl (hs.sb 0))
theorem zgw {L:LC} {m:Nat} {H:AH} {a0:Sl3} {a1:Bool} {r:Int} (h:z7b L H a0 a1=some r) :
  CallS Tryz.prog (NE.plain 202) m 142 #[(Sl3.v a0),(Value.bool a1)] H (z8c r) (z97 H r):=by
 refine CallS.mk (args:=[(Sl3.v a0),(Value.bool a1)]) Tryz.func142 (B:=B142) (by kernel_rfl) (fun E _=>?_)
 unfold z7b at h
 refine WS.sq (WS.rg (RS.mS 1 [kI 4 0] (RS.dn (WS.nxt (WS.sq (WS.sq (WS.rg (RS.mS 3 [kI 8 0,kI 7 (a0.n:Int),kS 6 a0] (RS.dn ?_)))))))))
 refine WS.nxt (WS.bk 0 ?_)
 obtain ⟨o,hl,h⟩:=bind_some h
 rcases o with v8_2 | r
 ·try dsimp only at h
  refine WS.lI (z76 (L:=L) (E:=E) (m:=m) (H:=H)) (L.ok hl) 0 ?_
  clear hl
  refine fun a w hs=>bkE ((WS.nxt ?_ a w hs))
  refine WS.sq (WS.rg (RS.mS 1 [kI 4 (-1)] (RS.dn (WS.nxt (WS.rt ?_)))))
  cases h
  exact fun a w hs=>rtR (rS hs)
 ·try dsimp only at h
  refine WS.lR (z76 (L:=L) (E:=E) (m:=m) (H:=H)) (L.ok hl) 0 ?_
  cases h
  exact fun a w hq=>bkR (sqR (rtR hq))
noncomputable def B101:Code:=(Tryz.f101.body).getD .skip
def zd2:Bool→Value
 | r0=>(Value.bool r0)
def zec (H:AH):Bool→AH:=fun _=>H
noncomputable def z4w (L:LC) (H:AH) (a0:Sl3) (a1:Bool):Option Bool :=
 Option.bind (z7b L H a0 a1) fun x1 =>
 some (decide (x1≥0))
theorem zen {L:LC} {m:Nat} {H:AH} {a0:Sl3} {a1 r:Bool} (h:z4w L H a0 a1=some r) :
  CallS Tryz.prog (NE.plain 202) m 101 #[(Sl3.v a0),(Value.bool a1)] H (zd2 r) (zec H r):=by
 refine CallS.mk (args:=[(Sl3.v a0),(Value.bool a1)]) Tryz.func101 (B:=B101) (by kernel_rfl) (fun E _=>?_)
 unfold z4w at h
 refine WS.sq (WS.rg (RS.mS 1 [kB 4 false] (RS.dn (WS.nxt (WS.sq (WS.rg (RS.mS 2 [kB 6 a1,kS 5 a0] ?_)))))))
 obtain ⟨x1,hx,h⟩:=bind_some h
 refine RS.cl (some 7) (v:=(Value.int .i64 x1)) 142 #[(Sl3.v a0),(Value.bool a1)] (zgw hx) (RS.mS 2 [kB 4 (decide (x1≥0)),kB 8 (decide (x1≥0))] (RS.dn (WS.nxt (WS.rt ?_))))
 cases h
 exact fun a w hs=>rtR (rS hs)
noncomputable def B102:Code:=(Tryz.f102.body).getD .skip
def z4e:(Sl3×AH)→Value
 | (r0,_)=>(Sl3.v r0)
def z4r (_:AH):(Sl3×AH)→AH:=fun r=>r.2
noncomputable def z51 (_L:LC) (_p1 _p8:Addr) (x14:Sl3):(AH×Int)→Option (Lp (AH×Int) ((Sl3×AH)⊕AH)):=fun (H16,v21_17) =>
 if v21_17<(x14.n:Int) then
  none
 else
  some (.brk (H16,v21_17))
def z73 (_L:LC) (p1 p8:Addr) (x14:Sl3):(AH×Int)→KN:=fun (_,v21_17)=>[kI 21 v21_17,kP 1 p1,kP 3 p8,kS 19 x14,kI 20 (x14.n:Int)]
def z71 (_L:LC) (_p1 _p8:Addr) (_x14:Sl3):(AH×Int)→Lcs:=fun (_,_)=>[]
def zd8 (_L:LC) (p1 p8:Addr) (_x14:Sl3):AH→KN:=fun _=>[kP 1 p1,kP 3 p8]
def zd3 (_L:LC) (_p1 _p8:Addr) (_x14:Sl3):AH→Lcs:=fun _=>[]
noncomputable def z4o (L:LC) (p1 p8:Addr):AH→Option (Lp AH (Sl3×AH)):=fun H11 =>
 Option.bind (rd deP H11 p1) fun x12 =>
 Option.bind x12 fun q13 =>
 Option.bind (rd deSl H11 (Addr.add (Addr.add q13 0) 1)) fun x14 =>
 Option.bind (L.run (z51 L p1 p8 x14) (H11,0)) fun o=>match o with
 | .inl (H18,_) =>
  some (.brk H18)
 | .inr (.inl r)=>some (.ret r)
 | .inr (.inr H20) =>
  some (.next H20)
def ze7 (_L:LC) (p1 p8:Addr):AH→KN×Lcs:=fun _=>([kP 1 p1,kP 3 p8],[])
noncomputable def z7c (L:LC) (m:Nat) (H:AH) (a0:Option Addr):Option (Sl3×AH) :=
 Option.bind (newB 164 [(Value.pointer a0)] H) fun (p1,H2) =>
 Option.bind (rd deP H2 p1) fun x3 =>
 Option.bind x3 fun q4 =>
 Option.bind (rd deSl H2 (Addr.add (Addr.add q4 0) 1)) fun x5 =>
 Option.bind (mkS 4 1 1 #[(Value.bool false)] H2 (x5.n:Int) (x5.n:Int)) fun (s6,H7) =>
 Option.bind (newB 97 [(Sl3.v Sl3.nil)] H7) fun (p8,H9) =>
 Option.bind (H9.setCell m p8 (Sl3.v s6)) fun H10 =>
 Option.bind (L.run (z4o L p1 p8) H10) fun o=>match o with
 | .inl H21 =>
  Option.bind (rd deSl H21 p8) fun x22 =>
  some (x22,H21)
 | .inr r=>some r
theorem z3e {E:Ent} {m:Nat} {H:AH} {L:LC} {p1 p8:Addr} {x14:Sl3} :∀s o,z51 L p1 p8 x14 s=some o →
  WS Tryz.prog (NE.plain 202) m E Tryz.f102.ntmps (cfst (cfst (csnd (cfst (cfst (cfst (cfst (cfst (csnd (csnd (cfst (csnd B102)))))))))))) (z73 L p1 p8 x14 s) (z71 L p1 p8 x14 s) ((fun s=>s.1) s) (lpX Tryz.prog (NE.plain 202) m E Tryz.f102.ntmps (z73 L p1 p8 x14) (z71 L p1 p8 x14) (fun s=>s.1) 2 (fun r e a w=>match r with | .inl r=>e=.ret∧RT Tryz.prog (NE.plain 202) m E Tryz.f102 (z4e r) (z4r H r) a w | .inr x=>e=.exit 1∧SS Tryz.prog (NE.plain 202) m E Tryz.f102.ntmps (zd8 L p1 p8 x14 x) (zd3 L p1 p8 x14 x) ((fun s=>s) x) a w) o):=by
 rintro ⟨H16,v21_17⟩ o h
 unfold z51 at h
 try dsimp only at h
 refine WS.sq (WS.rg (RS.mS 1 [kB 22 (decide (v21_17<(x14.n:Int)))] (RS.dn (WS.nxt (WS.sq ?_)))))
 rcases z0 h with ⟨hp,h⟩ | ⟨hp,h⟩
 ·refine WS.fx 22 true (decide_eq_true hp) (WS.cT ?_)
  cases h
 ·refine WS.fx 22 false (decide_eq_false hp) (WS.cF (WS.ex 2 ?_))
  cases h
  exact fun a w hs=>sqE (lxB rfl (hs.sb 0))
theorem z6s {E m H L p1 p8} :LoopF Tryz.prog (NE.plain 202) m E Tryz.f102 ((cfst (cfst (csnd (csnd (cfst (csnd B102))))))) (ze7 L p1 p8) (fun s=>s) 0 z4e (z4r H) (z4o L p1 p8):=by
 rintro H11 o h
 unfold z4o at h
 try dsimp only at h
 refine WS.bk 1 (WS.sq (WS.sq (WS.rg ?_)))
 obtain ⟨x12,hx,h⟩:=bind_some h
 refine RS.ld 15 164 (.tmp 1) (z1 hx z31) ?_
 obtain ⟨q13,hx,hq13⟩:=bind_some h
 subst hx
 have h:=hq13
 refine RS.mS 3 [(18,.val (Value.pointer (some (Addr.add (Addr.add q13 0) 1)))),(17,.val (Value.pointer (some (Addr.add q13 0)))),kP 16 q13] ?_
 obtain ⟨x14,hx,h⟩:=bind_some h
 refine RS.ld 19 24 (.tmp 18) (z1 hx z6) (RS.mS 2 [kI 21 0,kI 20 (x14.n:Int)] (RS.dn (WS.nxt (WS.bk 2 ?_))))
 obtain ⟨o,hl,h⟩:=bind_some h
 rcases o with ⟨H18,v21_19⟩ | (r | H20)
 ·try dsimp only at h
  refine WS.lXI (z3e (L:=L) (E:=E) (m:=m) (H:=H)) (L.ok hl) 0 ?_
  clear hl
  refine fun a w hs=>bkE ((WS.nxt ?_ a w hs))
  refine WS.ex 0 ?_
  cases h
  exact fun a w hs=>bkX (by kernel_rfl) (lsB rfl (hs.sb 0))
 ·try dsimp only at h
  refine WS.lXR (z3e (L:=L) (E:=E) (m:=m) (H:=H)) (L.ok hl) 0 ?_
  cases h
  refine fun e a w hq=>?_
  obtain ⟨rfl,hq⟩:=hq
  exact bkR (sqR (bkR (lsR rfl hq)))
 ·try dsimp only at h
  refine WS.lXR (z3e (L:=L) (E:=E) (m:=m) (H:=H)) (L.ok hl) 0 ?_
  clear hl
  refine fun e a w hs=>?_
  obtain ⟨rfl,hs⟩:=hs
  revert hs
  revert w
  revert a
  cases h
  exact fun a w hs=>bkX (by kernel_rfl) (sqE (bkE (lsN rfl (hs.sb 0))))
theorem zhg {L:LC} {m:Nat} {H:AH} {a0:Option Addr} {r:(Sl3×AH)} (h:z7c L m H a0=some r) :
  CallS Tryz.prog (NE.plain 202) m 102 #[(Value.pointer a0)] H (z4e r) (z4r H r):=by
 refine CallS.mk (args:=[(Value.pointer a0)]) Tryz.func102 (B:=B102) (by kernel_rfl) (fun E _=>?_)
 unfold z7c at h
 refine WS.sq (WS.rg ?_)
 obtain ⟨⟨p1,H2⟩,hx,h⟩:=bind_some h
 try dsimp only at h
 refine RS.o (H':=H2) (some 1) (Value.pointer (some p1)) (Abs.run_newB (by kernel_rfl) hx) (RS.mS 1 [kS 2 Sl3.nil] (RS.dn (WS.nxt (WS.scope (by kernel_rfl) (WS.sq (WS.rg ?_))))))
 obtain ⟨x3,hx,h⟩:=bind_some h
 refine RS.ld 8 164 (.tmp 1) (z1 hx z31) ?_
 obtain ⟨q4,hx,hq4⟩:=bind_some h
 subst hx
 have h:=hq4
 refine RS.mS 3 [(11,.val (Value.pointer (some (Addr.add (Addr.add q4 0) 1)))),(10,.val (Value.pointer (some (Addr.add q4 0)))),kP 9 q4] ?_
 obtain ⟨x5,hx,h⟩:=bind_some h
 refine RS.ld 12 24 (.tmp 11) (z1 hx z6) (RS.mS 1 [kI 13 (x5.n:Int)] ?_)
 obtain ⟨⟨s6,H7⟩,hx,h⟩:=bind_some h
 try dsimp only at h
 refine RS.o (H':=H7) (some 14) (Sl3.v s6) (Abs.run_mk (t:=97) (x:=.tmp 13) (y:=.tmp 13) (k1:=.i64) (k2:=.i64) (by kernel_rfl) (by kernel_rfl) (by kernel_rfl) (by kernel_rfl) hx) ?_
 obtain ⟨⟨p8,H9⟩,hx,h⟩:=bind_some h
 try dsimp only at h
 refine RS.o (H':=H9) (some 3) (Value.pointer (some p8)) (Abs.run_newB (by kernel_rfl) hx) ?_
 obtain ⟨H10,hx,h⟩:=bind_some h
 refine RS.o (H':=H10) none undef (Abs.run_store1 (t:=97) (x:=.tmp 3) (y:=.tmp 14) (a:=p8) (v:=(Sl3.v s6)) (by kernel_rfl) (by kernel_rfl) (by kernel_rfl) (by kernel_rfl) (by kernel_rfl) hx) (RS.dn (WS.nxt (WS.sq (WS.sk (WS.nxt (WS.sq (WS.bk 0 ?_)))))))
 obtain ⟨o,hl,h⟩:=bind_some h
 rcases o with H21 | r
 ·try dsimp only at h
  refine WS.lI (z6s (L:=L) (E:=E) (m:=m) (H:=H)) (L.ok hl) 0 ?_
  clear hl
  refine fun a w hs=>bkE ((WS.nxt ?_ a w hs))
  refine WS.sq (WS.rg ?_)
  obtain ⟨x22,hx,h⟩:=bind_some h
  refine RS.ld 47 97 (.tmp 3) (z1 hx z6) (RS.mS 1 [kS 2 x22] (RS.dn (WS.nxt (WS.rt ?_))))
  cases h
  exact fun a w hs=>sgR (rtR (rS hs))
 ·try dsimp only at h
  refine WS.lR (z6s (L:=L) (E:=E) (m:=m) (H:=H)) (L.ok hl) 0 ?_
  cases h
  exact fun a w hq=>bkR (sqR (sgR (rtR hq)))
noncomputable def B92:Code:=(Tryz.f92.body).getD .skip
def zba:Bool→Value
 | r0=>(Value.bool r0)
def zcn (H:AH):Bool→AH:=fun _=>H
noncomputable def zck (_L:LC) (_H:AH) (_a0_0 a0_1 _a0_2:Sl3):(Int×Int)→Option (Lp (Int×Int) Bool):=fun (v3_1,v24_2) =>
 if v24_2<(a0_1.n:Int) then
  none
 else
  some (.brk (v3_1,v24_2))
def zkm (_L:LC) (_H:AH) (a0_0 a0_1 a0_2:Sl3):(Int×Int)→KN×Lcs:=fun (v3_1,v24_2)=>([kI 3 v3_1,kI 24 v24_2,kL 1 0 0,kS 22 a0_1,kI 23 (a0_1.n:Int)],[some (27,[(Sl3.v a0_0),(Sl3.v a0_1),(Sl3.v a0_2)])])
noncomputable def zc2 (_L:LC) (H:AH) (_a0_0 _a0_1 a0_2:Sl3) (_v3_3:Int):Int→Option (Lp Int Bool):=fun v64_5 =>
 if v64_5<(a0_2.n:Int) then
  Option.bind (idxA 6 a0_2 v64_5) fun p6 =>
  Option.bind (rd deS H (Addr.add p6 0)) fun _ =>
  Option.bind (rd deSl H (Addr.add p6 1)) fun x7_1 =>
  Option.bind (rd (deI .i64) H (Addr.add p6 2)) fun _ =>
  Option.bind (rd (deI .i64) H (Addr.add p6 3)) fun _ =>
  Option.bind (rd deS H (Addr.add p6 4)) fun _ =>
  Option.bind (rd deSl H (Addr.add p6 5)) fun _ =>
  if (x7_1.n:Int) > 64 then
   none
  else
   some (.next (IntKind.i64.wrap (v64_5+1)))
 else
  some (.brk v64_5)
def zkg (_L:LC) (_H:AH) (a0_0 a0_1 a0_2:Sl3) (v3_3:Int):Int→KN×Lcs:=fun v64_5=>([kI 64 v64_5,kI 3 v3_3,kS 62 a0_2,kI 63 (a0_2.n:Int)],[some (27,[(Sl3.v a0_0),(Sl3.v a0_1),(Sl3.v a0_2)])])
noncomputable def zid (L:LC) (H:AH) (a0_0 a0_1 a0_2:Sl3):Option Bool :=
 Option.bind (L.run (zck L H a0_0 a0_1 a0_2) ((IntKind.i64.wrap ((IntKind.i64.wrap ((a0_0.n:Int)+(a0_1.n:Int)))+(a0_2.n:Int))),0)) fun o=>match o with
 | .inl (v3_3,_) =>
  Option.bind (L.run (zc2 L H a0_0 a0_1 a0_2 v3_3) 0) fun o=>match o with
  | .inl _ =>
   some (decide (v3_3 > 4096))
  | .inr r=>some r
 | .inr r=>some r
theorem zda {E m L H a0_0 a0_1 a0_2} :LoopF Tryz.prog (NE.plain 202) m E Tryz.f92 ((cfst (csnd (cfst (csnd (csnd B92)))))) (zkm L H a0_0 a0_1 a0_2) (fun _=>H) 0 zba (zcn H) (zck L H a0_0 a0_1 a0_2):=by
 rintro ⟨v3_1,v24_2⟩ o h
 unfold zck at h
 try dsimp only at h
 refine WS.sq (WS.rg (RS.mS 1 [kB 25 (decide (v24_2<(a0_1.n:Int)))] (RS.dn (WS.nxt (WS.sq ?_)))))
 rcases z0 h with ⟨hp,h⟩ | ⟨hp,h⟩
 ·refine WS.fx 25 true (decide_eq_true hp) (WS.cT ?_)
  cases h
 ·refine WS.fx 25 false (decide_eq_false hp) (WS.cF (WS.ex 0 ?_))
  cases h
  exact fun a w hs=>sqE (lsB rfl (hs.sb 1))
theorem zdh {E m L H a0_0 a0_1 a0_2 v3_3} :LoopF Tryz.prog (NE.plain 202) m E Tryz.f92 ((cfst (csnd (cfst (csnd (csnd (csnd B92))))))) (zkg L H a0_0 a0_1 a0_2 v3_3) (fun _=>H) 4 zba (zcn H) (zc2 L H a0_0 a0_1 a0_2 v3_3):=by
 rintro v64_5 o h
 unfold zc2 at h
 try dsimp only at h
 refine WS.sq (WS.rg (RS.mS 1 [kB 65 (decide (v64_5<(a0_2.n:Int)))] (RS.dn (WS.nxt (WS.sq ?_)))))
 rcases z0 h with ⟨hp,h⟩ | ⟨hp,h⟩
 ·refine WS.fx 65 true (decide_eq_true hp) (WS.cT (WS.sk (WS.nxt (WS.sq (WS.bk 5 (WS.sq (WS.rg ?_)))))))
  obtain ⟨p6,hx,h⟩:=bind_some h
  refine RS.ix 66 25 84 (.tmp 62) (.tmp 64) hx ?_
  obtain ⟨x7_0,hx0,h⟩:=bind_some h
  obtain ⟨x7_1,hx1,h⟩:=bind_some h
  obtain ⟨x7_2,hx2,h⟩:=bind_some h
  obtain ⟨x7_3,hx3,h⟩:=bind_some h
  obtain ⟨x7_4,hx4,h⟩:=bind_some h
  obtain ⟨x7_5,hx5,h⟩:=bind_some h
  refine RS.la 67 84 (.tmp 66) 6 (z3 (z1 hx0 zl) (z3 (z1 hx1 z6) (z3 (z1 hx2 z8) (z3 (z1 hx3 z8) (z3 (z1 hx4 zl) (z3 (z1 hx5 z6) z30)))))) (RS.mL 2 [kL 9 1 0] ([some (27,[(Sl3.v a0_0),(Sl3.v a0_1),(Sl3.v a0_2)]),some (84,[(Value.string x7_0),(Sl3.v x7_1),(Value.int .i64 x7_2),(Value.int .i64 x7_3),(Value.string x7_4),(Sl3.v x7_5)])]) (RS.dn (WS.nxt (WS.sq (WS.rg (RS.mS 4 [kB 71 (decide ((x7_1.n:Int) > 64)),kI 70 (x7_1.n:Int),kS 69 x7_1,kL 68 1 1] (RS.dn (WS.nxt ?_))))))))
  rcases z0 h with ⟨hp,h⟩ | ⟨hp,h⟩
  ·refine WS.fx 71 true (decide_eq_true hp) (WS.cT ?_)
   cases h
  ·refine WS.fx 71 false (decide_eq_false hp) (WS.cF (WS.sk ?_))
   refine fun a w hs=>bkN ((WS.nxt ?_ a w hs))
   refine WS.rg (RS.mS 2 [kI 64 (IntKind.i64.wrap (v64_5+1)),kI 72 (IntKind.i64.wrap (v64_5+1))] (RS.dn ?_))
   cases h
   exact fun a w hs=>lsN rfl (hs.sb 1)
 ·refine WS.fx 65 false (decide_eq_false hp) (WS.cF (WS.ex 4 ?_))
  cases h
  exact fun a w hs=>sqE (lsB rfl (hs.sb 1))
theorem zmw {L:LC} {m:Nat} {H:AH} {a0_0 a0_1 a0_2:Sl3} {r:Bool} (h:zid L H a0_0 a0_1 a0_2=some r) :
  CallS Tryz.prog (NE.plain 202) m 92 #[(Value.agg #[(Sl3.v a0_0),(Sl3.v a0_1),(Sl3.v a0_2)])] H (zba r) (zcn H r):=by
 refine CallS.mk (args:=[(Value.agg #[(Sl3.v a0_0),(Sl3.v a0_1),(Sl3.v a0_2)])]) Tryz.func92 (B:=B92) (by kernel_rfl) (fun E _=>?_)
 unfold zid at h
 refine WS.sq (WS.rg (RS.mL 2 [kB 2 false,kL 1 0 0] ([some (27,[(Sl3.v a0_0),(Sl3.v a0_1),(Sl3.v a0_2)])]) (RS.dn (WS.nxt (WS.sq (WS.rg (RS.mS 12 [kI 3 (IntKind.i64.wrap ((IntKind.i64.wrap ((a0_0.n:Int)+(a0_1.n:Int)))+(a0_2.n:Int))),kI 20 (IntKind.i64.wrap ((IntKind.i64.wrap ((a0_0.n:Int)+(a0_1.n:Int)))+(a0_2.n:Int))),kI 19 (a0_2.n:Int),kS 18 a0_2,kL 17 0 2,kI 16 (IntKind.i64.wrap ((a0_0.n:Int)+(a0_1.n:Int))),kI 15 (a0_1.n:Int),kS 14 a0_1,kL 13 0 1,kI 12 (a0_0.n:Int),kS 11 a0_0,kL 10 0 0] (RS.dn (WS.nxt ?_)))))))))
 refine WS.sq (WS.sq (WS.rg (RS.mS 4 [kI 24 0,kI 23 (a0_1.n:Int),kS 22 a0_1,kL 21 0 1] (RS.dn (WS.nxt (WS.bk 0 ?_))))))
 obtain ⟨o,hl,h⟩:=bind_some h
 rcases o with ⟨v3_3,v24_4⟩ | r
 ·try dsimp only at h
  refine WS.lI (zda (L:=L) (E:=E) (m:=m) (H:=H)) (L.ok hl) 1 ?_
  clear hl
  refine fun a w hs=>bkE ((WS.nxt ?_ a w hs))
  refine WS.sq (WS.sq (WS.rg (RS.mS 4 [kI 64 0,kI 63 (a0_2.n:Int),kS 62 a0_2,kL 61 0 2] (RS.dn (WS.nxt (WS.bk 4 ?_))))))
  obtain ⟨o,hl,h⟩:=bind_some h
  rcases o with v64_8 | r
  ·try dsimp only at h
   refine WS.lI (zdh (L:=L) (E:=E) (m:=m) (H:=H)) (L.ok hl) 1 ?_
   clear hl
   refine fun a w hs=>bkE ((WS.nxt ?_ a w hs))
   refine WS.sq (WS.rg (RS.mS 3 [kB 2 (decide (v3_3 > 4096)),kB 74 (decide (v3_3 > 4096)),kI 73 v3_3] (RS.dn (WS.nxt (WS.rt ?_)))))
   cases h
   exact fun a w hs=>rtR (rS hs)
  ·try dsimp only at h
   refine WS.lR (zdh (L:=L) (E:=E) (m:=m) (H:=H)) (L.ok hl) 1 ?_
   cases h
   exact fun a w hq=>bkR (sqR (rtR hq))
 ·try dsimp only at h
  refine WS.lR (zda (L:=L) (E:=E) (m:=m) (H:=H)) (L.ok hl) 1 ?_
  cases h
  exact fun a w hq=>bkR (sqR (rtR hq))
noncomputable def B94:Code:=(Tryz.f94.body).getD .skip
def zh5:(Sl3×AH)→Value
 | (r0,_)=>(Sl3.v r0)
def zhn (_:AH):(Sl3×AH)→AH:=fun r=>r.2
noncomputable def z39 (_L:LC) (_m:Nat) (H:AH) (a0:Sl3):Option (Sl3×AH) :=
 if (isNilS a0)=true then
  some (Sl3.nil,H)
 else
  none
theorem z5p {L:LC} {m:Nat} {H:AH} {a0:Sl3} {r:(Sl3×AH)} (h:z39 L m H a0=some r) :
  CallS Tryz.prog (NE.plain 202) m 94 #[(Sl3.v a0)] H (zh5 r) (zhn H r):=by
 refine CallS.mk (args:=[(Sl3.v a0)]) Tryz.func94 (B:=B94) (by kernel_rfl) (fun E _=>?_)
 unfold z39 at h
 refine WS.sq (WS.rg (RS.mS 1 [kS 2 Sl3.nil] (RS.dn (WS.nxt (WS.sq (WS.sq (WS.rg (RS.mS 1 [kS 3 a0] (RS.o (H':=H) (some 4) (Value.bool (isNilS a0)) (za1 (t:=23) (e:=9) (u:=23) (x:=.tmp 3) (y:=.const (Sl3.v Sl3.nil)) (s:=a0) (by kernel_rfl) (by kernel_rfl) (by kernel_rfl) (by kernel_rfl)) ?_)))))))))
 refine RS.dn (WS.nxt ?_)
 rcases z0 h with ⟨hp,h⟩ | ⟨hp,h⟩
 ·refine WS.fx 4 true hp (WS.cT (WS.sq (WS.rg (RS.mS 1 [kS 2 Sl3.nil] (RS.dn (WS.nxt (WS.rt ?_)))))))
  cases h
  exact fun a w hs=>sqR (rtR (rS hs))
 ·refine WS.fx 4 false (b_not hp) (WS.cF ?_)
  cases h
noncomputable def B93:Code:=(Tryz.f93.body).getD .skip
def z9q:(Sl3×Sl3×AH)→Value
 | (r0,r1,_)=>(Value.tuple #[(Sl3.v r0),(Sl3.v r1)])
def zb8 (_:AH):(Sl3×Sl3×AH)→AH:=fun r=>r.2.2
noncomputable def zaz (_L:LC) (_a0_0 a0_1 _a0_2:Sl3):(AH×Sl3×Sl3×Int)→Option (Lp (AH×Sl3×Sl3×Int) (Sl3×Sl3×AH)):=fun (H3,v4_4,v5_5,v20_6) =>
 if v20_6<(a0_1.n:Int) then
  none
 else
  some (.brk (H3,v4_4,v5_5,v20_6))
def zk1 (_L:LC) (a0_0 a0_1 a0_2:Sl3):(AH×Sl3×Sl3×Int)→KN×Lcs:=fun (_,v4_4,v5_5,v20_6)=>([kS 4 v4_4,kS 5 v5_5,kI 20 v20_6,kL 1 0 0,kS 18 a0_1,kI 19 (a0_1.n:Int)],[some (27,[(Sl3.v a0_0),(Sl3.v a0_1),(Sl3.v a0_2)])])
noncomputable def zal (_L:LC) (m:Nat) (_a0_0 _a0_1:Sl3) (a0_2 _v4_8:Sl3):(AH×Sl3×Int)→Option (Lp (AH×Sl3×Int) (Sl3×Sl3×AH)):=fun (H11,v5_12,v59_13) =>
 if v59_13<(a0_2.n:Int) then
  Option.bind (idxA 6 a0_2 v59_13) fun p14 =>
  Option.bind (rd deS H11 (Addr.add p14 0)) fun x15_0 =>
  Option.bind (rd deSl H11 (Addr.add p14 1)) fun _ =>
  Option.bind (rd (deI .i64) H11 (Addr.add p14 2)) fun _ =>
  Option.bind (rd (deI .i64) H11 (Addr.add p14 3)) fun _ =>
  Option.bind (rd deS H11 (Addr.add p14 4)) fun _ =>
  Option.bind (rd deSl H11 (Addr.add p14 5)) fun _ =>
  Option.bind (newR 9 1 #[(Value.string x15_0)] H11) fun (s16,H17) =>
  Option.bind (appS m 9 1 16 H17 v5_12 s16) fun (s18,H19) =>
  some (.next (H19,s18,(IntKind.i64.wrap (v59_13+1))))
 else
  some (.brk (H11,v5_12,v59_13))
def zjw (_L:LC) (_m:Nat) (a0_0 a0_1:Sl3) (a0_2 v4_8:Sl3):(AH×Sl3×Int)→KN×Lcs:=fun (_,v5_12,v59_13)=>([kS 5 v5_12,kI 59 v59_13,kS 4 v4_8,kS 57 a0_2,kI 58 (a0_2.n:Int)],[some (27,[(Sl3.v a0_0),(Sl3.v a0_1),(Sl3.v a0_2)])])
noncomputable def zfj (L:LC) (m:Nat) (H:AH) (a0_0 a0_1 a0_2:Sl3):Option (Sl3×Sl3×AH) :=
 Option.bind (z39 L m H a0_0) fun (x1,H2) =>
 Option.bind (L.run (zaz L a0_0 a0_1 a0_2) (H2,x1,Sl3.nil,0)) fun o=>match o with
 | .inl (H7,v4_8,v5_9,_) =>
  Option.bind (L.run (zal L m a0_0 a0_1 a0_2 v4_8) (H7,v5_9,0)) fun o=>match o with
  | .inl (H20,v5_21,_) =>
   some (v4_8,v5_21,H20)
  | .inr r=>some r
 | .inr r=>some r
theorem zby {E m H L a0_0 a0_1 a0_2} :LoopF Tryz.prog (NE.plain 202) m E Tryz.f93 ((cfst (csnd (cfst (csnd (csnd (csnd B93))))))) (zk1 L a0_0 a0_1 a0_2) (fun s=>s.1) 0 z9q (zb8 H) (zaz L a0_0 a0_1 a0_2):=by
 rintro ⟨H3,v4_4,v5_5,v20_6⟩ o h
 unfold zaz at h
 try dsimp only at h
 refine WS.sq (WS.rg (RS.mS 1 [kB 21 (decide (v20_6<(a0_1.n:Int)))] (RS.dn (WS.nxt (WS.sq ?_)))))
 rcases z0 h with ⟨hp,h⟩ | ⟨hp,h⟩
 ·refine WS.fx 21 true (decide_eq_true hp) (WS.cT ?_)
  cases h
 ·refine WS.fx 21 false (decide_eq_false hp) (WS.cF (WS.ex 0 ?_))
  cases h
  exact fun a w hs=>sqE (lsB rfl (hs.sb 1))
theorem zcg {E H L m a0_0 a0_1 a0_2 v4_8} :LoopF Tryz.prog (NE.plain 202) m E Tryz.f93 ((cfst (csnd (cfst (csnd (csnd (csnd (csnd B93)))))))) (zjw L m a0_0 a0_1 a0_2 v4_8) (fun s=>s.1) 6 z9q (zb8 H) (zal L m a0_0 a0_1 a0_2 v4_8):=by
 rintro ⟨H11,v5_12,v59_13⟩ o h
 unfold zal at h
 try dsimp only at h
 refine WS.sq (WS.rg (RS.mS 1 [kB 60 (decide (v59_13<(a0_2.n:Int)))] (RS.dn (WS.nxt (WS.sq ?_)))))
 rcases z0 h with ⟨hp,h⟩ | ⟨hp,h⟩
 ·refine WS.fx 60 true (decide_eq_true hp) (WS.cT (WS.sk (WS.nxt (WS.sq (WS.bk 7 (WS.sq (WS.rg ?_)))))))
  obtain ⟨p14,hx,h⟩:=bind_some h
  refine RS.ix 61 25 84 (.tmp 57) (.tmp 59) hx ?_
  obtain ⟨x15_0,hx0,h⟩:=bind_some h
  obtain ⟨x15_1,hx1,h⟩:=bind_some h
  obtain ⟨x15_2,hx2,h⟩:=bind_some h
  obtain ⟨x15_3,hx3,h⟩:=bind_some h
  obtain ⟨x15_4,hx4,h⟩:=bind_some h
  obtain ⟨x15_5,hx5,h⟩:=bind_some h
  refine RS.la 62 84 (.tmp 61) 6 (z3 (z1 hx0 zl) (z3 (z1 hx1 z6) (z3 (z1 hx2 z8) (z3 (z1 hx3 z8) (z3 (z1 hx4 zl) (z3 (z1 hx5 z6) z30)))))) (RS.mL 2 [kL 13 1 0] ([some (27,[(Sl3.v a0_0),(Sl3.v a0_1),(Sl3.v a0_2)]),some (84,[(Value.string x15_0),(Sl3.v x15_1),(Value.int .i64 x15_2),(Value.int .i64 x15_3),(Value.string x15_4),(Sl3.v x15_5)])]) (RS.dn (WS.nxt (WS.rg (RS.mS 3 [kT 65 x15_0,kL 64 1 0,kS 63 v5_12] ?_)))))
  obtain ⟨⟨s16,H17⟩,hx,h⟩:=bind_some h
  try dsimp only at h
  refine RS.o (H':=H17) (some 66) (Sl3.v s16) (Abs.run_newR (by kernel_rfl) (by kernel_rfl) hx) ?_
  obtain ⟨⟨s18,H19⟩,hx,h⟩:=bind_some h
  try dsimp only at h
  refine RS.o (H':=H19) (some 67) (Sl3.v s18) (Abs.run_app (x:=.tmp 63) (y:=.tmp 66) (ts:=#[23,23]) (s:=v5_12) (z:=s16) (by kernel_rfl) (by kernel_rfl) (by kernel_rfl) (by kernel_rfl) hx) (RS.mS 1 [kS 5 s18] (RS.dn ?_))
  refine fun a w hs=>bkN ((WS.nxt ?_ a w hs))
  refine WS.rg (RS.mS 2 [kI 59 (IntKind.i64.wrap (v59_13+1)),kI 68 (IntKind.i64.wrap (v59_13+1))] (RS.dn ?_))
  cases h
  exact fun a w hs=>lsN rfl (hs.sb 1)
 ·refine WS.fx 60 false (decide_eq_false hp) (WS.cF (WS.ex 6 ?_))
  cases h
  exact fun a w hs=>sqE (lsB rfl (hs.sb 1))
theorem zm3 {L:LC} {m:Nat} {H:AH} {a0_0 a0_1 a0_2:Sl3} {r:(Sl3×Sl3×AH)} (h:zfj L m H a0_0 a0_1 a0_2=some r) :
  CallS Tryz.prog (NE.plain 202) m 93 #[(Value.agg #[(Sl3.v a0_0),(Sl3.v a0_1),(Sl3.v a0_2)])] H (z9q r) (zb8 H r):=by
 refine CallS.mk (args:=[(Value.agg #[(Sl3.v a0_0),(Sl3.v a0_1),(Sl3.v a0_2)])]) Tryz.func93 (B:=B93) (by kernel_rfl) (fun E _=>?_)
 unfold zfj at h
 refine WS.sq (WS.rg (RS.mL 3 [kS 3 Sl3.nil,kS 2 Sl3.nil,kL 1 0 0] ([some (27,[(Sl3.v a0_0),(Sl3.v a0_1),(Sl3.v a0_2)])]) (RS.dn (WS.nxt (WS.sq (WS.rg (RS.mS 2 [kS 15 a0_0,kL 14 0 0] ?_)))))))
 obtain ⟨⟨x1,H2⟩,hx,h⟩:=bind_some h
 try dsimp only at h
 refine RS.cl (some 16) (v:=(Sl3.v x1)) 94 #[(Sl3.v a0_0)] (z5p hx) (RS.mS 1 [kS 4 x1] (RS.dn (WS.nxt (WS.sq (WS.rg (RS.mS 1 [kS 5 Sl3.nil] (RS.dn (WS.nxt (WS.sq ?_)))))))))
 refine WS.sq (WS.rg (RS.mS 4 [kI 20 0,kI 19 (a0_1.n:Int),kS 18 a0_1,kL 17 0 1] (RS.dn (WS.nxt (WS.bk 0 ?_)))))
 obtain ⟨o,hl,h⟩:=bind_some h
 rcases o with ⟨H7,v4_8,v5_9,v20_10⟩ | r
 ·try dsimp only at h
  refine WS.lI (zby (L:=L) (E:=E) (m:=m) (H:=H)) (L.ok hl) 1 ?_
  clear hl
  refine fun a w hs=>bkE ((WS.nxt ?_ a w hs))
  refine WS.sq (WS.sq (WS.rg (RS.mS 4 [kI 59 0,kI 58 (a0_2.n:Int),kS 57 a0_2,kL 56 0 2] (RS.dn (WS.nxt (WS.bk 6 ?_))))))
  obtain ⟨o,hl,h⟩:=bind_some h
  rcases o with ⟨H20,v5_21,v59_22⟩ | r
  ·try dsimp only at h
   refine WS.lI (zcg (L:=L) (E:=E) (m:=m) (H:=H)) (L.ok hl) 1 ?_
   clear hl
   refine fun a w hs=>bkE ((WS.nxt ?_ a w hs))
   refine WS.sq (WS.rg (RS.mS 4 [kS 3 v5_21,kS 2 v4_8,kS 70 v5_21,kS 69 v4_8] (RS.dn (WS.nxt (WS.rt ?_)))))
   cases h
   exact fun a w hs=>rtR (rS hs)
  ·try dsimp only at h
   refine WS.lR (zcg (L:=L) (E:=E) (m:=m) (H:=H)) (L.ok hl) 1 ?_
   cases h
   exact fun a w hq=>bkR (sqR (rtR hq))
 ·try dsimp only at h
  refine WS.lR (zby (L:=L) (E:=E) (m:=m) (H:=H)) (L.ok hl) 1 ?_
  cases h
  exact fun a w hq=>bkR (sqR (rtR hq))
noncomputable def B96:Code:=(Tryz.f96.body).getD .skip
def zf1:(Bool×AH)→Value
 | (r0,_)=>(Value.bool r0)
def zgn (_:AH):(Bool×AH)→AH:=fun r=>r.2
noncomputable def zaj (_L:LC) (m:Nat) (a0:Sl3) (p1:Nat):(AH×Int)→Option (Lp (AH×Int) (Bool×AH)):=fun (H3,v9_4) =>
 if v9_4<(a0.n:Int) then
  Option.bind (idxA 1 a0 v9_4) fun p5 =>
  Option.bind (rd deS H3 p5) fun x6 =>
  Option.bind (lk1 Tryz.prog 218 deB H3 (some p1) (Value.string x6)) fun x7 =>
  if x7=true then
   none
  else
   Option.bind (upM Tryz.prog m 218 H3 (some p1) (Value.string x6) (Value.bool true)) fun H8 =>
   some (.next (H8,(IntKind.i64.wrap (v9_4+1))))
 else
  some (.brk (H3,v9_4))
def zjy (_L:LC) (_m:Nat) (a0:Sl3) (p1:Nat):(AH×Int)→KN×Lcs:=fun (_,v9_4)=>([kI 9 v9_4,(3,.val (Value.map (some p1))),kS 7 a0,kI 8 (a0.n:Int)],[])
noncomputable def zbl (L:LC) (m:Nat) (H:AH) (a0:Sl3):Option (Bool×AH) :=
 Option.bind (newM H) fun (p1,H2) =>
 Option.bind (L.run (zaj L m a0 p1) (H2,0)) fun o=>match o with
 | .inl (H9,_) =>
  some (false,H9)
 | .inr r=>some r
theorem zbx {E H L m a0 p1} :LoopF Tryz.prog (NE.plain 202) m E Tryz.f96 ((cfst (csnd (cfst (csnd (csnd B96)))))) (zjy L m a0 p1) (fun s=>s.1) 0 zf1 (zgn H) (zaj L m a0 p1):=by
 rintro ⟨H3,v9_4⟩ o h
 unfold zaj at h
 try dsimp only at h
 refine WS.sq (WS.rg (RS.mS 1 [kB 10 (decide (v9_4<(a0.n:Int)))] (RS.dn (WS.nxt (WS.sq ?_)))))
 rcases z0 h with ⟨hp,h⟩ | ⟨hp,h⟩
 ·refine WS.fx 10 true (decide_eq_true hp) (WS.cT (WS.sk (WS.nxt (WS.sq (WS.bk 1 (WS.sq (WS.rg ?_)))))))
  obtain ⟨p5,hx,h⟩:=bind_some h
  refine RS.ix 11 23 9 (.tmp 7) (.tmp 9) hx ?_
  obtain ⟨x6,hx,h⟩:=bind_some h
  refine RS.ld 12 9 (.tmp 11) (z1 hx zl) (RS.mS 1 [kT 5 x6] (RS.dn (WS.nxt (WS.sq (WS.sq (WS.rg (RS.mS 2 [kT 14 x6,(13,.val (Value.map (some p1)))] ?_)))))))
  obtain ⟨x7,hx,h⟩:=bind_some h
  refine RS.o (H':=H3) (some 15) (Value.bool x7) (Abs.run_look (t:=218) (x:=.tmp 13) (y:=.tmp 14) (mm:=(some p1)) (k:=(Value.string x6)) (by kernel_rfl) (by kernel_rfl) (by kernel_rfl) (by kernel_rfl) (lk1_eq hx zbu)) (RS.dn (WS.nxt ?_))
  rcases z0 h with ⟨hp,h⟩ | ⟨hp,h⟩
  ·refine WS.fx 15 true hp (WS.cT ?_)
   cases h
  ·refine WS.fx 15 false (b_not hp) (WS.cF (WS.sk (WS.nxt (WS.rg (RS.mS 2 [kT 17 x6,(16,.val (Value.map (some p1)))] ?_)))))
   obtain ⟨H8,hx,h⟩:=bind_some h
   refine RS.o (H':=H8) none undef (Abs.run_upM (t:=218) (x:=.tmp 16) (y:=.tmp 17) (z:=.const (Value.bool true)) (mm:=(some p1)) (k:=(Value.string x6)) (v:=(Value.bool true)) (by kernel_rfl) (by kernel_rfl) (by kernel_rfl) (by kernel_rfl) (by kernel_rfl) hx) (RS.dn ?_)
   refine fun a w hs=>bkN ((WS.nxt ?_ a w hs))
   refine WS.rg (RS.mS 2 [kI 9 (IntKind.i64.wrap (v9_4+1)),kI 18 (IntKind.i64.wrap (v9_4+1))] (RS.dn ?_))
   cases h
   exact fun a w hs=>lsN rfl (hs.sb 0)
 ·refine WS.fx 10 false (decide_eq_false hp) (WS.cF (WS.ex 0 ?_))
  cases h
  exact fun a w hs=>sqE (lsB rfl (hs.sb 0))
theorem zgo {L:LC} {m:Nat} {H:AH} {a0:Sl3} {r:(Bool×AH)} (h:zbl L m H a0=some r) :
  CallS Tryz.prog (NE.plain 202) m 96 #[(Sl3.v a0)] H (zf1 r) (zgn H r):=by
 refine CallS.mk (args:=[(Sl3.v a0)]) Tryz.func96 (B:=B96) (by kernel_rfl) (fun E _=>?_)
 unfold zbl at h
 refine WS.sq (WS.rg (RS.mS 1 [kB 2 false] (RS.dn (WS.nxt (WS.sq (WS.rg ?_))))))
 obtain ⟨⟨p1,H2⟩,hx,h⟩:=bind_some h
 try dsimp only at h
 refine RS.o (H':=H2) (some 6) (Value.map (some p1)) (Abs.run_newM (by kernel_rfl) hx) (RS.mS 1 [(3,.val (Value.map (some p1)))] (RS.dn (WS.nxt (WS.sq (WS.sq (WS.rg (RS.mS 3 [kI 9 0,kI 8 (a0.n:Int),kS 7 a0] (RS.dn (WS.nxt ?_)))))))))
 refine WS.bk 0 ?_
 obtain ⟨o,hl,h⟩:=bind_some h
 rcases o with ⟨H9,v9_10⟩ | r
 ·try dsimp only at h
  refine WS.lI (zbx (L:=L) (E:=E) (m:=m) (H:=H)) (L.ok hl) 0 ?_
  clear hl
  refine fun a w hs=>bkE ((WS.nxt ?_ a w hs))
  refine WS.sq (WS.rg (RS.mS 1 [kB 2 false] (RS.dn (WS.nxt (WS.rt ?_)))))
  cases h
  exact fun a w hs=>rtR (rS hs)
 ·try dsimp only at h
  refine WS.lR (zbx (L:=L) (E:=E) (m:=m) (H:=H)) (L.ok hl) 0 ?_
  cases h
  exact fun a w hq=>bkR (sqR (rtR hq))
noncomputable def B97:Code:=(Tryz.f97.body).getD .skip
def zb0:((Option Addr)×AH)→Value
 | (r0,_)=>(Value.pointer r0)
def zco (_:AH):((Option Addr)×AH)→AH:=fun r=>r.2
noncomputable def zc3 (_L:LC) (a0_0 _a0_1 _a0_2:Sl3) (_p3:Addr):(AH×Int)→Option (Lp (AH×Int) ((Option Addr)×AH)):=fun (H5,v17_6) =>
 if v17_6<(a0_0.n:Int) then
  none
 else
  some (.brk (H5,v17_6))
def zky (_L:LC) (a0_0 a0_1 a0_2:Sl3) (p3:Addr):(AH×Int)→KN×Lcs:=fun (_,v17_6)=>([kI 17 v17_6,kL 1 0 0,kP 3 p3,kS 15 a0_0,kI 16 (a0_0.n:Int)],[some (27,[(Sl3.v a0_0),(Sl3.v a0_1),(Sl3.v a0_2)])])
noncomputable def zcb (_L:LC) (_a0_0 a0_1 _a0_2:Sl3) (_p3:Addr):(AH×Int)→Option (Lp (AH×Int) ((Option Addr)×AH)):=fun (H9,v31_10) =>
 if v31_10<(a0_1.n:Int) then
  none
 else
  some (.brk (H9,v31_10))
def zkl (_L:LC) (a0_0 a0_1 a0_2:Sl3) (p3:Addr):(AH×Int)→KN×Lcs:=fun (_,v31_10)=>([kI 31 v31_10,kP 3 p3,kS 29 a0_1,kI 30 (a0_1.n:Int)],[some (27,[(Sl3.v a0_0),(Sl3.v a0_1),(Sl3.v a0_2)])])
noncomputable def zhr (L:LC) (_m:Nat) (H:AH) (a0_0 a0_1 a0_2:Sl3):Option ((Option Addr)×AH) :=
 Option.bind (newM H) fun (p1,H2) =>
 Option.bind (newB 221 [(Sl3.v a0_0),(Sl3.v a0_1),(Sl3.v a0_2),(Value.map (some p1))] H2) fun (p3,H4) =>
 Option.bind (L.run (zc3 L a0_0 a0_1 a0_2 p3) (H4,0)) fun o=>match o with
 | .inl (H7,_) =>
  Option.bind (L.run (zcb L a0_0 a0_1 a0_2 p3) (H7,0)) fun o=>match o with
  | .inl (H11,_) =>
   some ((some p3),H11)
  | .inr r=>some r
 | .inr r=>some r
theorem zdb {E m H L a0_0 a0_1 a0_2 p3} :LoopF Tryz.prog (NE.plain 202) m E Tryz.f97 ((cfst (csnd (cfst (csnd (csnd B97)))))) (zky L a0_0 a0_1 a0_2 p3) (fun s=>s.1) 0 zb0 (zco H) (zc3 L a0_0 a0_1 a0_2 p3):=by
 rintro ⟨H5,v17_6⟩ o h
 unfold zc3 at h
 try dsimp only at h
 refine WS.sq (WS.rg (RS.mS 1 [kB 18 (decide (v17_6<(a0_0.n:Int)))] (RS.dn (WS.nxt (WS.sq ?_)))))
 rcases z0 h with ⟨hp,h⟩ | ⟨hp,h⟩
 ·refine WS.fx 18 true (decide_eq_true hp) (WS.cT ?_)
  cases h
 ·refine WS.fx 18 false (decide_eq_false hp) (WS.cF (WS.ex 0 ?_))
  cases h
  exact fun a w hs=>sqE (lsB rfl (hs.sb 1))
theorem zdn {E m H L a0_0 a0_1 a0_2 p3} :LoopF Tryz.prog (NE.plain 202) m E Tryz.f97 ((cfst (csnd (cfst (csnd (csnd (csnd B97))))))) (zkl L a0_0 a0_1 a0_2 p3) (fun s=>s.1) 2 zb0 (zco H) (zcb L a0_0 a0_1 a0_2 p3):=by
 rintro ⟨H9,v31_10⟩ o h
 unfold zcb at h
 try dsimp only at h
 refine WS.sq (WS.rg (RS.mS 1 [kB 32 (decide (v31_10<(a0_1.n:Int)))] (RS.dn (WS.nxt (WS.sq ?_)))))
 rcases z0 h with ⟨hp,h⟩ | ⟨hp,h⟩
 ·refine WS.fx 32 true (decide_eq_true hp) (WS.cT ?_)
  cases h
 ·refine WS.fx 32 false (decide_eq_false hp) (WS.cF (WS.ex 2 ?_))
  cases h
  exact fun a w hs=>sqE (lsB rfl (hs.sb 1))
theorem znn {L:LC} {m:Nat} {H:AH} {a0_0 a0_1 a0_2:Sl3} {r:((Option Addr)×AH)} (h:zhr L m H a0_0 a0_1 a0_2=some r) :
  CallS Tryz.prog (NE.plain 202) m 97 #[(Value.agg #[(Sl3.v a0_0),(Sl3.v a0_1),(Sl3.v a0_2)])] H (zb0 r) (zco H r):=by
 refine CallS.mk (args:=[(Value.agg #[(Sl3.v a0_0),(Sl3.v a0_1),(Sl3.v a0_2)])]) Tryz.func97 (B:=B97) (by kernel_rfl) (fun E _=>?_)
 unfold zhr at h
 refine WS.sq (WS.rg (RS.mL 2 [(2,.val (Value.pointer none)),kL 1 0 0] ([some (27,[(Sl3.v a0_0),(Sl3.v a0_1),(Sl3.v a0_2)])]) (RS.dn (WS.nxt (WS.sq (WS.rg (RS.mS 1 [kA 10 #[(Sl3.v a0_0),(Sl3.v a0_1),(Sl3.v a0_2)]] ?_)))))))
 obtain ⟨⟨p1,H2⟩,hx,h⟩:=bind_some h
 try dsimp only at h
 refine RS.o (H':=H2) (some 11) (Value.map (some p1)) (Abs.run_newM (by kernel_rfl) hx) (RS.mS 1 [kA 12 #[(Sl3.v a0_0),(Sl3.v a0_1),(Sl3.v a0_2),(Value.map (some p1))]] ?_)
 obtain ⟨⟨p3,H4⟩,hx,h⟩:=bind_some h
 try dsimp only at h
 refine RS.o (H':=H4) (some 13) (Value.pointer (some p3)) (Abs.run_newB (by kernel_rfl) hx) (RS.mS 1 [kP 3 p3] (RS.dn (WS.nxt (WS.sq (WS.sq (WS.rg (RS.mS 4 [kI 17 0,kI 16 (a0_0.n:Int),kS 15 a0_0,kL 14 0 0] (RS.dn (WS.nxt ?_)))))))))
 refine WS.bk 0 ?_
 obtain ⟨o,hl,h⟩:=bind_some h
 rcases o with ⟨H7,v17_8⟩ | r
 ·try dsimp only at h
  refine WS.lI (zdb (L:=L) (E:=E) (m:=m) (H:=H)) (L.ok hl) 1 ?_
  clear hl
  refine fun a w hs=>bkE ((WS.nxt ?_ a w hs))
  refine WS.sq (WS.sq (WS.rg (RS.mS 4 [kI 31 0,kI 30 (a0_1.n:Int),kS 29 a0_1,kL 28 0 1] (RS.dn (WS.nxt (WS.bk 2 ?_))))))
  obtain ⟨o,hl,h⟩:=bind_some h
  rcases o with ⟨H11,v31_12⟩ | r
  ·try dsimp only at h
   refine WS.lI (zdn (L:=L) (E:=E) (m:=m) (H:=H)) (L.ok hl) 1 ?_
   clear hl
   refine fun a w hs=>bkE ((WS.nxt ?_ a w hs))
   refine WS.sq (WS.rg (RS.mS 2 [kP 2 p3,kP 58 p3] (RS.dn (WS.nxt (WS.rt ?_)))))
   cases h
   exact fun a w hs=>rtR (rS hs)
  ·try dsimp only at h
   refine WS.lR (zdn (L:=L) (E:=E) (m:=m) (H:=H)) (L.ok hl) 1 ?_
   cases h
   exact fun a w hq=>bkR (sqR (rtR hq))
 ·try dsimp only at h
  refine WS.lR (zdb (L:=L) (E:=E) (m:=m) (H:=H)) (L.ok hl) 1 ?_
  cases h
  exact fun a w hq=>bkR (sqR (rtR hq))
noncomputable def B208:Code:=(Tryz.f208.body).getD .skip
def z5z:(Int×Bool)→Value
 | (r0,r1)=>(Value.tuple #[(Value.int .i64 r0),(Value.bool r1)])
def z7a (H:AH):(Int×Bool)→AH:=fun _=>H
noncomputable def zar (_L:LC) (_H:AH) (_a0_0 _a0_1:Int) (_a0_2:ByteArray) (a0_3:Sl3) (_a1:Int):(Int×Int)→Option (Lp (Int×Int) (Int×Bool)):=fun (v6_1,v16_2) =>
 if v16_2<(a0_3.n:Int) then
  none
 else
  some (.brk (v6_1,v16_2))
def zk4 (_L:LC) (_H:AH) (a0_0 a0_1:Int) (a0_2:ByteArray) (a0_3:Sl3) (a1:Int):(Int×Int)→KN×Lcs:=fun (v6_1,v16_2)=>([kI 6 v6_1,kI 16 v16_2,kI 1 a1,kS 14 a0_3,kI 15 (a0_3.n:Int)],[some (68,[(Value.int .i64 a0_0),(Value.int .i64 a0_1),(Value.string a0_2),(Sl3.v a0_3)])])
noncomputable def z8d (L:LC) (H:AH) (a0_0 a0_1:Int) (a0_2:ByteArray) (a0_3:Sl3) (a1:Int):Option (Int×Bool) :=
 if a1 > 16 then
  none
 else
  Option.bind (L.run (zar L H a0_0 a0_1 a0_2 a0_3 a1) (1,0)) fun o=>match o with
  | .inl (v6_3,_) =>
   some (v6_3,true)
  | .inr r=>some r
noncomputable def zf2 (L:LC) (n:Nat):(AH→Int→Int→ByteArray→Sl3→Int→Option (Int×Bool)):=Nat.rec (motive:=fun _=>(AH→Int→Int→ByteArray→Sl3→Int→Option (Int×Bool))) (fun _ _ _ _ _ _=>none) (fun _ _=>z8d L) n
noncomputable def zkn (L:LC) (H:AH) (a0_0 a0_1:Int) (a0_2:ByteArray) (a0_3:Sl3) (a1:Int):Option (Int×Bool):=(zf2 L L.fuel) H a0_0 a0_1 a0_2 a0_3 a1
theorem zc8 {E m L H a0_0 a0_1 a0_2 a0_3 a1} :LoopF Tryz.prog (NE.plain 202) m E Tryz.f208 ((cfst (csnd (cfst (csnd (csnd (csnd B208))))))) (zk4 L H a0_0 a0_1 a0_2 a0_3 a1) (fun _=>H) 0 z5z (z7a H) (zar L H a0_0 a0_1 a0_2 a0_3 a1):=by
 rintro ⟨v6_1,v16_2⟩ o h
 unfold zar at h
 try dsimp only at h
 refine WS.sq (WS.rg (RS.mS 1 [kB 17 (decide (v16_2<(a0_3.n:Int)))] (RS.dn (WS.nxt (WS.sq ?_)))))
 rcases z0 h with ⟨hp,h⟩ | ⟨hp,h⟩
 ·refine WS.fx 17 true (decide_eq_true hp) (WS.cT ?_)
  cases h
 ·refine WS.fx 17 false (decide_eq_false hp) (WS.cF (WS.ex 0 ?_))
  cases h
  exact fun a w hs=>sqE (lsB rfl (hs.sb 1))
theorem zhl {L:LC} {m:Nat} {H:AH} {a0_0 a0_1:Int} {a0_2:ByteArray} {a0_3:Sl3} {a1:Int} {r:(Int×Bool)} (h:z8d L H a0_0 a0_1 a0_2 a0_3 a1=some r) :
  CallS Tryz.prog (NE.plain 202) m 208 #[(Value.agg #[(Value.int .i64 a0_0),(Value.int .i64 a0_1),(Value.string a0_2),(Sl3.v a0_3)]),(Value.int .i64 a1)] H (z5z r) (z7a H r):=by
 refine CallS.mk (args:=[(Value.agg #[(Value.int .i64 a0_0),(Value.int .i64 a0_1),(Value.string a0_2),(Sl3.v a0_3)]),(Value.int .i64 a1)]) Tryz.func208 (B:=B208) (by kernel_rfl) (fun E _=>?_)
 unfold z8d at h
 refine WS.sq (WS.rg (RS.mL 3 [kB 5 false,kI 4 0,kL 2 0 0] ([some (68,[(Value.int .i64 a0_0),(Value.int .i64 a0_1),(Value.string a0_2),(Sl3.v a0_3)])]) (RS.dn (WS.nxt (WS.sq (WS.sq (WS.rg (RS.mS 2 [kB 12 (decide (a1 > 16)),kI 11 a1] (RS.dn ?_)))))))))
 refine WS.nxt ?_
 rcases z0 h with ⟨hp,h⟩ | ⟨hp,h⟩
 ·refine WS.fx 12 true (decide_eq_true hp) (WS.cT ?_)
  cases h
 ·refine WS.fx 12 false (decide_eq_false hp) (WS.cF (WS.sk (WS.nxt (WS.sq (WS.rg (RS.mS 1 [kI 6 1] (RS.dn (WS.nxt (WS.sq ?_)))))))))
  refine WS.sq (WS.rg (RS.mS 4 [kI 16 0,kI 15 (a0_3.n:Int),kS 14 a0_3,kL 13 0 3] (RS.dn (WS.nxt (WS.bk 0 ?_)))))
  obtain ⟨o,hl,h⟩:=bind_some h
  rcases o with ⟨v6_3,v16_4⟩ | r
  ·try dsimp only at h
   refine WS.lI (zc8 (L:=L) (E:=E) (m:=m) (H:=H)) (L.ok hl) 1 ?_
   clear hl
   refine fun a w hs=>bkE ((WS.nxt ?_ a w hs))
   refine WS.sq (WS.rg (RS.mS 3 [kB 5 true,kI 4 v6_3,kI 38 v6_3] (RS.dn (WS.nxt (WS.rt ?_)))))
   cases h
   exact fun a w hs=>rtR (rS hs)
  ·try dsimp only at h
   refine WS.lR (zc8 (L:=L) (E:=E) (m:=m) (H:=H)) (L.ok hl) 1 ?_
   cases h
   exact fun a w hq=>bkR (sqR (rtR hq))
theorem ziv {L:LC}:∀n,(∀(m:Nat) (H:AH) (a0_0 a0_1:Int) (a0_2:ByteArray) (a0_3:Sl3) (a1:Int) (r:(Int×Bool)),((zf2 L n)) H a0_0 a0_1 a0_2 a0_3 a1=some r→CallS Tryz.prog (NE.plain 202) m 208 #[(Value.agg #[(Value.int .i64 a0_0),(Value.int .i64 a0_1),(Value.string a0_2),(Sl3.v a0_3)]),(Value.int .i64 a1)] H (z5z r) (z7a H r)):=by
 intro n
 induction n with
 | zero=>exact (fun _ _ _ _ _ _ _ _ h=>(Option.some_ne_none _ h.symm).elim)
 | succ n ih=>exact (fun _ _ _ _ _ _ _ _ h=>zhl (L:=L)  h)
theorem zm7 {L:LC} {m:Nat} {H:AH} {a0_0 a0_1:Int} {a0_2:ByteArray} {a0_3:Sl3} {a1:Int} {r:(Int×Bool)} (h:zkn L H a0_0 a0_1 a0_2 a0_3 a1=some r) :
  CallS Tryz.prog (NE.plain 202) m 208 #[(Value.agg #[(Value.int .i64 a0_0),(Value.int .i64 a0_1),(Value.string a0_2),(Sl3.v a0_3)]),(Value.int .i64 a1)] H (z5z r) (z7a H r) :=
 (ziv _) _ _ _ _ _ _ _ _ h
noncomputable def B209:Code:=(Tryz.f209.body).getD .skip
def z5e:Bool→Value
 | r0=>(Value.bool r0)
def z63 (H:AH):Bool→AH:=fun _=>H
noncomputable def z9o (_L:LC) (_H:AH) (_a0_0 _a0_1:Int) (_a0_2:ByteArray) (a0_3:Sl3):(Bool×Int)→Option (Lp (Bool×Int) Bool):=fun (v3_1,v82_2) =>
 if v82_2<(a0_3.n:Int) then
  none
 else
  some (.brk (v3_1,v82_2))
def zj2 (_L:LC) (_H:AH) (a0_0 a0_1:Int) (a0_2:ByteArray) (a0_3:Sl3):(Bool×Int)→KN×Lcs:=fun (v3_1,v82_2)=>([kB 3 v3_1,kI 82 v82_2,kS 80 a0_3,kI 81 (a0_3.n:Int)],[some (68,[(Value.int .i64 a0_0),(Value.int .i64 a0_1),(Value.string a0_2),(Sl3.v a0_3)])])
noncomputable def z7i (L:LC) (H:AH) (a0_0 a0_1:Int) (a0_2:ByteArray) (a0_3:Sl3):Option Bool :=
 if a0_0=1 then
  if a0_1=0 then
   if (a0_2.toList == (⟨#[]⟩:ByteArray).toList)=true then
    Option.bind (L.run (z9o L H a0_0 a0_1 a0_2 a0_3) ((decide ((a0_3.n:Int)=0)),0)) fun o=>match o with
    | .inl (v3_3,_) =>
     some v3_3
    | .inr r=>some r
   else
    none
  else
   none
 else
  none
noncomputable def zdg (L:LC) (n:Nat):(AH→Int→Int→ByteArray→Sl3→Option Bool):=Nat.rec (motive:=fun _=>(AH→Int→Int→ByteArray→Sl3→Option Bool)) (fun _ _ _ _ _=>none) (fun _ _=>z7i L) n
noncomputable def zj6 (L:LC) (H:AH) (a0_0 a0_1:Int) (a0_2:ByteArray) (a0_3:Sl3):Option Bool:=(zdg L L.fuel) H a0_0 a0_1 a0_2 a0_3
theorem zbc {E m L H a0_0 a0_1 a0_2 a0_3} :LoopF Tryz.prog (NE.plain 202) m E Tryz.f209 ((cfst (csnd (cfst (csnd (csnd (csnd B209))))))) (zj2 L H a0_0 a0_1 a0_2 a0_3) (fun _=>H) 1 z5e (z63 H) (z9o L H a0_0 a0_1 a0_2 a0_3):=by
 rintro ⟨v3_1,v82_2⟩ o h
 unfold z9o at h
 try dsimp only at h
 refine WS.sq (WS.rg (RS.mS 1 [kB 83 (decide (v82_2<(a0_3.n:Int)))] (RS.dn (WS.nxt (WS.sq ?_)))))
 rcases z0 h with ⟨hp,h⟩ | ⟨hp,h⟩
 ·refine WS.fx 83 true (decide_eq_true hp) (WS.cT ?_)
  cases h
 ·refine WS.fx 83 false (decide_eq_false hp) (WS.cF (WS.ex 1 ?_))
  cases h
  exact fun a w hs=>sqE (lsB rfl (hs.sb 1))
theorem zgu {L:LC} {m:Nat} {H:AH} {a0_0 a0_1:Int} {a0_2:ByteArray} {a0_3:Sl3} {r:Bool} (h:z7i L H a0_0 a0_1 a0_2 a0_3=some r) :
  CallS Tryz.prog (NE.plain 202) m 209 #[(Value.agg #[(Value.int .i64 a0_0),(Value.int .i64 a0_1),(Value.string a0_2),(Sl3.v a0_3)])] H (z5e r) (z63 H r):=by
 refine CallS.mk (args:=[(Value.agg #[(Value.int .i64 a0_0),(Value.int .i64 a0_1),(Value.string a0_2),(Sl3.v a0_3)])]) Tryz.func209 (B:=B209) (by kernel_rfl) (fun E _=>?_)
 unfold z7i at h
 refine WS.sq (WS.rg (RS.mL 2 [kB 2 false,kL 1 0 0] ([some (68,[(Value.int .i64 a0_0),(Value.int .i64 a0_1),(Value.string a0_2),(Sl3.v a0_3)])]) (RS.dn (WS.nxt (WS.sq (WS.rg (RS.mS 1 [kB 3 false] (RS.dn (WS.nxt ?_)))))))))
 refine WS.sq (WS.sq (WS.rg (RS.mS 2 [kI 7 a0_0,kL 6 0 0] (RS.dn (WS.nxt (WS.bk 0 (WS.sq (WS.sq (WS.rg ?_)))))))))
 refine RS.mS 2 [kB 8 (decide (a0_0=1)),kB 9 (decide (a0_0=1))] (RS.dn (WS.nxt ?_))
 rcases z0 h with ⟨hp,h⟩ | ⟨hp,h⟩
 ·refine WS.fx 8 true (decide_eq_true hp) (WS.cT (WS.sk (WS.nxt (WS.cT (WS.rg (RS.mS 4 [kB 14 (decide (a0_1=0)),kB 13 (decide (a0_1=0)),kI 12 a0_1,kL 11 0 1] ?_))))))
  rcases z0 h with ⟨hp,h⟩ | ⟨hp,h⟩
  ·refine RS.fx 14 true (decide_eq_true hp) (RS.mS 5 [kB 19 (a0_2.toList == (⟨#[]⟩:ByteArray).toList),kB 18 (a0_2.toList == (⟨#[]⟩:ByteArray).toList),kB 17 (a0_2.toList == (⟨#[]⟩:ByteArray).toList),kT 16 a0_2,kL 15 0 2] ?_)
   rcases z0 h with ⟨hp,h⟩ | ⟨hp,h⟩
   ·refine RS.fx 19 true hp (RS.mS 6 [kB 3 (decide ((a0_3.n:Int)=0)),kB 24 (decide ((a0_3.n:Int)=0)),kB 23 (decide ((a0_3.n:Int)=0)),kI 22 (a0_3.n:Int),kS 21 a0_3,kL 20 0 3] (RS.dn ?_))
    refine fun a w hs=>bkN ((WS.nxt ?_ a w hs))
    refine WS.sq (WS.sq (WS.rg (RS.mS 4 [kI 82 0,kI 81 (a0_3.n:Int),kS 80 a0_3,kL 79 0 3] (RS.dn (WS.nxt (WS.bk 1 ?_))))))
    obtain ⟨o,hl,h⟩:=bind_some h
    rcases o with ⟨v3_3,v82_4⟩ | r
    ·try dsimp only at h
     refine WS.lI (zbc (L:=L) (E:=E) (m:=m) (H:=H)) (L.ok hl) 1 ?_
     clear hl
     refine fun a w hs=>bkE ((WS.nxt ?_ a w hs))
     refine WS.sq (WS.rg (RS.mS 2 [kB 2 v3_3,kB 92 v3_3] (RS.dn (WS.nxt (WS.rt ?_)))))
     cases h
     exact fun a w hs=>rtR (rS hs)
    ·try dsimp only at h
     refine WS.lR (zbc (L:=L) (E:=E) (m:=m) (H:=H)) (L.ok hl) 1 ?_
     cases h
     exact fun a w hq=>bkR (sqR (rtR hq))
   ·refine RS.fx 19 false (b_not hp) ?_
    cases h
  ·refine RS.fx 14 false (decide_eq_false hp) ?_
   cases h
 ·refine WS.fx 8 false (decide_eq_false hp) (WS.cF ?_)
  cases h
theorem zio {L:LC}:∀n,(∀(m:Nat) (H:AH) (a0_0 a0_1:Int) (a0_2:ByteArray) (a0_3:Sl3) (r:Bool),((zdg L n)) H a0_0 a0_1 a0_2 a0_3=some r→CallS Tryz.prog (NE.plain 202) m 209 #[(Value.agg #[(Value.int .i64 a0_0),(Value.int .i64 a0_1),(Value.string a0_2),(Sl3.v a0_3)])] H (z5e r) (z63 H r)):=by
 intro n
 induction n with
 | zero=>exact (fun _ _ _ _ _ _ _ h=>(Option.some_ne_none _ h.symm).elim)
 | succ n ih=>exact (fun _ _ _ _ _ _ _ h=>zgu (L:=L)  h)
theorem zle {L:LC} {m:Nat} {H:AH} {a0_0 a0_1:Int} {a0_2:ByteArray} {a0_3:Sl3} {r:Bool} (h:zj6 L H a0_0 a0_1 a0_2 a0_3=some r) :
  CallS Tryz.prog (NE.plain 202) m 209 #[(Value.agg #[(Value.int .i64 a0_0),(Value.int .i64 a0_1),(Value.string a0_2),(Sl3.v a0_3)])] H (z5e r) (z63 H r) :=
 (zio _) _ _ _ _ _ _ _ h
noncomputable def B159:Code:=(Tryz.f159.body).getD .skip
def zll:Int→Value
 | r0=>(Value.int .i64 r0)
def zmd (H:AH):Int→AH:=fun _=>H
noncomputable def zgh (L:LC) (H:AH) (a0_0 a0_1:Int) (a0_2:ByteArray) (a0_3:Sl3):Option Int :=
 Option.bind (zkn L H a0_0 a0_1 a0_2 a0_3 1) fun (_,x2) =>
 if x2=true then
  Option.bind (zj6 L H a0_0 a0_1 a0_2 a0_3) fun x3 =>
  if x3=true then
   some 0
  else
   none
 else
  none
theorem zma {L:LC} {m:Nat} {H:AH} {a0_0 a0_1:Int} {a0_2:ByteArray} {a0_3:Sl3} {r:Int} (h:zgh L H a0_0 a0_1 a0_2 a0_3=some r) :
  CallS Tryz.prog (NE.plain 202) m 159 #[(Value.agg #[(Value.int .i64 a0_0),(Value.int .i64 a0_1),(Value.string a0_2),(Sl3.v a0_3)])] H (zll r) (zmd H r):=by
 refine CallS.mk (args:=[(Value.agg #[(Value.int .i64 a0_0),(Value.int .i64 a0_1),(Value.string a0_2),(Sl3.v a0_3)])]) Tryz.func159 (B:=B159) (by kernel_rfl) (fun E _=>?_)
 unfold zgh at h
 refine WS.sq (WS.rg (RS.mL 2 [kI 2 0,kL 1 0 0] ([some (68,[(Value.int .i64 a0_0),(Value.int .i64 a0_1),(Value.string a0_2),(Sl3.v a0_3)])]) (RS.dn (WS.nxt (WS.sq (WS.sq (WS.rg (RS.mS 1 [kA 6 #[(Value.int .i64 a0_0),(Value.int .i64 a0_1),(Value.string a0_2),(Sl3.v a0_3)]] ?_))))))))
 obtain ⟨⟨x1,x2⟩,hx,h⟩:=bind_some h
 try dsimp only at h
 refine RS.cl (some 7) (v:=(Value.tuple #[(Value.int .i64 x1),(Value.bool x2)])) 208 #[(Value.agg #[(Value.int .i64 a0_0),(Value.int .i64 a0_1),(Value.string a0_2),(Sl3.v a0_3)]),(Value.int .i64 1)] (zm7 hx) (RS.mS 5 [kB 4 x2,kI 3 x1,kB 9 x2,kI 8 x1,(5,.val (Value.tuple #[(Value.int .i64 x1),(Value.bool x2)]))] (RS.dn (WS.nxt (WS.sq (WS.rg (RS.mS 2 [kB 11 (!x2),kB 10 x2] (RS.dn (WS.nxt ?_))))))))
 rcases z0 h with ⟨hp,h⟩ | ⟨hp,h⟩
 ·refine WS.fx 11 false (nb_not hp) (WS.cF (WS.sk (WS.nxt (WS.sq (WS.sq (WS.rg (RS.mS 1 [kA 12 #[(Value.int .i64 a0_0),(Value.int .i64 a0_1),(Value.string a0_2),(Sl3.v a0_3)]] ?_)))))))
  obtain ⟨x3,hx,h⟩:=bind_some h
  refine RS.cl (some 13) (v:=(Value.bool x3)) 209 #[(Value.agg #[(Value.int .i64 a0_0),(Value.int .i64 a0_1),(Value.string a0_2),(Sl3.v a0_3)])] (zle hx) (RS.mS 1 [kB 14 (!x3)] (RS.dn (WS.nxt ?_)))
  rcases z0 h with ⟨hp,h⟩ | ⟨hp,h⟩
  ·refine WS.fx 14 false (nb_not hp) (WS.cF (WS.sk (WS.nxt (WS.sq (WS.rg (RS.mS 1 [kI 2 0] (RS.dn (WS.nxt (WS.rt ?_)))))))))
   cases h
   exact fun a w hs=>rtR (rS hs)
  ·refine WS.fx 14 true (z19 hp) (WS.cT ?_)
   cases h
 ·refine WS.fx 11 true (z19 hp) (WS.cT ?_)
  cases h
end Go.Proofs.YtfbinmgldpnjhaaGreatDoor
namespace Go.Proofs.YtfbinmgldpnjhaaGreatDoor
open Go Go.Abs
set_option maxRecDepth 100000
noncomputable def B193:Code:=(Tryz.f193.body).getD .skip
def z2r:Bool→Value
 | r0=>(Value.bool r0)
def z3b (H:AH):Bool→AH:=fun _=>H
noncomputable def z5r (_L:LC) (_H:AH) (_a0:Option Addr) (_a1_0 _a1_1:Int) (_a1_2:ByteArray) (a1_3:Sl3):Int→Option (Lp Int Bool):=fun v34_1 =>
 if v34_1<(a1_3.n:Int) then
  none
 else
  some (.brk v34_1)
def zey (_L:LC) (_H:AH) (a0:Option Addr) (a1_0 a1_1:Int) (a1_2:ByteArray) (a1_3:Sl3):Int→KN×Lcs:=fun v34_1=>([kI 34 v34_1,(0,.val (Value.pointer a0)),kS 32 a1_3,kI 33 (a1_3.n:Int)],[some (68,[(Value.int .i64 a1_0),(Value.int .i64 a1_1),(Value.string a1_2),(Sl3.v a1_3)])])
noncomputable def z4d (L:LC) (H:AH) (a0:Option Addr) (a1_0 a1_1:Int) (a1_2:ByteArray) (a1_3:Sl3):Option Bool :=
 if a1_0=5 then
  none
 else
  if a1_0=6 then
   none
  else
   Option.bind (L.run (z5r L H a0 a1_0 a1_1 a1_2 a1_3) 0) fun o=>match o with
   | .inl _ =>
    some true
   | .inr r=>some r
noncomputable def z99 (L:LC) (n:Nat):(AH→(Option Addr)→Int→Int→ByteArray→Sl3→Option Bool):=Nat.rec (motive:=fun _=>(AH→(Option Addr)→Int→Int→ByteArray→Sl3→Option Bool)) (fun _ _ _ _ _ _=>none) (fun _ _=>z4d L) n
noncomputable def zdp (L:LC) (H:AH) (a0:Option Addr) (a1_0 a1_1:Int) (a1_2:ByteArray) (a1_3:Sl3):Option Bool:=(z99 L L.fuel) H a0 a1_0 a1_1 a1_2 a1_3
theorem z7w {E m L H a0 a1_0 a1_1 a1_2 a1_3} :LoopF Tryz.prog (NE.plain 202) m E Tryz.f193 ((cfst (csnd (cfst (csnd (csnd B193)))))) (zey L H a0 a1_0 a1_1 a1_2 a1_3) (fun _=>H) 0 z2r (z3b H) (z5r L H a0 a1_0 a1_1 a1_2 a1_3):=by
 rintro v34_1 o h
 unfold z5r at h
 try dsimp only at h
 refine WS.sq (WS.rg (RS.mS 1 [kB 35 (decide (v34_1<(a1_3.n:Int)))] (RS.dn (WS.nxt (WS.sq ?_)))))
 rcases z0 h with ⟨hp,h⟩ | ⟨hp,h⟩
 ·refine WS.fx 35 true (decide_eq_true hp) (WS.cT ?_)
  cases h
 ·refine WS.fx 35 false (decide_eq_false hp) (WS.cF (WS.ex 0 ?_))
  cases h
  exact fun a w hs=>sqE (lsB rfl (hs.sb 1))
theorem zd1 {L:LC} {m:Nat} {H:AH} {a0:Option Addr} {a1_0 a1_1:Int} {a1_2:ByteArray} {a1_3:Sl3} {r:Bool} (h:z4d L H a0 a1_0 a1_1 a1_2 a1_3=some r) :
  CallS Tryz.prog (NE.plain 202) m 193 #[(Value.pointer a0),(Value.agg #[(Value.int .i64 a1_0),(Value.int .i64 a1_1),(Value.string a1_2),(Sl3.v a1_3)])] H (z2r r) (z3b H r):=by
 refine CallS.mk (args:=[(Value.pointer a0),(Value.agg #[(Value.int .i64 a1_0),(Value.int .i64 a1_1),(Value.string a1_2),(Sl3.v a1_3)])]) Tryz.func193 (B:=B193) (by kernel_rfl) (fun E _=>?_)
 unfold z4d at h
 refine WS.sq (WS.rg (RS.mL 2 [kB 4 false,kL 3 0 0] ([some (68,[(Value.int .i64 a1_0),(Value.int .i64 a1_1),(Value.string a1_2),(Sl3.v a1_3)])]) (RS.dn (WS.nxt (WS.sq (WS.sq (WS.rg (RS.mS 4 [kB 12 (decide (a1_0=5)),kB 11 (decide (a1_0=5)),kI 10 a1_0,kL 9 0 0] ?_))))))))
 rcases z0 h with ⟨hp,h⟩ | ⟨hp,h⟩
 ·refine RS.fx 12 true (decide_eq_true hp) ?_
  cases h
 ·refine RS.fx 12 false (decide_eq_false hp) (RS.mS 4 [kB 16 (decide (a1_0=6)),kB 15 (decide (a1_0=6)),kI 14 a1_0,kL 13 0 0] (RS.dn (WS.nxt ?_)))
  rcases z0 h with ⟨hp,h⟩ | ⟨hp,h⟩
  ·refine WS.fx 16 true (decide_eq_true hp) (WS.cT ?_)
   cases h
  ·refine WS.fx 16 false (decide_eq_false hp) (WS.cF (WS.sk (WS.nxt (WS.sq (WS.sq (WS.rg (RS.mS 4 [kI 34 0,kI 33 (a1_3.n:Int),kS 32 a1_3,kL 31 0 3] (RS.dn (WS.nxt ?_)))))))))
   refine WS.bk 0 ?_
   obtain ⟨o,hl,h⟩:=bind_some h
   rcases o with v34_2 | r
   ·try dsimp only at h
    refine WS.lI (z7w (L:=L) (E:=E) (m:=m) (H:=H)) (L.ok hl) 1 ?_
    clear hl
    refine fun a w hs=>bkE ((WS.nxt ?_ a w hs))
    refine WS.sq (WS.rg (RS.mS 1 [kB 4 true] (RS.dn (WS.nxt (WS.rt ?_)))))
    cases h
    exact fun a w hs=>rtR (rS hs)
   ·try dsimp only at h
    refine WS.lR (z7w (L:=L) (E:=E) (m:=m) (H:=H)) (L.ok hl) 1 ?_
    cases h
    exact fun a w hq=>bkR (sqR (rtR hq))
theorem zdy {L:LC}:∀n,(∀(m:Nat) (H:AH) (a0:Option Addr) (a1_0 a1_1:Int) (a1_2:ByteArray) (a1_3:Sl3) (r:Bool),((z99 L n)) H a0 a1_0 a1_1 a1_2 a1_3=some r→CallS Tryz.prog (NE.plain 202) m 193 #[(Value.pointer a0),(Value.agg #[(Value.int .i64 a1_0),(Value.int .i64 a1_1),(Value.string a1_2),(Sl3.v a1_3)])] H (z2r r) (z3b H r)):=by
 intro n
 induction n with
 | zero=>exact (fun _ _ _ _ _ _ _ _ h=>(Option.some_ne_none _ h.symm).elim)
 | succ n ih=>exact (fun _ _ _ _ _ _ _ _ h=>zd1 (L:=L)  h)
theorem zi5 {L:LC} {m:Nat} {H:AH} {a0:Option Addr} {a1_0 a1_1:Int} {a1_2:ByteArray} {a1_3:Sl3} {r:Bool} (h:zdp L H a0 a1_0 a1_1 a1_2 a1_3=some r) :
  CallS Tryz.prog (NE.plain 202) m 193 #[(Value.pointer a0),(Value.agg #[(Value.int .i64 a1_0),(Value.int .i64 a1_1),(Value.string a1_2),(Sl3.v a1_3)])] H (z2r r) (z3b H r) :=
 (zdy _) _ _ _ _ _ _ _ _ h
noncomputable def B138:Code:=(Tryz.f138.body).getD .skip
def zhd:Int→Value
 | r0=>(Value.int .i64 r0)
def zic (H:AH):Int→AH:=fun _=>H
noncomputable def z89 (L:LC) (H:AH) (a0:Option Addr) (a1_0 a1_1:Int) (a1_2:ByteArray) (a1_3:Sl3):Option Int :=
 Option.bind (zgh L H a1_0 a1_1 a1_2 a1_3) fun x1 =>
 if x1=0 then
  Option.bind (zdp L H a0 a1_0 a1_1 a1_2 a1_3) fun x2 =>
  if x2=true then
   some 0
  else
   none
 else
  none
theorem zhx {L:LC} {m:Nat} {H:AH} {a0:Option Addr} {a1_0 a1_1:Int} {a1_2:ByteArray} {a1_3:Sl3} {r:Int} (h:z89 L H a0 a1_0 a1_1 a1_2 a1_3=some r) :
  CallS Tryz.prog (NE.plain 202) m 138 #[(Value.pointer a0),(Value.agg #[(Value.int .i64 a1_0),(Value.int .i64 a1_1),(Value.string a1_2),(Sl3.v a1_3)])] H (zhd r) (zic H r):=by
 refine CallS.mk (args:=[(Value.pointer a0),(Value.agg #[(Value.int .i64 a1_0),(Value.int .i64 a1_1),(Value.string a1_2),(Sl3.v a1_3)])]) Tryz.func138 (B:=B138) (by kernel_rfl) (fun E _=>?_)
 unfold z89 at h
 refine WS.sq (WS.rg (RS.mL 2 [kI 4 0,kL 3 0 0] ([some (68,[(Value.int .i64 a1_0),(Value.int .i64 a1_1),(Value.string a1_2),(Sl3.v a1_3)])]) (RS.dn (WS.nxt (WS.sq (WS.sq (WS.rg (RS.mS 1 [kA 6 #[(Value.int .i64 a1_0),(Value.int .i64 a1_1),(Value.string a1_2),(Sl3.v a1_3)]] ?_))))))))
 obtain ⟨x1,hx,h⟩:=bind_some h
 refine RS.cl (some 7) (v:=(Value.int .i64 x1)) 159 #[(Value.agg #[(Value.int .i64 a1_0),(Value.int .i64 a1_1),(Value.string a1_2),(Sl3.v a1_3)])] (zma hx) (RS.mS 1 [kI 5 x1] (RS.dn (WS.nxt (WS.sq (WS.rg (RS.mS 2 [kB 9 (!decide (x1=0)),kI 8 x1] (RS.dn (WS.nxt ?_))))))))
 rcases z0 h with ⟨hp,h⟩ | ⟨hp,h⟩
 ·refine WS.fx 9 false (zh hp) (WS.cF (WS.sk (WS.nxt (WS.sq (WS.sq (WS.rg (RS.mS 2 [kA 12 #[(Value.int .i64 a1_0),(Value.int .i64 a1_1),(Value.string a1_2),(Sl3.v a1_3)],(11,.val (Value.pointer a0))] ?_)))))))
  obtain ⟨x2,hx,h⟩:=bind_some h
  refine RS.cl (some 13) (v:=(Value.bool x2)) 193 #[(Value.pointer a0),(Value.agg #[(Value.int .i64 a1_0),(Value.int .i64 a1_1),(Value.string a1_2),(Sl3.v a1_3)])] (zi5 hx) (RS.mS 1 [kB 14 (!x2)] (RS.dn (WS.nxt ?_)))
  rcases z0 h with ⟨hp,h⟩ | ⟨hp,h⟩
  ·refine WS.fx 14 false (nb_not hp) (WS.cF (WS.sk (WS.nxt (WS.sq (WS.rg (RS.mS 1 [kI 4 0] (RS.dn (WS.nxt (WS.rt ?_)))))))))
   cases h
   exact fun a w hs=>rtR (rS hs)
  ·refine WS.fx 14 true (z19 hp) (WS.cT ?_)
   cases h
 ·refine WS.fx 9 true (ze hp) (WS.cT ?_)
  cases h
noncomputable def B139:Code:=(Tryz.f139.body).getD .skip
def zgk:(Sl3×AH)→Value
 | (r0,_)=>(Sl3.v r0)
def zhe (_:AH):(Sl3×AH)→AH:=fun r=>r.2
noncomputable def z7p (_L:LC) (_m:Nat) (H:AH) (a0:Sl3):Option (Sl3×AH) :=
 if (isNilS a0)=true then
  some (Sl3.nil,H)
 else
  none
theorem z4s {L:LC} {m:Nat} {H:AH} {a0:Sl3} {r:(Sl3×AH)} (h:z7p L m H a0=some r) :
  CallS Tryz.prog (NE.plain 202) m 139 #[(Sl3.v a0)] H (zgk r) (zhe H r):=by
 refine CallS.mk (args:=[(Sl3.v a0)]) Tryz.func139 (B:=B139) (by kernel_rfl) (fun E _=>?_)
 unfold z7p at h
 refine WS.sq (WS.rg (RS.mS 1 [kS 2 Sl3.nil] (RS.dn (WS.nxt (WS.sq (WS.sq (WS.rg (RS.mS 1 [kS 3 a0] (RS.o (H':=H) (some 4) (Value.bool (isNilS a0)) (za1 (t:=66) (e:=68) (u:=66) (x:=.tmp 3) (y:=.const (Sl3.v Sl3.nil)) (s:=a0) (by kernel_rfl) (by kernel_rfl) (by kernel_rfl) (by kernel_rfl)) ?_)))))))))
 refine RS.dn (WS.nxt ?_)
 rcases z0 h with ⟨hp,h⟩ | ⟨hp,h⟩
 ·refine WS.fx 4 true hp (WS.cT (WS.sq (WS.rg (RS.mS 1 [kS 2 Sl3.nil] (RS.dn (WS.nxt (WS.rt ?_)))))))
  cases h
  exact fun a w hs=>sqR (rtR (rS hs))
 ·refine WS.fx 4 false (b_not hp) (WS.cF ?_)
  cases h
noncomputable def B98:Code:=(Tryz.f98.body).getD .skip
def z1y:(Int×AH)→Value
 | (r0,_)=>(Value.int .i64 r0)
def z25 (_:AH):(Int×AH)→AH:=fun r=>r.2
noncomputable def z3q (_L:LC) (_H:AH) (_q1:Addr) (x2:Sl3):Int→Option (Lp Int (Int×AH)):=fun v21_3 =>
 if v21_3<(x2.n:Int) then
  none
 else
  some (.brk v21_3)
def zcv (_L:LC) (_H:AH) (q1:Addr) (x2:Sl3):Int→KN×Lcs:=fun v21_3=>([kI 21 v21_3,kP 0 q1,kS 19 x2,kI 20 (x2.n:Int)],[])
noncomputable def z40 (L:LC) (q1:Addr) (_x5:Sl3) (_v55_7:Int) (_x9_0:ByteArray) (_x9_1:Sl3) (_x9_2 _x9_3:Int) (_x9_4:ByteArray) (_x9_5 s14:Sl3) (H15:AH):Int→Option (Lp Int (Int×AH)):=fun v67_16 =>
 if v67_16<(s14.n:Int) then
  Option.bind (idxA 4 s14 v67_16) fun p17 =>
  Option.bind (rd (deI .i64) H15 (Addr.add p17 0)) fun x18_0 =>
  Option.bind (rd (deI .i64) H15 (Addr.add p17 1)) fun x18_1 =>
  Option.bind (rd deS H15 (Addr.add p17 2)) fun x18_2 =>
  Option.bind (rd deSl H15 (Addr.add p17 3)) fun x18_3 =>
  Option.bind (z89 L H15 (some q1) x18_0 x18_1 x18_2 x18_3) fun x19 =>
  if x19=0 then
   some (.next (IntKind.i64.wrap (v67_16+1)))
  else
   none
 else
  some (.brk v67_16)
def zcr (_L:LC) (q1:Addr) (x5:Sl3) (v55_7:Int) (x9_0:ByteArray) (x9_1:Sl3) (x9_2 x9_3:Int) (x9_4:ByteArray) (x9_5 s14:Sl3) (_H15:AH):Int→KN×Lcs:=fun v67_16=>([kI 67 v67_16,kP 0 q1,kS 53 x5,kI 54 (x5.n:Int),kI 55 v55_7,kS 65 s14,kI 66 (s14.n:Int)],[some (84,[(Value.string x9_0),(Sl3.v x9_1),(Value.int .i64 x9_2),(Value.int .i64 x9_3),(Value.string x9_4),(Sl3.v x9_5)]),none])
noncomputable def z3u (L:LC) (m:Nat) (q1:Addr) (x5:Sl3):(AH×Int)→Option (Lp (AH×Int) (Int×AH)):=fun (H6,v55_7) =>
 if v55_7<(x5.n:Int) then
  Option.bind (idxA 6 x5 v55_7) fun p8 =>
  Option.bind (rd deS H6 (Addr.add p8 0)) fun x9_0 =>
  Option.bind (rd deSl H6 (Addr.add p8 1)) fun x9_1 =>
  Option.bind (rd (deI .i64) H6 (Addr.add p8 2)) fun x9_2 =>
  Option.bind (rd (deI .i64) H6 (Addr.add p8 3)) fun x9_3 =>
  Option.bind (rd deS H6 (Addr.add p8 4)) fun x9_4 =>
  Option.bind (rd deSl H6 (Addr.add p8 5)) fun x9_5 =>
  Option.bind (z7p L (Nat.max m H6.next) H6 x9_1) fun (x10,H11) =>
  Option.bind (newS 68 [(Value.int .i64 x9_2),(Value.int .i64 x9_3),(Value.string x9_4),(Sl3.v x9_5)] H11) fun (k12,H13) =>
  Option.bind (appS m 68 4 56 H13 x10 (⟨some ⟨k12,0,none⟩,1,1⟩:Sl3)) fun (s14,H15) =>
  Option.bind (L.run (z40 L q1 x5 v55_7 x9_0 x9_1 x9_2 x9_3 x9_4 x9_5 s14 H15) 0) fun o=>match o with
  | .inl _ =>
   some (.next (H15,(IntKind.i64.wrap (v55_7+1))))
  | .inr r=>some (.ret r)
 else
  some (.brk (H6,v55_7))
def zcl (_L:LC) (_m:Nat) (q1:Addr) (x5:Sl3):(AH×Int)→KN×Lcs:=fun (_,v55_7)=>([kI 55 v55_7,kP 0 q1,kS 53 x5,kI 54 (x5.n:Int)],[])
noncomputable def z5o (L:LC) (m:Nat) (H:AH) (a0:Option Addr):Option (Int×AH) :=
 Option.bind a0 fun q1 =>
 Option.bind (rd deSl H (Addr.add (Addr.add q1 0) 1)) fun x2 =>
 Option.bind (L.run (z3q L H q1 x2) 0) fun o=>match o with
 | .inl _ =>
  Option.bind (rd deSl H (Addr.add (Addr.add q1 0) 2)) fun x5 =>
  Option.bind (L.run (z3u L m q1 x5) (H,0)) fun o=>match o with
  | .inl (H21,_) =>
   some (0,H21)
  | .inr r=>some r
 | .inr r=>some r
theorem z5m {E m L H q1 x2} :LoopF Tryz.prog (NE.plain 202) m E Tryz.f98 ((cfst (csnd (cfst (csnd B98))))) (zcv L H q1 x2) (fun _=>H) 0 z1y (z25 H) (z3q L H q1 x2):=by
 rintro v21_3 o h
 unfold z3q at h
 try dsimp only at h
 refine WS.sq (WS.rg (RS.mS 1 [kB 22 (decide (v21_3<(x2.n:Int)))] (RS.dn (WS.nxt (WS.sq ?_)))))
 rcases z0 h with ⟨hp,h⟩ | ⟨hp,h⟩
 ·refine WS.fx 22 true (decide_eq_true hp) (WS.cT ?_)
  cases h
 ·refine WS.fx 22 false (decide_eq_false hp) (WS.cF (WS.ex 0 ?_))
  cases h
  exact fun a w hs=>sqE (lsB rfl (hs.sb 0))
theorem z5x {E m H L q1 x5 v55_7 x9_0 x9_1 x9_2 x9_3 x9_4 x9_5 s14 H15} :LoopF Tryz.prog (NE.plain 202) m E Tryz.f98 ((cfst (csnd (csnd (cfst (cfst (csnd (csnd (cfst (cfst (csnd (cfst (csnd (csnd B98)))))))))))))) (zcr L q1 x5 v55_7 x9_0 x9_1 x9_2 x9_3 x9_4 x9_5 s14 H15) (fun _=>H15) 8 z1y (z25 H) (z40 L q1 x5 v55_7 x9_0 x9_1 x9_2 x9_3 x9_4 x9_5 s14 H15):=by
 rintro v67_16 o h
 unfold z40 at h
 try dsimp only at h
 refine WS.sq (WS.rg (RS.mS 1 [kB 68 (decide (v67_16<(s14.n:Int)))] (RS.dn (WS.nxt (WS.sq ?_)))))
 rcases z0 h with ⟨hp,h⟩ | ⟨hp,h⟩
 ·refine WS.fx 68 true (decide_eq_true hp) (WS.cT (WS.sk (WS.nxt (WS.sq (WS.bk 9 (WS.sq (WS.rg ?_)))))))
  obtain ⟨p17,hx,h⟩:=bind_some h
  refine RS.ix 69 66 68 (.tmp 65) (.tmp 67) hx ?_
  obtain ⟨x18_0,hx0,h⟩:=bind_some h
  obtain ⟨x18_1,hx1,h⟩:=bind_some h
  obtain ⟨x18_2,hx2,h⟩:=bind_some h
  obtain ⟨x18_3,hx3,h⟩:=bind_some h
  refine RS.la 70 68 (.tmp 69) 4 (z3 (z1 hx0 z8) (z3 (z1 hx1 z8) (z3 (z1 hx2 zl) (z3 (z1 hx3 z6) z30)))) (RS.mL 2 [kL 13 2 0] ([some (84,[(Value.string x9_0),(Sl3.v x9_1),(Value.int .i64 x9_2),(Value.int .i64 x9_3),(Value.string x9_4),(Sl3.v x9_5)]),none,some (68,[(Value.int .i64 x18_0),(Value.int .i64 x18_1),(Value.string x18_2),(Sl3.v x18_3)])]) (RS.dn (WS.nxt (WS.sq (WS.rg (RS.mS 2 [kA 72 #[(Value.int .i64 x18_0),(Value.int .i64 x18_1),(Value.string x18_2),(Sl3.v x18_3)],kP 71 q1] ?_))))))
  obtain ⟨x19,hx,h⟩:=bind_some h
  refine RS.cl (some 73) (v:=(Value.int .i64 x19)) 138 #[(Value.pointer (some q1)),(Value.agg #[(Value.int .i64 x18_0),(Value.int .i64 x18_1),(Value.string x18_2),(Sl3.v x18_3)])] (zhx hx) (RS.mS 1 [kI 14 x19] (RS.dn (WS.nxt (WS.sq (WS.rg (RS.mS 2 [kB 75 (!decide (x19=0)),kI 74 x19] (RS.dn (WS.nxt ?_))))))))
  rcases z0 h with ⟨hp,h⟩ | ⟨hp,h⟩
  ·refine WS.fx 75 false (zh hp) (WS.cF (WS.sk ?_))
   refine fun a w hs=>bkN ((WS.nxt ?_ a w hs))
   refine WS.rg (RS.mS 2 [kI 67 (IntKind.i64.wrap (v67_16+1)),kI 77 (IntKind.i64.wrap (v67_16+1))] (RS.dn ?_))
   cases h
   exact fun a w hs=>lsN rfl (hs.sb 2)
  ·refine WS.fx 75 true (ze hp) (WS.cT ?_)
   cases h
 ·refine WS.fx 68 false (decide_eq_false hp) (WS.cF (WS.ex 8 ?_))
  cases h
  exact fun a w hs=>sqE (lsB rfl (hs.sb 2))
theorem z5l {E H L m q1 x5} :LoopF Tryz.prog (NE.plain 202) m E Tryz.f98 ((cfst (csnd (cfst (csnd (csnd B98)))))) (zcl L m q1 x5) (fun s=>s.1) 6 z1y (z25 H) (z3u L m q1 x5):=by
 rintro ⟨H6,v55_7⟩ o h
 unfold z3u at h
 try dsimp only at h
 refine WS.sq (WS.rg (RS.mS 1 [kB 56 (decide (v55_7<(x5.n:Int)))] (RS.dn (WS.nxt (WS.sq ?_)))))
 rcases z0 h with ⟨hp,h⟩ | ⟨hp,h⟩
 ·refine WS.fx 56 true (decide_eq_true hp) (WS.cT (WS.sk (WS.nxt (WS.sq (WS.bk 7 (WS.sq (WS.rg ?_)))))))
  obtain ⟨p8,hx,h⟩:=bind_some h
  refine RS.ix 57 25 84 (.tmp 53) (.tmp 55) hx ?_
  obtain ⟨x9_0,hx0,h⟩:=bind_some h
  obtain ⟨x9_1,hx1,h⟩:=bind_some h
  obtain ⟨x9_2,hx2,h⟩:=bind_some h
  obtain ⟨x9_3,hx3,h⟩:=bind_some h
  obtain ⟨x9_4,hx4,h⟩:=bind_some h
  obtain ⟨x9_5,hx5,h⟩:=bind_some h
  refine RS.la 58 84 (.tmp 57) 6 (z3 (z1 hx0 zl) (z3 (z1 hx1 z6) (z3 (z1 hx2 z8) (z3 (z1 hx3 z8) (z3 (z1 hx4 zl) (z3 (z1 hx5 z6) z30)))))) (RS.mL 2 [kL 11 0 0] ([some (84,[(Value.string x9_0),(Sl3.v x9_1),(Value.int .i64 x9_2),(Value.int .i64 x9_3),(Value.string x9_4),(Sl3.v x9_5)])]) (RS.dn (WS.nxt (WS.sq ?_))))
  obtain ⟨⟨x10,H11⟩,hx_2,h⟩:=bind_some h
  try dsimp only at h
  obtain ⟨⟨k12,H13⟩,hx_k12,h⟩:=bind_some h
  try dsimp only at h
  obtain ⟨⟨s14,H15⟩,hx_6,h⟩:=bind_some h
  try dsimp only at h
  refine WS.toone ([kP 0 q1,kS 53 x5,kI 54 (x5.n:Int),kI 55 v55_7,kS 65 s14,kI 66 (s14.n:Int),kI 67 0]) ([some (84,[(Value.string x9_0),(Sl3.v x9_1),(Value.int .i64 x9_2),(Value.int .i64 x9_3),(Value.string x9_4),(Sl3.v x9_5)]),none]) H15 ?_ ?_
  ·clear h
   refine WS.dr [0,1] [0,1,3,0,8,24,63,127,0] 9 (fun hcl=>?_)
   refine DA.tL 0 (some 59) (.loc 0 1) (DA.tL 1 (some 60) (.val (Sl3.v x9_1)) (DA.tP 8 (some 67) (Value.int .i64 0) (DA.restart [0,1,3] (by kernel_rfl) (DA.tL 3 (some 62) (.loc 0 2) ?_))))
   refine DA.two 2 4 (by kernel_rfl) ?_ ?_
   ·refine DA.aCj 2 (some 61) true (v:=(Sl3.v x10)) 139 #[(Sl3.v x9_1)] (z4s hx_2) (DA.on 4 (DA.aL 4 (some 63) (.val (Value.agg #[(Value.int .i64 x9_2),(Value.int .i64 x9_3),(Value.string x9_4),(Sl3.v x9_5)])) ([some (84,[(Value.string x9_0),(Sl3.v x9_1),(Value.int .i64 x9_2),(Value.int .i64 x9_3),(Value.string x9_4),(Sl3.v x9_5)])]) true (DA.on 5 (DA.actS 5 (some 64) (.sli 1 1) ([some (84,[(Value.string x9_0),(Sl3.v x9_1),(Value.int .i64 x9_2),(Value.int .i64 x9_3),(Value.string x9_4),(Sl3.v x9_5)]),some (68,[(Value.int .i64 x9_2),(Value.int .i64 x9_3),(Value.string x9_4),(Sl3.v x9_5)])]) (by kernel_rfl) (by kernel_rfl) (by kernel_rfl) hcl (by kernel_rfl) (by kernel_rfl) (by kernel_rfl) (DA.on 6 (DA.pubK 1 _ _ hx_k12 (by kernel_rfl) rfl rfl (DA.aH (H':=H15) 6 (some 65) (Sl3.v s14) (Abs.run_app (x:=.tmp 61) (y:=.tmp 64) (ts:=#[66,66]) (s:=x10) (z:=(⟨some ⟨k12,0,none⟩,1,1⟩:Sl3)) (by kernel_rfl) (by kernel_rfl) (by kernel_rfl) (by kernel_rfl) hx_6) (DA.tP 7 (some 66) (Value.int .i64 (s14.n:Int)) (DA.dn ?_)))))))))
    exact fun a w hs=>jsN (hs.sb 2)
   ·refine DA.aL 4 (some 63) (.val (Value.agg #[(Value.int .i64 x9_2),(Value.int .i64 x9_3),(Value.string x9_4),(Sl3.v x9_5)])) ([some (84,[(Value.string x9_0),(Sl3.v x9_1),(Value.int .i64 x9_2),(Value.int .i64 x9_3),(Value.string x9_4),(Sl3.v x9_5)])]) true ?_
    refine DA.two 2 5 (by kernel_rfl) ?_ ?_
    ·refine DA.aCj 2 (some 61) true (v:=(Sl3.v x10)) 139 #[(Sl3.v x9_1)] (z4s hx_2) (DA.on 5 (DA.actS 5 (some 64) (.sli 1 1) ([some (84,[(Value.string x9_0),(Sl3.v x9_1),(Value.int .i64 x9_2),(Value.int .i64 x9_3),(Value.string x9_4),(Sl3.v x9_5)]),some (68,[(Value.int .i64 x9_2),(Value.int .i64 x9_3),(Value.string x9_4),(Sl3.v x9_5)])]) (by kernel_rfl) (by kernel_rfl) (by kernel_rfl) hcl (by kernel_rfl) (by kernel_rfl) (by kernel_rfl) (DA.on 6 (DA.pubK 1 _ _ hx_k12 (by kernel_rfl) rfl rfl (DA.aH (H':=H15) 6 (some 65) (Sl3.v s14) (Abs.run_app (x:=.tmp 61) (y:=.tmp 64) (ts:=#[66,66]) (s:=x10) (z:=(⟨some ⟨k12,0,none⟩,1,1⟩:Sl3)) (by kernel_rfl) (by kernel_rfl) (by kernel_rfl) (by kernel_rfl) hx_6) (DA.tP 7 (some 66) (Value.int .i64 (s14.n:Int)) (DA.dn ?_)))))))
     exact fun a w hs=>jsN (hs.sb 2)
    ·refine DA.actS 5 (some 64) (.sli 1 1) ([some (84,[(Value.string x9_0),(Sl3.v x9_1),(Value.int .i64 x9_2),(Value.int .i64 x9_3),(Value.string x9_4),(Sl3.v x9_5)]),some (68,[(Value.int .i64 x9_2),(Value.int .i64 x9_3),(Value.string x9_4),(Sl3.v x9_5)])]) (by kernel_rfl) (by kernel_rfl) (by kernel_rfl) hcl (by kernel_rfl) (by kernel_rfl) (by kernel_rfl) (DA.on 2 (DA.aCj 2 (some 61) false (v:=(Sl3.v x10)) 139 #[(Sl3.v x9_1)] (z4s hx_2) (DA.on 6 (DA.pubK 1 _ _ hx_k12 (by kernel_rfl) rfl rfl (DA.aH (H':=H15) 6 (some 65) (Sl3.v s14) (Abs.run_app (x:=.tmp 61) (y:=.tmp 64) (ts:=#[66,66]) (s:=x10) (z:=(⟨some ⟨k12,0,none⟩,1,1⟩:Sl3)) (by kernel_rfl) (by kernel_rfl) (by kernel_rfl) (by kernel_rfl) hx_6) (DA.tP 7 (some 66) (Value.int .i64 (s14.n:Int)) (DA.dn ?_)))))))
     exact fun a w hs=>jsN (hs.sb 2)
  ·refine WS.nxt (WS.bk 8 ?_)
   obtain ⟨o,hl,h⟩:=bind_some h
   rcases o with v67_20 | r
   ·try dsimp only at h
    refine WS.lI (z5x (L:=L) (E:=E) (m:=m) (H:=H)) (L.ok hl) 2 ?_
    clear hl
    refine fun a w hs=>bkE (bkN ((WS.nxt ?_ a w hs)))
    refine WS.rg (RS.mS 2 [kI 55 (IntKind.i64.wrap (v55_7+1)),kI 78 (IntKind.i64.wrap (v55_7+1))] (RS.dn ?_))
    cases h
    exact fun a w hs=>lsN rfl (hs.sb 0)
   ·try dsimp only at h
    refine WS.lR (z5x (L:=L) (E:=E) (m:=m) (H:=H)) (L.ok hl) 2 ?_
    cases h
    exact fun a w hq=>bkR (bkR (sqR (lsR rfl hq)))
 ·refine WS.fx 56 false (decide_eq_false hp) (WS.cF (WS.ex 6 ?_))
  cases h
  exact fun a w hs=>sqE (lsB rfl (hs.sb 0))
theorem zew {L:LC} {m:Nat} {H:AH} {a0:Option Addr} {r:(Int×AH)} (h:z5o L m H a0=some r) :
  CallS Tryz.prog (NE.plain 202) m 98 #[(Value.pointer a0)] H (z1y r) (z25 H r):=by
 refine CallS.mk (args:=[(Value.pointer a0)]) Tryz.func98 (B:=B98) (by kernel_rfl) (fun E _=>?_)
 unfold z5o at h
 refine WS.sq (WS.rg (RS.mS 1 [kI 2 0] (RS.dn (WS.nxt (WS.sq (WS.sq (WS.rg (RS.mS 1 [(15,.val (Value.pointer a0))] ?_))))))))
 obtain ⟨q1,hx,hq1⟩:=bind_some h
 subst hx
 have h:=hq1
 refine RS.mS 3 [(18,.val (Value.pointer (some (Addr.add (Addr.add q1 0) 1)))),(17,.val (Value.pointer (some (Addr.add q1 0)))),kP 16 q1] ?_
 obtain ⟨x2,hx,h⟩:=bind_some h
 refine RS.ld 19 24 (.tmp 18) (z1 hx z6) (RS.mS 2 [kI 21 0,kI 20 (x2.n:Int)] (RS.dn (WS.nxt (WS.bk 0 ?_))))
 obtain ⟨o,hl,h⟩:=bind_some h
 rcases o with v21_4 | r
 ·try dsimp only at h
  refine WS.lI (z5m (L:=L) (E:=E) (m:=m) (H:=H)) (L.ok hl) 0 ?_
  clear hl
  refine fun a w hs=>bkE ((WS.nxt ?_ a w hs))
  refine WS.sq (WS.sq (WS.rg (RS.mS 4 [(52,.val (Value.pointer (some (Addr.add (Addr.add q1 0) 2)))),(51,.val (Value.pointer (some (Addr.add q1 0)))),kP 50 q1,kP 49 q1] ?_)))
  obtain ⟨x5,hx,h⟩:=bind_some h
  refine RS.ld 53 25 (.tmp 52) (z1 hx z6) (RS.mS 2 [kI 55 0,kI 54 (x5.n:Int)] (RS.dn (WS.nxt (WS.bk 6 ?_))))
  obtain ⟨o,hl,h⟩:=bind_some h
  rcases o with ⟨H21,v55_22⟩ | r
  ·try dsimp only at h
   refine WS.lI (z5l (L:=L) (E:=E) (m:=m) (H:=H)) (L.ok hl) 0 ?_
   clear hl
   refine fun a w hs=>bkE ((WS.nxt ?_ a w hs))
   refine WS.sq (WS.rg (RS.mS 1 [kI 2 0] (RS.dn (WS.nxt (WS.rt ?_)))))
   cases h
   exact fun a w hs=>rtR (rS hs)
  ·try dsimp only at h
   refine WS.lR (z5l (L:=L) (E:=E) (m:=m) (H:=H)) (L.ok hl) 0 ?_
   cases h
   exact fun a w hq=>bkR (sqR (rtR hq))
 ·try dsimp only at h
  refine WS.lR (z5m (L:=L) (E:=E) (m:=m) (H:=H)) (L.ok hl) 0 ?_
  cases h
  exact fun a w hq=>bkR (sqR (rtR hq))
noncomputable def B99:Code:=(Tryz.f99.body).getD .skip
def z8z:(Bool×AH)→Value
 | (r0,_)=>(Value.bool r0)
def z96 (_:AH):(Bool×AH)→AH:=fun r=>r.2
noncomputable def z4t (_L:LC) (_a1:Sl3) (_q1:Addr) (x2:Sl3):(AH×Int)→Option (Lp (AH×Int) (Bool×AH)):=fun (H3,v19_4) =>
 if v19_4<(x2.n:Int) then
  none
 else
  some (.brk (H3,v19_4))
def zef (_L:LC) (a1:Sl3) (q1:Addr) (x2:Sl3):(AH×Int)→KN×Lcs:=fun (_,v19_4)=>([kI 19 v19_4,kP 0 q1,kS 1 a1,kS 17 x2,kI 18 (x2.n:Int)],[])
noncomputable def z7g (L:LC) (_m:Nat) (H:AH) (a0:Option Addr) (a1:Sl3):Option (Bool×AH) :=
 Option.bind a0 fun q1 =>
 Option.bind (rd deSl H (Addr.add (Addr.add q1 0) 1)) fun x2 =>
 Option.bind (L.run (z4t L a1 q1 x2) (H,0)) fun o=>match o with
 | .inl (H5,_) =>
  some (false,H5)
 | .inr r=>some r
theorem z70 {E m H L a1 q1 x2} :LoopF Tryz.prog (NE.plain 202) m E Tryz.f99 ((cfst (csnd (cfst (csnd B99))))) (zef L a1 q1 x2) (fun s=>s.1) 0 z8z (z96 H) (z4t L a1 q1 x2):=by
 rintro ⟨H3,v19_4⟩ o h
 unfold z4t at h
 try dsimp only at h
 refine WS.sq (WS.rg (RS.mS 1 [kB 20 (decide (v19_4<(x2.n:Int)))] (RS.dn (WS.nxt (WS.sq ?_)))))
 rcases z0 h with ⟨hp,h⟩ | ⟨hp,h⟩
 ·refine WS.fx 20 true (decide_eq_true hp) (WS.cT ?_)
  cases h
 ·refine WS.fx 20 false (decide_eq_false hp) (WS.cF (WS.ex 0 ?_))
  cases h
  exact fun a w hs=>sqE (lsB rfl (hs.sb 0))
theorem zh4 {L:LC} {m:Nat} {H:AH} {a0:Option Addr} {a1:Sl3} {r:(Bool×AH)} (h:z7g L m H a0 a1=some r) :
  CallS Tryz.prog (NE.plain 202) m 99 #[(Value.pointer a0),(Sl3.v a1)] H (z8z r) (z96 H r):=by
 refine CallS.mk (args:=[(Value.pointer a0),(Sl3.v a1)]) Tryz.func99 (B:=B99) (by kernel_rfl) (fun E _=>?_)
 unfold z7g at h
 refine WS.sq (WS.rg (RS.mS 1 [kB 4 false] (RS.dn (WS.nxt (WS.sq (WS.sq (WS.rg (RS.mS 1 [(13,.val (Value.pointer a0))] ?_))))))))
 obtain ⟨q1,hx,hq1⟩:=bind_some h
 subst hx
 have h:=hq1
 refine RS.mS 3 [(16,.val (Value.pointer (some (Addr.add (Addr.add q1 0) 1)))),(15,.val (Value.pointer (some (Addr.add q1 0)))),kP 14 q1] ?_
 obtain ⟨x2,hx,h⟩:=bind_some h
 refine RS.ld 17 24 (.tmp 16) (z1 hx z6) (RS.mS 2 [kI 19 0,kI 18 (x2.n:Int)] (RS.dn (WS.nxt (WS.bk 0 ?_))))
 obtain ⟨o,hl,h⟩:=bind_some h
 rcases o with ⟨H5,v19_6⟩ | r
 ·try dsimp only at h
  refine WS.lI (z70 (L:=L) (E:=E) (m:=m) (H:=H)) (L.ok hl) 0 ?_
  clear hl
  refine fun a w hs=>bkE ((WS.nxt ?_ a w hs))
  refine WS.sq (WS.rg (RS.mS 1 [kB 4 false] (RS.dn (WS.nxt (WS.rt ?_)))))
  cases h
  exact fun a w hs=>rtR (rS hs)
 ·try dsimp only at h
  refine WS.lR (z70 (L:=L) (E:=E) (m:=m) (H:=H)) (L.ok hl) 0 ?_
  cases h
  exact fun a w hq=>bkR (sqR (rtR hq))
noncomputable def B59:Code:=(Tryz.f59.body).getD .skip
def zbb:(Int×AH)→Value
 | (r0,_)=>(Value.int .i64 r0)
def zcm (_:AH):(Int×AH)→AH:=fun r=>r.2
noncomputable def z7e (L:LC) (_a0_0 _a0_1:Sl3) (_a0_2 _x2:Sl3) (_x3 s7:Sl3) (H8:AH):Int→Option (Lp Int (Int×AH)):=fun v21_9 =>
 if v21_9<(s7.n:Int) then
  Option.bind (idxA 1 s7 v21_9) fun p10 =>
  Option.bind (rd deS H8 p10) fun x11 =>
  Option.bind (zdk L x11) fun x12 =>
  if x12=true then
   some (.next (IntKind.i64.wrap (v21_9+1)))
  else
   none
 else
  some (.brk v21_9)
def zhi (_L:LC) (a0_0 a0_1:Sl3) (a0_2 x2:Sl3) (x3 s7:Sl3) (_H8:AH):Int→KN×Lcs:=fun v21_9=>([kI 21 v21_9,kL 1 0 0,kS 3 x2,kS 4 x3,kS 19 s7,kI 20 (s7.n:Int)],[some (27,[(Sl3.v a0_0),(Sl3.v a0_1),(Sl3.v a0_2)])])
noncomputable def zb4 (L:LC) (m:Nat) (H:AH) (a0_0 a0_1 a0_2:Sl3):Option (Int×AH) :=
 Option.bind (zid L H a0_0 a0_1 a0_2) fun x1 =>
 if x1=true then
  none
 else
  Option.bind (zfj L m H a0_0 a0_1 a0_2) fun (x2,x3,H4) =>
  Option.bind (z39 L m H4 x2) fun (x5,H6) =>
  Option.bind (appS m 9 1 16 H6 x5 x3) fun (s7,H8) =>
  Option.bind (L.run (z7e L a0_0 a0_1 a0_2 x2 x3 s7 H8) 0) fun o=>match o with
  | .inl _ =>
   Option.bind (zbl L m H8 x2) fun (x14,H15) =>
   if x14=true then
    none
   else
    Option.bind (zbl L m H15 x3) fun (x16,H17) =>
    if x16=true then
     none
    else
     Option.bind (zhr L m H17 a0_0 a0_1 a0_2) fun (x18,H19) =>
     Option.bind (z5o L m H19 x18) fun (x20,H21) =>
     if x20=0 then
      Option.bind (z88 L m H21 x18) fun (x22,H23) =>
      Option.bind (z7g L m H23 x18 x22) fun (x24,H25) =>
      if x24=true then
       none
      else
       Option.bind (z7c L m H25 x18) fun (x26,H27) =>
       Option.bind (z4w L H27 x26 false) fun x28 =>
       if x28=true then
        none
       else
        some (0,H27)
     else
      none
  | .inr r=>some r
theorem z9a {E m H L a0_0 a0_1 a0_2 x2 x3 s7 H8} :LoopF Tryz.prog (NE.plain 202) m E Tryz.f59 ((cfst (csnd (cfst (csnd (csnd (csnd B59))))))) (zhi L a0_0 a0_1 a0_2 x2 x3 s7 H8) (fun _=>H8) 0 zbb (zcm H) (z7e L a0_0 a0_1 a0_2 x2 x3 s7 H8):=by
 rintro v21_9 o h
 unfold z7e at h
 try dsimp only at h
 refine WS.sq (WS.rg (RS.mS 1 [kB 22 (decide (v21_9<(s7.n:Int)))] (RS.dn (WS.nxt (WS.sq ?_)))))
 rcases z0 h with ⟨hp,h⟩ | ⟨hp,h⟩
 ·refine WS.fx 22 true (decide_eq_true hp) (WS.cT (WS.sk (WS.nxt (WS.sq (WS.bk 1 (WS.sq (WS.rg ?_)))))))
  obtain ⟨p10,hx,h⟩:=bind_some h
  refine RS.ix 23 23 9 (.tmp 19) (.tmp 21) hx ?_
  obtain ⟨x11,hx,h⟩:=bind_some h
  refine RS.ld 24 9 (.tmp 23) (z1 hx zl) (RS.mS 1 [kT 6 x11] (RS.dn (WS.nxt (WS.sq (WS.rg (RS.mS 1 [kT 25 x11] ?_))))))
  obtain ⟨x12,hx,h⟩:=bind_some h
  refine RS.cl (some 26) (v:=(Value.bool x12)) 95 #[(Value.string x11)] (zhu hx) (RS.mS 1 [kB 27 (!x12)] (RS.dn (WS.nxt ?_)))
  rcases z0 h with ⟨hp,h⟩ | ⟨hp,h⟩
  ·refine WS.fx 27 false (nb_not hp) (WS.cF (WS.sk ?_))
   refine fun a w hs=>bkN ((WS.nxt ?_ a w hs))
   refine WS.rg (RS.mS 2 [kI 21 (IntKind.i64.wrap (v21_9+1)),kI 28 (IntKind.i64.wrap (v21_9+1))] (RS.dn ?_))
   cases h
   exact fun a w hs=>lsN rfl (hs.sb 1)
  ·refine WS.fx 27 true (z19 hp) (WS.cT ?_)
   cases h
 ·refine WS.fx 22 false (decide_eq_false hp) (WS.cF (WS.ex 0 ?_))
  cases h
  exact fun a w hs=>sqE (lsB rfl (hs.sb 1))
theorem zk2 {L:LC} {m:Nat} {H:AH} {a0_0 a0_1 a0_2:Sl3} {r:(Int×AH)} (h:zb4 L m H a0_0 a0_1 a0_2=some r) :
  CallS Tryz.prog (NE.plain 202) m 59 #[(Value.agg #[(Sl3.v a0_0),(Sl3.v a0_1),(Sl3.v a0_2)])] H (zbb r) (zcm H r):=by
 refine CallS.mk (args:=[(Value.agg #[(Sl3.v a0_0),(Sl3.v a0_1),(Sl3.v a0_2)])]) Tryz.func59 (B:=B59) (by kernel_rfl) (fun E _=>?_)
 unfold zb4 at h
 refine WS.sq (WS.rg (RS.mL 2 [kI 2 0,kL 1 0 0] ([some (27,[(Sl3.v a0_0),(Sl3.v a0_1),(Sl3.v a0_2)])]) (RS.dn (WS.nxt (WS.sq (WS.sq (WS.rg (RS.mS 1 [kA 9 #[(Sl3.v a0_0),(Sl3.v a0_1),(Sl3.v a0_2)]] ?_))))))))
 obtain ⟨x1,hx,h⟩:=bind_some h
 refine RS.cl (some 10) (v:=(Value.bool x1)) 92 #[(Value.agg #[(Sl3.v a0_0),(Sl3.v a0_1),(Sl3.v a0_2)])] (zmw hx) (RS.dn (WS.nxt ?_))
 rcases z0 h with ⟨hp,h⟩ | ⟨hp,h⟩
 ·refine WS.fx 10 true hp (WS.cT ?_)
  cases h
 ·refine WS.fx 10 false (b_not hp) (WS.cF (WS.sk (WS.nxt (WS.sq (WS.rg (RS.mS 1 [kA 12 #[(Sl3.v a0_0),(Sl3.v a0_1),(Sl3.v a0_2)]] ?_))))))
  obtain ⟨⟨x2,x3,H4⟩,hx,h⟩:=bind_some h
  try dsimp only at h
  refine RS.cl (some 13) (v:=(Value.tuple #[(Sl3.v x2),(Sl3.v x3)])) 93 #[(Value.agg #[(Sl3.v a0_0),(Sl3.v a0_1),(Sl3.v a0_2)])] (zm3 hx) (RS.mS 5 [kS 4 x3,kS 3 x2,kS 15 x3,kS 14 x2,(11,.val (Value.tuple #[(Sl3.v x2),(Sl3.v x3)]))] (RS.dn (WS.nxt (WS.sq (WS.sq (WS.rg (RS.mS 1 [kS 16 x2] ?_)))))))
  obtain ⟨⟨x5,H6⟩,hx,h⟩:=bind_some h
  try dsimp only at h
  refine RS.cl (some 17) (v:=(Sl3.v x5)) 94 #[(Sl3.v x2)] (z5p hx) (RS.mS 1 [kS 18 x3] ?_)
  obtain ⟨⟨s7,H8⟩,hx,h⟩:=bind_some h
  try dsimp only at h
  refine RS.o (H':=H8) (some 19) (Sl3.v s7) (Abs.run_app (x:=.tmp 17) (y:=.tmp 18) (ts:=#[23,23]) (s:=x5) (z:=x3) (by kernel_rfl) (by kernel_rfl) (by kernel_rfl) (by kernel_rfl) hx) (RS.mS 2 [kI 21 0,kI 20 (s7.n:Int)] (RS.dn (WS.nxt (WS.bk 0 ?_))))
  obtain ⟨o,hl,h⟩:=bind_some h
  rcases o with v21_13 | r
  ·try dsimp only at h
   refine WS.lI (z9a (L:=L) (E:=E) (m:=m) (H:=H)) (L.ok hl) 1 ?_
   clear hl
   refine fun a w hs=>bkE ((WS.nxt ?_ a w hs))
   refine WS.sq (WS.sq (WS.rg (RS.mS 1 [kS 29 x2] ?_)))
   obtain ⟨⟨x14,H15⟩,hx,h⟩:=bind_some h
   try dsimp only at h
   refine RS.cl (some 30) (v:=(Value.bool x14)) 96 #[(Sl3.v x2)] (zgo hx) (RS.mS 1 [kB 31 x14] ?_)
   rcases z0 h with ⟨hp,h⟩ | ⟨hp,h⟩
   ·refine RS.fx 31 true hp ?_
    cases h
   ·refine RS.fx 31 false (b_not hp) (RS.mS 1 [kS 32 x3] ?_)
    obtain ⟨⟨x16,H17⟩,hx,h⟩:=bind_some h
    try dsimp only at h
    refine RS.cl (some 33) (v:=(Value.bool x16)) 96 #[(Sl3.v x3)] (zgo hx) (RS.mS 1 [kB 34 x16] (RS.dn (WS.nxt ?_)))
    rcases z0 h with ⟨hp,h⟩ | ⟨hp,h⟩
    ·refine WS.fx 34 true hp (WS.cT ?_)
     cases h
    ·refine WS.fx 34 false (b_not hp) (WS.cF (WS.sk (WS.nxt (WS.sq (WS.rg (RS.mS 1 [kA 35 #[(Sl3.v a0_0),(Sl3.v a0_1),(Sl3.v a0_2)]] ?_))))))
     obtain ⟨⟨x18,H19⟩,hx,h⟩:=bind_some h
     try dsimp only at h
     refine RS.cl (some 36) (v:=(Value.pointer x18)) 97 #[(Value.agg #[(Sl3.v a0_0),(Sl3.v a0_1),(Sl3.v a0_2)])] (znn hx) (RS.mS 1 [(7,.val (Value.pointer x18))] (RS.dn (WS.nxt (WS.sq (WS.sq (WS.rg (RS.mS 1 [(37,.val (Value.pointer x18))] ?_)))))))
     obtain ⟨⟨x20,H21⟩,hx,h⟩:=bind_some h
     try dsimp only at h
     refine RS.cl (some 38) (v:=(Value.int .i64 x20)) 98 #[(Value.pointer x18)] (zew hx) (RS.mS 1 [kI 8 x20] (RS.dn (WS.nxt (WS.sq (WS.rg (RS.mS 2 [kB 40 (!decide (x20=0)),kI 39 x20] (RS.dn (WS.nxt ?_))))))))
     rcases z0 h with ⟨hp,h⟩ | ⟨hp,h⟩
     ·refine WS.fx 40 false (zh hp) (WS.cF (WS.sk (WS.nxt (WS.sq (WS.sq (WS.rg (RS.mS 2 [(43,.val (Value.pointer x18)),(42,.val (Value.pointer x18))] ?_)))))))
      obtain ⟨⟨x22,H23⟩,hx,h⟩:=bind_some h
      try dsimp only at h
      refine RS.cl (some 44) (v:=(Sl3.v x22)) 100 #[(Value.pointer x18)] (zia hx) ?_
      obtain ⟨⟨x24,H25⟩,hx,h⟩:=bind_some h
      try dsimp only at h
      refine RS.cl (some 45) (v:=(Value.bool x24)) 99 #[(Value.pointer x18),(Sl3.v x22)] (zh4 hx) (RS.dn (WS.nxt ?_))
      rcases z0 h with ⟨hp,h⟩ | ⟨hp,h⟩
      ·refine WS.fx 45 true hp (WS.cT ?_)
       cases h
      ·refine WS.fx 45 false (b_not hp) (WS.cF (WS.sk (WS.nxt (WS.sq (WS.sq (WS.rg (RS.mS 1 [(46,.val (Value.pointer x18))] ?_)))))))
       obtain ⟨⟨x26,H27⟩,hx,h⟩:=bind_some h
       try dsimp only at h
       refine RS.cl (some 47) (v:=(Sl3.v x26)) 102 #[(Value.pointer x18)] (zhg hx) ?_
       obtain ⟨x28,hx,h⟩:=bind_some h
       refine RS.cl (some 48) (v:=(Value.bool x28)) 101 #[(Sl3.v x26),(Value.bool false)] (zen hx) (RS.dn (WS.nxt ?_))
       rcases z0 h with ⟨hp,h⟩ | ⟨hp,h⟩
       ·refine WS.fx 48 true hp (WS.cT ?_)
        cases h
       ·refine WS.fx 48 false (b_not hp) (WS.cF (WS.sk (WS.nxt (WS.sq (WS.rg (RS.mS 1 [kI 2 0] (RS.dn (WS.nxt (WS.rt ?_)))))))))
        cases h
        exact fun a w hs=>rtR (rS hs)
     ·refine WS.fx 40 true (ze hp) (WS.cT ?_)
      cases h
  ·try dsimp only at h
   refine WS.lR (z9a (L:=L) (E:=E) (m:=m) (H:=H)) (L.ok hl) 1 ?_
   cases h
   exact fun a w hq=>bkR (sqR (rtR hq))
end Go.Proofs.YtfbinmgldpnjhaaGreatDoor
namespace Go.Proofs.YtfbinmgldpnjhaaGreatDoor
open Go Go.Abs
set_option maxRecDepth 100000
noncomputable def B60:Code:=(Tryz.f60.body).getD .skip
def z4f:(Sl3×Sl3×Sl3×AH)→Value
 | (r0,r1,r2,_)=>(Value.agg #[(Sl3.v r0),(Sl3.v r1),(Sl3.v r2)])
def z58 (_:AH):(Sl3×Sl3×Sl3×AH)→AH:=fun r=>r.2.2.2
noncomputable def z8b (_L:LC) (_a0_0 a0_1 _a0_2:Sl3):(AH×Int×Sl3×Sl3×Sl3)→Option (Lp (AH×Int×Sl3×Sl3×Sl3) (Sl3×Sl3×Sl3×AH)):=fun (H3,v24_4,w2_5,w2_6,w2_7) =>
 if v24_4<(a0_1.n:Int) then
  none
 else
  some (.brk (H3,v24_4,w2_5,w2_6,w2_7))
def zi8 (_L:LC) (a0_0 a0_1 a0_2:Sl3):(AH×Int×Sl3×Sl3×Sl3)→KN×Lcs:=fun (_,v24_4,w2_5,w2_6,w2_7)=>([kI 24 v24_4,kL 1 0 0,kL 2 1 0,kL 3 2 0,kS 22 a0_1,kI 23 (a0_1.n:Int)],[some (27,[(Sl3.v a0_0),(Sl3.v a0_1),(Sl3.v a0_2)]),some (27,[(Sl3.v Sl3.nil),(Sl3.v Sl3.nil),(Sl3.v Sl3.nil)]),some (27,[(Sl3.v w2_5),(Sl3.v w2_6),(Sl3.v w2_7)])])
noncomputable def z8v (_L:LC) (_a0_0 _a0_1 _a0_2:Sl3) (_v77_14:Int) (_w2_15 _w2_16 _w2_17:Sl3) (_x19_0:ByteArray) (x19_1:Sl3) (_x19_2 _x19_3:Int) (_x19_4:ByteArray) (_x19_5:Sl3):(AH×Int×ByteArray×Sl3×Int×Int×ByteArray×Sl3)→Option (Lp (AH×Int×ByteArray×Sl3×Int×Int×ByteArray×Sl3) (Sl3×Sl3×Sl3×AH)):=fun (H22,v90_23,w4_24,w4_25,w4_26,w4_27,w4_28,w4_29) =>
 if v90_23<(x19_1.n:Int) then
  none
 else
  some (.brk (H22,v90_23,w4_24,w4_25,w4_26,w4_27,w4_28,w4_29))
def zil (_L:LC) (a0_0 a0_1 a0_2:Sl3) (v77_14:Int) (w2_15 w2_16 w2_17:Sl3) (x19_0:ByteArray) (x19_1:Sl3) (x19_2 x19_3:Int) (x19_4:ByteArray) (x19_5:Sl3):(AH×Int×ByteArray×Sl3×Int×Int×ByteArray×Sl3)→KN×Lcs:=fun (_,v90_23,w4_24,w4_25,w4_26,w4_27,w4_28,w4_29)=>([kI 90 v90_23,kL 2 1 0,kL 3 2 0,kL 14 4 0,kS 75 a0_2,kI 76 (a0_2.n:Int),kI 77 v77_14,kS 88 x19_1,kI 89 (x19_1.n:Int)],[some (27,[(Sl3.v a0_0),(Sl3.v a0_1),(Sl3.v a0_2)]),some (27,[(Sl3.v Sl3.nil),(Sl3.v Sl3.nil),(Sl3.v Sl3.nil)]),some (27,[(Sl3.v w2_15),(Sl3.v w2_16),(Sl3.v w2_17)]),some (84,[(Value.string x19_0),(Sl3.v x19_1),(Value.int .i64 x19_2),(Value.int .i64 x19_3),(Value.string x19_4),(Sl3.v x19_5)]),some (84,[(Value.string w4_24),(Sl3.v w4_25),(Value.int .i64 w4_26),(Value.int .i64 w4_27),(Value.string w4_28),(Sl3.v w4_29)])])
noncomputable def z8e (L:LC) (m:Nat) (a0_0 a0_1 a0_2:Sl3):(AH×Int×Sl3×Sl3×Sl3)→Option (Lp (AH×Int×Sl3×Sl3×Sl3) (Sl3×Sl3×Sl3×AH)):=fun (H13,v77_14,w2_15,w2_16,w2_17) =>
 if v77_14<(a0_2.n:Int) then
  Option.bind (idxA 6 a0_2 v77_14) fun p18 =>
  Option.bind (rd deS H13 (Addr.add p18 0)) fun x19_0 =>
  Option.bind (rd deSl H13 (Addr.add p18 1)) fun x19_1 =>
  Option.bind (rd (deI .i64) H13 (Addr.add p18 2)) fun x19_2 =>
  Option.bind (rd (deI .i64) H13 (Addr.add p18 3)) fun x19_3 =>
  Option.bind (rd deS H13 (Addr.add p18 4)) fun x19_4 =>
  Option.bind (rd deSl H13 (Addr.add p18 5)) fun x19_5 =>
  Option.bind (zau L (Nat.max m H13.next) H13 x19_2 x19_3 x19_4 x19_5) fun (x20_0,x20_1,x20_2,x20_3,H21) =>
  Option.bind (L.run (z8v L a0_0 a0_1 a0_2 v77_14 w2_15 w2_16 w2_17 x19_0 x19_1 x19_2 x19_3 x19_4 x19_5) (H21,0,x19_0,Sl3.nil,x20_0,x20_1,x20_2,x20_3)) fun o=>match o with
  | .inl (H30,_,w4_32,w4_33,w4_34,w4_35,w4_36,w4_37) =>
   Option.bind (newR 84 1 #[(Value.string w4_32),(Sl3.v w4_33),(Value.int .i64 w4_34),(Value.int .i64 w4_35),(Value.string w4_36),(Sl3.v w4_37)] H30) fun (s38,H39) =>
   Option.bind (appS m 84 6 96 H39 w2_17 s38) fun (s40,H41) =>
   some (.next (H41,(IntKind.i64.wrap (v77_14+1)),w2_15,w2_16,s40))
  | .inr r=>some (.ret r)
 else
  some (.brk (H13,v77_14,w2_15,w2_16,w2_17))
def zi9 (_L:LC) (_m:Nat) (a0_0 a0_1 a0_2:Sl3):(AH×Int×Sl3×Sl3×Sl3)→KN×Lcs:=fun (_,v77_14,w2_15,w2_16,w2_17)=>([kI 77 v77_14,kL 2 1 0,kL 3 2 0,kS 75 a0_2,kI 76 (a0_2.n:Int)],[some (27,[(Sl3.v a0_0),(Sl3.v a0_1),(Sl3.v a0_2)]),some (27,[(Sl3.v Sl3.nil),(Sl3.v Sl3.nil),(Sl3.v Sl3.nil)]),some (27,[(Sl3.v w2_15),(Sl3.v w2_16),(Sl3.v w2_17)])])
noncomputable def zcp (L:LC) (m:Nat) (H:AH) (a0_0 a0_1 a0_2:Sl3):Option (Sl3×Sl3×Sl3×AH) :=
 Option.bind (z39 L m H a0_0) fun (x1,H2) =>
 Option.bind (L.run (z8b L a0_0 a0_1 a0_2) (H2,0,x1,Sl3.nil,Sl3.nil)) fun o=>match o with
 | .inl (H8,_,w2_10,w2_11,w2_12) =>
  Option.bind (L.run (z8e L m a0_0 a0_1 a0_2) (H8,0,w2_10,w2_11,w2_12)) fun o=>match o with
  | .inl (H42,_,w2_44,w2_45,w2_46) =>
   some (w2_44,w2_45,w2_46,H42)
  | .inr r=>some r
 | .inr r=>some r
theorem zaa {E m H L a0_0 a0_1 a0_2} :LoopF Tryz.prog (NE.plain 202) m E Tryz.f60 ((cfst (csnd (cfst (csnd (csnd B60)))))) (zi8 L a0_0 a0_1 a0_2) (fun s=>s.1) 0 z4f (z58 H) (z8b L a0_0 a0_1 a0_2):=by
 rintro ⟨H3,v24_4,w2_5,w2_6,w2_7⟩ o h
 unfold z8b at h
 try dsimp only at h
 refine WS.sq (WS.rg (RS.mS 1 [kB 25 (decide (v24_4<(a0_1.n:Int)))] (RS.dn (WS.nxt (WS.sq ?_)))))
 rcases z0 h with ⟨hp,h⟩ | ⟨hp,h⟩
 ·refine WS.fx 25 true (decide_eq_true hp) (WS.cT ?_)
  cases h
 ·refine WS.fx 25 false (decide_eq_false hp) (WS.cF (WS.ex 0 ?_))
  cases h
  exact fun a w hs=>sqE (lsB rfl (hs.sb 3))
theorem zab {E m H L a0_0 a0_1 a0_2 v77_14 w2_15 w2_16 w2_17 x19_0 x19_1 x19_2 x19_3 x19_4 x19_5} :LoopF Tryz.prog (NE.plain 202) m E Tryz.f60 ((cfst (csnd (cfst (csnd (csnd (cfst (cfst (csnd (csnd (cfst (cfst (csnd (cfst (csnd (csnd (csnd B60))))))))))))))))) (zil L a0_0 a0_1 a0_2 v77_14 w2_15 w2_16 w2_17 x19_0 x19_1 x19_2 x19_3 x19_4 x19_5) (fun s=>s.1) 8 z4f (z58 H) (z8v L a0_0 a0_1 a0_2 v77_14 w2_15 w2_16 w2_17 x19_0 x19_1 x19_2 x19_3 x19_4 x19_5):=by
 rintro ⟨H22,v90_23,w4_24,w4_25,w4_26,w4_27,w4_28,w4_29⟩ o h
 unfold z8v at h
 try dsimp only at h
 refine WS.sq (WS.rg (RS.mS 1 [kB 91 (decide (v90_23<(x19_1.n:Int)))] (RS.dn (WS.nxt (WS.sq ?_)))))
 rcases z0 h with ⟨hp,h⟩ | ⟨hp,h⟩
 ·refine WS.fx 91 true (decide_eq_true hp) (WS.cT ?_)
  cases h
 ·refine WS.fx 91 false (decide_eq_false hp) (WS.cF (WS.ex 8 ?_))
  cases h
  exact fun a w hs=>sqE (lsB rfl (hs.sb 5))
theorem zad {E H L m a0_0 a0_1 a0_2} :LoopF Tryz.prog (NE.plain 202) m E Tryz.f60 ((cfst (csnd (cfst (csnd (csnd (csnd B60))))))) (zi9 L m a0_0 a0_1 a0_2) (fun s=>s.1) 6 z4f (z58 H) (z8e L m a0_0 a0_1 a0_2):=by
 rintro ⟨H13,v77_14,w2_15,w2_16,w2_17⟩ o h
 unfold z8e at h
 try dsimp only at h
 refine WS.sq (WS.rg (RS.mS 1 [kB 78 (decide (v77_14<(a0_2.n:Int)))] (RS.dn (WS.nxt (WS.sq ?_)))))
 rcases z0 h with ⟨hp,h⟩ | ⟨hp,h⟩
 ·refine WS.fx 78 true (decide_eq_true hp) (WS.cT (WS.sk (WS.nxt (WS.sq (WS.bk 7 (WS.sq (WS.rg ?_)))))))
  obtain ⟨p18,hx,h⟩:=bind_some h
  refine RS.ix 79 25 84 (.tmp 75) (.tmp 77) hx ?_
  obtain ⟨x19_0,hx0,h⟩:=bind_some h
  obtain ⟨x19_1,hx1,h⟩:=bind_some h
  obtain ⟨x19_2,hx2,h⟩:=bind_some h
  obtain ⟨x19_3,hx3,h⟩:=bind_some h
  obtain ⟨x19_4,hx4,h⟩:=bind_some h
  obtain ⟨x19_5,hx5,h⟩:=bind_some h
  refine RS.la 80 84 (.tmp 79) 6 (z3 (z1 hx0 zl) (z3 (z1 hx1 z6) (z3 (z1 hx2 z8) (z3 (z1 hx3 z8) (z3 (z1 hx4 zl) (z3 (z1 hx5 z6) z30)))))) (RS.mL 2 [kL 13 3 0] ([some (27,[(Sl3.v a0_0),(Sl3.v a0_1),(Sl3.v a0_2)]),some (27,[(Sl3.v Sl3.nil),(Sl3.v Sl3.nil),(Sl3.v Sl3.nil)]),some (27,[(Sl3.v w2_15),(Sl3.v w2_16),(Sl3.v w2_17)]),some (84,[(Value.string x19_0),(Sl3.v x19_1),(Value.int .i64 x19_2),(Value.int .i64 x19_3),(Value.string x19_4),(Sl3.v x19_5)])]) (RS.dn (WS.nxt (WS.sq ?_))))
  obtain ⟨⟨x20_0,x20_1,x20_2,x20_3,H21⟩,hx_4,h⟩:=bind_some h
  try dsimp only at h
  refine WS.toone ([kL 2 1 0,kL 3 2 0,kL 13 3 0,kL 14 4 0,kS 75 a0_2,kI 76 (a0_2.n:Int),kI 77 v77_14]) ([some (27,[(Sl3.v a0_0),(Sl3.v a0_1),(Sl3.v a0_2)]),some (27,[(Sl3.v Sl3.nil),(Sl3.v Sl3.nil),(Sl3.v Sl3.nil)]),some (27,[(Sl3.v w2_15),(Sl3.v w2_16),(Sl3.v w2_17)]),some (84,[(Value.string x19_0),(Sl3.v x19_1),(Value.int .i64 x19_2),(Value.int .i64 x19_3),(Value.string x19_4),(Sl3.v x19_5)]),some (84,[(Value.string x19_0),(Sl3.v Sl3.nil),(Value.int .i64 x20_0),(Value.int .i64 x20_1),(Value.string x20_2),(Sl3.v x20_3)])]) H21 ?_ ?_
  ·clear h
   refine WS.dr [2,3] [0,1,0,4,12,31,0,127] 8 (fun hcl=>?_)
   refine DA.tL 2 (some 83) (.loc 3 2) (DA.tL 3 (some 84) (.val (Value.agg #[(Value.int .i64 x19_2),(Value.int .i64 x19_3),(Value.string x19_4),(Sl3.v x19_5)])) (DA.restart [0,2,3] (by kernel_rfl) (DA.tL 0 (some 81) (.loc 3 0) ?_)))
   refine DA.three 1 4 6 (by kernel_rfl) ?_ ?_ ?_
   ·refine DA.aL 1 (some 82) (.val (Value.string x19_0)) ([some (27,[(Sl3.v a0_0),(Sl3.v a0_1),(Sl3.v a0_2)]),some (27,[(Sl3.v Sl3.nil),(Sl3.v Sl3.nil),(Sl3.v Sl3.nil)]),some (27,[(Sl3.v w2_15),(Sl3.v w2_16),(Sl3.v w2_17)]),some (84,[(Value.string x19_0),(Sl3.v x19_1),(Value.int .i64 x19_2),(Value.int .i64 x19_3),(Value.string x19_4),(Sl3.v x19_5)])]) true ?_
    refine DA.two 4 6 (by kernel_rfl) ?_ ?_
    ·refine DA.aCj 4 (some 85) true (v:=(Value.agg #[(Value.int .i64 x20_0),(Value.int .i64 x20_1),(Value.string x20_2),(Sl3.v x20_3)])) 56 #[(Value.agg #[(Value.int .i64 x19_2),(Value.int .i64 x19_3),(Value.string x19_4),(Sl3.v x19_5)])] (z1b hx_4) ?_
     refine DA.two 5 6 (by kernel_rfl) ?_ ?_
     ·refine DA.aHj (H':=H21) 5 (some 86) true (Value.agg #[(Value.string x19_0),(Sl3.v Sl3.nil),(Value.int .i64 x20_0),(Value.int .i64 x20_1),(Value.string x20_2),(Sl3.v x20_3)]) (by kernel_rfl) (DA.on 6 (DA.aL 6 (some 14) (.loc 4 0) ([some (27,[(Sl3.v a0_0),(Sl3.v a0_1),(Sl3.v a0_2)]),some (27,[(Sl3.v Sl3.nil),(Sl3.v Sl3.nil),(Sl3.v Sl3.nil)]),some (27,[(Sl3.v w2_15),(Sl3.v w2_16),(Sl3.v w2_17)]),some (84,[(Value.string x19_0),(Sl3.v x19_1),(Value.int .i64 x19_2),(Value.int .i64 x19_3),(Value.string x19_4),(Sl3.v x19_5)]),some (84,[(Value.string (⟨#[]⟩:ByteArray)),(Sl3.v Sl3.nil),(Value.int .i64 0),(Value.int .i64 0),(Value.string (⟨#[]⟩:ByteArray)),(Sl3.v Sl3.nil)])]) false (DA.on 7 (DA.aL 7 none (.val undef) ([some (27,[(Sl3.v a0_0),(Sl3.v a0_1),(Sl3.v a0_2)]),some (27,[(Sl3.v Sl3.nil),(Sl3.v Sl3.nil),(Sl3.v Sl3.nil)]),some (27,[(Sl3.v w2_15),(Sl3.v w2_16),(Sl3.v w2_17)]),some (84,[(Value.string x19_0),(Sl3.v x19_1),(Value.int .i64 x19_2),(Value.int .i64 x19_3),(Value.string x19_4),(Sl3.v x19_5)]),some (84,[(Value.string x19_0),(Sl3.v Sl3.nil),(Value.int .i64 x20_0),(Value.int .i64 x20_1),(Value.string x20_2),(Sl3.v x20_3)])]) false (DA.dn ?_)))))
      exact fun a w hs=>jsN (hs.sb 5)
     ·refine DA.aL 6 (some 14) (.loc 4 0) ([some (27,[(Sl3.v a0_0),(Sl3.v a0_1),(Sl3.v a0_2)]),some (27,[(Sl3.v Sl3.nil),(Sl3.v Sl3.nil),(Sl3.v Sl3.nil)]),some (27,[(Sl3.v w2_15),(Sl3.v w2_16),(Sl3.v w2_17)]),some (84,[(Value.string x19_0),(Sl3.v x19_1),(Value.int .i64 x19_2),(Value.int .i64 x19_3),(Value.string x19_4),(Sl3.v x19_5)]),some (84,[(Value.string (⟨#[]⟩:ByteArray)),(Sl3.v Sl3.nil),(Value.int .i64 0),(Value.int .i64 0),(Value.string (⟨#[]⟩:ByteArray)),(Sl3.v Sl3.nil)])]) false (DA.on 5 (DA.aH (H':=H21) 5 (some 86) (Value.agg #[(Value.string x19_0),(Sl3.v Sl3.nil),(Value.int .i64 x20_0),(Value.int .i64 x20_1),(Value.string x20_2),(Sl3.v x20_3)]) (by kernel_rfl) (DA.on 7 (DA.aL 7 none (.val undef) ([some (27,[(Sl3.v a0_0),(Sl3.v a0_1),(Sl3.v a0_2)]),some (27,[(Sl3.v Sl3.nil),(Sl3.v Sl3.nil),(Sl3.v Sl3.nil)]),some (27,[(Sl3.v w2_15),(Sl3.v w2_16),(Sl3.v w2_17)]),some (84,[(Value.string x19_0),(Sl3.v x19_1),(Value.int .i64 x19_2),(Value.int .i64 x19_3),(Value.string x19_4),(Sl3.v x19_5)]),some (84,[(Value.string x19_0),(Sl3.v Sl3.nil),(Value.int .i64 x20_0),(Value.int .i64 x20_1),(Value.string x20_2),(Sl3.v x20_3)])]) false (DA.dn ?_)))))
      exact fun a w hs=>jsN (hs.sb 5)
    ·refine DA.aL 6 (some 14) (.loc 4 0) ([some (27,[(Sl3.v a0_0),(Sl3.v a0_1),(Sl3.v a0_2)]),some (27,[(Sl3.v Sl3.nil),(Sl3.v Sl3.nil),(Sl3.v Sl3.nil)]),some (27,[(Sl3.v w2_15),(Sl3.v w2_16),(Sl3.v w2_17)]),some (84,[(Value.string x19_0),(Sl3.v x19_1),(Value.int .i64 x19_2),(Value.int .i64 x19_3),(Value.string x19_4),(Sl3.v x19_5)]),some (84,[(Value.string (⟨#[]⟩:ByteArray)),(Sl3.v Sl3.nil),(Value.int .i64 0),(Value.int .i64 0),(Value.string (⟨#[]⟩:ByteArray)),(Sl3.v Sl3.nil)])]) true (DA.on 4 (DA.aCj 4 (some 85) false (v:=(Value.agg #[(Value.int .i64 x20_0),(Value.int .i64 x20_1),(Value.string x20_2),(Sl3.v x20_3)])) 56 #[(Value.agg #[(Value.int .i64 x19_2),(Value.int .i64 x19_3),(Value.string x19_4),(Sl3.v x19_5)])] (z1b hx_4) (DA.on 5 (DA.aH (H':=H21) 5 (some 86) (Value.agg #[(Value.string x19_0),(Sl3.v Sl3.nil),(Value.int .i64 x20_0),(Value.int .i64 x20_1),(Value.string x20_2),(Sl3.v x20_3)]) (by kernel_rfl) (DA.on 7 (DA.aL 7 none (.val undef) ([some (27,[(Sl3.v a0_0),(Sl3.v a0_1),(Sl3.v a0_2)]),some (27,[(Sl3.v Sl3.nil),(Sl3.v Sl3.nil),(Sl3.v Sl3.nil)]),some (27,[(Sl3.v w2_15),(Sl3.v w2_16),(Sl3.v w2_17)]),some (84,[(Value.string x19_0),(Sl3.v x19_1),(Value.int .i64 x19_2),(Value.int .i64 x19_3),(Value.string x19_4),(Sl3.v x19_5)]),some (84,[(Value.string x19_0),(Sl3.v Sl3.nil),(Value.int .i64 x20_0),(Value.int .i64 x20_1),(Value.string x20_2),(Sl3.v x20_3)])]) false (DA.dn ?_)))))))
     exact fun a w hs=>jsN (hs.sb 5)
   ·refine DA.aCj 4 (some 85) true (v:=(Value.agg #[(Value.int .i64 x20_0),(Value.int .i64 x20_1),(Value.string x20_2),(Sl3.v x20_3)])) 56 #[(Value.agg #[(Value.int .i64 x19_2),(Value.int .i64 x19_3),(Value.string x19_4),(Sl3.v x19_5)])] (z1b hx_4) ?_
    refine DA.two 1 6 (by kernel_rfl) ?_ ?_
    ·refine DA.aL 1 (some 82) (.val (Value.string x19_0)) ([some (27,[(Sl3.v a0_0),(Sl3.v a0_1),(Sl3.v a0_2)]),some (27,[(Sl3.v Sl3.nil),(Sl3.v Sl3.nil),(Sl3.v Sl3.nil)]),some (27,[(Sl3.v w2_15),(Sl3.v w2_16),(Sl3.v w2_17)]),some (84,[(Value.string x19_0),(Sl3.v x19_1),(Value.int .i64 x19_2),(Value.int .i64 x19_3),(Value.string x19_4),(Sl3.v x19_5)])]) true ?_
     refine DA.two 5 6 (by kernel_rfl) ?_ ?_
     ·refine DA.aHj (H':=H21) 5 (some 86) true (Value.agg #[(Value.string x19_0),(Sl3.v Sl3.nil),(Value.int .i64 x20_0),(Value.int .i64 x20_1),(Value.string x20_2),(Sl3.v x20_3)]) (by kernel_rfl) (DA.on 6 (DA.aL 6 (some 14) (.loc 4 0) ([some (27,[(Sl3.v a0_0),(Sl3.v a0_1),(Sl3.v a0_2)]),some (27,[(Sl3.v Sl3.nil),(Sl3.v Sl3.nil),(Sl3.v Sl3.nil)]),some (27,[(Sl3.v w2_15),(Sl3.v w2_16),(Sl3.v w2_17)]),some (84,[(Value.string x19_0),(Sl3.v x19_1),(Value.int .i64 x19_2),(Value.int .i64 x19_3),(Value.string x19_4),(Sl3.v x19_5)]),some (84,[(Value.string (⟨#[]⟩:ByteArray)),(Sl3.v Sl3.nil),(Value.int .i64 0),(Value.int .i64 0),(Value.string (⟨#[]⟩:ByteArray)),(Sl3.v Sl3.nil)])]) false (DA.on 7 (DA.aL 7 none (.val undef) ([some (27,[(Sl3.v a0_0),(Sl3.v a0_1),(Sl3.v a0_2)]),some (27,[(Sl3.v Sl3.nil),(Sl3.v Sl3.nil),(Sl3.v Sl3.nil)]),some (27,[(Sl3.v w2_15),(Sl3.v w2_16),(Sl3.v w2_17)]),some (84,[(Value.string x19_0),(Sl3.v x19_1),(Value.int .i64 x19_2),(Value.int .i64 x19_3),(Value.string x19_4),(Sl3.v x19_5)]),some (84,[(Value.string x19_0),(Sl3.v Sl3.nil),(Value.int .i64 x20_0),(Value.int .i64 x20_1),(Value.string x20_2),(Sl3.v x20_3)])]) false (DA.dn ?_)))))
      exact fun a w hs=>jsN (hs.sb 5)
     ·refine DA.aL 6 (some 14) (.loc 4 0) ([some (27,[(Sl3.v a0_0),(Sl3.v a0_1),(Sl3.v a0_2)]),some (27,[(Sl3.v Sl3.nil),(Sl3.v Sl3.nil),(Sl3.v Sl3.nil)]),some (27,[(Sl3.v w2_15),(Sl3.v w2_16),(Sl3.v w2_17)]),some (84,[(Value.string x19_0),(Sl3.v x19_1),(Value.int .i64 x19_2),(Value.int .i64 x19_3),(Value.string x19_4),(Sl3.v x19_5)]),some (84,[(Value.string (⟨#[]⟩:ByteArray)),(Sl3.v Sl3.nil),(Value.int .i64 0),(Value.int .i64 0),(Value.string (⟨#[]⟩:ByteArray)),(Sl3.v Sl3.nil)])]) false (DA.on 5 (DA.aH (H':=H21) 5 (some 86) (Value.agg #[(Value.string x19_0),(Sl3.v Sl3.nil),(Value.int .i64 x20_0),(Value.int .i64 x20_1),(Value.string x20_2),(Sl3.v x20_3)]) (by kernel_rfl) (DA.on 7 (DA.aL 7 none (.val undef) ([some (27,[(Sl3.v a0_0),(Sl3.v a0_1),(Sl3.v a0_2)]),some (27,[(Sl3.v Sl3.nil),(Sl3.v Sl3.nil),(Sl3.v Sl3.nil)]),some (27,[(Sl3.v w2_15),(Sl3.v w2_16),(Sl3.v w2_17)]),some (84,[(Value.string x19_0),(Sl3.v x19_1),(Value.int .i64 x19_2),(Value.int .i64 x19_3),(Value.string x19_4),(Sl3.v x19_5)]),some (84,[(Value.string x19_0),(Sl3.v Sl3.nil),(Value.int .i64 x20_0),(Value.int .i64 x20_1),(Value.string x20_2),(Sl3.v x20_3)])]) false (DA.dn ?_)))))
      exact fun a w hs=>jsN (hs.sb 5)
    ·refine DA.aL 6 (some 14) (.loc 4 0) ([some (27,[(Sl3.v a0_0),(Sl3.v a0_1),(Sl3.v a0_2)]),some (27,[(Sl3.v Sl3.nil),(Sl3.v Sl3.nil),(Sl3.v Sl3.nil)]),some (27,[(Sl3.v w2_15),(Sl3.v w2_16),(Sl3.v w2_17)]),some (84,[(Value.string x19_0),(Sl3.v x19_1),(Value.int .i64 x19_2),(Value.int .i64 x19_3),(Value.string x19_4),(Sl3.v x19_5)]),some (84,[(Value.string (⟨#[]⟩:ByteArray)),(Sl3.v Sl3.nil),(Value.int .i64 0),(Value.int .i64 0),(Value.string (⟨#[]⟩:ByteArray)),(Sl3.v Sl3.nil)])]) true (DA.on 1 (DA.aL 1 (some 82) (.val (Value.string x19_0)) ([some (27,[(Sl3.v a0_0),(Sl3.v a0_1),(Sl3.v a0_2)]),some (27,[(Sl3.v Sl3.nil),(Sl3.v Sl3.nil),(Sl3.v Sl3.nil)]),some (27,[(Sl3.v w2_15),(Sl3.v w2_16),(Sl3.v w2_17)]),some (84,[(Value.string x19_0),(Sl3.v x19_1),(Value.int .i64 x19_2),(Value.int .i64 x19_3),(Value.string x19_4),(Sl3.v x19_5)]),some (84,[(Value.string (⟨#[]⟩:ByteArray)),(Sl3.v Sl3.nil),(Value.int .i64 0),(Value.int .i64 0),(Value.string (⟨#[]⟩:ByteArray)),(Sl3.v Sl3.nil)])]) false (DA.on 5 (DA.aH (H':=H21) 5 (some 86) (Value.agg #[(Value.string x19_0),(Sl3.v Sl3.nil),(Value.int .i64 x20_0),(Value.int .i64 x20_1),(Value.string x20_2),(Sl3.v x20_3)]) (by kernel_rfl) (DA.on 7 (DA.aL 7 none (.val undef) ([some (27,[(Sl3.v a0_0),(Sl3.v a0_1),(Sl3.v a0_2)]),some (27,[(Sl3.v Sl3.nil),(Sl3.v Sl3.nil),(Sl3.v Sl3.nil)]),some (27,[(Sl3.v w2_15),(Sl3.v w2_16),(Sl3.v w2_17)]),some (84,[(Value.string x19_0),(Sl3.v x19_1),(Value.int .i64 x19_2),(Value.int .i64 x19_3),(Value.string x19_4),(Sl3.v x19_5)]),some (84,[(Value.string x19_0),(Sl3.v Sl3.nil),(Value.int .i64 x20_0),(Value.int .i64 x20_1),(Value.string x20_2),(Sl3.v x20_3)])]) false (DA.dn ?_)))))))
     exact fun a w hs=>jsN (hs.sb 5)
   ·refine DA.aL 6 (some 14) (.loc 4 0) ([some (27,[(Sl3.v a0_0),(Sl3.v a0_1),(Sl3.v a0_2)]),some (27,[(Sl3.v Sl3.nil),(Sl3.v Sl3.nil),(Sl3.v Sl3.nil)]),some (27,[(Sl3.v w2_15),(Sl3.v w2_16),(Sl3.v w2_17)]),some (84,[(Value.string x19_0),(Sl3.v x19_1),(Value.int .i64 x19_2),(Value.int .i64 x19_3),(Value.string x19_4),(Sl3.v x19_5)]),some (84,[(Value.string (⟨#[]⟩:ByteArray)),(Sl3.v Sl3.nil),(Value.int .i64 0),(Value.int .i64 0),(Value.string (⟨#[]⟩:ByteArray)),(Sl3.v Sl3.nil)])]) true ?_
    refine DA.two 1 4 (by kernel_rfl) ?_ ?_
    ·refine DA.aL 1 (some 82) (.val (Value.string x19_0)) ([some (27,[(Sl3.v a0_0),(Sl3.v a0_1),(Sl3.v a0_2)]),some (27,[(Sl3.v Sl3.nil),(Sl3.v Sl3.nil),(Sl3.v Sl3.nil)]),some (27,[(Sl3.v w2_15),(Sl3.v w2_16),(Sl3.v w2_17)]),some (84,[(Value.string x19_0),(Sl3.v x19_1),(Value.int .i64 x19_2),(Value.int .i64 x19_3),(Value.string x19_4),(Sl3.v x19_5)]),some (84,[(Value.string (⟨#[]⟩:ByteArray)),(Sl3.v Sl3.nil),(Value.int .i64 0),(Value.int .i64 0),(Value.string (⟨#[]⟩:ByteArray)),(Sl3.v Sl3.nil)])]) true (DA.on 4 (DA.aCj 4 (some 85) false (v:=(Value.agg #[(Value.int .i64 x20_0),(Value.int .i64 x20_1),(Value.string x20_2),(Sl3.v x20_3)])) 56 #[(Value.agg #[(Value.int .i64 x19_2),(Value.int .i64 x19_3),(Value.string x19_4),(Sl3.v x19_5)])] (z1b hx_4) (DA.on 5 (DA.aH (H':=H21) 5 (some 86) (Value.agg #[(Value.string x19_0),(Sl3.v Sl3.nil),(Value.int .i64 x20_0),(Value.int .i64 x20_1),(Value.string x20_2),(Sl3.v x20_3)]) (by kernel_rfl) (DA.on 7 (DA.aL 7 none (.val undef) ([some (27,[(Sl3.v a0_0),(Sl3.v a0_1),(Sl3.v a0_2)]),some (27,[(Sl3.v Sl3.nil),(Sl3.v Sl3.nil),(Sl3.v Sl3.nil)]),some (27,[(Sl3.v w2_15),(Sl3.v w2_16),(Sl3.v w2_17)]),some (84,[(Value.string x19_0),(Sl3.v x19_1),(Value.int .i64 x19_2),(Value.int .i64 x19_3),(Value.string x19_4),(Sl3.v x19_5)]),some (84,[(Value.string x19_0),(Sl3.v Sl3.nil),(Value.int .i64 x20_0),(Value.int .i64 x20_1),(Value.string x20_2),(Sl3.v x20_3)])]) false (DA.dn ?_)))))))
     exact fun a w hs=>jsN (hs.sb 5)
    ·refine DA.aCj 4 (some 85) true (v:=(Value.agg #[(Value.int .i64 x20_0),(Value.int .i64 x20_1),(Value.string x20_2),(Sl3.v x20_3)])) 56 #[(Value.agg #[(Value.int .i64 x19_2),(Value.int .i64 x19_3),(Value.string x19_4),(Sl3.v x19_5)])] (z1b hx_4) (DA.on 1 (DA.aL 1 (some 82) (.val (Value.string x19_0)) ([some (27,[(Sl3.v a0_0),(Sl3.v a0_1),(Sl3.v a0_2)]),some (27,[(Sl3.v Sl3.nil),(Sl3.v Sl3.nil),(Sl3.v Sl3.nil)]),some (27,[(Sl3.v w2_15),(Sl3.v w2_16),(Sl3.v w2_17)]),some (84,[(Value.string x19_0),(Sl3.v x19_1),(Value.int .i64 x19_2),(Value.int .i64 x19_3),(Value.string x19_4),(Sl3.v x19_5)]),some (84,[(Value.string (⟨#[]⟩:ByteArray)),(Sl3.v Sl3.nil),(Value.int .i64 0),(Value.int .i64 0),(Value.string (⟨#[]⟩:ByteArray)),(Sl3.v Sl3.nil)])]) false (DA.on 5 (DA.aH (H':=H21) 5 (some 86) (Value.agg #[(Value.string x19_0),(Sl3.v Sl3.nil),(Value.int .i64 x20_0),(Value.int .i64 x20_1),(Value.string x20_2),(Sl3.v x20_3)]) (by kernel_rfl) (DA.on 7 (DA.aL 7 none (.val undef) ([some (27,[(Sl3.v a0_0),(Sl3.v a0_1),(Sl3.v a0_2)]),some (27,[(Sl3.v Sl3.nil),(Sl3.v Sl3.nil),(Sl3.v Sl3.nil)]),some (27,[(Sl3.v w2_15),(Sl3.v w2_16),(Sl3.v w2_17)]),some (84,[(Value.string x19_0),(Sl3.v x19_1),(Value.int .i64 x19_2),(Value.int .i64 x19_3),(Value.string x19_4),(Sl3.v x19_5)]),some (84,[(Value.string x19_0),(Sl3.v Sl3.nil),(Value.int .i64 x20_0),(Value.int .i64 x20_1),(Value.string x20_2),(Sl3.v x20_3)])]) false (DA.dn ?_)))))))
     exact fun a w hs=>jsN (hs.sb 5)
  ·refine WS.nxt (WS.sq (WS.sq (WS.rg (RS.mS 4 [kI 90 0,kI 89 (x19_1.n:Int),kS 88 x19_1,kL 87 3 1] (RS.dn (WS.nxt (WS.bk 8 ?_)))))))
   obtain ⟨o,hl,h⟩:=bind_some h
   rcases o with ⟨H30,v90_31,w4_32,w4_33,w4_34,w4_35,w4_36,w4_37⟩ | r
   ·try dsimp only at h
    refine WS.lI (zab (L:=L) (E:=E) (m:=m) (H:=H)) (L.ok hl) 5 ?_
    clear hl
    refine fun a w hs=>bkE ((WS.nxt ?_ a w hs))
    refine WS.rg (RS.mS 3 [kA 104 #[(Value.string w4_32),(Sl3.v w4_33),(Value.int .i64 w4_34),(Value.int .i64 w4_35),(Value.string w4_36),(Sl3.v w4_37)],kS 103 w2_17,kL 102 2 2] ?_)
    obtain ⟨⟨s38,H39⟩,hx,h⟩:=bind_some h
    try dsimp only at h
    refine RS.o (H':=H39) (some 105) (Sl3.v s38) (Abs.run_newR (by kernel_rfl) (by kernel_rfl) hx) ?_
    obtain ⟨⟨s40,H41⟩,hx,h⟩:=bind_some h
    try dsimp only at h
    refine RS.o (H':=H41) (some 106) (Sl3.v s40) (Abs.run_app (x:=.tmp 103) (y:=.tmp 105) (ts:=#[25,25]) (s:=w2_17) (z:=s38) (by kernel_rfl) (by kernel_rfl) (by kernel_rfl) (by kernel_rfl) hx) (RS.mL 2 [kL 107 2 2] ([some (27,[(Sl3.v a0_0),(Sl3.v a0_1),(Sl3.v a0_2)]),some (27,[(Sl3.v Sl3.nil),(Sl3.v Sl3.nil),(Sl3.v Sl3.nil)]),some (27,[(Sl3.v w2_15),(Sl3.v w2_16),(Sl3.v s40)]),some (84,[(Value.string x19_0),(Sl3.v x19_1),(Value.int .i64 x19_2),(Value.int .i64 x19_3),(Value.string x19_4),(Sl3.v x19_5)]),some (84,[(Value.string w4_32),(Sl3.v w4_33),(Value.int .i64 w4_34),(Value.int .i64 w4_35),(Value.string w4_36),(Sl3.v w4_37)])]) (RS.dn ?_))
    refine fun a w hs=>bkN ((WS.nxt ?_ a w hs))
    refine WS.rg (RS.mS 2 [kI 77 (IntKind.i64.wrap (v77_14+1)),kI 108 (IntKind.i64.wrap (v77_14+1))] (RS.dn ?_))
    cases h
    exact fun a w hs=>lsN rfl (hs.sb 3)
   ·try dsimp only at h
    refine WS.lR (zab (L:=L) (E:=E) (m:=m) (H:=H)) (L.ok hl) 5 ?_
    cases h
    exact fun a w hq=>bkR (sqR (bkR (sqR (lsR rfl hq))))
 ·refine WS.fx 78 false (decide_eq_false hp) (WS.cF (WS.ex 6 ?_))
  cases h
  exact fun a w hs=>sqE (lsB rfl (hs.sb 3))
theorem zkb {L:LC} {m:Nat} {H:AH} {a0_0 a0_1 a0_2:Sl3} {r:(Sl3×Sl3×Sl3×AH)} (h:zcp L m H a0_0 a0_1 a0_2=some r) :
  CallS Tryz.prog (NE.plain 202) m 60 #[(Value.agg #[(Sl3.v a0_0),(Sl3.v a0_1),(Sl3.v a0_2)])] H (z4f r) (z58 H r):=by
 refine CallS.mk (args:=[(Value.agg #[(Sl3.v a0_0),(Sl3.v a0_1),(Sl3.v a0_2)])]) Tryz.func60 (B:=B60) (by kernel_rfl) (fun E _=>?_)
 unfold zcp at h
 refine WS.sq (WS.rg (RS.mL 2 [kL 2 1 0,kL 1 0 0] ([some (27,[(Sl3.v a0_0),(Sl3.v a0_1),(Sl3.v a0_2)]),some (27,[(Sl3.v Sl3.nil),(Sl3.v Sl3.nil),(Sl3.v Sl3.nil)])]) (RS.dn (WS.nxt (WS.sq (WS.rg (RS.mS 2 [kS 18 a0_0,kL 17 0 0] ?_)))))))
 obtain ⟨⟨x1,H2⟩,hx,h⟩:=bind_some h
 try dsimp only at h
 refine RS.cl (some 19) (v:=(Sl3.v x1)) 94 #[(Sl3.v a0_0)] (z5p hx) (RS.mL 3 [kL 3 2 0,kA 20 #[(Sl3.v x1),(Sl3.v Sl3.nil),(Sl3.v Sl3.nil)]] ([some (27,[(Sl3.v a0_0),(Sl3.v a0_1),(Sl3.v a0_2)]),some (27,[(Sl3.v Sl3.nil),(Sl3.v Sl3.nil),(Sl3.v Sl3.nil)]),some (27,[(Sl3.v x1),(Sl3.v Sl3.nil),(Sl3.v Sl3.nil)])]) (RS.dn (WS.nxt (WS.sq (WS.sq (WS.rg (RS.mS 4 [kI 24 0,kI 23 (a0_1.n:Int),kS 22 a0_1,kL 21 0 1] (RS.dn (WS.nxt ?_)))))))))
 refine WS.bk 0 ?_
 obtain ⟨o,hl,h⟩:=bind_some h
 rcases o with ⟨H8,v24_9,w2_10,w2_11,w2_12⟩ | r
 ·try dsimp only at h
  refine WS.lI (zaa (L:=L) (E:=E) (m:=m) (H:=H)) (L.ok hl) 3 ?_
  clear hl
  refine fun a w hs=>bkE ((WS.nxt ?_ a w hs))
  refine WS.sq (WS.sq (WS.rg (RS.mS 4 [kI 77 0,kI 76 (a0_2.n:Int),kS 75 a0_2,kL 74 0 2] (RS.dn (WS.nxt (WS.bk 6 ?_))))))
  obtain ⟨o,hl,h⟩:=bind_some h
  rcases o with ⟨H42,v77_43,w2_44,w2_45,w2_46⟩ | r
  ·try dsimp only at h
   refine WS.lI (zad (L:=L) (E:=E) (m:=m) (H:=H)) (L.ok hl) 3 ?_
   clear hl
   refine fun a w hs=>bkE ((WS.nxt ?_ a w hs))
   refine WS.sq (WS.rg (RS.mL 2 [kA 109 #[(Sl3.v w2_44),(Sl3.v w2_45),(Sl3.v w2_46)]] ([some (27,[(Sl3.v a0_0),(Sl3.v a0_1),(Sl3.v a0_2)]),some (27,[(Sl3.v w2_44),(Sl3.v w2_45),(Sl3.v w2_46)]),some (27,[(Sl3.v w2_44),(Sl3.v w2_45),(Sl3.v w2_46)])]) (RS.dn (WS.nxt (WS.rt ?_)))))
   cases h
   exact fun a w hs=>rtR (rS hs)
  ·try dsimp only at h
   refine WS.lR (zad (L:=L) (E:=E) (m:=m) (H:=H)) (L.ok hl) 3 ?_
   cases h
   exact fun a w hq=>bkR (sqR (rtR hq))
 ·try dsimp only at h
  refine WS.lR (zaa (L:=L) (E:=E) (m:=m) (H:=H)) (L.ok hl) 3 ?_
  cases h
  exact fun a w hq=>bkR (sqR (rtR hq))
noncomputable def B27:Code:=(Tryz.f27.body).getD .skip
def zmv:((Option Addr)×Int×AH)→Value
 | (r0,r1,_)=>(Value.tuple #[(Value.pointer r0),(Value.int .i64 r1)])
def znv (_:AH):((Option Addr)×Int×AH)→AH:=fun r=>r.2.2
noncomputable def zjv (L:LC) (m:Nat) (H:AH) (a0_0 a0_1 a0_2:Sl3):Option ((Option Addr)×Int×AH) :=
 Option.bind (zb4 L m H a0_0 a0_1 a0_2) fun (x1,H2) =>
 if x1=0 then
  Option.bind (zcp L m H2 a0_0 a0_1 a0_2) fun (x3_0,x3_1,x3_2,H4) =>
  Option.bind (newM H4) fun (p5,H6) =>
  Option.bind (newB 31 [(Sl3.v x3_0),(Sl3.v x3_1),(Sl3.v x3_2),(Sl3.v Sl3.nil),(Value.map (some p5))] H6) fun (p7,H8) =>
  some ((some p7),0,H8)
 else
  none
theorem zod {L:LC} {m:Nat} {H:AH} {a0_0 a0_1 a0_2:Sl3} {r:((Option Addr)×Int×AH)} (h:zjv L m H a0_0 a0_1 a0_2=some r) :
  CallS Tryz.prog (NE.plain 202) m 27 #[(Value.agg #[(Sl3.v a0_0),(Sl3.v a0_1),(Sl3.v a0_2)])] H (zmv r) (znv H r):=by
 refine CallS.mk (args:=[(Value.agg #[(Sl3.v a0_0),(Sl3.v a0_1),(Sl3.v a0_2)])]) Tryz.func27 (B:=B27) (by kernel_rfl) (fun E _=>?_)
 unfold zjv at h
 refine WS.sq (WS.rg (RS.mL 3 [kI 3 0,(2,.val (Value.pointer none)),kL 1 0 0] ([some (27,[(Sl3.v a0_0),(Sl3.v a0_1),(Sl3.v a0_2)])]) (RS.dn (WS.nxt (WS.sq (WS.sq (WS.rg (RS.mS 1 [kA 5 #[(Sl3.v a0_0),(Sl3.v a0_1),(Sl3.v a0_2)]] ?_))))))))
 obtain ⟨⟨x1,H2⟩,hx,h⟩:=bind_some h
 try dsimp only at h
 refine RS.cl (some 6) (v:=(Value.int .i64 x1)) 59 #[(Value.agg #[(Sl3.v a0_0),(Sl3.v a0_1),(Sl3.v a0_2)])] (zk2 hx) (RS.mS 1 [kI 4 x1] (RS.dn (WS.nxt (WS.sq (WS.rg (RS.mS 2 [kB 8 (!decide (x1=0)),kI 7 x1] (RS.dn (WS.nxt ?_))))))))
 rcases z0 h with ⟨hp,h⟩ | ⟨hp,h⟩
 ·refine WS.fx 8 false (zh hp) (WS.cF (WS.sk (WS.nxt (WS.sq (WS.rg (RS.mS 1 [kA 10 #[(Sl3.v a0_0),(Sl3.v a0_1),(Sl3.v a0_2)]] ?_))))))
  obtain ⟨⟨x3_0,x3_1,x3_2,H4⟩,hx,h⟩:=bind_some h
  try dsimp only at h
  refine RS.cl (some 11) (v:=(Value.agg #[(Sl3.v x3_0),(Sl3.v x3_1),(Sl3.v x3_2)])) 60 #[(Value.agg #[(Sl3.v a0_0),(Sl3.v a0_1),(Sl3.v a0_2)])] (zkb hx) ?_
  obtain ⟨⟨p5,H6⟩,hx,h⟩:=bind_some h
  try dsimp only at h
  refine RS.o (H':=H6) (some 12) (Value.map (some p5)) (Abs.run_newM (by kernel_rfl) hx) (RS.mS 1 [kA 13 #[(Sl3.v x3_0),(Sl3.v x3_1),(Sl3.v x3_2),(Sl3.v Sl3.nil),(Value.map (some p5))]] ?_)
  obtain ⟨⟨p7,H8⟩,hx,h⟩:=bind_some h
  try dsimp only at h
  refine RS.o (H':=H8) (some 14) (Value.pointer (some p7)) (Abs.run_newB (by kernel_rfl) hx) (RS.mS 2 [kI 3 0,kP 2 p7] (RS.dn (WS.nxt (WS.rt ?_))))
  cases h
  exact fun a w hs=>rtR (rS hs)
 ·refine WS.fx 8 true (ze hp) (WS.cT ?_)
  cases h
noncomputable def B29:Code:=(Tryz.f29.body).getD .skip
def zha:(Int×Int×AH)→Value
 | (r0,r1,_)=>(Value.tuple #[(Value.int .i64 r0),(Value.int .i64 r1)])
def zik (_:AH):(Int×Int×AH)→AH:=fun r=>r.2.2
noncomputable def z36 (L:LC) (m:Nat) (H:AH) (a0:Option Addr) (a1:Int) (a2:Sl3):Option (Int×Int×AH) :=
 Option.bind (z5y L m H a0 a1 (⟨#[]⟩:ByteArray) false Sl3.nil 0 Sl3.nil 0 0 (⟨#[]⟩:ByteArray) Sl3.nil Sl3.nil a2) fun (x1,x2,H3) =>
 some (x1,x2,H3)
theorem z5v {L:LC} {m:Nat} {H:AH} {a0:Option Addr} {a1:Int} {a2:Sl3} {r:(Int×Int×AH)} (h:z36 L m H a0 a1 a2=some r) :
  CallS Tryz.prog (NE.plain 202) m 29 #[(Value.pointer a0),(Value.int .i64 a1),(Sl3.v a2)] H (zha r) (zik H r):=by
 refine CallS.mk (args:=[(Value.pointer a0),(Value.int .i64 a1),(Sl3.v a2)]) Tryz.func29 (B:=B29) (by kernel_rfl) (fun E _=>?_)
 unfold z36 at h
 refine WS.sq (WS.rg (RS.mS 2 [kI 7 0,kI 6 0] (RS.dn (WS.nxt (WS.sq (WS.rg (RS.mS 4 [kA 11 #[(Value.int .i64 a1),(Value.string (⟨#[]⟩:ByteArray)),(Value.bool false),(Sl3.v Sl3.nil),(Value.int .i64 0),(Sl3.v Sl3.nil),(Value.int .i64 0),(Value.int .i64 0),(Value.string (⟨#[]⟩:ByteArray)),(Sl3.v Sl3.nil),(Sl3.v Sl3.nil),(Sl3.v a2)],kS 10 a2,kI 9 a1,(8,.val (Value.pointer a0))] ?_)))))))
 obtain ⟨⟨x1,x2,H3⟩,hx,h⟩:=bind_some h
 try dsimp only at h
 refine RS.cl (some 12) (v:=(Value.tuple #[(Value.int .i64 x1),(Value.int .i64 x2)])) 28 #[(Value.pointer a0),(Value.agg #[(Value.int .i64 a1),(Value.string (⟨#[]⟩:ByteArray)),(Value.bool false),(Sl3.v Sl3.nil),(Value.int .i64 0),(Sl3.v Sl3.nil),(Value.int .i64 0),(Value.int .i64 0),(Value.string (⟨#[]⟩:ByteArray)),(Sl3.v Sl3.nil),(Sl3.v Sl3.nil),(Sl3.v a2)])] (z6k hx) (RS.mS 4 [kI 7 x2,kI 6 x1,kI 14 x2,kI 13 x1] (RS.dn (WS.nxt (WS.rt ?_))))
 cases h
 exact fun a w hs=>rtR (rS hs)
def zg3:(Int×Int×AH)→Value
 | (r0,r1,_)=>(Value.tuple #[(Value.int .i64 r0),(Value.int .i64 r1)])
def zh0 (_:AH):(Int×Int×AH)→AH:=fun r=>r.2.2
noncomputable def zbv (L:LC) (m:Nat) (H:AH) (a0:Option Addr) (a1:Int):Option (Int×Int×AH) :=
 byRun Tryz.prog 202 (z2j L) m 4 #[(Value.pointer a0),(Value.int .i64 a1)] H (dcT (dcC (dcI .i64) (dcC (dcI .i64) dcN))) fun (r_0,(r_1,_)) H2=>(r_0,r_1,H2)
theorem zh1 {L:LC} {m:Nat} {H:AH} {a0:Option Addr} {a1:Int} {r:(Int×Int×AH)} (h:zbv L m H a0 a1=some r) :
  CallS Tryz.prog (NE.plain 202) m 4 #[(Value.pointer a0),(Value.int .i64 a1)] H (zg3 r) (zh0 H r):=by
 obtain ⟨⟨r_0,⟨r_1,_⟩⟩,H2,rfl,hc⟩:=zc6 z68 Tryz.func4 (show Tryz.f4.body=some B4 by kernel_rfl) h
 exact hc
noncomputable def B9:Code:=(Tryz.f9.body).getD .skip
def zks:(Bool×AH)→Value
 | (r0,_)=>(Value.bool r0)
def zlh (_:AH):(Bool×AH)→AH:=fun r=>r.2
noncomputable def ze9 (L:LC) (m:Nat) (H:AH):Option (Bool×AH) :=
 Option.bind (newR 84 2 #[(Value.string (⟨#[112]⟩:ByteArray)),(Sl3.v Sl3.nil),(Value.int .i64 1),(Value.int .i64 0),(Value.string (⟨#[]⟩:ByteArray)),(Sl3.v Sl3.nil),(Value.string (⟨#[113]⟩:ByteArray)),(Sl3.v Sl3.nil),(Value.int .i64 1),(Value.int .i64 0),(Value.string (⟨#[]⟩:ByteArray)),(Sl3.v Sl3.nil)] H) fun (s1,H2) =>
 Option.bind (zjv L m H2 Sl3.nil Sl3.nil s1) fun (x3,x4,H5) =>
 match x3 with
 | none =>
  none
 | some q6 =>
  if x4=0 then
   Option.bind (z5y L m H5 (some q6) 11 (⟨#[112]⟩:ByteArray) false Sl3.nil 0 Sl3.nil 0 0 (⟨#[]⟩:ByteArray) Sl3.nil Sl3.nil Sl3.nil) fun (x7,_,H9) =>
   Option.bind (z5y L m H9 (some q6) 11 (⟨#[113]⟩:ByteArray) false Sl3.nil 0 Sl3.nil 0 0 (⟨#[]⟩:ByteArray) Sl3.nil Sl3.nil Sl3.nil) fun (x10,_,H12) =>
   Option.bind (z36 L m H12 (some q6) 1 Sl3.nil) fun (x13,_,H15) =>
   Option.bind (newR 3 2 #[(Value.int .i64 x10),(Value.int .i64 x7)] H15) fun (s16,H17) =>
   Option.bind (z36 L m H17 (some q6) 4 s16) fun (x18,_,H20) =>
   Option.bind (newR 3 3 #[(Value.int .i64 x7),(Value.int .i64 x13),(Value.int .i64 x18)] H20) fun (s21,H22) =>
   Option.bind (z36 L m H22 (some q6) 4 s21) fun (x23,_,H25) =>
   Option.bind (zbv L m H25 (some q6) x23) fun (x26,x27,H28) =>
   Option.bind (z5g L m H28 (some q6) x26) fun (x29,x30,H31) =>
   if x27=0 then
    if x30=0 then
     some ((x29.toList == (⟨#[40,97,110,100,32,112,32,113,41]⟩:ByteArray).toList),H31)
    else
     none
   else
    none
  else
   none
theorem zlc {L:LC} {m:Nat} {H:AH} {r:(Bool×AH)} (h:ze9 L m H=some r) :
  CallS Tryz.prog (NE.plain 202) m 9 #[] H (zks r) (zlh H r):=by
 refine CallS.mk (args:=[]) Tryz.func9 (B:=B9) (by kernel_rfl) (fun E _=>?_)
 unfold ze9 at h
 refine WS.sq (WS.rg (RS.mS 1 [kB 0 false] (RS.dn (WS.nxt (WS.sq (WS.rg (RS.mL 3 [kL 1 0 0,kA 18 #[(Value.int .i64 1),(Value.int .i64 0),(Value.string (⟨#[]⟩:ByteArray)),(Sl3.v Sl3.nil)]] ([some (68,[(Value.int .i64 1),(Value.int .i64 0),(Value.string (⟨#[]⟩:ByteArray)),(Sl3.v Sl3.nil)])]) (RS.dn (WS.nxt ?_)))))))))
 refine WS.sq (WS.rg (RS.mS 4 [kA 23 #[(Value.string (⟨#[113]⟩:ByteArray)),(Sl3.v Sl3.nil),(Value.int .i64 1),(Value.int .i64 0),(Value.string (⟨#[]⟩:ByteArray)),(Sl3.v Sl3.nil)],kA 22 #[(Value.int .i64 1),(Value.int .i64 0),(Value.string (⟨#[]⟩:ByteArray)),(Sl3.v Sl3.nil)],kA 21 #[(Value.string (⟨#[112]⟩:ByteArray)),(Sl3.v Sl3.nil),(Value.int .i64 1),(Value.int .i64 0),(Value.string (⟨#[]⟩:ByteArray)),(Sl3.v Sl3.nil)],kA 20 #[(Value.int .i64 1),(Value.int .i64 0),(Value.string (⟨#[]⟩:ByteArray)),(Sl3.v Sl3.nil)]] ?_))
 obtain ⟨⟨s1,H2⟩,hx,h⟩:=bind_some h
 try dsimp only at h
 refine RS.o (H':=H2) (some 24) (Sl3.v s1) (Abs.run_newR (by kernel_rfl) (by kernel_rfl) hx) (RS.mS 1 [kA 25 #[(Sl3.v Sl3.nil),(Sl3.v Sl3.nil),(Sl3.v s1)]] ?_)
 obtain ⟨⟨x3,x4,H5⟩,hx,h⟩:=bind_some h
 try dsimp only at h
 refine RS.cl (some 26) (v:=(Value.tuple #[(Value.pointer x3),(Value.int .i64 x4)])) 27 #[(Value.agg #[(Sl3.v Sl3.nil),(Sl3.v Sl3.nil),(Sl3.v s1)])] (zod hx) (RS.mS 5 [kI 3 x4,(2,.val (Value.pointer x3)),kI 28 x4,(27,.val (Value.pointer x3)),(19,.val (Value.tuple #[(Value.pointer x3),(Value.int .i64 x4)]))] (RS.dn (WS.nxt (WS.sq (WS.sq (WS.rg (RS.mS 1 [(29,.val (Value.pointer x3))] ?_)))))))
 rcases x3 with _ | q6
 ·try dsimp only at h
  cases h
 ·try dsimp only at h
  refine RS.mS 5 [kB 34 (!decide (x4=0)),kB 33 (!decide (x4=0)),kI 32 x4,kB 31 false,kB 30 false] (RS.dn (WS.nxt ?_))
  rcases z0 h with ⟨hp,h⟩ | ⟨hp,h⟩
  ·refine WS.fx 34 false (zh hp) (WS.cF (WS.sk (WS.nxt (WS.sq (WS.rg (RS.mS 2 [kA 37 #[(Value.int .i64 11),(Value.string (⟨#[112]⟩:ByteArray)),(Value.bool false),(Sl3.v Sl3.nil),(Value.int .i64 0),(Sl3.v Sl3.nil),(Value.int .i64 0),(Value.int .i64 0),(Value.string (⟨#[]⟩:ByteArray)),(Sl3.v Sl3.nil),(Sl3.v Sl3.nil),(Sl3.v Sl3.nil)],kP 36 q6] ?_))))))
   obtain ⟨⟨x7,x8,H9⟩,hx,h⟩:=bind_some h
   try dsimp only at h
   refine RS.cl (some 38) (v:=(Value.tuple #[(Value.int .i64 x7),(Value.int .i64 x8)])) 28 #[(Value.pointer (some q6)),(Value.agg #[(Value.int .i64 11),(Value.string (⟨#[112]⟩:ByteArray)),(Value.bool false),(Sl3.v Sl3.nil),(Value.int .i64 0),(Sl3.v Sl3.nil),(Value.int .i64 0),(Value.int .i64 0),(Value.string (⟨#[]⟩:ByteArray)),(Sl3.v Sl3.nil),(Sl3.v Sl3.nil),(Sl3.v Sl3.nil)])] (z6k hx) (RS.mS 5 [kI 5 x8,kI 4 x7,kI 40 x8,kI 39 x7,(35,.val (Value.tuple #[(Value.int .i64 x7),(Value.int .i64 x8)]))] (RS.dn (WS.nxt (WS.sq (WS.rg (RS.mS 2 [kA 43 #[(Value.int .i64 11),(Value.string (⟨#[113]⟩:ByteArray)),(Value.bool false),(Sl3.v Sl3.nil),(Value.int .i64 0),(Sl3.v Sl3.nil),(Value.int .i64 0),(Value.int .i64 0),(Value.string (⟨#[]⟩:ByteArray)),(Sl3.v Sl3.nil),(Sl3.v Sl3.nil),(Sl3.v Sl3.nil)],kP 42 q6] ?_))))))
   obtain ⟨⟨x10,x11,H12⟩,hx,h⟩:=bind_some h
   try dsimp only at h
   refine RS.cl (some 44) (v:=(Value.tuple #[(Value.int .i64 x10),(Value.int .i64 x11)])) 28 #[(Value.pointer (some q6)),(Value.agg #[(Value.int .i64 11),(Value.string (⟨#[113]⟩:ByteArray)),(Value.bool false),(Sl3.v Sl3.nil),(Value.int .i64 0),(Sl3.v Sl3.nil),(Value.int .i64 0),(Value.int .i64 0),(Value.string (⟨#[]⟩:ByteArray)),(Sl3.v Sl3.nil),(Sl3.v Sl3.nil),(Sl3.v Sl3.nil)])] (z6k hx) (RS.mS 5 [kI 7 x11,kI 6 x10,kI 46 x11,kI 45 x10,(41,.val (Value.tuple #[(Value.int .i64 x10),(Value.int .i64 x11)]))] (RS.dn (WS.nxt (WS.sq (WS.rg (RS.mS 1 [kP 48 q6] ?_))))))
   obtain ⟨⟨x13,x14,H15⟩,hx,h⟩:=bind_some h
   try dsimp only at h
   refine RS.cl (some 49) (v:=(Value.tuple #[(Value.int .i64 x13),(Value.int .i64 x14)])) 29 #[(Value.pointer (some q6)),(Value.int .i64 1),(Sl3.v Sl3.nil)] (z5v hx) (RS.mS 5 [kI 9 x14,kI 8 x13,kI 51 x14,kI 50 x13,(47,.val (Value.tuple #[(Value.int .i64 x13),(Value.int .i64 x14)]))] (RS.dn (WS.nxt (WS.sq (WS.rg (RS.mS 3 [kI 55 x7,kI 54 x10,kP 53 q6] ?_))))))
   obtain ⟨⟨s16,H17⟩,hx,h⟩:=bind_some h
   try dsimp only at h
   refine RS.o (H':=H17) (some 56) (Sl3.v s16) (Abs.run_newR (by kernel_rfl) (by kernel_rfl) hx) ?_
   obtain ⟨⟨x18,x19,H20⟩,hx,h⟩:=bind_some h
   try dsimp only at h
   refine RS.cl (some 57) (v:=(Value.tuple #[(Value.int .i64 x18),(Value.int .i64 x19)])) 29 #[(Value.pointer (some q6)),(Value.int .i64 4),(Sl3.v s16)] (z5v hx) (RS.mS 5 [kI 11 x19,kI 10 x18,kI 59 x19,kI 58 x18,(52,.val (Value.tuple #[(Value.int .i64 x18),(Value.int .i64 x19)]))] (RS.dn (WS.nxt (WS.sq (WS.rg (RS.mS 4 [kI 64 x18,kI 63 x13,kI 62 x7,kP 61 q6] ?_))))))
   obtain ⟨⟨s21,H22⟩,hx,h⟩:=bind_some h
   try dsimp only at h
   refine RS.o (H':=H22) (some 65) (Sl3.v s21) (Abs.run_newR (by kernel_rfl) (by kernel_rfl) hx) ?_
   obtain ⟨⟨x23,x24,H25⟩,hx,h⟩:=bind_some h
   try dsimp only at h
   refine RS.cl (some 66) (v:=(Value.tuple #[(Value.int .i64 x23),(Value.int .i64 x24)])) 29 #[(Value.pointer (some q6)),(Value.int .i64 4),(Sl3.v s21)] (z5v hx) (RS.mS 5 [kI 13 x24,kI 12 x23,kI 68 x24,kI 67 x23,(60,.val (Value.tuple #[(Value.int .i64 x23),(Value.int .i64 x24)]))] (RS.dn (WS.nxt (WS.sq (WS.rg (RS.mS 2 [kI 71 x23,kP 70 q6] ?_))))))
   obtain ⟨⟨x26,x27,H28⟩,hx,h⟩:=bind_some h
   try dsimp only at h
   refine RS.cl (some 72) (v:=(Value.tuple #[(Value.int .i64 x26),(Value.int .i64 x27)])) 4 #[(Value.pointer (some q6)),(Value.int .i64 x23)] (zh1 hx) (RS.mS 5 [kI 15 x27,kI 14 x26,kI 74 x27,kI 73 x26,(69,.val (Value.tuple #[(Value.int .i64 x26),(Value.int .i64 x27)]))] (RS.dn (WS.nxt (WS.sq (WS.rg (RS.mS 2 [kI 77 x26,kP 76 q6] ?_))))))
   obtain ⟨⟨x29,x30,H31⟩,hx,h⟩:=bind_some h
   try dsimp only at h
   refine RS.cl (some 78) (v:=(Value.tuple #[(Value.string x29),(Value.int .i64 x30)])) 30 #[(Value.pointer (some q6)),(Value.int .i64 x26)] (za6 hx) (RS.mS 5 [kI 17 x30,kT 16 x29,kI 80 x30,kT 79 x29,(75,.val (Value.tuple #[(Value.string x29),(Value.int .i64 x30)]))] (RS.dn (WS.nxt (WS.sq (WS.rg (RS.mS 3 [kB 83 (decide (x27=0)),kB 82 (decide (x27=0)),kI 81 x27] ?_))))))
   rcases z0 h with ⟨hp,h⟩ | ⟨hp,h⟩
   ·refine RS.fx 83 true (decide_eq_true hp) (RS.mS 4 [kB 87 (decide (x30=0)),kB 86 (decide (x30=0)),kB 85 (decide (x30=0)),kI 84 x30] ?_)
    rcases z0 h with ⟨hp,h⟩ | ⟨hp,h⟩
    ·refine RS.fx 87 true (decide_eq_true hp) (RS.mS 4 [kB 0 (x29.toList == (⟨#[40,97,110,100,32,112,32,113,41]⟩:ByteArray).toList),kB 90 (x29.toList == (⟨#[40,97,110,100,32,112,32,113,41]⟩:ByteArray).toList),kB 89 (x29.toList == (⟨#[40,97,110,100,32,112,32,113,41]⟩:ByteArray).toList),kT 88 x29] (RS.dn (WS.nxt (WS.rt ?_))))
     cases h
     exact fun a w hs=>rtR (rS hs)
    ·refine RS.fx 87 false (decide_eq_false hp) ?_
     cases h
   ·refine RS.fx 83 false (decide_eq_false hp) ?_
    cases h
  ·refine WS.fx 34 true (ze hp) (WS.cT ?_)
   cases h
noncomputable def B3:Code:=(Tryz.f3.body).getD .skip
def z5c:(Bool×AH)→Value
 | (r0,_)=>(Value.bool r0)
def z5i (_:AH):(Bool×AH)→AH:=fun r=>r.2
noncomputable def z2n (L:LC) (m:Nat) (s3:Sl3):(AH×Int)→Option (Lp (AH×Int) (Bool×AH)):=fun (H5,v24_6) =>
 if v24_6<(s3.n:Int) then
  Option.bind (idxA 1 s3 v24_6) fun p7 =>
  Option.bind (rd deP H5 p7) fun x8 =>
  Option.bind (zah L m H5 x8) fun (_,x10,H11) =>
  Option.bind (zdd L m H11 x8) fun (_,x13,H14) =>
  Option.bind (zbe L m H14 x8) fun (_,x16,H17) =>
  Option.bind (z9b L m H17 x8) fun (x18,x19,H20) =>
  Option.bind (z9u L m H20 x8) fun (_,_,x23,H24) =>
  if x10=4 then
   if x13=4 then
    if x16=4 then
     if x19=4 then
      if x23=4 then
       if (x18.n:Int)=0 then
        some (.next (H24,(IntKind.i64.wrap (v24_6+1))))
       else
        none
      else
       none
     else
      none
    else
     none
   else
    none
  else
   none
 else
  some (.brk (H5,v24_6))
def za9 (_L:LC) (_m:Nat) (s3:Sl3):(AH×Int)→KN×Lcs:=fun (_,v24_6)=>([kI 24 v24_6,(0,.val anyV),(1,.val anyV),kS 22 s3,kI 23 (s3.n:Int)],[])
noncomputable def z26 (L:LC) (m:Nat) (H:AH):Option (Bool×AH) :=
 Option.bind (newB 31 [(Sl3.v Sl3.nil),(Sl3.v Sl3.nil),(Sl3.v Sl3.nil),(Sl3.v Sl3.nil),(Value.map none)] H) fun (p1,H2) =>
 Option.bind (newR 22 2 #[(Value.pointer none),(Value.pointer (some p1))] H2) fun (s3,H4) =>
 Option.bind (L.run (z2n L m s3) (H4,0)) fun o=>match o with
 | .inl (H25,_) =>
  Option.bind (ze9 L m H25) fun (x27,H28) =>
  some (x27,H28)
 | .inr r=>some r
theorem z47 {E H L m s3} :LoopF Tryz.prog (NE.plain 202) m E Tryz.f3 ((cfst (csnd (cfst (csnd (csnd B3)))))) (za9 L m s3) (fun s=>s.1) 0 z5c (z5i H) (z2n L m s3):=by
 rintro ⟨H5,v24_6⟩ o h
 unfold z2n at h
 try dsimp only at h
 refine WS.sq (WS.rg (RS.mS 1 [kB 25 (decide (v24_6<(s3.n:Int)))] (RS.dn (WS.nxt (WS.sq ?_)))))
 rcases z0 h with ⟨hp,h⟩ | ⟨hp,h⟩
 ·refine WS.fx 25 true (decide_eq_true hp) (WS.cT (WS.sk (WS.nxt (WS.sq (WS.bk 1 (WS.sq (WS.rg ?_)))))))
  obtain ⟨p7,hx,h⟩:=bind_some h
  refine RS.ix 26 32 22 (.tmp 22) (.tmp 24) hx ?_
  obtain ⟨x8,hx,h⟩:=bind_some h
  refine RS.ld 27 22 (.tmp 26) (z1 hx z31) (RS.mS 1 [(7,.val (Value.pointer x8))] (RS.dn (WS.nxt (WS.sq (WS.rg (RS.mS 2 [(30,.val anyV),(29,.val (Value.pointer x8))] ?_))))))
  obtain ⟨⟨x9,x10,H11⟩,hx,h⟩:=bind_some h
  try dsimp only at h
  refine RS.cl (some 31) (v:=(Value.tuple #[(Value.int .i64 x9),(Value.int .i64 x10)])) 4 #[(Value.pointer x8),anyV] (zfa hx) (RS.mS 5 [kI 9 x10,kI 8 x9,kI 33 x10,kI 32 x9,(28,.val (Value.tuple #[(Value.int .i64 x9),(Value.int .i64 x10)]))] (RS.dn (WS.nxt (WS.sq (WS.rg (RS.mS 2 [(36,.val anyV),(35,.val (Value.pointer x8))] ?_))))))
  obtain ⟨⟨x12,x13,H14⟩,hx,h⟩:=bind_some h
  try dsimp only at h
  refine RS.cl (some 37) (v:=(Value.tuple #[(Value.int .i64 x12),(Value.int .i64 x13)])) 5 #[(Value.pointer x8),anyV] (zhm hx) (RS.mS 5 [kI 11 x13,kI 10 x12,kI 39 x13,kI 38 x12,(34,.val (Value.tuple #[(Value.int .i64 x12),(Value.int .i64 x13)]))] (RS.dn (WS.nxt (WS.sq (WS.rg (RS.mS 4 [(44,.val anyV),(43,.val anyV),(42,.val anyV),(41,.val (Value.pointer x8))] ?_))))))
  obtain ⟨⟨x15,x16,H17⟩,hx,h⟩:=bind_some h
  try dsimp only at h
  refine RS.cl (some 45) (v:=(Value.tuple #[(Value.int .i64 x15),(Value.int .i64 x16)])) 6 #[(Value.pointer x8),anyV,anyV,anyV] (zgd hx) (RS.mS 5 [kI 13 x16,kI 12 x15,kI 47 x16,kI 46 x15,(40,.val (Value.tuple #[(Value.int .i64 x15),(Value.int .i64 x16)]))] (RS.dn (WS.nxt (WS.sq (WS.rg (RS.mS 2 [(50,.val anyV),(49,.val (Value.pointer x8))] ?_))))))
  obtain ⟨⟨x18,x19,H20⟩,hx,h⟩:=bind_some h
  try dsimp only at h
  refine RS.cl (some 51) (v:=(Value.tuple #[(Sl3.v x18),(Value.int .i64 x19)])) 7 #[(Value.pointer x8),anyV] (zeo hx) (RS.mS 5 [kI 15 x19,kS 14 x18,kI 53 x19,kS 52 x18,(48,.val (Value.tuple #[(Sl3.v x18),(Value.int .i64 x19)]))] (RS.dn (WS.nxt (WS.sq (WS.rg (RS.mS 2 [(56,.val anyV),(55,.val (Value.pointer x8))] ?_))))))
  obtain ⟨⟨x21,x22,x23,H24⟩,hx,h⟩:=bind_some h
  try dsimp only at h
  refine RS.cl (some 57) (v:=(Value.tuple #[(Value.int .i64 x21),(Value.int .i64 x22),(Value.int .i64 x23)])) 8 #[(Value.pointer x8),anyV] (ziu hx) (RS.mS 7 [kI 18 x23,kI 17 x22,kI 16 x21,kI 60 x23,kI 59 x22,kI 58 x21,(54,.val (Value.tuple #[(Value.int .i64 x21),(Value.int .i64 x22),(Value.int .i64 x23)]))] (RS.dn (WS.nxt (WS.sq (WS.rg (RS.mS 3 [kB 63 (!decide (x10=4)),kB 62 (!decide (x10=4)),kI 61 x10] ?_))))))
  rcases z0 h with ⟨hp,h⟩ | ⟨hp,h⟩
  ·refine RS.fx 63 false (zh hp) (RS.mS 4 [kB 67 (!decide (x13=4)),kB 66 (!decide (x13=4)),kB 65 (!decide (x13=4)),kI 64 x13] ?_)
   rcases z0 h with ⟨hp,h⟩ | ⟨hp,h⟩
   ·refine RS.fx 67 false (zh hp) (RS.mS 4 [kB 71 (!decide (x16=4)),kB 70 (!decide (x16=4)),kB 69 (!decide (x16=4)),kI 68 x16] ?_)
    rcases z0 h with ⟨hp,h⟩ | ⟨hp,h⟩
    ·refine RS.fx 71 false (zh hp) (RS.mS 4 [kB 75 (!decide (x19=4)),kB 74 (!decide (x19=4)),kB 73 (!decide (x19=4)),kI 72 x19] ?_)
     rcases z0 h with ⟨hp,h⟩ | ⟨hp,h⟩
     ·refine RS.fx 75 false (zh hp) (RS.mS 4 [kB 79 (!decide (x23=4)),kB 78 (!decide (x23=4)),kB 77 (!decide (x23=4)),kI 76 x23] ?_)
      rcases z0 h with ⟨hp,h⟩ | ⟨hp,h⟩
      ·refine RS.fx 79 false (zh hp) (RS.mS 4 [kB 83 (!decide ((x18.n:Int)=0)),kB 82 (!decide ((x18.n:Int)=0)),kI 81 (x18.n:Int),kS 80 x18] (RS.dn (WS.nxt ?_)))
       rcases z0 h with ⟨hp,h⟩ | ⟨hp,h⟩
       ·refine WS.fx 83 false (zh hp) (WS.cF (WS.sk ?_))
        refine fun a w hs=>bkN ((WS.nxt ?_ a w hs))
        refine WS.rg (RS.mS 2 [kI 24 (IntKind.i64.wrap (v24_6+1)),kI 84 (IntKind.i64.wrap (v24_6+1))] (RS.dn ?_))
        cases h
        exact fun a w hs=>lsN rfl (hs.sb 0)
       ·refine WS.fx 83 true (ze hp) (WS.cT ?_)
        cases h
      ·refine RS.fx 79 true (ze hp) ?_
       cases h
     ·refine RS.fx 75 true (ze hp) ?_
      cases h
    ·refine RS.fx 71 true (ze hp) ?_
     cases h
   ·refine RS.fx 67 true (ze hp) ?_
    cases h
  ·refine RS.fx 63 true (ze hp) ?_
   cases h
 ·refine WS.fx 25 false (decide_eq_false hp) (WS.cF (WS.ex 0 ?_))
  cases h
  exact fun a w hs=>sqE (lsB rfl (hs.sb 0))
theorem zc9 {L:LC} {m:Nat} {H:AH} {r:(Bool×AH)} (h:z26 L m H=some r) :
  CallS Tryz.prog (NE.plain 202) m 3 #[anyV,anyV] H (z5c r) (z5i H r):=by
 refine CallS.mk (args:=[anyV,anyV]) Tryz.func3 (B:=B3) (by kernel_rfl) (fun E _=>?_)
 unfold z26 at h
 refine WS.sq (WS.rg (RS.mS 1 [kB 4 false] (RS.dn (WS.nxt (WS.sq (WS.rg (RS.mS 1 [(5,.val (Value.pointer none))] (RS.dn (WS.nxt ?_)))))))))
 refine WS.sq (WS.sq (WS.rg (RS.mS 2 [kA 20 #[(Sl3.v Sl3.nil),(Sl3.v Sl3.nil),(Sl3.v Sl3.nil),(Sl3.v Sl3.nil),(Value.map none)],(19,.val (Value.pointer none))] ?_)))
 obtain ⟨⟨p1,H2⟩,hx,h⟩:=bind_some h
 try dsimp only at h
 refine RS.o (H':=H2) (some 21) (Value.pointer (some p1)) (Abs.run_newB (by kernel_rfl) hx) ?_
 obtain ⟨⟨s3,H4⟩,hx,h⟩:=bind_some h
 try dsimp only at h
 refine RS.o (H':=H4) (some 22) (Sl3.v s3) (Abs.run_newR (by kernel_rfl) (by kernel_rfl) hx) (RS.mS 2 [kI 24 0,kI 23 (s3.n:Int)] (RS.dn (WS.nxt (WS.bk 0 ?_))))
 obtain ⟨o,hl,h⟩:=bind_some h
 rcases o with ⟨H25,v24_26⟩ | r
 ·try dsimp only at h
  refine WS.lI (z47 (L:=L) (E:=E) (m:=m) (H:=H)) (L.ok hl) 0 ?_
  clear hl
  refine fun a w hs=>bkE ((WS.nxt ?_ a w hs))
  refine WS.sq (WS.rg ?_)
  obtain ⟨⟨x27,H28⟩,hx,h⟩:=bind_some h
  try dsimp only at h
  refine RS.cl (some 85) (v:=(Value.bool x27)) 9 #[] (zlc hx) (RS.mS 1 [kB 4 x27] (RS.dn (WS.nxt (WS.rt ?_))))
  cases h
  exact fun a w hs=>rtR (rS hs)
 ·try dsimp only at h
  refine WS.lR (z47 (L:=L) (E:=E) (m:=m) (H:=H)) (L.ok hl) 0 ?_
  cases h
  exact fun a w hq=>bkR (sqR (rtR hq))
end Go.Proofs.YtfbinmgldpnjhaaGreatDoor
namespace Go.Proofs.YtfbinmgldpnjhaaGreatDoor
open Go Go.Abs
set_option maxRecDepth 100000
theorem own:ownKnob Tryz.prog.godebug=none:=by kernel_rfl
theorem laidOut:laidOutB Tryz.prog=true:=by kernel_rfl
theorem zp5:globalsB Tryz.prog=true:=by kernel_rfl
theorem sane:Sane Tryz.prog (NE.plain 202):=zrc (fun _ _ _ _=>rfl) (by kernel_rfl) (by kernel_rfl) (fun x w=>by kernel_rfl)
theorem zr3 (os:Os) (args:Array Value):laidMet Tryz.prog Rows.rewriteNobodyRow.laid ((laidW2 Tryz.prog Rows.rewriteNobodyRow.laid os).forCall (fun _ _=>0) ⟨#[],args,[]⟩).memory :=
 laidMet_of_run3 8 (by kernel_rfl) (by kernel_rfl) (by kernel_rfl)
def tabs:List Tab:=[(1,326,((zsOf Rows.laid_strings_asciiSpace).map fun z=>Value.int .u8 z).toArray),(6,364,((zsOf Rows.laid_math_bits_deBruijn64tab).map fun z=>Value.int .u8 z).toArray),(5,363,((zsOf Rows.laid_math_bits_deBruijn32tab).map fun z=>Value.int .u8 z).toArray),(0,311,((zsOf Rows.laid_internal_strconv_uint64pow10).map fun z=>Value.int .u64 z).toArray)]
theorem zs3:tabsB Tryz.prog tabs=true:=by kernel_rfl
theorem zqx (W:World) (hL:laidMet Tryz.prog Rows.rewriteNobodyRow.laid W) (hsh:W.ShapedOpen Tryz.prog):∀x∈tabs,∃fr,W.heap[x.1]? = some (.cells x.2.2 x.2.1 fr):=by
 intro x hx
 simp only [tabs,List.mem_cons,List.not_mem_nil,or_false] at hx
 rcases hx with rfl | rfl | rfl | rfl
 ·exact zir (name := "strings.asciiSpace") (te:=5) (n:=256) (t:=326) hL (by kernel_rfl) (by kernel_rfl) (by kernel_rfl) (by kernel_rfl) (by kernel_rfl) (by kernel_rfl) (by kernel_rfl) (of_decide_eq_true (by kernel_rfl)) (by kernel_rfl) hsh
 ·exact zir (name := "math/bits.deBruijn64tab") (te:=5) (n:=64) (t:=364) hL (by kernel_rfl) (by kernel_rfl) (by kernel_rfl) (by kernel_rfl) (by kernel_rfl) (by kernel_rfl) (by kernel_rfl) (of_decide_eq_true (by kernel_rfl)) (by kernel_rfl) hsh
 ·exact zir (name := "math/bits.deBruijn32tab") (te:=5) (n:=32) (t:=363) hL (by kernel_rfl) (by kernel_rfl) (by kernel_rfl) (by kernel_rfl) (by kernel_rfl) (by kernel_rfl) (by kernel_rfl) (of_decide_eq_true (by kernel_rfl)) (by kernel_rfl) hsh
 ·exact zir (name := "internal/strconv.uint64pow10") (te:=126) (n:=20) (t:=311) hL (by kernel_rfl) (by kernel_rfl) (by kernel_rfl) (by kernel_rfl) (by kernel_rfl) (by kernel_rfl) (by kernel_rfl) (of_decide_eq_true (by kernel_rfl)) (by kernel_rfl) hsh
end Go.Proofs.YtfbinmgldpnjhaaGreatDoor
namespace Go.Proofs.YtfbinmgldpnjhaaGreatDoor
open Go Go.Abs
set_option maxRecDepth 100000
noncomputable def lc:LC:=LCn 100000 1000
set_option maxHeartbeats 0 in
theorem zp4:(z26 lc 9 (startH Tryz.prog tabs)).map (·.1)=some true:=by kernel_rfl
end Go.Proofs.YtfbinmgldpnjhaaGreatDoor
namespace Go.Proofs.YtfbinmgldpnjhaaGreatDoor
open Go Go.Abs
set_option maxRecDepth 100000
theorem zog:∃H',CallS Tryz.prog (NE.plain 202) Tryz.prog.globals.size 3 (Tryz.f3.params.map (anyArg Tryz.prog)) (startH Tryz.prog tabs) (.bool true) H':=by
 have hrun:=zp4
 generalize hq:z26 lc 9 (startH Tryz.prog tabs)=q at hrun
 cases q with
 | none=>cases hrun
 | some r =>
  obtain ⟨b,H'⟩:=r
  simp only [Option.map_some,Option.some.injEq] at hrun
  subst hrun
  refine ⟨H',?_⟩
  have h:=@zc9 lc 9 (startH Tryz.prog tabs) (true,H') hq
  have e1:Tryz.prog.globals.size=9:=by kernel_rfl
  have e2:Tryz.f3.params.map (anyArg Tryz.prog)=#[anyV,anyV]:=by kernel_rfl
  rw [e1,e2]
  exact h
theorem zm4 (os:Os) (started:os.Started) (H:Type) (enc:TypeId×Value→H) :
  ReturnsInHanded {} Tryz.checked os 3 .any (fun w args=>(Rows.rewriteNobodySpec.pre enc Tryz.prog Tryz.f3 [] false w args∧laidMet Tryz.prog Rows.rewriteNobodyRow.laid w)∧sizedMet enc Tryz.prog Tryz.f3 (OpenSpec.ofChange Rows.rewriteNobodySpec) false w args)
   (Rows.rewriteNobodySpec.post enc Tryz.prog Tryz.f3 false true false false) :=
 znq (C:=Tryz.checked) (X:=fun w _=>laidMet Tryz.prog Rows.rewriteNobodyRow.laid w) own started (by kernel_rfl) Tryz.func3 (by kernel_rfl) sane zp5 laidOut
  (by kernel_rfl) rfl (by kernel_rfl)
  (fun ds hds=>by
   have h1:ds.length=2:=hds
   match ds,h1 with
   | [d0,d1],_=>exact ⟨rfl,rfl,rfl⟩)
  zs3 (fun _ _ _ hh h=>h.of_heap hh) (fun W _ hL hsh=>zqx W hL hsh) zog
  (zoo (enc:=enc) (C:=Tryz.checked) (os:=os) (X:=fun w _=>laidMet Tryz.prog Rows.rewriteNobodyRow.laid w) (laidW2 Tryz.prog Rows.rewriteNobodyRow.laid os) #[.int .i64 0,.int .i64 0] 8 rfl (by kernel_rfl) (by kernel_rfl) (by kernel_rfl) (by kernel_rfl) (by kernel_rfl) (zr3 os _))
end Go.Proofs.YtfbinmgldpnjhaaGreatDoor
namespace Go.Proofs.YtfbinmgldpnjhaaGreatDoor
open Go Go.Abs
set_option maxRecDepth 100000
theorem an {a b:Bool} (h:a=true) (k:b=true):(a&&b)=true:=by rw [h,k]; rfl
theorem jf0:(Rows.rewriteNobodyRow.wf (OpenSpec.ofChange Rows.rewriteNobodySpec))=true:=by kernel_rfl
theorem jf1:(laidOutB Tryz.pinned.checked.prog)=true:=by kernel_rfl
theorem jf2:(mapsRowed Tryz.pinned.checked.prog)=true:=by kernel_rfl
theorem jf3:(Tryz.f3.params.all (Tryz.pinned.checked.prog.readableRec ·))=true:=by kernel_rfl
theorem jf4:(namedTie Tryz.pinned.checked.prog Rows.rewriteNobodyRow.named Rows.rewriteNobodySpec.vars)=true:=by kernel_rfl
theorem jf5:((Rows.rewriteNobodyRow.stops == []))=true:=by kernel_rfl
theorem jf6:((Tryz.pinned.checked.prog.stops == []))=true:=by kernel_rfl
theorem jf7:((Rows.rewriteNobodyRow.knobs == []))=true:=by kernel_rfl
theorem jf8:((Tryz.pinned.checked.prog.stopKnobs == []))=true:=by kernel_rfl
theorem jf9:((Rows.rewriteNobodyRow.inPlace == Tryz.pinned.checked.prog.inPlace 3))=true:=by kernel_rfl
theorem jf10:((Rows.rewriteNobodyRow.unfollowed == Tryz.pinned.checked.prog.unfollowed 3))=true:=by kernel_rfl
theorem jf11:((Rows.rewriteNobodyRow.recurses == Tryz.pinned.checked.prog.recurses 3))=true:=by kernel_rfl
theorem jf12:((Rows.rewriteNobodyRow.named == Tryz.pinned.checked.prog.varsNamed 3))=true:=by kernel_rfl
theorem jf13:((Rows.rewriteNobodyRow.maps == (Tryz.f3.params.toList++Rows.rewriteNobodySpec.plain.varTypes Tryz.pinned.checked.prog).any (Tryz.pinned.checked.prog.mapsRec ·)))=true:=by kernel_rfl
theorem jf14:((Rows.rewriteNobodyRow.ifaces == (Tryz.f3.params.toList++Rows.rewriteNobodySpec.plain.varTypes Tryz.pinned.checked.prog).any (Tryz.pinned.checked.prog.ifacesRec ·)))=true:=by kernel_rfl
theorem jf15:((Rows.rewriteNobodyRow.mapsOut == Tryz.pinned.checked.prog.mapsAmong Tryz.f3.resultTypes.toList))=true:=by kernel_rfl
theorem jf16:((Rows.rewriteNobodyRow.loops == (Tryz.f3.params.toList++Rows.rewriteNobodySpec.plain.varTypes Tryz.pinned.checked.prog).any (Tryz.pinned.checked.prog.loopsFrom ·)))=true:=by kernel_rfl
theorem jf17:((Rows.rewriteNobodyRow.wideKeys == (Tryz.f3.params.toList++Rows.rewriteNobodySpec.plain.varTypes Tryz.pinned.checked.prog++Tryz.f3.resultTypes.toList).any (Tryz.pinned.checked.prog.wideKeysFrom ·)))=true:=by kernel_rfl
theorem jf18:(Rows.rewriteNobodySpec.vars.all (Tryz.pinned.checked.prog.varReadable ·))=true:=by kernel_rfl
theorem jf19:(Tryz.f3.resultTypes.all (fun t=>Tryz.pinned.checked.prog.readableRec t&&decide (t<Tryz.pinned.checked.prog.types.size)))=true:=by kernel_rfl
theorem jf20:((Rows.rewriteNobodyRow.ifacesOut == Tryz.f3.resultTypes.toList.any (Tryz.pinned.checked.prog.ifacesRec ·)))=true:=by kernel_rfl
theorem jf21:((Rows.rewriteNobodyRow.loopsOut == Tryz.f3.resultTypes.toList.any (Tryz.pinned.checked.prog.loopsFrom ·)))=true:=by kernel_rfl
theorem jf22:((Rows.rewriteNobodyRow.plainKeys == Tryz.pinned.checked.prog.plainKeys))=true:=by kernel_rfl
theorem jf23:(Rows.rewriteNobodyRow.shortTexts.isNone)=true:=by kernel_rfl
theorem jf24:(Tryz.pinned.checked.prog.stopsHeard)=true:=by kernel_rfl
theorem jf25:(Tryz.pinned.checked.prog.mayEnter)=true:=by kernel_rfl
theorem jf26:((Rows.rewriteNobodyRow.lifted == Tryz.pinned.checked.prog.liftsFinal))=true:=by kernel_rfl
theorem jf27:((Tryz.pinned.checked.prog.make == some Rows.rewriteNobodyRow.make))=true:=by kernel_rfl
theorem jf28:((Rows.rewriteNobodyRow.kinds == (if Rows.rewriteNobodyRow.domain.isEmpty then [] else Tryz.f3.params.toList.map fun t=>match Tryz.pinned.checked.prog.underlying t with | some (.int k)=>some k | _=>none)))=true:=by kernel_rfl
theorem jf29:((Rows.rewriteNobodyRow.pinned == Rows.rewriteNobodyRow.pinnedBy))=true:=by kernel_rfl
theorem jf30:((Rows.rewriteNobodyRow.veiled == (Tryz.f3.params.toList++Rows.rewriteNobodySpec.plain.varTypes Tryz.pinned.checked.prog++Tryz.f3.resultTypes.toList).any (Tryz.pinned.checked.prog.veiledRec ·)))=true:=by kernel_rfl
theorem jf31:(Rows.rewriteNobodyRow.veiledFits Tryz.pinned.checked.prog Tryz.f3.params.toList (Tryz.f3.params.toList++Rows.rewriteNobodySpec.plain.varTypes Tryz.pinned.checked.prog++Tryz.f3.resultTypes.toList))=true:=by kernel_rfl
theorem joined:joinedFacts Tryz.pinned.checked.prog 3 Tryz.f3 Rows.rewriteNobodySpec Rows.rewriteNobodyRow=true:=by
 unfold joinedFacts
 exact (an (an (an (an (an (an (an (an (an (an (an (an (an (an (an (an (an (an (an (an (an (an (an (an (an (an (an (an (an (an (an jf0 jf1) jf2) jf3) jf4) jf5) jf6) jf7) jf8) jf9) jf10) jf11) jf12) jf13) jf14) jf15) jf16) jf17) jf18) jf19) jf20) jf21) jf22) jf23) jf24) jf25) jf26) jf27) jf28) jf29) jf30) jf31)
theorem znu:Rows.RewriteNobodySaid :=
 OpenClaim.holds_of_wide 3 Tryz.f3 rfl rfl rfl rfl rfl rfl rfl ⟨rfl,rfl,rfl,rfl,rfl⟩ rfl rfl rfl rfl rfl (by kernel_rfl) Tryz.func3 joined
  (of_decide_eq_true (by kernel_rfl)) (by unfold Func.isWrapper; first | (rw [if_pos (by decide +kernel)]; kernel_rfl) | (rw [if_neg (by decide +kernel)]; exact ⟨rfl,rfl⟩))
  (fun os started H enc _=>zm4 os started H enc)
end Go.Proofs.YtfbinmgldpnjhaaGreatDoor
namespace Go.Proofs.YtfbinmgldpnjhaaGreatDoor
open Go Go.Abs
set_option maxRecDepth 100000
theorem sw0:Tryz.prog.wantsStandIn 3=false:=by kernel_rfl
theorem sw1:Tryz.prog.wantsStandIn 3=false:=by kernel_rfl
theorem standIns:∀t∈Tryz.f3.params.toList,Tryz.prog.wantsStandIn t=false:=by
 have hp:Tryz.f3.params.toList=[3,3]:=by kernel_rfl
 rw [hp]
 intro t ht
 simp only [List.mem_cons,List.not_mem_nil,or_false] at ht
 rcases ht with rfl | rfl
 ·exact sw0
 ·exact sw1
theorem named:Tryz.prog.funcNamed "tribunal/tribunallaw12.RewriteNobody"=some 3:=by kernel_rfl
theorem looks:true=Tryz.pinned.checked.prog.looks []:=by kernel_rfl
theorem goesBy:false=Rows.rewriteNobodyRow.goesBy Tryz.pinned.checked.prog:=by kernel_rfl
theorem rewriteNobody_holds:Rows.RewriteNobodyCardSaid :=
 Claim7.holds_tied_plain_at .later [] _ _ _ _
  znu (fun _ h=>by cases h) (by kernel_rfl) (fun _ h=>by cases h) rewriteNobody_row_tie rfl ⟨rfl,rfl⟩ (by kernel_rfl) rfl
  (fun f fn hf hfn=>by
   obtain rfl:f=3:=Option.some.inj (named.symm.trans hf) |>.symm
   obtain rfl:fn=Tryz.f3:=(Option.some.inj (Tryz.func3.symm.trans hfn)).symm
   exact ⟨looks,fun j t ht=>standIns t (by simpa using Array.mem_of_getElem? ht)⟩)
  goesBy
#print axioms rewriteNobody_holds
end Go.Proofs.YtfbinmgldpnjhaaGreatDoor
