/- Parts of the proof: an abstract interpreter of the loaded program and its soundness, printed functions, the law's own texts; part 5. No condition. -/
import Derived.Test.YtccbilfbhecdaaaDoorGr4
namespace Go.Proofs.YtccbilfbhecdaaaDoor
open Go Go.Abs
set_option maxRecDepth 100000
def z42:(Sl3×AH)→Value
 | (r0,_)=>(Sl3.v r0)
def z4g (_:AH):(Sl3×AH)→AH:=fun r=>r.2
noncomputable def B81:Code:=(Tryd.f81.body).getD .skip
noncomputable def z21 (_L:LC) (m:Nat) (_a0_0 _a0_1 _a0_2:Sl3) (_v4_3 _v5_6:Int) (_x12_0:ByteArray) (x12_1:Sl3):(AH×Sl3×Int)→Option (Lp (AH×Sl3×Int) (Sl3×AH)):=fun (H17,v3_18,v7_19) =>
 if v7_19<(x12_1.n:Int) then
  Option.bind (idxA 5 x12_1 v7_19) fun p20 =>
  Option.bind (rd deS H17 (Addr.add p20 0)) fun x21 =>
  Option.bind (newR 9 1 #[(Value.string x21)] H17) fun (s22,H23) =>
  Option.bind (appS m 9 1 16 H23 v3_18 s22) fun (s24,H25) =>
  some (.next (H25,s24,(IntKind.i64.wrap (v7_19+1))))
 else
  some (.brk (H17,v3_18,v7_19))
def ze7 (_L:LC) (_m:Nat) (a0_0 a0_1 a0_2:Sl3) (v4_3 v5_6:Int) (x12_0:ByteArray) (x12_1:Sl3):(AH×Sl3×Int)→KN×Lcs:=fun (_,v3_18,v7_19)=>([kS 3 v3_18,kI 7 v7_19,kL 1 0 0,kI 4 v4_3,kI 5 v5_6,kL 6 1 0],[some (33,[(Sl3.v a0_0),(Sl3.v a0_1),(Sl3.v a0_2)]),some (50,[(Value.string x12_0),(Sl3.v x12_1)])])
noncomputable def z22 (L:LC) (m:Nat) (a0_0 a0_1 a0_2:Sl3) (v4_3:Int):(AH×Sl3×Int)→Option (Lp (AH×Sl3×Int) (Sl3×AH)):=fun (H4,v3_5,v5_6) =>
 Option.bind (idxA 2 a0_1 v4_3) fun p7 =>
 Option.bind (rd deSl H4 (Addr.add p7 1)) fun x8 =>
 if v5_6<(x8.n:Int) then
  Option.bind (idxA 2 a0_1 v4_3) fun p9 =>
  Option.bind (rd deSl H4 (Addr.add p9 1)) fun x10 =>
  Option.bind (idxA 2 x10 v5_6) fun p11 =>
  Option.bind (rd deS H4 (Addr.add p11 0)) fun x12_0 =>
  Option.bind (rd deSl H4 (Addr.add p11 1)) fun x12_1 =>
  Option.bind (newR 9 1 #[(Value.string x12_0)] H4) fun (s13,H14) =>
  Option.bind (appS m 9 1 16 H14 v3_5 s13) fun (s15,H16) =>
  Option.bind (L.run (z21 L m a0_0 a0_1 a0_2 v4_3 v5_6 x12_0 x12_1) (H16,s15,0)) fun o=>match o with
  | .inl (H26,v3_27,_) =>
   some (.next (H26,v3_27,(IntKind.i64.wrap (v5_6+1))))
  | .inr r=>some (.ret r)
 else
  some (.brk (H4,v3_5,v5_6))
def zea (_L:LC) (_m:Nat) (a0_0 a0_1 a0_2:Sl3) (v4_3:Int):(AH×Sl3×Int)→KN×Lcs:=fun (_,v3_5,v5_6)=>([kS 3 v3_5,kI 5 v5_6,kL 1 0 0,kI 4 v4_3],[some (33,[(Sl3.v a0_0),(Sl3.v a0_1),(Sl3.v a0_2)])])
noncomputable def z1y (L:LC) (m:Nat) (a0_0 a0_1 a0_2:Sl3):(AH×Sl3×Int)→Option (Lp (AH×Sl3×Int) (Sl3×AH)):=fun (H1,v3_2,v4_3) =>
 if v4_3<(a0_1.n:Int) then
  Option.bind (L.run (z22 L m a0_0 a0_1 a0_2 v4_3) (H1,v3_2,0)) fun o=>match o with
  | .inl (H29,v3_30,_) =>
   some (.next (H29,v3_30,(IntKind.i64.wrap (v4_3+1))))
  | .inr r=>some (.ret r)
 else
  some (.brk (H1,v3_2,v4_3))
def zei (_L:LC) (_m:Nat) (a0_0 a0_1 a0_2:Sl3):(AH×Sl3×Int)→KN×Lcs:=fun (_,v3_2,v4_3)=>([kS 3 v3_2,kI 4 v4_3,kL 1 0 0],[some (33,[(Sl3.v a0_0),(Sl3.v a0_1),(Sl3.v a0_2)])])
noncomputable def z20 (_L:LC) (m:Nat) (_a0_0 _a0_1 a0_2:Sl3):(AH×Sl3×Int)→Option (Lp (AH×Sl3×Int) (Sl3×AH)):=fun (H35,v3_36,v8_37) =>
 if v8_37<(a0_2.n:Int) then
  Option.bind (idxA 6 a0_2 v8_37) fun p38 =>
  Option.bind (rd deS H35 (Addr.add p38 0)) fun x39 =>
  Option.bind (newR 9 1 #[(Value.string x39)] H35) fun (s40,H41) =>
  Option.bind (appS m 9 1 16 H41 v3_36 s40) fun (s42,H43) =>
  some (.next (H43,s42,(IntKind.i64.wrap (v8_37+1))))
 else
  some (.brk (H35,v3_36,v8_37))
def ze5 (_L:LC) (_m:Nat) (a0_0 a0_1 a0_2:Sl3):(AH×Sl3×Int)→KN×Lcs:=fun (_,v3_36,v8_37)=>([kS 3 v3_36,kI 8 v8_37,kL 1 0 0],[some (33,[(Sl3.v a0_0),(Sl3.v a0_1),(Sl3.v a0_2)])])
noncomputable def z5z (L:LC) (m:Nat) (H:AH) (a0_0 a0_1 a0_2:Sl3):Option (Sl3×AH) :=
 Option.bind (L.run (z1y L m a0_0 a0_1 a0_2) (H,Sl3.nil,0)) fun o=>match o with
 | .inl (H32,v3_33,_) =>
  Option.bind (L.run (z20 L m a0_0 a0_1 a0_2) (H32,v3_33,0)) fun o=>match o with
  | .inl (H44,v3_45,_) =>
   some (v3_45,H44)
  | .inr r=>some r
 | .inr r=>some r
theorem z8n {E H L m a0_0 a0_1 a0_2 v4_3 v5_6 x12_0 x12_1} :LoopF Tryd.prog (NE.plain 1000) m E Tryd.f81 ((cfst (csnd (csnd (csnd (cfst (cfst (csnd (cfst (cfst (csnd (cfst (cfst (csnd (cfst (cfst (csnd (cfst (csnd (csnd B81)))))))))))))))))))) (ze7 L m a0_0 a0_1 a0_2 v4_3 v5_6 x12_0 x12_1) (fun s=>s.1) 4 z42 (z4g H) (z21 L m a0_0 a0_1 a0_2 v4_3 v5_6 x12_0 x12_1):=by
 rintro ⟨H17,v3_18,v7_19⟩ o h
 unfold z21 at h
 try dsimp only at h
 refine WS.sq (WS.sq (WS.rg (RS.mS 5 [kB 45 (decide (v7_19<(x12_1.n:Int))),kI 44 (x12_1.n:Int),kS 43 x12_1,kL 42 1 1,kI 41 v7_19] (RS.dn (WS.nxt ?_)))))
 rcases z7 h with ⟨hp,h⟩ | ⟨hp,h⟩
 ·refine WS.fx 45 true (decide_eq_true hp) (WS.cT (WS.sk (WS.nxt (WS.sq (WS.bk 5 (WS.rg (RS.mS 4 [kI 51 v7_19,kS 50 x12_1,kL 49 1 1,kS 48 v3_18] ?_)))))))
  obtain ⟨p20,hx,h⟩:=bind_some h
  refine RS.ix 52 48 52 (.tmp 50) (.tmp 51) hx (RS.mS 1 [(53,.val (Value.pointer (some (Addr.add p20 0))))] ?_)
  obtain ⟨x21,hx,h⟩:=bind_some h
  refine RS.ld 54 9 (.tmp 53) (z8 hx zg) ?_
  obtain ⟨⟨s22,H23⟩,hx,h⟩:=bind_some h
  try dsimp only at h
  refine RS.o (H':=H23) (some 55) (Sl3.v s22) (Abs.run_newR (by kernel_rfl) (by kernel_rfl) hx) ?_
  obtain ⟨⟨s24,H25⟩,hx,h⟩:=bind_some h
  try dsimp only at h
  refine RS.o (H':=H25) (some 56) (Sl3.v s24) (Abs.run_app (x:=.tmp 48) (y:=.tmp 55) (ts:=#[29,29]) (s:=v3_18) (z:=s22) (by kernel_rfl) (by kernel_rfl) (by kernel_rfl) (by kernel_rfl) hx) (RS.mS 1 [kS 3 s24] (RS.dn ?_))
  refine fun a w hs=>bkN ((WS.nxt ?_ a w hs))
  refine WS.rg (RS.mS 3 [kI 7 (IntKind.i64.wrap (v7_19+1)),kI 47 (IntKind.i64.wrap (v7_19+1)),kI 46 v7_19] (RS.dn ?_))
  cases h
  exact fun a w hs=>lsN rfl (hs.sb 2)
 ·refine WS.fx 45 false (decide_eq_false hp) (WS.cF (WS.ex 4 ?_))
  cases h
  exact fun a w hs=>sqE (lsB rfl (hs.sb 2))
theorem z8j {E H L m a0_0 a0_1 a0_2 v4_3} :LoopF Tryd.prog (NE.plain 1000) m E Tryd.f81 ((cfst (csnd (cfst (cfst (csnd (cfst (cfst (csnd (cfst (csnd (csnd B81)))))))))))) (zea L m a0_0 a0_1 a0_2 v4_3) (fun s=>s.1) 2 z42 (z4g H) (z22 L m a0_0 a0_1 a0_2 v4_3):=by
 rintro ⟨H4,v3_5,v5_6⟩ o h
 unfold z22 at h
 try dsimp only at h
 refine WS.sq (WS.sq (WS.rg (RS.mS 4 [kI 19 v4_3,kS 18 a0_1,kL 17 0 1,kI 16 v5_6] ?_)))
 obtain ⟨p7,hx,h⟩:=bind_some h
 refine RS.ix 20 30 46 (.tmp 18) (.tmp 19) hx (RS.mS 1 [(21,.val (Value.pointer (some (Addr.add p7 1))))] ?_)
 obtain ⟨x8,hx,h⟩:=bind_some h
 refine RS.ld 22 44 (.tmp 21) (z8 hx zb) (RS.mS 2 [kB 24 (decide (v5_6<(x8.n:Int))),kI 23 (x8.n:Int)] (RS.dn (WS.nxt ?_)))
 rcases z7 h with ⟨hp,h⟩ | ⟨hp,h⟩
 ·refine WS.fx 24 true (decide_eq_true hp) (WS.cT (WS.sk (WS.nxt (WS.sq (WS.bk 3 (WS.sq (WS.rg (RS.mS 3 [kI 29 v4_3,kS 28 a0_1,kL 27 0 1] ?_))))))))
  obtain ⟨p9,hx,h⟩:=bind_some h
  refine RS.ix 30 30 46 (.tmp 28) (.tmp 29) hx (RS.mS 1 [(31,.val (Value.pointer (some (Addr.add p9 1))))] ?_)
  obtain ⟨x10,hx,h⟩:=bind_some h
  refine RS.ld 32 44 (.tmp 31) (z8 hx zb) (RS.mS 1 [kI 33 v5_6] ?_)
  obtain ⟨p11,hx,h⟩:=bind_some h
  refine RS.ix 34 44 50 (.tmp 32) (.tmp 33) hx ?_
  obtain ⟨x12_0,hx0,h⟩:=bind_some h
  obtain ⟨x12_1,hx1,h⟩:=bind_some h
  refine RS.la 35 50 (.tmp 34) 2 (z9 (z8 hx0 zg) (z9 (z8 hx1 zb) zk)) (RS.mL 2 [kL 6 1 0] ([some (33,[(Sl3.v a0_0),(Sl3.v a0_1),(Sl3.v a0_2)]),some (50,[(Value.string x12_0),(Sl3.v x12_1)])]) (RS.dn (WS.nxt (WS.sq (WS.rg (RS.mS 3 [kT 38 x12_0,kL 37 1 0,kS 36 v3_5] ?_))))))
  obtain ⟨⟨s13,H14⟩,hx,h⟩:=bind_some h
  try dsimp only at h
  refine RS.o (H':=H14) (some 39) (Sl3.v s13) (Abs.run_newR (by kernel_rfl) (by kernel_rfl) hx) ?_
  obtain ⟨⟨s15,H16⟩,hx,h⟩:=bind_some h
  try dsimp only at h
  refine RS.o (H':=H16) (some 40) (Sl3.v s15) (Abs.run_app (x:=.tmp 36) (y:=.tmp 39) (ts:=#[29,29]) (s:=v3_5) (z:=s13) (by kernel_rfl) (by kernel_rfl) (by kernel_rfl) (by kernel_rfl) hx) (RS.mS 1 [kS 3 s15] (RS.dn (WS.nxt (WS.sq (WS.rg (RS.mS 1 [kI 7 0] (RS.dn (WS.nxt (WS.bk 4 ?_)))))))))
  obtain ⟨o,hl,h⟩:=bind_some h
  rcases o with ⟨H26,v3_27,v7_28⟩ | r
  ·try dsimp only at h
   refine WS.lI (z8n (L:=L) (E:=E) (m:=m) (H:=H)) (L.ok hl) 2 ?_
   clear hl
   refine fun a w hs=>bkE (bkN ((WS.nxt ?_ a w hs)))
   refine WS.rg (RS.mS 3 [kI 5 (IntKind.i64.wrap (v5_6+1)),kI 26 (IntKind.i64.wrap (v5_6+1)),kI 25 v5_6] (RS.dn ?_))
   cases h
   exact fun a w hs=>lsN rfl (hs.sb 1)
  ·try dsimp only at h
   refine WS.lR (z8n (L:=L) (E:=E) (m:=m) (H:=H)) (L.ok hl) 2 ?_
   cases h
   exact fun a w hq=>bkR (bkR (sqR (lsR rfl hq)))
 ·refine WS.fx 24 false (decide_eq_false hp) (WS.cF (WS.ex 2 ?_))
  cases h
  exact fun a w hs=>sqE (lsB rfl (hs.sb 1))
theorem z91 {E H L m a0_0 a0_1 a0_2} :LoopF Tryd.prog (NE.plain 1000) m E Tryd.f81 ((cfst (csnd (cfst (csnd (csnd B81)))))) (zei L m a0_0 a0_1 a0_2) (fun s=>s.1) 0 z42 (z4g H) (z1y L m a0_0 a0_1 a0_2):=by
 rintro ⟨H1,v3_2,v4_3⟩ o h
 unfold z1y at h
 try dsimp only at h
 refine WS.sq (WS.sq (WS.rg (RS.mS 5 [kB 13 (decide (v4_3<(a0_1.n:Int))),kI 12 (a0_1.n:Int),kS 11 a0_1,kL 10 0 1,kI 9 v4_3] (RS.dn (WS.nxt ?_)))))
 rcases z7 h with ⟨hp,h⟩ | ⟨hp,h⟩
 ·refine WS.fx 13 true (decide_eq_true hp) (WS.cT (WS.sk (WS.nxt (WS.sq (WS.bk 1 (WS.sq (WS.rg (RS.mS 1 [kI 5 0] (RS.dn ?_)))))))))
  refine WS.nxt (WS.bk 2 ?_)
  obtain ⟨o,hl,h⟩:=bind_some h
  rcases o with ⟨H29,v3_30,v5_31⟩ | r
  ·try dsimp only at h
   refine WS.lI (z8j (L:=L) (E:=E) (m:=m) (H:=H)) (L.ok hl) 1 ?_
   clear hl
   refine fun a w hs=>bkE (bkN ((WS.nxt ?_ a w hs)))
   refine WS.rg (RS.mS 3 [kI 4 (IntKind.i64.wrap (v4_3+1)),kI 15 (IntKind.i64.wrap (v4_3+1)),kI 14 v4_3] (RS.dn ?_))
   cases h
   exact fun a w hs=>lsN rfl (hs.sb 1)
  ·try dsimp only at h
   refine WS.lR (z8j (L:=L) (E:=E) (m:=m) (H:=H)) (L.ok hl) 1 ?_
   cases h
   exact fun a w hq=>bkR (bkR (sqR (lsR rfl hq)))
 ·refine WS.fx 13 false (decide_eq_false hp) (WS.cF (WS.ex 0 ?_))
  cases h
  exact fun a w hs=>sqE (lsB rfl (hs.sb 1))
theorem z8z {E H L m a0_0 a0_1 a0_2} :LoopF Tryd.prog (NE.plain 1000) m E Tryd.f81 ((cfst (csnd (cfst (csnd (csnd (csnd B81))))))) (ze5 L m a0_0 a0_1 a0_2) (fun s=>s.1) 6 z42 (z4g H) (z20 L m a0_0 a0_1 a0_2):=by
 rintro ⟨H35,v3_36,v8_37⟩ o h
 unfold z20 at h
 try dsimp only at h
 refine WS.sq (WS.sq (WS.rg (RS.mS 5 [kB 61 (decide (v8_37<(a0_2.n:Int))),kI 60 (a0_2.n:Int),kS 59 a0_2,kL 58 0 2,kI 57 v8_37] (RS.dn (WS.nxt ?_)))))
 rcases z7 h with ⟨hp,h⟩ | ⟨hp,h⟩
 ·refine WS.fx 61 true (decide_eq_true hp) (WS.cT (WS.sk (WS.nxt (WS.sq (WS.bk 7 (WS.rg (RS.mS 4 [kI 67 v8_37,kS 66 a0_2,kL 65 0 2,kS 64 v3_36] ?_)))))))
  obtain ⟨p38,hx,h⟩:=bind_some h
  refine RS.ix 68 31 89 (.tmp 66) (.tmp 67) hx (RS.mS 1 [(69,.val (Value.pointer (some (Addr.add p38 0))))] ?_)
  obtain ⟨x39,hx,h⟩:=bind_some h
  refine RS.ld 70 9 (.tmp 69) (z8 hx zg) ?_
  obtain ⟨⟨s40,H41⟩,hx,h⟩:=bind_some h
  try dsimp only at h
  refine RS.o (H':=H41) (some 71) (Sl3.v s40) (Abs.run_newR (by kernel_rfl) (by kernel_rfl) hx) ?_
  obtain ⟨⟨s42,H43⟩,hx,h⟩:=bind_some h
  try dsimp only at h
  refine RS.o (H':=H43) (some 72) (Sl3.v s42) (Abs.run_app (x:=.tmp 64) (y:=.tmp 71) (ts:=#[29,29]) (s:=v3_36) (z:=s40) (by kernel_rfl) (by kernel_rfl) (by kernel_rfl) (by kernel_rfl) hx) (RS.mS 1 [kS 3 s42] (RS.dn ?_))
  refine fun a w hs=>bkN ((WS.nxt ?_ a w hs))
  refine WS.rg (RS.mS 3 [kI 8 (IntKind.i64.wrap (v8_37+1)),kI 63 (IntKind.i64.wrap (v8_37+1)),kI 62 v8_37] (RS.dn ?_))
  cases h
  exact fun a w hs=>lsN rfl (hs.sb 1)
 ·refine WS.fx 61 false (decide_eq_false hp) (WS.cF (WS.ex 6 ?_))
  cases h
  exact fun a w hs=>sqE (lsB rfl (hs.sb 1))
theorem zhh {L:LC} {m:Nat} {H:AH} {a0_0 a0_1 a0_2:Sl3} {r:(Sl3×AH)} (h:z5z L m H a0_0 a0_1 a0_2=some r) :
  CallS Tryd.prog (NE.plain 1000) m 81 #[(Value.agg #[(Sl3.v a0_0),(Sl3.v a0_1),(Sl3.v a0_2)])] H (z42 r) (z4g H r):=by
 refine CallS.mk (args:=[(Value.agg #[(Sl3.v a0_0),(Sl3.v a0_1),(Sl3.v a0_2)])]) Tryd.func81 (B:=B81) (by kernel_rfl) (fun E _=>?_)
 unfold z5z at h
 refine WS.sq (WS.rg (RS.mL 2 [kS 2 Sl3.nil,kL 1 0 0] ([some (33,[(Sl3.v a0_0),(Sl3.v a0_1),(Sl3.v a0_2)])]) (RS.dn (WS.nxt (WS.sq (WS.rg (RS.mS 1 [kS 3 Sl3.nil] (RS.dn (WS.nxt ?_)))))))))
 refine WS.sq (WS.sq (WS.rg (RS.mS 1 [kI 4 0] (RS.dn (WS.nxt (WS.bk 0 ?_))))))
 obtain ⟨o,hl,h⟩:=bind_some h
 rcases o with ⟨H32,v3_33,v4_34⟩ | r
 ·try dsimp only at h
  refine WS.lI (z91 (L:=L) (E:=E) (m:=m) (H:=H)) (L.ok hl) 1 ?_
  clear hl
  refine fun a w hs=>bkE ((WS.nxt ?_ a w hs))
  refine WS.sq (WS.sq (WS.rg (RS.mS 1 [kI 8 0] (RS.dn (WS.nxt (WS.bk 6 ?_))))))
  obtain ⟨o,hl,h⟩:=bind_some h
  rcases o with ⟨H44,v3_45,v8_46⟩ | r
  ·try dsimp only at h
   refine WS.lI (z8z (L:=L) (E:=E) (m:=m) (H:=H)) (L.ok hl) 1 ?_
   clear hl
   refine fun a w hs=>bkE ((WS.nxt ?_ a w hs))
   refine WS.sq (WS.rg (RS.mS 2 [kS 2 v3_45,kS 73 v3_45] (RS.dn (WS.nxt (WS.rt ?_)))))
   cases h
   exact fun a w hs=>rtR (rS hs)
  ·try dsimp only at h
   refine WS.lR (z8z (L:=L) (E:=E) (m:=m) (H:=H)) (L.ok hl) 1 ?_
   cases h
   exact fun a w hq=>bkR (sqR (rtR hq))
 ·try dsimp only at h
  refine WS.lR (z91 (L:=L) (E:=E) (m:=m) (H:=H)) (L.ok hl) 1 ?_
  cases h
  exact fun a w hq=>bkR (sqR (rtR hq))
def zcj:Bool→Value
 | r0=>(Value.bool r0)
def zdv (H:AH):Bool→AH:=fun _=>H
noncomputable def B82:Code:=(Tryd.f82.body).getD .skip
noncomputable def z3s (L:LC) (H:AH) (a0:Sl3):Int→Option (Lp Int Bool):=fun v3_1 =>
 if v3_1<(a0.n:Int) then
  Option.bind (idxA 1 a0 v3_1) fun p2 =>
  Option.bind (rd deS H p2) fun x3 =>
  Option.bind (slc 1 H a0 none (some v3_1) none) fun s4 =>
  Option.bind (z86 L H s4 x3) fun x5 =>
  if x5=true then
   some (.ret true)
  else
   some (.next (IntKind.i64.wrap (v3_1+1)))
 else
  some (.brk v3_1)
def zhc (_L:LC) (_H:AH) (a0:Sl3):Int→KN×Lcs:=fun v3_1=>([kI 3 v3_1,kS 0 a0],[])
noncomputable def z6e (L:LC) (H:AH) (a0:Sl3):Option Bool :=
 Option.bind (L.run (z3s L H a0) 0) fun o=>match o with
 | .inl _ =>
  some false
 | .inr r=>some r
theorem zag {E m L H a0} :LoopF Tryd.prog (NE.plain 1000) m E Tryd.f82 ((cfst (csnd (cfst (csnd B82))))) (zhc L H a0) (fun _=>H) 0 zcj (zdv H) (z3s L H a0):=by
 rintro v3_1 o h
 unfold z3s at h
 try dsimp only at h
 refine WS.sq (WS.sq (WS.rg (RS.mS 4 [kB 7 (decide (v3_1<(a0.n:Int))),kI 6 (a0.n:Int),kS 5 a0,kI 4 v3_1] (RS.dn (WS.nxt ?_)))))
 rcases z7 h with ⟨hp,h⟩ | ⟨hp,h⟩
 ·refine WS.fx 7 true (decide_eq_true hp) (WS.cT (WS.sk (WS.nxt (WS.sq (WS.bk 1 (WS.sq ?_))))))
  refine WS.dr [3,4,5,6] [0,0,3,0,0,24,56,127] 8 (fun hcl=>?_)
  refine DA.tK 3 (some 13) (Sl3.v a0) (DA.tK 4 (some 14) (Value.int .i64 v3_1) ?_)
  obtain ⟨p2,hx,h⟩:=bind_some h
  refine DA.tD 5 (some 15) (Value.pointer (some p2)) (Abs.det_idx (s:=a0) (k:=.i64) (t:=29) (e:=9) (x:=.tmp 13) (y:=.tmp 14) (by kernel_rfl) (by kernel_rfl) (by kernel_rfl) (by kernel_rfl) (by kernel_rfl) hx) ?_
  obtain ⟨x3,hx,h⟩:=bind_some h
  refine DA.tD 6 (some 16) (Value.string x3) (Abs.det_load (t:=9) (x:=.tmp 15) (a:=p2) (by kernel_rfl) (by kernel_rfl) (by kernel_rfl) (by kernel_rfl) (z8 hx zg)) (DA.tP 0 (some 10) (Sl3.v a0) (DA.tP 1 (some 11) (Value.int .i64 v3_1) ?_))
  obtain ⟨s4,hx,h⟩:=bind_some h
  refine DA.on 2 (DA.aHk (H':=H) 2 (some 12) false (Sl3.v s4) (Abs.run_slice (t:=29) (e:=9) (x:=.tmp 10) (lo:=none) (hi:=(some (.tmp 11))) (mx:=none) (s:=a0) (k1:=.i64) (k2:=.i64) (k3:=.i64) (by kernel_rfl) (by kernel_rfl) (by kernel_rfl) (by kernel_rfl) (by kernel_rfl) (by kernel_rfl) (by kernel_rfl) hx) ?_)
  obtain ⟨x5,hx,h⟩:=bind_some h
  refine DA.on 7 (DA.aC 7 (some 17) (v:=(Value.bool x5)) 71 #[(Sl3.v s4),(Value.string x3)] (zfy hx) (DA.dn (WS.nxt ?_)))
  rcases z7 h with ⟨hp,h⟩ | ⟨hp,h⟩
  ·refine WS.fx 17 true hp (WS.cT (WS.sq (WS.rg (RS.mS 1 [kB 2 true] (RS.dn (WS.nxt (WS.rt ?_)))))))
   cases h
   exact fun a w hs=>bkR (sqR (lsR rfl (rS hs)))
  ·refine WS.fx 17 false (b_not hp) (WS.cF (WS.sk ?_))
   refine fun a w hs=>bkN ((WS.nxt ?_ a w hs))
   refine WS.rg (RS.mS 3 [kI 3 (IntKind.i64.wrap (v3_1+1)),kI 9 (IntKind.i64.wrap (v3_1+1)),kI 8 v3_1] (RS.dn ?_))
   cases h
   exact fun a w hs=>lsN rfl (hs.sb 0)
 ·refine WS.fx 7 false (decide_eq_false hp) (WS.cF (WS.ex 0 ?_))
  cases h
  exact fun a w hs=>sqE (lsB rfl (hs.sb 0))
theorem zdh {L:LC} {m:Nat} {H:AH} {a0:Sl3} {r:Bool} (h:z6e L H a0=some r) :
  CallS Tryd.prog (NE.plain 1000) m 82 #[(Sl3.v a0)] H (zcj r) (zdv H r):=by
 refine CallS.mk (args:=[(Sl3.v a0)]) Tryd.func82 (B:=B82) (by kernel_rfl) (fun E _=>?_)
 unfold z6e at h
 refine WS.sq (WS.rg (RS.mS 1 [kB 2 false] (RS.dn (WS.nxt (WS.sq (WS.sq (WS.rg (RS.mS 1 [kI 3 0] (RS.dn ?_)))))))))
 refine WS.nxt (WS.bk 0 ?_)
 obtain ⟨o,hl,h⟩:=bind_some h
 rcases o with v3_6 | r
 ·try dsimp only at h
  refine WS.lI (zag (L:=L) (E:=E) (m:=m) (H:=H)) (L.ok hl) 0 ?_
  clear hl
  refine fun a w hs=>bkE ((WS.nxt ?_ a w hs))
  refine WS.sq (WS.rg (RS.mS 1 [kB 2 false] (RS.dn (WS.nxt (WS.rt ?_)))))
  cases h
  exact fun a w hs=>rtR (rS hs)
 ·try dsimp only at h
  refine WS.lR (zag (L:=L) (E:=E) (m:=m) (H:=H)) (L.ok hl) 0 ?_
  cases h
  exact fun a w hq=>bkR (sqR (rtR hq))
def zcb:(Int×AH)→Value
 | (r0,_)=>(Value.int .i64 r0)
def zdt (_:AH):(Int×AH)→AH:=fun r=>r.2
noncomputable def B50:Code:=(Tryd.f50.body).getD .skip
noncomputable def z3q (L:LC) (_a0_0 _a0_1:Sl3) (_a0_2 _x1:Sl3) (_x3 s9:Sl3) (H10:AH):Int→Option (Lp Int (Int×AH)):=fun v6_11 =>
 if v6_11<(s9.n:Int) then
  Option.bind (idxA 1 s9 v6_11) fun p12 =>
  Option.bind (rd deS H10 p12) fun x13 =>
  Option.bind (z74 L x13) fun x14 =>
  if x14=true then
   some (.next (IntKind.i64.wrap (v6_11+1)))
  else
   some (.ret (42,H10))
 else
  some (.brk v6_11)
def zh2 (_L:LC) (a0_0 a0_1:Sl3) (a0_2 x1:Sl3) (x3 s9:Sl3) (_H10:AH):Int→KN×Lcs:=fun v6_11=>([kI 6 v6_11,kS 3 x1,kS 4 x3,kS 5 s9],[some (33,[(Sl3.v a0_0),(Sl3.v a0_1),(Sl3.v a0_2)])])
noncomputable def z7u (L:LC) (m:Nat) (H:AH) (a0_0 a0_1 a0_2:Sl3):Option (Int×AH) :=
 Option.bind (z5h L m H a0_0 a0_1 a0_2) fun (x1,H2) =>
 Option.bind (z5z L m H2 a0_0 a0_1 a0_2) fun (x3,H4) =>
 Option.bind (newR 9 0 #[] H4) fun (s5,H6) =>
 Option.bind (appS m 9 1 16 H6 s5 x1) fun (s7,H8) =>
 Option.bind (appS m 9 1 16 H8 s7 x3) fun (s9,H10) =>
 Option.bind (L.run (z3q L a0_0 a0_1 a0_2 x1 x3 s9 H10) 0) fun o=>match o with
 | .inl _ =>
  Option.bind (α:=Bool) (
   Option.bind (z6e L H10 x1) fun x17 =>
   if x17=true then
    some true
   else
    Option.bind (z6e L H10 x3) fun x18 =>
    some x18) fun v35_16 =>
  if v35_16=true then
   some (41,H10)
  else
   some (0,H10)
 | .inr r=>some r
theorem zae {E m H L a0_0 a0_1 a0_2 x1 x3 s9 H10} :LoopF Tryd.prog (NE.plain 1000) m E Tryd.f50 ((cfst (csnd (cfst (csnd (csnd (csnd (csnd B50)))))))) (zh2 L a0_0 a0_1 a0_2 x1 x3 s9 H10) (fun _=>H10) 0 zcb (zdt H) (z3q L a0_0 a0_1 a0_2 x1 x3 s9 H10):=by
 rintro v6_11 o h
 unfold z3q at h
 try dsimp only at h
 refine WS.sq (WS.sq (WS.rg (RS.mS 4 [kB 20 (decide (v6_11<(s9.n:Int))),kI 19 (s9.n:Int),kS 18 s9,kI 17 v6_11] (RS.dn (WS.nxt ?_)))))
 rcases z7 h with ⟨hp,h⟩ | ⟨hp,h⟩
 ·refine WS.fx 20 true (decide_eq_true hp) (WS.cT (WS.sk (WS.nxt (WS.sq (WS.bk 1 (WS.sq (WS.rg (RS.mS 2 [kI 24 v6_11,kS 23 s9] ?_))))))))
  obtain ⟨p12,hx,h⟩:=bind_some h
  refine RS.ix 25 29 9 (.tmp 23) (.tmp 24) hx ?_
  obtain ⟨x13,hx,h⟩:=bind_some h
  refine RS.ld 26 9 (.tmp 25) (z8 hx zg) ?_
  obtain ⟨x14,hx,h⟩:=bind_some h
  refine RS.cl (some 27) (v:=(Value.bool x14)) 14 #[(Value.string x13)] (zey hx) (RS.mS 1 [kB 7 x14] (RS.dn (WS.nxt (WS.sq (WS.rg (RS.mS 2 [kB 29 (!x14),kB 28 x14] (RS.dn (WS.nxt ?_))))))))
  rcases z7 h with ⟨hp,h⟩ | ⟨hp,h⟩
  ·refine WS.fx 29 false (nb_not hp) (WS.cF (WS.sk ?_))
   refine fun a w hs=>bkN ((WS.nxt ?_ a w hs))
   refine WS.rg (RS.mS 3 [kI 6 (IntKind.i64.wrap (v6_11+1)),kI 22 (IntKind.i64.wrap (v6_11+1)),kI 21 v6_11] (RS.dn ?_))
   cases h
   exact fun a w hs=>lsN rfl (hs.sb 1)
  ·refine WS.fx 29 true (z2n hp) (WS.cT (WS.sq (WS.rg (RS.mS 1 [kI 2 42] (RS.dn (WS.nxt (WS.rt ?_)))))))
   cases h
   exact fun a w hs=>bkR (sqR (lsR rfl (rS hs)))
 ·refine WS.fx 20 false (decide_eq_false hp) (WS.cF (WS.ex 0 ?_))
  cases h
  exact fun a w hs=>sqE (lsB rfl (hs.sb 1))
theorem zkl {L:LC} {m:Nat} {H:AH} {a0_0 a0_1 a0_2:Sl3} {r:(Int×AH)} (h:z7u L m H a0_0 a0_1 a0_2=some r) :
  CallS Tryd.prog (NE.plain 1000) m 50 #[(Value.agg #[(Sl3.v a0_0),(Sl3.v a0_1),(Sl3.v a0_2)])] H (zcb r) (zdt H r):=by
 refine CallS.mk (args:=[(Value.agg #[(Sl3.v a0_0),(Sl3.v a0_1),(Sl3.v a0_2)])]) Tryd.func50 (B:=B50) (by kernel_rfl) (fun E _=>?_)
 unfold z7u at h
 refine WS.sq (WS.rg (RS.mL 2 [kI 2 0,kL 1 0 0] ([some (33,[(Sl3.v a0_0),(Sl3.v a0_1),(Sl3.v a0_2)])]) (RS.dn (WS.nxt (WS.sq (WS.rg (RS.mS 1 [kA 8 #[(Sl3.v a0_0),(Sl3.v a0_1),(Sl3.v a0_2)]] ?_)))))))
 obtain ⟨⟨x1,H2⟩,hx,h⟩:=bind_some h
 try dsimp only at h
 refine RS.cl (some 9) (v:=(Sl3.v x1)) 80 #[(Value.agg #[(Sl3.v a0_0),(Sl3.v a0_1),(Sl3.v a0_2)])] (zgt hx) (RS.mS 1 [kS 3 x1] (RS.dn (WS.nxt (WS.sq (WS.rg (RS.mS 1 [kA 10 #[(Sl3.v a0_0),(Sl3.v a0_1),(Sl3.v a0_2)]] ?_))))))
 obtain ⟨⟨x3,H4⟩,hx,h⟩:=bind_some h
 try dsimp only at h
 refine RS.cl (some 11) (v:=(Sl3.v x3)) 81 #[(Value.agg #[(Sl3.v a0_0),(Sl3.v a0_1),(Sl3.v a0_2)])] (zhh hx) (RS.mS 1 [kS 4 x3] (RS.dn (WS.nxt (WS.sq (WS.rg ?_)))))
 obtain ⟨⟨s5,H6⟩,hx,h⟩:=bind_some h
 try dsimp only at h
 refine RS.o (H':=H6) (some 12) (Sl3.v s5) (Abs.run_newR (by kernel_rfl) (by kernel_rfl) hx) (RS.mS 1 [kS 13 x1] ?_)
 obtain ⟨⟨s7,H8⟩,hx,h⟩:=bind_some h
 try dsimp only at h
 refine RS.o (H':=H8) (some 14) (Sl3.v s7) (Abs.run_app (x:=.tmp 12) (y:=.tmp 13) (ts:=#[29,29]) (s:=s5) (z:=x1) (by kernel_rfl) (by kernel_rfl) (by kernel_rfl) (by kernel_rfl) hx) (RS.mS 1 [kS 15 x3] ?_)
 obtain ⟨⟨s9,H10⟩,hx,h⟩:=bind_some h
 try dsimp only at h
 refine RS.o (H':=H10) (some 16) (Sl3.v s9) (Abs.run_app (x:=.tmp 14) (y:=.tmp 15) (ts:=#[29,29]) (s:=s7) (z:=x3) (by kernel_rfl) (by kernel_rfl) (by kernel_rfl) (by kernel_rfl) hx) (RS.mS 1 [kS 5 s9] (RS.dn (WS.nxt (WS.sq (WS.sq (WS.rg (RS.mS 1 [kI 6 0] (RS.dn (WS.nxt ?_)))))))))
 refine WS.bk 0 ?_
 obtain ⟨o,hl,h⟩:=bind_some h
 rcases o with v6_15 | r
 ·try dsimp only at h
  refine WS.lI (zae (L:=L) (E:=E) (m:=m) (H:=H)) (L.ok hl) 1 ?_
  clear hl
  refine fun a w hs=>bkE ((WS.nxt ?_ a w hs))
  refine WS.sq ?_
  obtain ⟨v35_16,hx,h⟩:=bind_some h
  refine WS.sq ?_
  refine WS.join ([kB 35 v35_16]) ([some (33,[(Sl3.v a0_0),(Sl3.v a0_1),(Sl3.v a0_2)])]) H10 ?_ (fun a w hs=>WS.nxt ?_ a w hs)
  ·clear h; rename _=>h
   refine WS.rg (RS.mS 1 [kS 30 x1] ?_)
   obtain ⟨x17,hx,h⟩:=bind_some h
   refine RS.cl (some 31) (v:=(Value.bool x17)) 82 #[(Sl3.v x1)] (zdh hx) (RS.mS 1 [kB 32 x17] ?_)
   rcases z7 h with ⟨hp,h⟩ | ⟨hp,h⟩
   ·refine RS.fx 32 true hp (RS.mS 3 [kB 35 true,kU 34,kU 33] (RS.dn ?_))
    cases h
    exact fun a w hs=>(jsN (hs.sb 1))
   ·refine RS.fx 32 false (b_not hp) (RS.mS 1 [kS 33 x3] ?_)
    obtain ⟨x18,hx,h⟩:=bind_some h
    refine RS.cl (some 34) (v:=(Value.bool x18)) 82 #[(Sl3.v x3)] (zdh hx) (RS.mS 1 [kB 35 x18] (RS.dn ?_))
    cases h
    exact fun a w hs=>(jsN (hs.sb 1))
  ·clear hx
   rcases z7 h with ⟨hp,h⟩ | ⟨hp,h⟩
   ·refine WS.fx 35 true hp (WS.cT (WS.sq (WS.rg (RS.mS 1 [kI 2 41] (RS.dn (WS.nxt (WS.rt ?_)))))))
    cases h
    exact fun a w hs=>sqR (rtR (rS hs))
   ·refine WS.fx 35 false (b_not hp) (WS.cF (WS.sk (WS.nxt (WS.sq (WS.rg (RS.mS 1 [kI 2 0] (RS.dn (WS.nxt (WS.rt ?_)))))))))
    cases h
    exact fun a w hs=>rtR (rS hs)
 ·try dsimp only at h
  refine WS.lR (zae (L:=L) (E:=E) (m:=m) (H:=H)) (L.ok hl) 1 ?_
  cases h
  exact fun a w hq=>bkR (sqR (rtR hq))
def z5i:(Sl3×AH)→Value
 | (r0,_)=>(Sl3.v r0)
def z5v (_:AH):(Sl3×AH)→AH:=fun r=>r.2
noncomputable def B51:Code:=(Tryd.f51.body).getD .skip
noncomputable def z31 (_L:LC) (m:Nat) (_a0_0 _a0_1 _a0_2:Sl3) (_v4_3 _v5_6:Int) (_x12_0:ByteArray) (x12_1:Sl3):(AH×Sl3×Int)→Option (Lp (AH×Sl3×Int) (Sl3×AH)):=fun (H13,v3_14,v7_15) =>
 if v7_15<(x12_1.n:Int) then
  Option.bind (idxA 5 x12_1 v7_15) fun p16 =>
  Option.bind (rd (deI .i64) H13 (Addr.add (Addr.add p16 1) 0)) fun x17_0 =>
  Option.bind (rd (deI .i64) H13 (Addr.add (Addr.add p16 1) 1)) fun x17_1 =>
  Option.bind (rd deS H13 (Addr.add (Addr.add p16 1) 2)) fun x17_2 =>
  Option.bind (rd deSl H13 (Addr.add (Addr.add p16 1) 3)) fun x17_3 =>
  Option.bind (newR 28 1 #[(Value.int .i64 x17_0),(Value.int .i64 x17_1),(Value.string x17_2),(Sl3.v x17_3)] H13) fun (s18,H19) =>
  Option.bind (appS m 28 4 56 H19 v3_14 s18) fun (s20,H21) =>
  some (.next (H21,s20,(IntKind.i64.wrap (v7_15+1))))
 else
  some (.brk (H13,v3_14,v7_15))
def zh8 (_L:LC) (_m:Nat) (a0_0 a0_1 a0_2:Sl3) (v4_3 v5_6:Int) (x12_0:ByteArray) (x12_1:Sl3):(AH×Sl3×Int)→KN×Lcs:=fun (_,v3_14,v7_15)=>([kS 3 v3_14,kI 7 v7_15,kL 1 0 0,kI 4 v4_3,kI 5 v5_6,kL 6 1 0],[some (33,[(Sl3.v a0_0),(Sl3.v a0_1),(Sl3.v a0_2)]),some (50,[(Value.string x12_0),(Sl3.v x12_1)])])
noncomputable def z2x (L:LC) (m:Nat) (a0_0 a0_1 a0_2:Sl3) (v4_3:Int):(AH×Sl3×Int)→Option (Lp (AH×Sl3×Int) (Sl3×AH)):=fun (H4,v3_5,v5_6) =>
 Option.bind (idxA 2 a0_1 v4_3) fun p7 =>
 Option.bind (rd deSl H4 (Addr.add p7 1)) fun x8 =>
 if v5_6<(x8.n:Int) then
  Option.bind (idxA 2 a0_1 v4_3) fun p9 =>
  Option.bind (rd deSl H4 (Addr.add p9 1)) fun x10 =>
  Option.bind (idxA 2 x10 v5_6) fun p11 =>
  Option.bind (rd deS H4 (Addr.add p11 0)) fun x12_0 =>
  Option.bind (rd deSl H4 (Addr.add p11 1)) fun x12_1 =>
  Option.bind (L.run (z31 L m a0_0 a0_1 a0_2 v4_3 v5_6 x12_0 x12_1) (H4,v3_5,0)) fun o=>match o with
  | .inl (H22,v3_23,_) =>
   some (.next (H22,v3_23,(IntKind.i64.wrap (v5_6+1))))
  | .inr r=>some (.ret r)
 else
  some (.brk (H4,v3_5,v5_6))
def zhd (_L:LC) (_m:Nat) (a0_0 a0_1 a0_2:Sl3) (v4_3:Int):(AH×Sl3×Int)→KN×Lcs:=fun (_,v3_5,v5_6)=>([kS 3 v3_5,kI 5 v5_6,kL 1 0 0,kI 4 v4_3],[some (33,[(Sl3.v a0_0),(Sl3.v a0_1),(Sl3.v a0_2)])])
noncomputable def z2z (L:LC) (m:Nat) (a0_0 a0_1 a0_2:Sl3):(AH×Sl3×Int)→Option (Lp (AH×Sl3×Int) (Sl3×AH)):=fun (H1,v3_2,v4_3) =>
 if v4_3<(a0_1.n:Int) then
  Option.bind (L.run (z2x L m a0_0 a0_1 a0_2 v4_3) (H1,v3_2,0)) fun o=>match o with
  | .inl (H25,v3_26,_) =>
   some (.next (H25,v3_26,(IntKind.i64.wrap (v4_3+1))))
  | .inr r=>some (.ret r)
 else
  some (.brk (H1,v3_2,v4_3))
def zh4 (_L:LC) (_m:Nat) (a0_0 a0_1 a0_2:Sl3):(AH×Sl3×Int)→KN×Lcs:=fun (_,v3_2,v4_3)=>([kS 3 v3_2,kI 4 v4_3,kL 1 0 0],[some (33,[(Sl3.v a0_0),(Sl3.v a0_1),(Sl3.v a0_2)])])
noncomputable def z32 (_L:LC) (m:Nat) (_a0_0 _a0_1 a0_2:Sl3):(AH×Sl3×Int)→Option (Lp (AH×Sl3×Int) (Sl3×AH)):=fun (H31,v3_32,v8_33) =>
 if v8_33<(a0_2.n:Int) then
  Option.bind (idxA 6 a0_2 v8_33) fun p34 =>
  Option.bind (rd deSl H31 (Addr.add p34 1)) fun x35 =>
  Option.bind (appS m 28 4 56 H31 v3_32 x35) fun (s36,H37) =>
  Option.bind (idxA 6 a0_2 v8_33) fun p38 =>
  Option.bind (rd (deI .i64) H37 (Addr.add (Addr.add p38 2) 0)) fun x39_0 =>
  Option.bind (rd (deI .i64) H37 (Addr.add (Addr.add p38 2) 1)) fun x39_1 =>
  Option.bind (rd deS H37 (Addr.add (Addr.add p38 2) 2)) fun x39_2 =>
  Option.bind (rd deSl H37 (Addr.add (Addr.add p38 2) 3)) fun x39_3 =>
  Option.bind (newR 28 1 #[(Value.int .i64 x39_0),(Value.int .i64 x39_1),(Value.string x39_2),(Sl3.v x39_3)] H37) fun (s40,H41) =>
  Option.bind (appS m 28 4 56 H41 s36 s40) fun (s42,H43) =>
  some (.next (H43,s42,(IntKind.i64.wrap (v8_33+1))))
 else
  some (.brk (H31,v3_32,v8_33))
def zhb (_L:LC) (_m:Nat) (a0_0 a0_1 a0_2:Sl3):(AH×Sl3×Int)→KN×Lcs:=fun (_,v3_32,v8_33)=>([kS 3 v3_32,kI 8 v8_33,kL 1 0 0],[some (33,[(Sl3.v a0_0),(Sl3.v a0_1),(Sl3.v a0_2)])])
noncomputable def z7h (L:LC) (m:Nat) (H:AH) (a0_0 a0_1 a0_2:Sl3):Option (Sl3×AH) :=
 Option.bind (L.run (z2z L m a0_0 a0_1 a0_2) (H,Sl3.nil,0)) fun o=>match o with
 | .inl (H28,v3_29,_) =>
  Option.bind (L.run (z32 L m a0_0 a0_1 a0_2) (H28,v3_29,0)) fun o=>match o with
  | .inl (H44,v3_45,_) =>
   some (v3_45,H44)
  | .inr r=>some r
 | .inr r=>some r
theorem zab {E H L m a0_0 a0_1 a0_2 v4_3 v5_6 x12_0 x12_1} :LoopF Tryd.prog (NE.plain 1000) m E Tryd.f51 ((cfst (csnd (csnd (cfst (cfst (csnd (cfst (cfst (csnd (cfst (cfst (csnd (cfst (cfst (csnd (cfst (csnd (csnd B51))))))))))))))))))) (zh8 L m a0_0 a0_1 a0_2 v4_3 v5_6 x12_0 x12_1) (fun s=>s.1) 4 z5i (z5v H) (z31 L m a0_0 a0_1 a0_2 v4_3 v5_6 x12_0 x12_1):=by
 rintro ⟨H13,v3_14,v7_15⟩ o h
 unfold z31 at h
 try dsimp only at h
 refine WS.sq (WS.sq (WS.rg (RS.mS 5 [kB 40 (decide (v7_15<(x12_1.n:Int))),kI 39 (x12_1.n:Int),kS 38 x12_1,kL 37 1 1,kI 36 v7_15] (RS.dn (WS.nxt ?_)))))
 rcases z7 h with ⟨hp,h⟩ | ⟨hp,h⟩
 ·refine WS.fx 40 true (decide_eq_true hp) (WS.cT (WS.sk (WS.nxt (WS.sq (WS.bk 5 (WS.rg (RS.mS 4 [kI 46 v7_15,kS 45 x12_1,kL 44 1 1,kS 43 v3_14] ?_)))))))
  obtain ⟨p16,hx,h⟩:=bind_some h
  refine RS.ix 47 48 52 (.tmp 45) (.tmp 46) hx (RS.mS 1 [(48,.val (Value.pointer (some (Addr.add p16 1))))] ?_)
  obtain ⟨x17_0,hx0,h⟩:=bind_some h
  obtain ⟨x17_1,hx1,h⟩:=bind_some h
  obtain ⟨x17_2,hx2,h⟩:=bind_some h
  obtain ⟨x17_3,hx3,h⟩:=bind_some h
  refine RS.la 49 28 (.tmp 48) 4 (z9 (z8 hx0 zh) (z9 (z8 hx1 zh) (z9 (z8 hx2 zg) (z9 (z8 hx3 zb) zk)))) ?_
  obtain ⟨⟨s18,H19⟩,hx,h⟩:=bind_some h
  try dsimp only at h
  refine RS.o (H':=H19) (some 50) (Sl3.v s18) (Abs.run_newR (by kernel_rfl) (by kernel_rfl) hx) ?_
  obtain ⟨⟨s20,H21⟩,hx,h⟩:=bind_some h
  try dsimp only at h
  refine RS.o (H':=H21) (some 51) (Sl3.v s20) (Abs.run_app (x:=.tmp 43) (y:=.tmp 50) (ts:=#[26,26]) (s:=v3_14) (z:=s18) (by kernel_rfl) (by kernel_rfl) (by kernel_rfl) (by kernel_rfl) hx) (RS.mS 1 [kS 3 s20] (RS.dn ?_))
  refine fun a w hs=>bkN ((WS.nxt ?_ a w hs))
  refine WS.rg (RS.mS 3 [kI 7 (IntKind.i64.wrap (v7_15+1)),kI 42 (IntKind.i64.wrap (v7_15+1)),kI 41 v7_15] (RS.dn ?_))
  cases h
  exact fun a w hs=>lsN rfl (hs.sb 2)
 ·refine WS.fx 40 false (decide_eq_false hp) (WS.cF (WS.ex 4 ?_))
  cases h
  exact fun a w hs=>sqE (lsB rfl (hs.sb 2))
theorem zac {E H L m a0_0 a0_1 a0_2 v4_3} :LoopF Tryd.prog (NE.plain 1000) m E Tryd.f51 ((cfst (csnd (cfst (cfst (csnd (cfst (cfst (csnd (cfst (csnd (csnd B51)))))))))))) (zhd L m a0_0 a0_1 a0_2 v4_3) (fun s=>s.1) 2 z5i (z5v H) (z2x L m a0_0 a0_1 a0_2 v4_3):=by
 rintro ⟨H4,v3_5,v5_6⟩ o h
 unfold z2x at h
 try dsimp only at h
 refine WS.sq (WS.sq (WS.rg (RS.mS 4 [kI 19 v4_3,kS 18 a0_1,kL 17 0 1,kI 16 v5_6] ?_)))
 obtain ⟨p7,hx,h⟩:=bind_some h
 refine RS.ix 20 30 46 (.tmp 18) (.tmp 19) hx (RS.mS 1 [(21,.val (Value.pointer (some (Addr.add p7 1))))] ?_)
 obtain ⟨x8,hx,h⟩:=bind_some h
 refine RS.ld 22 44 (.tmp 21) (z8 hx zb) (RS.mS 2 [kB 24 (decide (v5_6<(x8.n:Int))),kI 23 (x8.n:Int)] (RS.dn (WS.nxt ?_)))
 rcases z7 h with ⟨hp,h⟩ | ⟨hp,h⟩
 ·refine WS.fx 24 true (decide_eq_true hp) (WS.cT (WS.sk (WS.nxt (WS.sq (WS.bk 3 (WS.sq (WS.rg (RS.mS 3 [kI 29 v4_3,kS 28 a0_1,kL 27 0 1] ?_))))))))
  obtain ⟨p9,hx,h⟩:=bind_some h
  refine RS.ix 30 30 46 (.tmp 28) (.tmp 29) hx (RS.mS 1 [(31,.val (Value.pointer (some (Addr.add p9 1))))] ?_)
  obtain ⟨x10,hx,h⟩:=bind_some h
  refine RS.ld 32 44 (.tmp 31) (z8 hx zb) (RS.mS 1 [kI 33 v5_6] ?_)
  obtain ⟨p11,hx,h⟩:=bind_some h
  refine RS.ix 34 44 50 (.tmp 32) (.tmp 33) hx ?_
  obtain ⟨x12_0,hx0,h⟩:=bind_some h
  obtain ⟨x12_1,hx1,h⟩:=bind_some h
  refine RS.la 35 50 (.tmp 34) 2 (z9 (z8 hx0 zg) (z9 (z8 hx1 zb) zk)) (RS.mL 2 [kL 6 1 0] ([some (33,[(Sl3.v a0_0),(Sl3.v a0_1),(Sl3.v a0_2)]),some (50,[(Value.string x12_0),(Sl3.v x12_1)])]) (RS.dn (WS.nxt (WS.sq (WS.rg (RS.mS 1 [kI 7 0] (RS.dn (WS.nxt (WS.bk 4 ?_)))))))))
  obtain ⟨o,hl,h⟩:=bind_some h
  rcases o with ⟨H22,v3_23,v7_24⟩ | r
  ·try dsimp only at h
   refine WS.lI (zab (L:=L) (E:=E) (m:=m) (H:=H)) (L.ok hl) 2 ?_
   clear hl
   refine fun a w hs=>bkE (bkN ((WS.nxt ?_ a w hs)))
   refine WS.rg (RS.mS 3 [kI 5 (IntKind.i64.wrap (v5_6+1)),kI 26 (IntKind.i64.wrap (v5_6+1)),kI 25 v5_6] (RS.dn ?_))
   cases h
   exact fun a w hs=>lsN rfl (hs.sb 1)
  ·try dsimp only at h
   refine WS.lR (zab (L:=L) (E:=E) (m:=m) (H:=H)) (L.ok hl) 2 ?_
   cases h
   exact fun a w hq=>bkR (bkR (sqR (lsR rfl hq)))
 ·refine WS.fx 24 false (decide_eq_false hp) (WS.cF (WS.ex 2 ?_))
  cases h
  exact fun a w hs=>sqE (lsB rfl (hs.sb 1))
theorem zai {E H L m a0_0 a0_1 a0_2} :LoopF Tryd.prog (NE.plain 1000) m E Tryd.f51 ((cfst (csnd (cfst (csnd (csnd B51)))))) (zh4 L m a0_0 a0_1 a0_2) (fun s=>s.1) 0 z5i (z5v H) (z2z L m a0_0 a0_1 a0_2):=by
 rintro ⟨H1,v3_2,v4_3⟩ o h
 unfold z2z at h
 try dsimp only at h
 refine WS.sq (WS.sq (WS.rg (RS.mS 5 [kB 13 (decide (v4_3<(a0_1.n:Int))),kI 12 (a0_1.n:Int),kS 11 a0_1,kL 10 0 1,kI 9 v4_3] (RS.dn (WS.nxt ?_)))))
 rcases z7 h with ⟨hp,h⟩ | ⟨hp,h⟩
 ·refine WS.fx 13 true (decide_eq_true hp) (WS.cT (WS.sk (WS.nxt (WS.sq (WS.bk 1 (WS.sq (WS.rg (RS.mS 1 [kI 5 0] (RS.dn ?_)))))))))
  refine WS.nxt (WS.bk 2 ?_)
  obtain ⟨o,hl,h⟩:=bind_some h
  rcases o with ⟨H25,v3_26,v5_27⟩ | r
  ·try dsimp only at h
   refine WS.lI (zac (L:=L) (E:=E) (m:=m) (H:=H)) (L.ok hl) 1 ?_
   clear hl
   refine fun a w hs=>bkE (bkN ((WS.nxt ?_ a w hs)))
   refine WS.rg (RS.mS 3 [kI 4 (IntKind.i64.wrap (v4_3+1)),kI 15 (IntKind.i64.wrap (v4_3+1)),kI 14 v4_3] (RS.dn ?_))
   cases h
   exact fun a w hs=>lsN rfl (hs.sb 1)
  ·try dsimp only at h
   refine WS.lR (zac (L:=L) (E:=E) (m:=m) (H:=H)) (L.ok hl) 1 ?_
   cases h
   exact fun a w hq=>bkR (bkR (sqR (lsR rfl hq)))
 ·refine WS.fx 13 false (decide_eq_false hp) (WS.cF (WS.ex 0 ?_))
  cases h
  exact fun a w hs=>sqE (lsB rfl (hs.sb 1))
theorem zaa {E H L m a0_0 a0_1 a0_2} :LoopF Tryd.prog (NE.plain 1000) m E Tryd.f51 ((cfst (csnd (cfst (csnd (csnd (csnd B51))))))) (zhb L m a0_0 a0_1 a0_2) (fun s=>s.1) 6 z5i (z5v H) (z32 L m a0_0 a0_1 a0_2):=by
 rintro ⟨H31,v3_32,v8_33⟩ o h
 unfold z32 at h
 try dsimp only at h
 refine WS.sq (WS.sq (WS.rg (RS.mS 5 [kB 56 (decide (v8_33<(a0_2.n:Int))),kI 55 (a0_2.n:Int),kS 54 a0_2,kL 53 0 2,kI 52 v8_33] (RS.dn (WS.nxt ?_)))))
 rcases z7 h with ⟨hp,h⟩ | ⟨hp,h⟩
 ·refine WS.fx 56 true (decide_eq_true hp) (WS.cT (WS.sk (WS.nxt (WS.sq (WS.bk 7 (WS.sq (WS.rg (RS.mS 4 [kI 62 v8_33,kS 61 a0_2,kL 60 0 2,kS 59 v3_32] ?_))))))))
  obtain ⟨p34,hx,h⟩:=bind_some h
  refine RS.ix 63 31 89 (.tmp 61) (.tmp 62) hx (RS.mS 1 [(64,.val (Value.pointer (some (Addr.add p34 1))))] ?_)
  obtain ⟨x35,hx,h⟩:=bind_some h
  refine RS.ld 65 26 (.tmp 64) (z8 hx zb) ?_
  obtain ⟨⟨s36,H37⟩,hx,h⟩:=bind_some h
  try dsimp only at h
  refine RS.o (H':=H37) (some 66) (Sl3.v s36) (Abs.run_app (x:=.tmp 59) (y:=.tmp 65) (ts:=#[26,26]) (s:=v3_32) (z:=x35) (by kernel_rfl) (by kernel_rfl) (by kernel_rfl) (by kernel_rfl) hx) (RS.mS 1 [kS 3 s36] (RS.dn (WS.nxt (WS.rg (RS.mS 4 [kI 70 v8_33,kS 69 a0_2,kL 68 0 2,kS 67 s36] ?_)))))
  obtain ⟨p38,hx,h⟩:=bind_some h
  refine RS.ix 71 31 89 (.tmp 69) (.tmp 70) hx (RS.mS 1 [(72,.val (Value.pointer (some (Addr.add p38 2))))] ?_)
  obtain ⟨x39_0,hx0,h⟩:=bind_some h
  obtain ⟨x39_1,hx1,h⟩:=bind_some h
  obtain ⟨x39_2,hx2,h⟩:=bind_some h
  obtain ⟨x39_3,hx3,h⟩:=bind_some h
  refine RS.la 73 28 (.tmp 72) 4 (z9 (z8 hx0 zh) (z9 (z8 hx1 zh) (z9 (z8 hx2 zg) (z9 (z8 hx3 zb) zk)))) ?_
  obtain ⟨⟨s40,H41⟩,hx,h⟩:=bind_some h
  try dsimp only at h
  refine RS.o (H':=H41) (some 74) (Sl3.v s40) (Abs.run_newR (by kernel_rfl) (by kernel_rfl) hx) ?_
  obtain ⟨⟨s42,H43⟩,hx,h⟩:=bind_some h
  try dsimp only at h
  refine RS.o (H':=H43) (some 75) (Sl3.v s42) (Abs.run_app (x:=.tmp 67) (y:=.tmp 74) (ts:=#[26,26]) (s:=s36) (z:=s40) (by kernel_rfl) (by kernel_rfl) (by kernel_rfl) (by kernel_rfl) hx) (RS.mS 1 [kS 3 s42] (RS.dn ?_))
  refine fun a w hs=>bkN ((WS.nxt ?_ a w hs))
  refine WS.rg (RS.mS 3 [kI 8 (IntKind.i64.wrap (v8_33+1)),kI 58 (IntKind.i64.wrap (v8_33+1)),kI 57 v8_33] (RS.dn ?_))
  cases h
  exact fun a w hs=>lsN rfl (hs.sb 1)
 ·refine WS.fx 56 false (decide_eq_false hp) (WS.cF (WS.ex 6 ?_))
  cases h
  exact fun a w hs=>sqE (lsB rfl (hs.sb 1))
theorem zk0 {L:LC} {m:Nat} {H:AH} {a0_0 a0_1 a0_2:Sl3} {r:(Sl3×AH)} (h:z7h L m H a0_0 a0_1 a0_2=some r) :
  CallS Tryd.prog (NE.plain 1000) m 51 #[(Value.agg #[(Sl3.v a0_0),(Sl3.v a0_1),(Sl3.v a0_2)])] H (z5i r) (z5v H r):=by
 refine CallS.mk (args:=[(Value.agg #[(Sl3.v a0_0),(Sl3.v a0_1),(Sl3.v a0_2)])]) Tryd.func51 (B:=B51) (by kernel_rfl) (fun E _=>?_)
 unfold z7h at h
 refine WS.sq (WS.rg (RS.mL 2 [kS 2 Sl3.nil,kL 1 0 0] ([some (33,[(Sl3.v a0_0),(Sl3.v a0_1),(Sl3.v a0_2)])]) (RS.dn (WS.nxt (WS.sq (WS.rg (RS.mS 1 [kS 3 Sl3.nil] (RS.dn (WS.nxt ?_)))))))))
 refine WS.sq (WS.sq (WS.rg (RS.mS 1 [kI 4 0] (RS.dn (WS.nxt (WS.bk 0 ?_))))))
 obtain ⟨o,hl,h⟩:=bind_some h
 rcases o with ⟨H28,v3_29,v4_30⟩ | r
 ·try dsimp only at h
  refine WS.lI (zai (L:=L) (E:=E) (m:=m) (H:=H)) (L.ok hl) 1 ?_
  clear hl
  refine fun a w hs=>bkE ((WS.nxt ?_ a w hs))
  refine WS.sq (WS.sq (WS.rg (RS.mS 1 [kI 8 0] (RS.dn (WS.nxt (WS.bk 6 ?_))))))
  obtain ⟨o,hl,h⟩:=bind_some h
  rcases o with ⟨H44,v3_45,v8_46⟩ | r
  ·try dsimp only at h
   refine WS.lI (zaa (L:=L) (E:=E) (m:=m) (H:=H)) (L.ok hl) 1 ?_
   clear hl
   refine fun a w hs=>bkE ((WS.nxt ?_ a w hs))
   refine WS.sq (WS.rg (RS.mS 2 [kS 2 v3_45,kS 76 v3_45] (RS.dn (WS.nxt (WS.rt ?_)))))
   cases h
   exact fun a w hs=>rtR (rS hs)
  ·try dsimp only at h
   refine WS.lR (zaa (L:=L) (E:=E) (m:=m) (H:=H)) (L.ok hl) 1 ?_
   cases h
   exact fun a w hq=>bkR (sqR (rtR hq))
 ·try dsimp only at h
  refine WS.lR (zai (L:=L) (E:=E) (m:=m) (H:=H)) (L.ok hl) 1 ?_
  cases h
  exact fun a w hq=>bkR (sqR (rtR hq))
end Go.Proofs.YtccbilfbhecdaaaDoor
namespace Go.Proofs.YtccbilfbhecdaaaDoor
open Go Go.Abs
set_option maxRecDepth 100000
def z45:AH→Value
 | _=>(Value.tuple #[])
def z4n (_:AH):AH→AH:=fun r=>r
noncomputable def B97:Code:=(Tryd.f97.body).getD .skip
noncomputable def z2v (_L:LC) (rec_ref04_stand:Nat→AH→Int→Int→ByteArray→Sl3→Sl3→Sl3→Sl3→Bool→Bool→Sl3→Option AH) (m:Nat) (a0_0 _a0_1:Int) (_a0_2:ByteArray) (a0_3 a1_0:Sl3) (a1_1 a1_2:Sl3) (a2 a3:Bool) (a4:Sl3):(AH×Int)→Option (Lp (AH×Int) AH):=fun (H6,v10_7) =>
 if v10_7<(a0_3.n:Int) then
  Option.bind (α:=AH) (
   Option.bind (idxA 4 a0_3 v10_7) fun p9 =>
   Option.bind (rd (deI .i64) H6 (Addr.add p9 0)) fun x10_0 =>
   Option.bind (rd (deI .i64) H6 (Addr.add p9 1)) fun x10_1 =>
   Option.bind (rd deS H6 (Addr.add p9 2)) fun x10_2 =>
   Option.bind (rd deSl H6 (Addr.add p9 3)) fun x10_3 =>
   if a3=true then
    Option.bind (rec_ref04_stand m H6 x10_0 x10_1 x10_2 x10_3 a1_0 a1_1 a1_2 a2 true a4) fun H11 =>
    some H11
   else
    Option.bind (rec_ref04_stand m H6 x10_0 x10_1 x10_2 x10_3 a1_0 a1_1 a1_2 a2 (decide (a0_0=4)) a4) fun H12 =>
    some H12) fun H8 =>
  some (.next (H8,(IntKind.i64.wrap (v10_7+1))))
 else
  some (.brk (H6,v10_7))
def zha (_L:LC) (_rec_ref04_stand:Nat→AH→Int→Int→ByteArray→Sl3→Sl3→Sl3→Sl3→Bool→Bool→Sl3→Option AH) (_m:Nat) (a0_0 a0_1:Int) (a0_2:ByteArray) (a0_3 a1_0:Sl3) (a1_1 a1_2:Sl3) (a2 a3:Bool) (a4:Sl3):(AH×Int)→KN×Lcs:=fun (_,v10_7)=>([kI 10 v10_7,kB 2 a2,kB 3 a3,kS 4 a4,kL 5 0 0,kL 6 1 0],[some (28,[(Value.int .i64 a0_0),(Value.int .i64 a0_1),(Value.string a0_2),(Sl3.v a0_3)]),some (33,[(Sl3.v a1_0),(Sl3.v a1_1),(Sl3.v a1_2)])])
noncomputable def z53 (L:LC) (rec_ref04_stand:Nat→AH→Int→Int→ByteArray→Sl3→Sl3→Sl3→Sl3→Bool→Bool→Sl3→Option AH) (m:Nat) (H:AH) (a0_0 a0_1:Int) (a0_2:ByteArray) (a0_3 a1_0:Sl3) (a1_1 a1_2:Sl3) (a2 a3:Bool) (a4:Sl3):Option AH :=
 Option.bind (α:=AH) (
  Option.bind (α:=Bool) (
   if a0_0=6 then
    if a2=true then
     some a3
    else
     some true
   else
    some false) fun v20_2 =>
  if v20_2=true then
   Option.bind (z3e L H a1_0 a1_1 a1_2 a0_2) fun x3 =>
   Option.bind (idxA 1 a4 x3) fun p4 =>
   Option.bind (H.setCell m p4 (Value.bool true)) fun H5 =>
   some H5
  else
   some H) fun H1 =>
 Option.bind (L.run (z2v L rec_ref04_stand m a0_0 a0_1 a0_2 a0_3 a1_0 a1_1 a1_2 a2 a3 a4) (H1,0)) fun o=>match o with
 | .inl (H13,_) =>
  some H13
 | .inr r=>some r
noncomputable def z39 (L:LC) (n:Nat):(Nat→AH→Int→Int→ByteArray→Sl3→Sl3→Sl3→Sl3→Bool→Bool→Sl3→Option AH):=Nat.rec (motive:=fun _=>(Nat→AH→Int→Int→ByteArray→Sl3→Sl3→Sl3→Sl3→Bool→Bool→Sl3→Option AH)) (fun _ _ _ _ _ _ _ _ _ _ _ _=>none) (fun _ p=>z53 L p) n
noncomputable def zd6 (L:LC) (m:Nat) (H:AH) (a0_0 a0_1:Int) (a0_2:ByteArray) (a0_3 a1_0:Sl3) (a1_1 a1_2:Sl3) (a2 a3:Bool) (a4:Sl3):Option AH:=(z39 L L.fuel) m H a0_0 a0_1 a0_2 a0_3 a1_0 a1_1 a1_2 a2 a3 a4
theorem zad {E H L rec_ref04_stand m a0_0 a0_1 a0_2 a0_3 a1_0 a1_1 a1_2 a2 a3 a4} (hrec_ref04_stand:∀(m:Nat) (H:AH) (a0_0 a0_1:Int) (a0_2:ByteArray) (a0_3 a1_0:Sl3) (a1_1 a1_2:Sl3) (a2 a3:Bool) (a4:Sl3) (r:AH),rec_ref04_stand m H a0_0 a0_1 a0_2 a0_3 a1_0 a1_1 a1_2 a2 a3 a4=some r→CallS Tryd.prog (NE.plain 1000) m 97 #[(Value.agg #[(Value.int .i64 a0_0),(Value.int .i64 a0_1),(Value.string a0_2),(Sl3.v a0_3)]),(Value.agg #[(Sl3.v a1_0),(Sl3.v a1_1),(Sl3.v a1_2)]),(Value.bool a2),(Value.bool a3),(Sl3.v a4)] H (z45 r) (z4n H r)):LoopF Tryd.prog (NE.plain 1000) m E Tryd.f97 ((cfst (csnd (csnd (csnd B97))))) (zha L rec_ref04_stand m a0_0 a0_1 a0_2 a0_3 a1_0 a1_1 a1_2 a2 a3 a4) (fun s=>s.1) 0 z45 (z4n H) (z2v L rec_ref04_stand m a0_0 a0_1 a0_2 a0_3 a1_0 a1_1 a1_2 a2 a3 a4):=by
 rintro ⟨H6,v10_7⟩ o h
 unfold z2v at h
 try dsimp only at h
 refine WS.sq (WS.sq (WS.rg (RS.mS 5 [kB 31 (decide (v10_7<(a0_3.n:Int))),kI 30 (a0_3.n:Int),kS 29 a0_3,kL 28 0 3,kI 27 v10_7] (RS.dn (WS.nxt ?_)))))
 rcases z7 h with ⟨hp,h⟩ | ⟨hp,h⟩
 ·refine WS.fx 31 true (decide_eq_true hp) (WS.cT (WS.sk (WS.nxt ?_)))
  obtain ⟨H8,hx,h⟩:=bind_some h
  refine WS.sq ?_
  refine WS.join ([kB 2 a2,kB 3 a3,kS 4 a4,kL 5 0 0,kL 6 1 0,kI 10 v10_7]) ([some (28,[(Value.int .i64 a0_0),(Value.int .i64 a0_1),(Value.string a0_2),(Sl3.v a0_3)]),some (33,[(Sl3.v a1_0),(Sl3.v a1_1),(Sl3.v a1_2)])]) H8 ?_ (fun a w hs=>WS.nxt ?_ a w hs)
  ·clear h; rename _=>h
   refine WS.bk 1 ?_
   refine WS.dr [0,1,2,3,4,5,7,8,9,10] [0,1,0,7,15,0,0,0,128,384,896,1920,3968,0,16383] 15 (fun hcl=>?_)
   refine DA.tL 0 (some 34) (.loc 0 3) (DA.tL 1 (some 35) (.val (Sl3.v a0_3)) (DA.tK 2 (some 36) (Value.int .i64 v10_7) ?_))
   obtain ⟨p9,hx,h⟩:=bind_some h
   refine DA.tD 3 (some 37) (Value.pointer (some p9)) (Abs.det_idx (s:=a0_3) (k:=.i64) (t:=26) (e:=28) (x:=.tmp 35) (y:=.tmp 36) (by kernel_rfl) (by kernel_rfl) (by kernel_rfl) (by kernel_rfl) (by kernel_rfl) hx) ?_
   obtain ⟨x10_0,hx0,h⟩:=bind_some h
   obtain ⟨x10_1,hx1,h⟩:=bind_some h
   obtain ⟨x10_2,hx2,h⟩:=bind_some h
   obtain ⟨x10_3,hx3,h⟩:=bind_some h
   refine DA.tD 4 (some 38) (Value.agg #[(Value.int .i64 x10_0),(Value.int .i64 x10_1),(Value.string x10_2),(Sl3.v x10_3)]) (Abs.det_loadA (t:=28) (x:=.tmp 37) (a:=p9) (k:=4) (by kernel_rfl) (by kernel_rfl) (by kernel_rfl) (by kernel_rfl) (z9 (z8 hx0 zh) (z9 (z8 hx1 zh) (z9 (z8 hx2 zg) (z9 (z8 hx3 zb) zk))))) (DA.tL 5 (some 39) (.val (Value.agg #[(Sl3.v a1_0),(Sl3.v a1_1),(Sl3.v a1_2)])) (DA.tK 7 (some 41) (Value.bool a3) (DA.tK 8 (some 42) (Value.bool a3) ?_)))
   rcases z7 h with ⟨hp,h⟩ | ⟨hp,h⟩
   ·refine DA.fx 42 true hp ?_
    refine DA.tskipD 9 (some 43) (by kernel_rfl) (by kernel_rfl) (by kernel_rfl) hcl (fun _ _ _ h=>h) (by kernel_rfl) ?_
    refine DA.tskipD 10 (some 44) (by kernel_rfl) (by kernel_rfl) (by kernel_rfl) hcl (fun _ _ _ h=>h) (by kernel_rfl) ?_
    refine DA.tP 6 (some 40) (Value.bool a2) (DA.tP 13 (some 47) (Sl3.v a4) (DA.on 11 (DA.askipD 11 (some 45) (by kernel_rfl) (by kernel_rfl) (by kernel_rfl) hcl (by kernel_rfl) (by kernel_rfl) (DA.tP 12 (some 46) (Value.bool true) ?_))))
    obtain ⟨H11,hx,h⟩:=bind_some h
    refine DA.on 14 (DA.aC 14 (some 48) (v:=(Value.tuple #[])) 97 #[(Value.agg #[(Value.int .i64 x10_0),(Value.int .i64 x10_1),(Value.string x10_2),(Sl3.v x10_3)]),(Value.agg #[(Sl3.v a1_0),(Sl3.v a1_1),(Sl3.v a1_2)]),(Value.bool a2),(Value.bool true),(Sl3.v a4)] (hrec_ref04_stand _ _ _ _ _ _ _ _ _ _ _ _ _ hx) (DA.dn ?_))
    cases h
    exact fun a w hs=>bkN ((jsN (hs.sb 2)))
   ·refine DA.fx 42 false (b_not hp) (DA.tL 9 (some 43) (.loc 0 0) (DA.tL 10 (some 44) (.val (Value.int .i64 a0_0)) (DA.tP 6 (some 40) (Value.bool a2) (DA.tP 13 (some 47) (Sl3.v a4) (DA.on 11 (DA.aHk (H':=H6) 11 (some 45) false (Value.bool (decide (a0_0=4))) (by kernel_rfl) (DA.tP 12 (some 46) (Value.bool (decide (a0_0=4))) ?_)))))))
    obtain ⟨H12,hx,h⟩:=bind_some h
    refine DA.on 14 (DA.aC 14 (some 48) (v:=(Value.tuple #[])) 97 #[(Value.agg #[(Value.int .i64 x10_0),(Value.int .i64 x10_1),(Value.string x10_2),(Sl3.v x10_3)]),(Value.agg #[(Sl3.v a1_0),(Sl3.v a1_1),(Sl3.v a1_2)]),(Value.bool a2),(Value.bool (decide (a0_0=4))),(Sl3.v a4)] (hrec_ref04_stand _ _ _ _ _ _ _ _ _ _ _ _ _ hx) (DA.dn ?_))
    cases h
    exact fun a w hs=>bkN ((jsN (hs.sb 2)))
  ·clear hx
   refine WS.rg (RS.mS 3 [kI 10 (IntKind.i64.wrap (v10_7+1)),kI 33 (IntKind.i64.wrap (v10_7+1)),kI 32 v10_7] (RS.dn ?_))
   cases h
   exact fun a w hs=>lsN rfl (hs.sb 2)
 ·refine WS.fx 31 false (decide_eq_false hp) (WS.cF (WS.ex 0 ?_))
  cases h
  exact fun a w hs=>sqE (lsB rfl (hs.sb 2))
theorem zfg {L:LC} {rec_ref04_stand:Nat→AH→Int→Int→ByteArray→Sl3→Sl3→Sl3→Sl3→Bool→Bool→Sl3→Option AH} (hrec_ref04_stand:∀(m:Nat) (H:AH) (a0_0 a0_1:Int) (a0_2:ByteArray) (a0_3 a1_0:Sl3) (a1_1 a1_2:Sl3) (a2 a3:Bool) (a4:Sl3) (r:AH),rec_ref04_stand m H a0_0 a0_1 a0_2 a0_3 a1_0 a1_1 a1_2 a2 a3 a4=some r→CallS Tryd.prog (NE.plain 1000) m 97 #[(Value.agg #[(Value.int .i64 a0_0),(Value.int .i64 a0_1),(Value.string a0_2),(Sl3.v a0_3)]),(Value.agg #[(Sl3.v a1_0),(Sl3.v a1_1),(Sl3.v a1_2)]),(Value.bool a2),(Value.bool a3),(Sl3.v a4)] H (z45 r) (z4n H r)) {m:Nat} {H:AH} {a0_0 a0_1:Int} {a0_2:ByteArray} {a0_3 a1_0:Sl3} {a1_1 a1_2:Sl3} {a2 a3:Bool} {a4:Sl3} {r:AH} (h:z53 L rec_ref04_stand m H a0_0 a0_1 a0_2 a0_3 a1_0 a1_1 a1_2 a2 a3 a4=some r) :
  CallS Tryd.prog (NE.plain 1000) m 97 #[(Value.agg #[(Value.int .i64 a0_0),(Value.int .i64 a0_1),(Value.string a0_2),(Sl3.v a0_3)]),(Value.agg #[(Sl3.v a1_0),(Sl3.v a1_1),(Sl3.v a1_2)]),(Value.bool a2),(Value.bool a3),(Sl3.v a4)] H (z45 r) (z4n H r):=by
 refine CallS.mk (args:=[(Value.agg #[(Value.int .i64 a0_0),(Value.int .i64 a0_1),(Value.string a0_2),(Sl3.v a0_3)]),(Value.agg #[(Sl3.v a1_0),(Sl3.v a1_1),(Sl3.v a1_2)]),(Value.bool a2),(Value.bool a3),(Sl3.v a4)]) Tryd.func97 (B:=B97) (by kernel_rfl) (fun E _=>?_)
 unfold z53 at h
 refine WS.sq (WS.rg (RS.mL 2 [kL 6 1 0,kL 5 0 0] ([some (28,[(Value.int .i64 a0_0),(Value.int .i64 a0_1),(Value.string a0_2),(Sl3.v a0_3)]),some (33,[(Sl3.v a1_0),(Sl3.v a1_1),(Sl3.v a1_2)])]) (RS.dn (WS.nxt ?_))))
 obtain ⟨H1,hx,h⟩:=bind_some h
 refine WS.sq ?_
 refine WS.join ([kB 2 a2,kB 3 a3,kS 4 a4,kL 5 0 0,kL 6 1 0]) ([some (28,[(Value.int .i64 a0_0),(Value.int .i64 a0_1),(Value.string a0_2),(Sl3.v a0_3)]),some (33,[(Sl3.v a1_0),(Sl3.v a1_1),(Sl3.v a1_2)])]) H1 ?_ (fun a w hs=>WS.nxt ?_ a w hs)
 ·clear h; rename _=>h
  obtain ⟨v20_2,hx,h⟩:=bind_some h
  refine WS.sq ?_
  refine WS.join ([kB 20 v20_2,kB 2 a2,kB 3 a3,kS 4 a4,kL 5 0 0,kL 6 1 0]) ([some (28,[(Value.int .i64 a0_0),(Value.int .i64 a0_1),(Value.string a0_2),(Sl3.v a0_3)]),some (33,[(Sl3.v a1_0),(Sl3.v a1_1),(Sl3.v a1_2)])]) H ?_ (fun a w hs=>WS.nxt ?_ a w hs)
  ·clear h; rename _=>h
   refine WS.rg (RS.mS 4 [kB 14 (decide (a0_0=6)),kB 13 (decide (a0_0=6)),kI 12 a0_0,kL 11 0 0] ?_)
   rcases z7 h with ⟨hp,h⟩ | ⟨hp,h⟩
   ·refine RS.fx 14 true (decide_eq_true hp) (RS.mS 3 [kB 17 (!a2),kB 16 (!a2),kB 15 a2] ?_)
    rcases z7 h with ⟨hp,h⟩ | ⟨hp,h⟩
    ·refine RS.fx 17 false (nb_not hp) (RS.mS 3 [kB 20 a3,kB 19 a3,kB 18 a3] (RS.dn ?_))
     cases h
     exact fun a w hs=>(jsN (hs.sb 2))
    ·refine RS.fx 17 true (z2n hp) (RS.mS 3 [kB 20 true,kB 19 true,kU 18] (RS.dn ?_))
     cases h
     exact fun a w hs=>(jsN (hs.sb 2))
   ·refine RS.fx 14 false (decide_eq_false hp) (RS.mS 6 [kB 20 false,kU 19,kU 18,kU 17,kU 16,kU 15] (RS.dn ?_))
    cases h
    exact fun a w hs=>(jsN (hs.sb 2))
  ·clear hx
   rcases z7 h with ⟨hp,h⟩ | ⟨hp,h⟩
   ·refine WS.fx 20 true hp (WS.cT (WS.rg (RS.mS 4 [kT 24 a0_2,kL 23 0 2,kA 22 #[(Sl3.v a1_0),(Sl3.v a1_1),(Sl3.v a1_2)],kS 21 a4] ?_)))
    obtain ⟨x3,hx,h⟩:=bind_some h
    refine RS.cl (some 25) (v:=(Value.int .i64 x3)) 72 #[(Value.agg #[(Sl3.v a1_0),(Sl3.v a1_1),(Sl3.v a1_2)]),(Value.string a0_2)] (z7w hx) ?_
    obtain ⟨p4,hx,h⟩:=bind_some h
    refine RS.ix 26 56 4 (.tmp 21) (.tmp 25) hx ?_
    obtain ⟨H5,hx,h⟩:=bind_some h
    refine RS.o (H':=H5) none undef (Abs.run_store1 (t:=4) (x:=.tmp 26) (y:=.const (Value.bool true)) (a:=p4) (v:=(Value.bool true)) (by kernel_rfl) (by kernel_rfl) (by kernel_rfl) (by kernel_rfl) (by kernel_rfl) hx) (RS.dn ?_)
    cases h
    exact fun a w hs=>(jsN (hs.sb 2))
   ·refine WS.fx 20 false (b_not hp) (WS.cF (WS.sk ?_))
    cases h
    exact fun a w hs=>(jsN (hs.sb 2))
 ·clear hx
  refine WS.sq (WS.rg (RS.mS 1 [kI 10 0] (RS.dn (WS.nxt (WS.bk 0 ?_)))))
  obtain ⟨o,hl,h⟩:=bind_some h
  rcases o with ⟨H13,v10_14⟩ | r
  ·try dsimp only at h
   refine WS.lI (zad (L:=L) (E:=E) (m:=m) (H:=H) hrec_ref04_stand) (L.ok hl) 2 ?_
   clear hl
   cases h
   exact fun a w hs=>bkE (rtN (rS hs))
  ·try dsimp only at h
   refine WS.lR (zad (L:=L) (E:=E) (m:=m) (H:=H) hrec_ref04_stand) (L.ok hl) 2 ?_
   cases h
   exact fun a w hq=>bkR (rtR hq)
theorem zgi {L:LC}:∀n,(∀(m:Nat) (H:AH) (a0_0 a0_1:Int) (a0_2:ByteArray) (a0_3 a1_0:Sl3) (a1_1 a1_2:Sl3) (a2 a3:Bool) (a4:Sl3) (r:AH),((z39 L n)) m H a0_0 a0_1 a0_2 a0_3 a1_0 a1_1 a1_2 a2 a3 a4=some r→CallS Tryd.prog (NE.plain 1000) m 97 #[(Value.agg #[(Value.int .i64 a0_0),(Value.int .i64 a0_1),(Value.string a0_2),(Sl3.v a0_3)]),(Value.agg #[(Sl3.v a1_0),(Sl3.v a1_1),(Sl3.v a1_2)]),(Value.bool a2),(Value.bool a3),(Sl3.v a4)] H (z45 r) (z4n H r)):=by
 intro n
 induction n with
 | zero=>exact (fun _ _ _ _ _ _ _ _ _ _ _ _ _ h=>(Option.some_ne_none _ h.symm).elim)
 | succ n ih=>exact (fun _ _ _ _ _ _ _ _ _ _ _ _ _ h=>zfg (L:=L) ih h)
theorem zkt {L:LC} {m:Nat} {H:AH} {a0_0 a0_1:Int} {a0_2:ByteArray} {a0_3 a1_0:Sl3} {a1_1 a1_2:Sl3} {a2 a3:Bool} {a4:Sl3} {r:AH} (h:zd6 L m H a0_0 a0_1 a0_2 a0_3 a1_0 a1_1 a1_2 a2 a3 a4=some r) :
  CallS Tryd.prog (NE.plain 1000) m 97 #[(Value.agg #[(Value.int .i64 a0_0),(Value.int .i64 a0_1),(Value.string a0_2),(Sl3.v a0_3)]),(Value.agg #[(Sl3.v a1_0),(Sl3.v a1_1),(Sl3.v a1_2)]),(Value.bool a2),(Value.bool a3),(Sl3.v a4)] H (z45 r) (z4n H r) :=
 (zgi _) _ _ _ _ _ _ _ _ _ _ _ _ _ h
def z80:(Sl3×AH)→Value
 | (r0,_)=>(Sl3.v r0)
def z8o (_:AH):(Sl3×AH)→AH:=fun r=>r.2
noncomputable def B83:Code:=(Tryd.f83.body).getD .skip
noncomputable def z2h (L:LC) (m:Nat) (a0_0 a0_1 a0_2:Sl3) (_a1:Int) (a2:Bool) (s1:Sl3) (_v8_4:Int) (_x10_0:ByteArray) (x10_1:Sl3):(AH×Int)→Option (Lp (AH×Int) (Sl3×AH)):=fun (H11,v10_12) =>
 if v10_12<(x10_1.n:Int) then
  Option.bind (idxA 5 x10_1 v10_12) fun p13 =>
  Option.bind (rd (deI .i64) H11 (Addr.add (Addr.add p13 1) 0)) fun x14_0 =>
  Option.bind (rd (deI .i64) H11 (Addr.add (Addr.add p13 1) 1)) fun x14_1 =>
  Option.bind (rd deS H11 (Addr.add (Addr.add p13 1) 2)) fun x14_2 =>
  Option.bind (rd deSl H11 (Addr.add (Addr.add p13 1) 3)) fun x14_3 =>
  Option.bind (zd6 L m H11 x14_0 x14_1 x14_2 x14_3 a0_0 a0_1 a0_2 a2 false s1) fun H15 =>
  some (.next (H15,(IntKind.i64.wrap (v10_12+1))))
 else
  some (.brk (H11,v10_12))
def zfp (_L:LC) (_m:Nat) (a0_0 a0_1 a0_2:Sl3) (a1:Int) (a2:Bool) (s1:Sl3) (v8_4:Int) (x10_0:ByteArray) (x10_1:Sl3):(AH×Int)→KN×Lcs:=fun (_,v10_12)=>([kI 10 v10_12,kI 1 a1,kB 2 a2,kL 3 0 0,kS 7 s1,kI 8 v8_4,kL 9 1 0],[some (33,[(Sl3.v a0_0),(Sl3.v a0_1),(Sl3.v a0_2)]),some (50,[(Value.string x10_0),(Sl3.v x10_1)])])
noncomputable def z2j (L:LC) (m:Nat) (a0_0 a0_1 a0_2:Sl3) (a1:Int) (a2:Bool) (s1:Sl3):(AH×Int)→Option (Lp (AH×Int) (Sl3×AH)):=fun (H3,v8_4) =>
 Option.bind (idxA 2 a0_1 a1) fun p5 =>
 Option.bind (rd deSl H3 (Addr.add p5 1)) fun x6 =>
 if v8_4<(x6.n:Int) then
  Option.bind (idxA 2 a0_1 a1) fun p7 =>
  Option.bind (rd deSl H3 (Addr.add p7 1)) fun x8 =>
  Option.bind (idxA 2 x8 v8_4) fun p9 =>
  Option.bind (rd deS H3 (Addr.add p9 0)) fun x10_0 =>
  Option.bind (rd deSl H3 (Addr.add p9 1)) fun x10_1 =>
  Option.bind (L.run (z2h L m a0_0 a0_1 a0_2 a1 a2 s1 v8_4 x10_0 x10_1) (H3,0)) fun o=>match o with
  | .inl (H16,_) =>
   some (.next (H16,(IntKind.i64.wrap (v8_4+1))))
  | .inr r=>some (.ret r)
 else
  some (.brk (H3,v8_4))
def zg3 (_L:LC) (_m:Nat) (a0_0 a0_1 a0_2:Sl3) (a1:Int) (a2:Bool) (s1:Sl3):(AH×Int)→KN×Lcs:=fun (_,v8_4)=>([kI 8 v8_4,kI 1 a1,kB 2 a2,kL 3 0 0,kS 7 s1],[some (33,[(Sl3.v a0_0),(Sl3.v a0_1),(Sl3.v a0_2)])])
noncomputable def z50 (L:LC) (m:Nat) (H:AH) (a0_0 a0_1 a0_2:Sl3) (a1:Int) (a2:Bool):Option (Sl3×AH) :=
 Option.bind (mkS 4 1 1 #[(Value.bool false)] H (a0_1.n:Int) (a0_1.n:Int)) fun (s1,H2) =>
 Option.bind (L.run (z2j L m a0_0 a0_1 a0_2 a1 a2 s1) (H2,0)) fun o=>match o with
 | .inl (H18,_) =>
  some (s1,H18)
 | .inr r=>some r
theorem z9q {E H L m a0_0 a0_1 a0_2 a1 a2 s1 v8_4 x10_0 x10_1} :LoopF Tryd.prog (NE.plain 1000) m E Tryd.f83 ((cfst (csnd (csnd (cfst (cfst (csnd (cfst (cfst (csnd (cfst (csnd (csnd B83))))))))))))) (zfp L m a0_0 a0_1 a0_2 a1 a2 s1 v8_4 x10_0 x10_1) (fun s=>s.1) 2 z80 (z8o H) (z2h L m a0_0 a0_1 a0_2 a1 a2 s1 v8_4 x10_0 x10_1):=by
 rintro ⟨H11,v10_12⟩ o h
 unfold z2h at h
 try dsimp only at h
 refine WS.sq (WS.sq (WS.rg (RS.mS 5 [kB 39 (decide (v10_12<(x10_1.n:Int))),kI 38 (x10_1.n:Int),kS 37 x10_1,kL 36 1 1,kI 35 v10_12] (RS.dn (WS.nxt ?_)))))
 rcases z7 h with ⟨hp,h⟩ | ⟨hp,h⟩
 ·refine WS.fx 39 true (decide_eq_true hp) (WS.cT (WS.sk (WS.nxt (WS.sq (WS.bk 3 ?_)))))
  refine WS.dr [0,1,2,3,4,5,6] [0,1,0,7,15,31,0,0,0,511] 10 (fun hcl=>?_)
  refine DA.tL 0 (some 42) (.loc 1 1) (DA.tL 1 (some 43) (.val (Sl3.v x10_1)) (DA.tK 2 (some 44) (Value.int .i64 v10_12) ?_))
  obtain ⟨p13,hx,h⟩:=bind_some h
  refine DA.tD 3 (some 45) (Value.pointer (some p13)) (Abs.det_idx (s:=x10_1) (k:=.i64) (t:=48) (e:=52) (x:=.tmp 43) (y:=.tmp 44) (by kernel_rfl) (by kernel_rfl) (by kernel_rfl) (by kernel_rfl) (by kernel_rfl) hx) (DA.tK 4 (some 46) (Value.pointer (some (Addr.add p13 1))) ?_)
  obtain ⟨x14_0,hx0,h⟩:=bind_some h
  obtain ⟨x14_1,hx1,h⟩:=bind_some h
  obtain ⟨x14_2,hx2,h⟩:=bind_some h
  obtain ⟨x14_3,hx3,h⟩:=bind_some h
  refine DA.tD 5 (some 47) (Value.agg #[(Value.int .i64 x14_0),(Value.int .i64 x14_1),(Value.string x14_2),(Sl3.v x14_3)]) (Abs.det_loadA (t:=28) (x:=.tmp 46) (a:=(Addr.add p13 1)) (k:=4) (by kernel_rfl) (by kernel_rfl) (by kernel_rfl) (by kernel_rfl) (z9 (z8 hx0 zh) (z9 (z8 hx1 zh) (z9 (z8 hx2 zg) (z9 (z8 hx3 zb) zk))))) (DA.tL 6 (some 48) (.val (Value.agg #[(Sl3.v a0_0),(Sl3.v a0_1),(Sl3.v a0_2)])) (DA.tP 7 (some 49) (Value.bool a2) (DA.tP 8 (some 50) (Sl3.v s1) ?_)))
  obtain ⟨H15,hx,h⟩:=bind_some h
  refine DA.on 9 (DA.aC 9 (some 51) (v:=(Value.tuple #[])) 97 #[(Value.agg #[(Value.int .i64 x14_0),(Value.int .i64 x14_1),(Value.string x14_2),(Sl3.v x14_3)]),(Value.agg #[(Sl3.v a0_0),(Sl3.v a0_1),(Sl3.v a0_2)]),(Value.bool a2),(Value.bool false),(Sl3.v s1)] (zkt hx) (DA.dn ?_))
  refine fun a w hs=>bkN ((WS.nxt ?_ a w hs))
  refine WS.rg (RS.mS 3 [kI 10 (IntKind.i64.wrap (v10_12+1)),kI 41 (IntKind.i64.wrap (v10_12+1)),kI 40 v10_12] (RS.dn ?_))
  cases h
  exact fun a w hs=>lsN rfl (hs.sb 2)
 ·refine WS.fx 39 false (decide_eq_false hp) (WS.cF (WS.ex 2 ?_))
  cases h
  exact fun a w hs=>sqE (lsB rfl (hs.sb 2))
theorem z9o {E H L m a0_0 a0_1 a0_2 a1 a2 s1} :LoopF Tryd.prog (NE.plain 1000) m E Tryd.f83 ((cfst (csnd (cfst (csnd (csnd B83)))))) (zg3 L m a0_0 a0_1 a0_2 a1 a2 s1) (fun s=>s.1) 0 z80 (z8o H) (z2j L m a0_0 a0_1 a0_2 a1 a2 s1):=by
 rintro ⟨H3,v8_4⟩ o h
 unfold z2j at h
 try dsimp only at h
 refine WS.sq (WS.sq (WS.rg (RS.mS 4 [kI 18 a1,kS 17 a0_1,kL 16 0 1,kI 15 v8_4] ?_)))
 obtain ⟨p5,hx,h⟩:=bind_some h
 refine RS.ix 19 30 46 (.tmp 17) (.tmp 18) hx (RS.mS 1 [(20,.val (Value.pointer (some (Addr.add p5 1))))] ?_)
 obtain ⟨x6,hx,h⟩:=bind_some h
 refine RS.ld 21 44 (.tmp 20) (z8 hx zb) (RS.mS 2 [kB 23 (decide (v8_4<(x6.n:Int))),kI 22 (x6.n:Int)] (RS.dn (WS.nxt ?_)))
 rcases z7 h with ⟨hp,h⟩ | ⟨hp,h⟩
 ·refine WS.fx 23 true (decide_eq_true hp) (WS.cT (WS.sk (WS.nxt (WS.sq (WS.bk 1 (WS.sq (WS.rg (RS.mS 3 [kI 28 a1,kS 27 a0_1,kL 26 0 1] ?_))))))))
  obtain ⟨p7,hx,h⟩:=bind_some h
  refine RS.ix 29 30 46 (.tmp 27) (.tmp 28) hx (RS.mS 1 [(30,.val (Value.pointer (some (Addr.add p7 1))))] ?_)
  obtain ⟨x8,hx,h⟩:=bind_some h
  refine RS.ld 31 44 (.tmp 30) (z8 hx zb) (RS.mS 1 [kI 32 v8_4] ?_)
  obtain ⟨p9,hx,h⟩:=bind_some h
  refine RS.ix 33 44 50 (.tmp 31) (.tmp 32) hx ?_
  obtain ⟨x10_0,hx0,h⟩:=bind_some h
  obtain ⟨x10_1,hx1,h⟩:=bind_some h
  refine RS.la 34 50 (.tmp 33) 2 (z9 (z8 hx0 zg) (z9 (z8 hx1 zb) zk)) (RS.mL 2 [kL 9 1 0] ([some (33,[(Sl3.v a0_0),(Sl3.v a0_1),(Sl3.v a0_2)]),some (50,[(Value.string x10_0),(Sl3.v x10_1)])]) (RS.dn (WS.nxt (WS.sq (WS.rg (RS.mS 1 [kI 10 0] (RS.dn (WS.nxt (WS.bk 2 ?_)))))))))
  obtain ⟨o,hl,h⟩:=bind_some h
  rcases o with ⟨H16,v10_17⟩ | r
  ·try dsimp only at h
   refine WS.lI (z9q (L:=L) (E:=E) (m:=m) (H:=H)) (L.ok hl) 2 ?_
   clear hl
   refine fun a w hs=>bkE (bkN ((WS.nxt ?_ a w hs)))
   refine WS.rg (RS.mS 3 [kI 8 (IntKind.i64.wrap (v8_4+1)),kI 25 (IntKind.i64.wrap (v8_4+1)),kI 24 v8_4] (RS.dn ?_))
   cases h
   exact fun a w hs=>lsN rfl (hs.sb 1)
  ·try dsimp only at h
   refine WS.lR (z9q (L:=L) (E:=E) (m:=m) (H:=H)) (L.ok hl) 2 ?_
   cases h
   exact fun a w hq=>bkR (bkR (sqR (lsR rfl hq)))
 ·refine WS.fx 23 false (decide_eq_false hp) (WS.cF (WS.ex 0 ?_))
  cases h
  exact fun a w hs=>sqE (lsB rfl (hs.sb 1))
theorem z8r {L:LC} {m:Nat} {H:AH} {a0_0 a0_1 a0_2:Sl3} {a1:Int} {a2:Bool} {r:(Sl3×AH)} (h:z50 L m H a0_0 a0_1 a0_2 a1 a2=some r) :
  CallS Tryd.prog (NE.plain 1000) m 83 #[(Value.agg #[(Sl3.v a0_0),(Sl3.v a0_1),(Sl3.v a0_2)]),(Value.int .i64 a1),(Value.bool a2)] H (z80 r) (z8o H r):=by
 refine CallS.mk (args:=[(Value.agg #[(Sl3.v a0_0),(Sl3.v a0_1),(Sl3.v a0_2)]),(Value.int .i64 a1),(Value.bool a2)]) Tryd.func83 (B:=B83) (by kernel_rfl) (fun E _=>?_)
 unfold z50 at h
 refine WS.sq (WS.rg (RS.mL 2 [kS 6 Sl3.nil,kL 3 0 0] ([some (33,[(Sl3.v a0_0),(Sl3.v a0_1),(Sl3.v a0_2)])]) (RS.dn (WS.nxt (WS.sq (WS.rg (RS.mS 3 [kI 13 (a0_1.n:Int),kS 12 a0_1,kL 11 0 1] ?_)))))))
 obtain ⟨⟨s1,H2⟩,hx,h⟩:=bind_some h
 try dsimp only at h
 refine RS.o (H':=H2) (some 14) (Sl3.v s1) (Abs.run_mk (t:=56) (x:=.tmp 13) (y:=.tmp 13) (k1:=.i64) (k2:=.i64) (by kernel_rfl) (by kernel_rfl) (by kernel_rfl) (by kernel_rfl) hx) (RS.mS 1 [kS 7 s1] (RS.dn (WS.nxt (WS.sq (WS.sq (WS.rg (RS.mS 1 [kI 8 0] (RS.dn (WS.nxt ?_)))))))))
 refine WS.bk 0 ?_
 obtain ⟨o,hl,h⟩:=bind_some h
 rcases o with ⟨H18,v8_19⟩ | r
 ·try dsimp only at h
  refine WS.lI (z9o (L:=L) (E:=E) (m:=m) (H:=H)) (L.ok hl) 1 ?_
  clear hl
  refine fun a w hs=>bkE ((WS.nxt ?_ a w hs))
  refine WS.sq (WS.rg (RS.mS 2 [kS 6 s1,kS 52 s1] (RS.dn (WS.nxt (WS.rt ?_)))))
  cases h
  exact fun a w hs=>rtR (rS hs)
 ·try dsimp only at h
  refine WS.lR (z9o (L:=L) (E:=E) (m:=m) (H:=H)) (L.ok hl) 1 ?_
  cases h
  exact fun a w hq=>bkR (sqR (rtR hq))
def z6g:(Sl3×AH)→Value
 | (r0,_)=>(Sl3.v r0)
def z7c (_:AH):(Sl3×AH)→AH:=fun r=>r.2
noncomputable def B84:Code:=(Tryd.f84.body).getD .skip
noncomputable def z1o (_L:LC) (m:Nat) (_a0_0 _a0_1:Sl3) (_a0_2 x1:Sl3) (_v7_7:Int) (x12:Sl3):(AH×Bool×Int)→Option (Lp (AH×Bool×Int) (Sl3×AH)):=fun (H14,v6_15,v9_16) =>
 if v9_16<(x12.n:Int) then
  Option.bind (α:=(AH×Bool)) (
   Option.bind (α:=Bool) (
    Option.bind (idxA 1 x12 v9_16) fun p20 =>
    Option.bind (rd deB H14 p20) fun x21 =>
    if x21=true then
     Option.bind (idxA 1 x1 v9_16) fun p22 =>
     Option.bind (rd deB H14 p22) fun x23 =>
     some (!x23)
    else
     some false) fun v44_19 =>
   if v44_19=true then
    Option.bind (idxA 1 x1 v9_16) fun p24 =>
    Option.bind (H14.setCell m p24 (Value.bool true)) fun H25 =>
    some (H25,true)
   else
    some (H14,v6_15)) fun (H17,v6_18) =>
  some (.next (H17,v6_18,(IntKind.i64.wrap (v9_16+1))))
 else
  some (.brk (H14,v6_15,v9_16))
def zh6 (_L:LC) (_m:Nat) (a0_0 a0_1:Sl3) (a0_2 x1:Sl3) (v7_7:Int) (x12:Sl3):(AH×Bool×Int)→KN×Lcs:=fun (_,v6_15,v9_16)=>([kB 6 v6_15,kI 9 v9_16,kL 2 0 0,kS 5 x1,kI 7 v7_7,kS 8 x12],[some (33,[(Sl3.v a0_0),(Sl3.v a0_1),(Sl3.v a0_2)])])
noncomputable def z1l (L:LC) (m:Nat) (a0_0 a0_1:Sl3) (a0_2 x1:Sl3):(AH×Bool×Int)→Option (Lp (AH×Bool×Int) (Sl3×AH)):=fun (H5,v6_6,v7_7) =>
 if v7_7<(x1.n:Int) then
  Option.bind (α:=(AH×Bool)) (
   Option.bind (idxA 1 x1 v7_7) fun p10 =>
   Option.bind (rd deB H5 p10) fun x11 =>
   if x11=true then
    Option.bind (z50 L m H5 a0_0 a0_1 a0_2 v7_7 false) fun (x12,H13) =>
    Option.bind (L.run (z1o L m a0_0 a0_1 a0_2 x1 v7_7 x12) (H13,v6_6,0)) fun o=>match o with
    | .inl (H26,v6_27,_) =>
     some (H26,v6_27)
    | .inr _=>none
   else
    some (H5,v6_6)) fun (H8,v6_9) =>
  some (.next (H8,v6_9,(IntKind.i64.wrap (v7_7+1))))
 else
  some (.brk (H5,v6_6,v7_7))
def zh9 (_L:LC) (_m:Nat) (a0_0 a0_1:Sl3) (a0_2 x1:Sl3):(AH×Bool×Int)→KN×Lcs:=fun (_,v6_6,v7_7)=>([kB 6 v6_6,kI 7 v7_7,kL 2 0 0,kS 5 x1],[some (33,[(Sl3.v a0_0),(Sl3.v a0_1),(Sl3.v a0_2)])])
noncomputable def z33 (L:LC) (m:Nat) (a0_0 a0_1:Sl3) (a0_2 x1:Sl3):(AH×Bool)→Option (Lp (AH×Bool) (Sl3×AH)):=fun (H3,v6_4) =>
 if v6_4=true then
  Option.bind (L.run (z1l L m a0_0 a0_1 a0_2 x1) (H3,false,0)) fun o=>match o with
  | .inl (H29,v6_30,_) =>
   some (.next (H29,v6_30))
  | .inr r=>some (.ret r)
 else
  some (.brk (H3,v6_4))
def zhf (_L:LC) (_m:Nat) (a0_0 a0_1:Sl3) (a0_2 x1:Sl3):(AH×Bool)→KN×Lcs:=fun (_,v6_4)=>([kB 6 v6_4,kL 2 0 0,kS 5 x1],[some (33,[(Sl3.v a0_0),(Sl3.v a0_1),(Sl3.v a0_2)])])
noncomputable def z7i (L:LC) (m:Nat) (H:AH) (a0_0 a0_1 a0_2:Sl3) (a1:Int):Option (Sl3×AH) :=
 Option.bind (z50 L m H a0_0 a0_1 a0_2 a1 false) fun (x1,H2) =>
 Option.bind (L.run (z33 L m a0_0 a0_1 a0_2 x1) (H2,true)) fun o=>match o with
 | .inl (H32,_) =>
  some (x1,H32)
 | .inr r=>some r
theorem zan {E H L m a0_0 a0_1 a0_2 x1 v7_7 x12} :LoopF Tryd.prog (NE.plain 1000) m E Tryd.f84 ((cfst (csnd (csnd (csnd (cfst (cfst (csnd (cfst (cfst (csnd (csnd (cfst (csnd (cfst (cfst (cfst (csnd (csnd (csnd B84)))))))))))))))))))) (zh6 L m a0_0 a0_1 a0_2 x1 v7_7 x12) (fun s=>s.1) 4 z6g (z7c H) (z1o L m a0_0 a0_1 a0_2 x1 v7_7 x12):=by
 rintro ⟨H14,v6_15,v9_16⟩ o h
 unfold z1o at h
 try dsimp only at h
 refine WS.sq (WS.sq (WS.rg (RS.mS 4 [kB 31 (decide (v9_16<(x12.n:Int))),kI 30 (x12.n:Int),kS 29 x12,kI 28 v9_16] (RS.dn (WS.nxt ?_)))))
 rcases z7 h with ⟨hp,h⟩ | ⟨hp,h⟩
 ·refine WS.fx 31 true (decide_eq_true hp) (WS.cT (WS.sk (WS.nxt ?_)))
  obtain ⟨⟨H17,v6_18⟩,hx,h⟩:=bind_some h
  try dsimp only at h
  refine WS.sq ?_
  refine WS.join ([kB 6 v6_18,kL 2 0 0,kS 5 x1,kI 7 v7_7,kS 8 x12,kI 9 v9_16]) ([some (33,[(Sl3.v a0_0),(Sl3.v a0_1),(Sl3.v a0_2)])]) H17 ?_ (fun a w hs=>WS.nxt ?_ a w hs)
  ·clear h; rename _=>h
   refine WS.bk 5 ?_
   obtain ⟨v44_19,hx,h⟩:=bind_some h
   refine WS.sq ?_
   refine WS.join ([kB 44 v44_19,kL 2 0 0,kS 5 x1,kB 6 v6_15,kI 7 v7_7,kS 8 x12,kI 9 v9_16]) ([some (33,[(Sl3.v a0_0),(Sl3.v a0_1),(Sl3.v a0_2)])]) H14 ?_ (fun a w hs=>WS.nxt ?_ a w hs)
   ·clear h; rename _=>h
    refine WS.rg (RS.mS 2 [kI 35 v9_16,kS 34 x12] ?_)
    obtain ⟨p20,hx,h⟩:=bind_some h
    refine RS.ix 36 56 4 (.tmp 34) (.tmp 35) hx ?_
    obtain ⟨x21,hx,h⟩:=bind_some h
    refine RS.ld 37 4 (.tmp 36) (z8 hx z3t) (RS.mS 1 [kB 38 x21] ?_)
    rcases z7 h with ⟨hp,h⟩ | ⟨hp,h⟩
    ·refine RS.fx 38 true hp (RS.mS 2 [kI 40 v9_16,kS 39 x1] ?_)
     obtain ⟨p22,hx,h⟩:=bind_some h
     refine RS.ix 41 56 4 (.tmp 39) (.tmp 40) hx ?_
     obtain ⟨x23,hx,h⟩:=bind_some h
     refine RS.ld 42 4 (.tmp 41) (z8 hx z3t) (RS.mS 2 [kB 44 (!x23),kB 43 (!x23)] (RS.dn ?_))
     cases h
     exact fun a w hs=>(jsN (hs.sb 1))
    ·refine RS.fx 38 false (b_not hp) (RS.mS 6 [kB 44 false,kU 43,kU 42,kU 41,kU 40,kU 39] (RS.dn ?_))
     cases h
     exact fun a w hs=>(jsN (hs.sb 1))
   ·clear hx
    rcases z7 h with ⟨hp,h⟩ | ⟨hp,h⟩
    ·refine WS.fx 44 true hp (WS.cT (WS.sq (WS.rg (RS.mS 2 [kI 46 v9_16,kS 45 x1] ?_))))
     obtain ⟨p24,hx,h⟩:=bind_some h
     refine RS.ix 47 56 4 (.tmp 45) (.tmp 46) hx ?_
     obtain ⟨H25,hx,h⟩:=bind_some h
     refine RS.o (H':=H25) none undef (Abs.run_store1 (t:=4) (x:=.tmp 47) (y:=.const (Value.bool true)) (a:=p24) (v:=(Value.bool true)) (by kernel_rfl) (by kernel_rfl) (by kernel_rfl) (by kernel_rfl) (by kernel_rfl) hx) (RS.dn (WS.nxt (WS.rg (RS.mS 1 [kB 6 true] (RS.dn ?_)))))
     cases h
     exact fun a w hs=>bkN ((jsN (hs.sb 1)))
    ·refine WS.fx 44 false (b_not hp) (WS.cF (WS.sk ?_))
     cases h
     exact fun a w hs=>bkN ((jsN (hs.sb 1)))
  ·clear hx
   refine WS.rg (RS.mS 3 [kI 9 (IntKind.i64.wrap (v9_16+1)),kI 33 (IntKind.i64.wrap (v9_16+1)),kI 32 v9_16] (RS.dn ?_))
   cases h
   exact fun a w hs=>lsN rfl (hs.sb 1)
 ·refine WS.fx 31 false (decide_eq_false hp) (WS.cF (WS.ex 4 ?_))
  cases h
  exact fun a w hs=>sqE (lsB rfl (hs.sb 1))
theorem zak {E H L m a0_0 a0_1 a0_2 x1} :LoopF Tryd.prog (NE.plain 1000) m E Tryd.f84 ((cfst (csnd (csnd (cfst (csnd (cfst (cfst (cfst (csnd (csnd (csnd B84)))))))))))) (zh9 L m a0_0 a0_1 a0_2 x1) (fun s=>s.1) 2 z6g (z7c H) (z1l L m a0_0 a0_1 a0_2 x1):=by
 rintro ⟨H5,v6_6,v7_7⟩ o h
 unfold z1l at h
 try dsimp only at h
 refine WS.sq (WS.sq (WS.rg (RS.mS 4 [kB 17 (decide (v7_7<(x1.n:Int))),kI 16 (x1.n:Int),kS 15 x1,kI 14 v7_7] (RS.dn (WS.nxt ?_)))))
 rcases z7 h with ⟨hp,h⟩ | ⟨hp,h⟩
 ·refine WS.fx 17 true (decide_eq_true hp) (WS.cT (WS.sk (WS.nxt ?_)))
  obtain ⟨⟨H8,v6_9⟩,hx,h⟩:=bind_some h
  try dsimp only at h
  refine WS.sq ?_
  refine WS.join ([kB 6 v6_9,kL 2 0 0,kS 5 x1,kI 7 v7_7]) ([some (33,[(Sl3.v a0_0),(Sl3.v a0_1),(Sl3.v a0_2)])]) H8 ?_ (fun a w hs=>WS.nxt ?_ a w hs)
  ·clear h; rename _=>h
   refine WS.bk 3 (WS.sq (WS.sq (WS.rg (RS.mS 2 [kI 21 v7_7,kS 20 x1] ?_))))
   obtain ⟨p10,hx,h⟩:=bind_some h
   refine RS.ix 22 56 4 (.tmp 20) (.tmp 21) hx ?_
   obtain ⟨x11,hx,h⟩:=bind_some h
   refine RS.ld 23 4 (.tmp 22) (z8 hx z3t) (RS.mS 1 [kB 24 (!x11)] (RS.dn (WS.nxt ?_)))
   rcases z7 h with ⟨hp,h⟩ | ⟨hp,h⟩
   ·refine WS.fx 24 false (nb_not hp) (WS.cF (WS.sk (WS.nxt (WS.sq (WS.rg (RS.mS 2 [kI 26 v7_7,kA 25 #[(Sl3.v a0_0),(Sl3.v a0_1),(Sl3.v a0_2)]] ?_))))))
    obtain ⟨⟨x12,H13⟩,hx,h⟩:=bind_some h
    try dsimp only at h
    refine RS.cl (some 27) (v:=(Sl3.v x12)) 83 #[(Value.agg #[(Sl3.v a0_0),(Sl3.v a0_1),(Sl3.v a0_2)]),(Value.int .i64 v7_7),(Value.bool false)] (z8r hx) (RS.mS 1 [kS 8 x12] (RS.dn (WS.nxt (WS.sq (WS.rg (RS.mS 1 [kI 9 0] (RS.dn (WS.nxt (WS.bk 4 ?_)))))))))
    obtain ⟨o,hl,h⟩:=bind_some h
    rcases o with ⟨H26,v6_27,v9_28⟩ | r
    ·try dsimp only at h
     refine WS.lI (zan (L:=L) (E:=E) (m:=m) (H:=H)) (L.ok hl) 1 ?_
     clear hl
     cases h
     exact fun a w hs=>bkE (bkN ((jsN (hs.sb 1))))
    ·try dsimp only at h
     refine WS.lR (zan (L:=L) (E:=E) (m:=m) (H:=H)) (L.ok hl) 1 ?_
     cases h
   ·refine WS.fx 24 true (z2n hp) (WS.cT (WS.ex 3 ?_))
    cases h
    exact fun a w hs=>sqE (bkE ((jsN (hs.sb 1))))
  ·clear hx
   refine WS.rg (RS.mS 3 [kI 7 (IntKind.i64.wrap (v7_7+1)),kI 19 (IntKind.i64.wrap (v7_7+1)),kI 18 v7_7] (RS.dn ?_))
   cases h
   exact fun a w hs=>lsN rfl (hs.sb 1)
 ·refine WS.fx 17 false (decide_eq_false hp) (WS.cF (WS.ex 2 ?_))
  cases h
  exact fun a w hs=>sqE (lsB rfl (hs.sb 1))
theorem zal {E H L m a0_0 a0_1 a0_2 x1} :LoopF Tryd.prog (NE.plain 1000) m E Tryd.f84 ((cfst (cfst (csnd (csnd (csnd B84)))))) (zhf L m a0_0 a0_1 a0_2 x1) (fun s=>s.1) 0 z6g (z7c H) (z33 L m a0_0 a0_1 a0_2 x1):=by
 rintro ⟨H3,v6_4⟩ o h
 unfold z33 at h
 try dsimp only at h
 refine WS.sq (WS.sq (WS.rg (RS.mS 1 [kB 13 v6_4] (RS.dn (WS.nxt ?_)))))
 rcases z7 h with ⟨hp,h⟩ | ⟨hp,h⟩
 ·refine WS.fx 13 true hp (WS.cT (WS.sk (WS.nxt (WS.bk 1 (WS.sq (WS.rg (RS.mS 1 [kB 6 false] (RS.dn (WS.nxt ?_)))))))))
  refine WS.sq (WS.rg (RS.mS 1 [kI 7 0] (RS.dn (WS.nxt (WS.bk 2 ?_)))))
  obtain ⟨o,hl,h⟩:=bind_some h
  rcases o with ⟨H29,v6_30,v7_31⟩ | r
  ·try dsimp only at h
   refine WS.lI (zak (L:=L) (E:=E) (m:=m) (H:=H)) (L.ok hl) 1 ?_
   clear hl
   cases h
   exact fun a w hs=>bkE (bkN (lsN rfl (hs.sb 1)))
  ·try dsimp only at h
   refine WS.lR (zak (L:=L) (E:=E) (m:=m) (H:=H)) (L.ok hl) 1 ?_
   cases h
   exact fun a w hq=>bkR (bkR (lsR rfl hq))
 ·refine WS.fx 13 false (b_not hp) (WS.cF (WS.ex 0 ?_))
  cases h
  exact fun a w hs=>sqE (lsB rfl (hs.sb 1))
theorem zke {L:LC} {m:Nat} {H:AH} {a0_0 a0_1 a0_2:Sl3} {a1:Int} {r:(Sl3×AH)} (h:z7i L m H a0_0 a0_1 a0_2 a1=some r) :
  CallS Tryd.prog (NE.plain 1000) m 84 #[(Value.agg #[(Sl3.v a0_0),(Sl3.v a0_1),(Sl3.v a0_2)]),(Value.int .i64 a1)] H (z6g r) (z7c H r):=by
 refine CallS.mk (args:=[(Value.agg #[(Sl3.v a0_0),(Sl3.v a0_1),(Sl3.v a0_2)]),(Value.int .i64 a1)]) Tryd.func84 (B:=B84) (by kernel_rfl) (fun E _=>?_)
 unfold z7i at h
 refine WS.sq (WS.rg (RS.mL 2 [kS 4 Sl3.nil,kL 2 0 0] ([some (33,[(Sl3.v a0_0),(Sl3.v a0_1),(Sl3.v a0_2)])]) (RS.dn (WS.nxt (WS.sq (WS.rg (RS.mS 2 [kI 11 a1,kA 10 #[(Sl3.v a0_0),(Sl3.v a0_1),(Sl3.v a0_2)]] ?_)))))))
 obtain ⟨⟨x1,H2⟩,hx,h⟩:=bind_some h
 try dsimp only at h
 refine RS.cl (some 12) (v:=(Sl3.v x1)) 83 #[(Value.agg #[(Sl3.v a0_0),(Sl3.v a0_1),(Sl3.v a0_2)]),(Value.int .i64 a1),(Value.bool false)] (z8r hx) (RS.mS 1 [kS 5 x1] (RS.dn (WS.nxt (WS.sq (WS.rg (RS.mS 1 [kB 6 true] (RS.dn (WS.nxt (WS.sq ?_)))))))))
 refine WS.bk 0 ?_
 obtain ⟨o,hl,h⟩:=bind_some h
 rcases o with ⟨H32,v6_33⟩ | r
 ·try dsimp only at h
  refine WS.lI (zal (L:=L) (E:=E) (m:=m) (H:=H)) (L.ok hl) 1 ?_
  clear hl
  refine fun a w hs=>bkE ((WS.nxt ?_ a w hs))
  refine WS.sq (WS.rg (RS.mS 2 [kS 4 x1,kS 48 x1] (RS.dn (WS.nxt (WS.rt ?_)))))
  cases h
  exact fun a w hs=>rtR (rS hs)
 ·try dsimp only at h
  refine WS.lR (zal (L:=L) (E:=E) (m:=m) (H:=H)) (L.ok hl) 1 ?_
  cases h
  exact fun a w hq=>bkR (sqR (rtR hq))
def zbm:(Bool×AH)→Value
 | (r0,_)=>(Value.bool r0)
def zc5 (_:AH):(Bool×AH)→AH:=fun r=>r.2
noncomputable def B52:Code:=(Tryd.f52.body).getD .skip
noncomputable def z1p (L:LC) (m:Nat) (a0_0 a0_1 a0_2:Sl3) (a1:Int) (x1:Sl3):(AH×Int)→Option (Lp (AH×Int) (Bool×AH)):=fun (H3,v6_4) =>
 if v6_4<(x1.n:Int) then
  Option.bind (α:=(AH×Bool)) (
   Option.bind (idxA 1 x1 v6_4) fun p7 =>
   Option.bind (rd deB H3 p7) fun x8 =>
   if x8=true then
    if v6_4=a1 then
     some (H3,true)
    else
     Option.bind (z7i L m H3 a0_0 a0_1 a0_2 v6_4) fun (x9,H10) =>
     Option.bind (idxA 1 x9 a1) fun p11 =>
     Option.bind (rd deB H10 p11) fun x12 =>
     some (H10,x12)
   else
    some (H3,false)) fun (H5,v32_6) =>
  if v32_6=true then
   some (.ret (true,H5))
  else
   some (.next (H5,(IntKind.i64.wrap (v6_4+1))))
 else
  some (.brk (H3,v6_4))
def zgh (_L:LC) (_m:Nat) (a0_0 a0_1 a0_2:Sl3) (a1:Int) (x1:Sl3):(AH×Int)→KN×Lcs:=fun (_,v6_4)=>([kI 6 v6_4,kI 1 a1,kL 2 0 0,kS 5 x1],[some (33,[(Sl3.v a0_0),(Sl3.v a0_1),(Sl3.v a0_2)])])
noncomputable def z72 (L:LC) (m:Nat) (H:AH) (a0_0 a0_1 a0_2:Sl3) (a1:Int):Option (Bool×AH) :=
 Option.bind (z50 L m H a0_0 a0_1 a0_2 a1 true) fun (x1,H2) =>
 Option.bind (L.run (z1p L m a0_0 a0_1 a0_2 a1 x1) (H2,0)) fun o=>match o with
 | .inl (H13,_) =>
  some (false,H13)
 | .inr r=>some r
theorem z9s {E H L m a0_0 a0_1 a0_2 a1 x1} :LoopF Tryd.prog (NE.plain 1000) m E Tryd.f52 ((cfst (csnd (cfst (csnd (csnd B52)))))) (zgh L m a0_0 a0_1 a0_2 a1 x1) (fun s=>s.1) 0 zbm (zc5 H) (z1p L m a0_0 a0_1 a0_2 a1 x1):=by
 rintro ⟨H3,v6_4⟩ o h
 unfold z1p at h
 try dsimp only at h
 refine WS.sq (WS.sq (WS.rg (RS.mS 4 [kB 13 (decide (v6_4<(x1.n:Int))),kI 12 (x1.n:Int),kS 11 x1,kI 10 v6_4] (RS.dn (WS.nxt ?_)))))
 rcases z7 h with ⟨hp,h⟩ | ⟨hp,h⟩
 ·refine WS.fx 13 true (decide_eq_true hp) (WS.cT (WS.sk (WS.nxt (WS.sq (WS.bk 1 ?_)))))
  obtain ⟨⟨H5,v32_6⟩,hx,h⟩:=bind_some h
  try dsimp only at h
  refine WS.sq ?_
  refine WS.join ([kB 32 v32_6,kI 1 a1,kL 2 0 0,kS 5 x1,kI 6 v6_4]) ([some (33,[(Sl3.v a0_0),(Sl3.v a0_1),(Sl3.v a0_2)])]) H5 ?_ (fun a w hs=>WS.nxt ?_ a w hs)
  ·clear h; rename _=>h
   refine WS.rg (RS.mS 2 [kI 17 v6_4,kS 16 x1] ?_)
   obtain ⟨p7,hx,h⟩:=bind_some h
   refine RS.ix 18 56 4 (.tmp 16) (.tmp 17) hx ?_
   obtain ⟨x8,hx,h⟩:=bind_some h
   refine RS.ld 19 4 (.tmp 18) (z8 hx z3t) (RS.mS 1 [kB 20 x8] ?_)
   rcases z7 h with ⟨hp,h⟩ | ⟨hp,h⟩
   ·refine RS.fx 20 true hp (RS.mS 4 [kB 24 (decide (v6_4=a1)),kB 23 (decide (v6_4=a1)),kI 22 a1,kI 21 v6_4] ?_)
    rcases z7 h with ⟨hp,h⟩ | ⟨hp,h⟩
    ·refine RS.fx 24 true (decide_eq_true hp) (RS.mS 8 [kB 32 true,kB 31 true,kU 30,kU 29,kU 28,kU 27,kU 26,kU 25] (RS.dn ?_))
     cases h
     exact fun a w hs=>(jsN (hs.sb 1))
    ·refine RS.fx 24 false (decide_eq_false hp) (RS.mS 2 [kI 26 v6_4,kA 25 #[(Sl3.v a0_0),(Sl3.v a0_1),(Sl3.v a0_2)]] ?_)
     obtain ⟨⟨x9,H10⟩,hx,h⟩:=bind_some h
     try dsimp only at h
     refine RS.cl (some 27) (v:=(Sl3.v x9)) 84 #[(Value.agg #[(Sl3.v a0_0),(Sl3.v a0_1),(Sl3.v a0_2)]),(Value.int .i64 v6_4)] (zke hx) (RS.mS 1 [kI 28 a1] ?_)
     obtain ⟨p11,hx,h⟩:=bind_some h
     refine RS.ix 29 56 4 (.tmp 27) (.tmp 28) hx ?_
     obtain ⟨x12,hx,h⟩:=bind_some h
     refine RS.ld 30 4 (.tmp 29) (z8 hx z3t) (RS.mS 2 [kB 32 x12,kB 31 x12] (RS.dn ?_))
     cases h
     exact fun a w hs=>(jsN (hs.sb 1))
   ·refine RS.fx 20 false (b_not hp) (RS.mS 12 [kB 32 false,kU 31,kU 30,kU 29,kU 28,kU 27,kU 26,kU 25,kU 24,kU 23,kU 22,kU 21] (RS.dn ?_))
    cases h
    exact fun a w hs=>(jsN (hs.sb 1))
  ·clear hx
   rcases z7 h with ⟨hp,h⟩ | ⟨hp,h⟩
   ·refine WS.fx 32 true hp (WS.cT (WS.sq (WS.rg (RS.mS 1 [kB 4 true] (RS.dn (WS.nxt (WS.rt ?_)))))))
    cases h
    exact fun a w hs=>bkR (sqR (lsR rfl (rS hs)))
   ·refine WS.fx 32 false (b_not hp) (WS.cF (WS.sk ?_))
    refine fun a w hs=>bkN ((WS.nxt ?_ a w hs))
    refine WS.rg (RS.mS 3 [kI 6 (IntKind.i64.wrap (v6_4+1)),kI 15 (IntKind.i64.wrap (v6_4+1)),kI 14 v6_4] (RS.dn ?_))
    cases h
    exact fun a w hs=>lsN rfl (hs.sb 1)
 ·refine WS.fx 13 false (decide_eq_false hp) (WS.cF (WS.ex 0 ?_))
  cases h
  exact fun a w hs=>sqE (lsB rfl (hs.sb 1))
theorem ziz {L:LC} {m:Nat} {H:AH} {a0_0 a0_1 a0_2:Sl3} {a1:Int} {r:(Bool×AH)} (h:z72 L m H a0_0 a0_1 a0_2 a1=some r) :
  CallS Tryd.prog (NE.plain 1000) m 52 #[(Value.agg #[(Sl3.v a0_0),(Sl3.v a0_1),(Sl3.v a0_2)]),(Value.int .i64 a1)] H (zbm r) (zc5 H r):=by
 refine CallS.mk (args:=[(Value.agg #[(Sl3.v a0_0),(Sl3.v a0_1),(Sl3.v a0_2)]),(Value.int .i64 a1)]) Tryd.func52 (B:=B52) (by kernel_rfl) (fun E _=>?_)
 unfold z72 at h
 refine WS.sq (WS.rg (RS.mL 2 [kB 4 false,kL 2 0 0] ([some (33,[(Sl3.v a0_0),(Sl3.v a0_1),(Sl3.v a0_2)])]) (RS.dn (WS.nxt (WS.sq (WS.rg (RS.mS 2 [kI 8 a1,kA 7 #[(Sl3.v a0_0),(Sl3.v a0_1),(Sl3.v a0_2)]] ?_)))))))
 obtain ⟨⟨x1,H2⟩,hx,h⟩:=bind_some h
 try dsimp only at h
 refine RS.cl (some 9) (v:=(Sl3.v x1)) 83 #[(Value.agg #[(Sl3.v a0_0),(Sl3.v a0_1),(Sl3.v a0_2)]),(Value.int .i64 a1),(Value.bool true)] (z8r hx) (RS.mS 1 [kS 5 x1] (RS.dn (WS.nxt (WS.sq (WS.sq (WS.rg (RS.mS 1 [kI 6 0] (RS.dn (WS.nxt ?_)))))))))
 refine WS.bk 0 ?_
 obtain ⟨o,hl,h⟩:=bind_some h
 rcases o with ⟨H13,v6_14⟩ | r
 ·try dsimp only at h
  refine WS.lI (z9s (L:=L) (E:=E) (m:=m) (H:=H)) (L.ok hl) 1 ?_
  clear hl
  refine fun a w hs=>bkE ((WS.nxt ?_ a w hs))
  refine WS.sq (WS.rg (RS.mS 1 [kB 4 false] (RS.dn (WS.nxt (WS.rt ?_)))))
  cases h
  exact fun a w hs=>rtR (rS hs)
 ·try dsimp only at h
  refine WS.lR (z9s (L:=L) (E:=E) (m:=m) (H:=H)) (L.ok hl) 1 ?_
  cases h
  exact fun a w hq=>bkR (sqR (rtR hq))
def z68:Bool→Value
 | r0=>(Value.bool r0)
def z6k (H:AH):Bool→AH:=fun _=>H
noncomputable def B98:Code:=(Tryd.f98.body).getD .skip
noncomputable def z4h (L:LC) (rec_ref04_ground:AH→Int→Int→ByteArray→Sl3→Sl3→Sl3→Sl3→Sl3→Option Bool) (H:AH) (a0_0 _a0_1:Int) (a0_2:ByteArray) (a0_3 a1_0:Sl3) (a1_1 a1_2 a2:Sl3):Option Bool :=
 if a0_0=4 then
  Option.bind (idxA 4 a0_3 1) fun p1 =>
  Option.bind (rd (deI .i64) H (Addr.add p1 0)) fun x2_0 =>
  Option.bind (rd (deI .i64) H (Addr.add p1 1)) fun x2_1 =>
  Option.bind (rd deS H (Addr.add p1 2)) fun x2_2 =>
  Option.bind (rd deSl H (Addr.add p1 3)) fun x2_3 =>
  Option.bind (rec_ref04_ground H x2_0 x2_1 x2_2 x2_3 a1_0 a1_1 a1_2 a2) fun x3 =>
  some x3
 else
  if a0_0=6 then
   Option.bind (z3e L H a1_0 a1_1 a1_2 a0_2) fun x4 =>
   Option.bind (idxA 1 a2 x4) fun p5 =>
   Option.bind (rd deB H p5) fun x6 =>
   some x6
  else
   some true
noncomputable def z69 (L:LC) (n:Nat):(AH→Int→Int→ByteArray→Sl3→Sl3→Sl3→Sl3→Sl3→Option Bool):=Nat.rec (motive:=fun _=>(AH→Int→Int→ByteArray→Sl3→Sl3→Sl3→Sl3→Sl3→Option Bool)) (fun _ _ _ _ _ _ _ _ _=>none) (fun _ p=>z4h L p) n
noncomputable def zbr (L:LC) (H:AH) (a0_0 a0_1:Int) (a0_2:ByteArray) (a0_3 a1_0:Sl3) (a1_1 a1_2 a2:Sl3):Option Bool:=(z69 L L.fuel) H a0_0 a0_1 a0_2 a0_3 a1_0 a1_1 a1_2 a2
theorem ze4 {L:LC} {rec_ref04_ground:AH→Int→Int→ByteArray→Sl3→Sl3→Sl3→Sl3→Sl3→Option Bool} (hrec_ref04_ground:∀(m:Nat) (H:AH) (a0_0 a0_1:Int) (a0_2:ByteArray) (a0_3 a1_0:Sl3) (a1_1 a1_2 a2:Sl3) (r:Bool),rec_ref04_ground H a0_0 a0_1 a0_2 a0_3 a1_0 a1_1 a1_2 a2=some r→CallS Tryd.prog (NE.plain 1000) m 98 #[(Value.agg #[(Value.int .i64 a0_0),(Value.int .i64 a0_1),(Value.string a0_2),(Sl3.v a0_3)]),(Value.agg #[(Sl3.v a1_0),(Sl3.v a1_1),(Sl3.v a1_2)]),(Sl3.v a2)] H (z68 r) (z6k H r)) {m:Nat} {H:AH} {a0_0 a0_1:Int} {a0_2:ByteArray} {a0_3 a1_0:Sl3} {a1_1 a1_2 a2:Sl3} {r:Bool} (h:z4h L rec_ref04_ground H a0_0 a0_1 a0_2 a0_3 a1_0 a1_1 a1_2 a2=some r) :
  CallS Tryd.prog (NE.plain 1000) m 98 #[(Value.agg #[(Value.int .i64 a0_0),(Value.int .i64 a0_1),(Value.string a0_2),(Sl3.v a0_3)]),(Value.agg #[(Sl3.v a1_0),(Sl3.v a1_1),(Sl3.v a1_2)]),(Sl3.v a2)] H (z68 r) (z6k H r):=by
 refine CallS.mk (args:=[(Value.agg #[(Value.int .i64 a0_0),(Value.int .i64 a0_1),(Value.string a0_2),(Sl3.v a0_3)]),(Value.agg #[(Sl3.v a1_0),(Sl3.v a1_1),(Sl3.v a1_2)]),(Sl3.v a2)]) Tryd.func98 (B:=B98) (by kernel_rfl) (fun E _=>?_)
 unfold z4h at h
 refine WS.sq (WS.rg (RS.mL 3 [kB 6 false,kL 4 1 0,kL 3 0 0] ([some (28,[(Value.int .i64 a0_0),(Value.int .i64 a0_1),(Value.string a0_2),(Sl3.v a0_3)]),some (33,[(Sl3.v a1_0),(Sl3.v a1_1),(Sl3.v a1_2)])]) (RS.dn (WS.nxt (WS.sq (WS.sq (WS.rg (RS.mS 3 [kB 9 (decide (a0_0=4)),kI 8 a0_0,kL 7 0 0] (RS.dn ?_)))))))))
 refine WS.nxt ?_
 rcases z7 h with ⟨hp,h⟩ | ⟨hp,h⟩
 ·refine WS.fx 9 true (decide_eq_true hp) (WS.cT (WS.sq ?_))
  refine WS.dr [0,1,2,3,4] [0,1,3,7,0,0,63,127] 8 (fun hcl=>?_)
  refine DA.tL 0 (some 10) (.loc 0 3) (DA.tL 1 (some 11) (.val (Sl3.v a0_3)) ?_)
  obtain ⟨p1,hx,h⟩:=bind_some h
  refine DA.tD 2 (some 12) (Value.pointer (some p1)) (Abs.det_idx (s:=a0_3) (k:=.i64) (t:=26) (e:=28) (x:=.tmp 11) (y:=.const (Value.int .i64 1)) (by kernel_rfl) (by kernel_rfl) (by kernel_rfl) (by kernel_rfl) (by kernel_rfl) hx) ?_
  obtain ⟨x2_0,hx0,h⟩:=bind_some h
  obtain ⟨x2_1,hx1,h⟩:=bind_some h
  obtain ⟨x2_2,hx2,h⟩:=bind_some h
  obtain ⟨x2_3,hx3,h⟩:=bind_some h
  refine DA.tD 3 (some 13) (Value.agg #[(Value.int .i64 x2_0),(Value.int .i64 x2_1),(Value.string x2_2),(Sl3.v x2_3)]) (Abs.det_loadA (t:=28) (x:=.tmp 12) (a:=p1) (k:=4) (by kernel_rfl) (by kernel_rfl) (by kernel_rfl) (by kernel_rfl) (z9 (z8 hx0 zh) (z9 (z8 hx1 zh) (z9 (z8 hx2 zg) (z9 (z8 hx3 zb) zk))))) (DA.tL 4 (some 14) (.val (Value.agg #[(Sl3.v a1_0),(Sl3.v a1_1),(Sl3.v a1_2)])) (DA.tP 5 (some 15) (Sl3.v a2) ?_))
  obtain ⟨x3,hx,h⟩:=bind_some h
  refine DA.on 6 (DA.aC 6 (some 16) (v:=(Value.bool x3)) 98 #[(Value.agg #[(Value.int .i64 x2_0),(Value.int .i64 x2_1),(Value.string x2_2),(Sl3.v x2_3)]),(Value.agg #[(Sl3.v a1_0),(Sl3.v a1_1),(Sl3.v a1_2)]),(Sl3.v a2)] (hrec_ref04_ground _ _ _ _ _ _ _ _ _ _ _ hx) (DA.tP 7 (some 6) (Value.bool x3) (DA.dn (WS.nxt (WS.rt ?_)))))
  cases h
  exact fun a w hs=>sqR (rtR (rS hs))
 ·refine WS.fx 9 false (decide_eq_false hp) (WS.cF (WS.sk (WS.nxt (WS.sq (WS.rg (RS.mS 4 [kB 20 (!decide (a0_0=6)),kB 19 (!decide (a0_0=6)),kI 18 a0_0,kL 17 0 0] ?_))))))
  rcases z7 h with ⟨hp,h⟩ | ⟨hp,h⟩
  ·refine RS.fx 20 false (z62 hp) (RS.mS 4 [kT 24 a0_2,kL 23 0 2,kA 22 #[(Sl3.v a1_0),(Sl3.v a1_1),(Sl3.v a1_2)],kS 21 a2] ?_)
   obtain ⟨x4,hx,h⟩:=bind_some h
   refine RS.cl (some 25) (v:=(Value.int .i64 x4)) 72 #[(Value.agg #[(Sl3.v a1_0),(Sl3.v a1_1),(Sl3.v a1_2)]),(Value.string a0_2)] (z7w hx) ?_
   obtain ⟨p5,hx,h⟩:=bind_some h
   refine RS.ix 26 56 4 (.tmp 21) (.tmp 25) hx ?_
   obtain ⟨x6,hx,h⟩:=bind_some h
   refine RS.ld 27 4 (.tmp 26) (z8 hx z3t) (RS.mS 2 [kB 6 x6,kB 28 x6] (RS.dn (WS.nxt (WS.rt ?_))))
   cases h
   exact fun a w hs=>rtR (rS hs)
  ·refine RS.fx 20 true (z4v hp) (RS.mS 9 [kB 6 true,kB 28 true,kU 27,kU 26,kU 25,kU 24,kU 23,kU 22,kU 21] (RS.dn (WS.nxt (WS.rt ?_))))
   cases h
   exact fun a w hs=>rtR (rS hs)
theorem zfl {L:LC}:∀n,(∀(m:Nat) (H:AH) (a0_0 a0_1:Int) (a0_2:ByteArray) (a0_3 a1_0:Sl3) (a1_1 a1_2 a2:Sl3) (r:Bool),((z69 L n)) H a0_0 a0_1 a0_2 a0_3 a1_0 a1_1 a1_2 a2=some r→CallS Tryd.prog (NE.plain 1000) m 98 #[(Value.agg #[(Value.int .i64 a0_0),(Value.int .i64 a0_1),(Value.string a0_2),(Sl3.v a0_3)]),(Value.agg #[(Sl3.v a1_0),(Sl3.v a1_1),(Sl3.v a1_2)]),(Sl3.v a2)] H (z68 r) (z6k H r)):=by
 intro n
 induction n with
 | zero=>exact (fun _ _ _ _ _ _ _ _ _ _ _ h=>(Option.some_ne_none _ h.symm).elim)
 | succ n ih=>exact (fun _ _ _ _ _ _ _ _ _ _ _ h=>ze4 (L:=L) ih h)
theorem zjw {L:LC} {m:Nat} {H:AH} {a0_0 a0_1:Int} {a0_2:ByteArray} {a0_3 a1_0:Sl3} {a1_1 a1_2 a2:Sl3} {r:Bool} (h:zbr L H a0_0 a0_1 a0_2 a0_3 a1_0 a1_1 a1_2 a2=some r) :
  CallS Tryd.prog (NE.plain 1000) m 98 #[(Value.agg #[(Value.int .i64 a0_0),(Value.int .i64 a0_1),(Value.string a0_2),(Sl3.v a0_3)]),(Value.agg #[(Sl3.v a1_0),(Sl3.v a1_1),(Sl3.v a1_2)]),(Sl3.v a2)] H (z68 r) (z6k H r) :=
 (zfl _) _ _ _ _ _ _ _ _ _ _ _ h
end Go.Proofs.YtccbilfbhecdaaaDoor
namespace Go.Proofs.YtccbilfbhecdaaaDoor
open Go Go.Abs
set_option maxRecDepth 100000
def za1:Bool→Value
 | r0=>(Value.bool r0)
def zb1 (H:AH):Bool→AH:=fun _=>H
noncomputable def B85:Code:=(Tryd.f85.body).getD .skip
noncomputable def z3z (L:LC) (H:AH) (_a0_0:ByteArray) (a0_1 a1_0:Sl3) (a1_1 a1_2 a2:Sl3) (v7_1:Int):(Bool×Int)→Option (Lp (Bool×Int) Bool):=fun (v8_2,v9_3) =>
 Option.bind (idxA 2 a0_1 v7_1) fun p4 =>
 Option.bind (rd deSl H (Addr.add p4 1)) fun x5 =>
 if v9_3<(x5.n:Int) then
  Option.bind (α:=Bool) (
   if v8_2=true then
    Option.bind (idxA 2 a0_1 v7_1) fun p7 =>
    Option.bind (rd deSl H (Addr.add p7 1)) fun x8 =>
    Option.bind (idxA 5 x8 v9_3) fun p9 =>
    Option.bind (rd (deI .i64) H (Addr.add (Addr.add p9 1) 0)) fun x10_0 =>
    Option.bind (rd (deI .i64) H (Addr.add (Addr.add p9 1) 1)) fun x10_1 =>
    Option.bind (rd deS H (Addr.add (Addr.add p9 1) 2)) fun x10_2 =>
    Option.bind (rd deSl H (Addr.add (Addr.add p9 1) 3)) fun x10_3 =>
    Option.bind (zbr L H x10_0 x10_1 x10_2 x10_3 a1_0 a1_1 a1_2 a2) fun x11 =>
    some x11
   else
    some false) fun v8_6 =>
  some (.next (v8_6,(IntKind.i64.wrap (v9_3+1))))
 else
  some (.brk (v8_2,v9_3))
def ziu (_L:LC) (_H:AH) (a0_0:ByteArray) (a0_1 a1_0:Sl3) (a1_1 a1_2 a2:Sl3) (v7_1:Int):(Bool×Int)→KN×Lcs:=fun (v8_2,v9_3)=>([kB 8 v8_2,kI 9 v9_3,kS 2 a2,kL 3 0 0,kL 4 1 0,kI 7 v7_1],[some (46,[(Value.string a0_0),(Sl3.v a0_1)]),some (33,[(Sl3.v a1_0),(Sl3.v a1_1),(Sl3.v a1_2)])])
noncomputable def z52 (L:LC) (H:AH) (a0_0:ByteArray) (a0_1 a1_0:Sl3) (a1_1 a1_2 a2:Sl3):Int→Option (Lp Int Bool):=fun v7_1 =>
 if v7_1<(a0_1.n:Int) then
  Option.bind (L.run (z3z L H a0_0 a0_1 a1_0 a1_1 a1_2 a2 v7_1) (true,0)) fun o=>match o with
  | .inl (v8_12,_) =>
   if v8_12=true then
    some (.ret true)
   else
    some (.next (IntKind.i64.wrap (v7_1+1)))
  | .inr r=>some (.ret r)
 else
  some (.brk v7_1)
def zix (_L:LC) (_H:AH) (a0_0:ByteArray) (a0_1 a1_0:Sl3) (a1_1 a1_2 a2:Sl3):Int→KN×Lcs:=fun v7_1=>([kI 7 v7_1,kS 2 a2,kL 3 0 0,kL 4 1 0],[some (46,[(Value.string a0_0),(Sl3.v a0_1)]),some (33,[(Sl3.v a1_0),(Sl3.v a1_1),(Sl3.v a1_2)])])
noncomputable def z9v (L:LC) (H:AH) (a0_0:ByteArray) (a0_1 a1_0:Sl3) (a1_1 a1_2 a2:Sl3):Option Bool :=
 Option.bind (L.run (z52 L H a0_0 a0_1 a1_0 a1_1 a1_2 a2) 0) fun o=>match o with
 | .inl _ =>
  some false
 | .inr r=>some r
theorem zcd {E m L H a0_0 a0_1 a1_0 a1_1 a1_2 a2 v7_1} :LoopF Tryd.prog (NE.plain 1000) m E Tryd.f85 ((cfst (csnd (cfst (csnd (cfst (cfst (csnd (cfst (cfst (csnd (cfst (csnd B85))))))))))))) (ziu L H a0_0 a0_1 a1_0 a1_1 a1_2 a2 v7_1) (fun _=>H) 2 za1 (zb1 H) (z3z L H a0_0 a0_1 a1_0 a1_1 a1_2 a2 v7_1):=by
 rintro ⟨v8_2,v9_3⟩ o h
 unfold z3z at h
 try dsimp only at h
 refine WS.sq (WS.sq (WS.rg (RS.mS 4 [kI 20 v7_1,kS 19 a0_1,kL 18 0 1,kI 17 v9_3] ?_)))
 obtain ⟨p4,hx,h⟩:=bind_some h
 refine RS.ix 21 44 50 (.tmp 19) (.tmp 20) hx (RS.mS 1 [(22,.val (Value.pointer (some (Addr.add p4 1))))] ?_)
 obtain ⟨x5,hx,h⟩:=bind_some h
 refine RS.ld 23 48 (.tmp 22) (z8 hx zb) (RS.mS 2 [kB 25 (decide (v9_3<(x5.n:Int))),kI 24 (x5.n:Int)] (RS.dn (WS.nxt ?_)))
 rcases z7 h with ⟨hp,h⟩ | ⟨hp,h⟩
 ·refine WS.fx 25 true (decide_eq_true hp) (WS.cT (WS.sk (WS.nxt ?_)))
  obtain ⟨v8_6,hx,h⟩:=bind_some h
  refine WS.sq ?_
  refine WS.join ([kB 8 v8_6,kS 2 a2,kL 3 0 0,kL 4 1 0,kI 7 v7_1,kI 9 v9_3]) ([some (46,[(Value.string a0_0),(Sl3.v a0_1)]),some (33,[(Sl3.v a1_0),(Sl3.v a1_1),(Sl3.v a1_2)])]) H ?_ (fun a w hs=>WS.nxt ?_ a w hs)
  ·clear h; rename _=>h
   refine WS.bk 3 ?_
   refine WS.dr [] [0,1,3,7,3,31,63,127,3,511,1023,2047,3,3,16383,32767,65535] 17 (fun hcl=>?_)
   refine DA.tP 0 (some 28) (Value.bool v8_2) (DA.tP 1 (some 29) (Value.bool v8_2) ?_)
   rcases z7 h with ⟨hp,h⟩ | ⟨hp,h⟩
   ·refine DA.fx 29 true hp (DA.tPL 2 (some 30) (.loc 0 1) (DA.tP 4 (some 32) (Value.int .i64 v7_1) (DA.tP 8 (some 36) (Value.int .i64 v9_3) (DA.tP 13 (some 41) (Sl3.v a2) (DA.restart [3,5,6,7,9,10,11,12] (by kernel_rfl) (DA.tL 3 (some 31) (.val (Sl3.v a0_1)) ?_))))))
    obtain ⟨p7,hx,h⟩:=bind_some h
    refine DA.tD 5 (some 33) (Value.pointer (some p7)) (Abs.det_idx (s:=a0_1) (k:=.i64) (t:=44) (e:=50) (x:=.tmp 31) (y:=.tmp 32) (by kernel_rfl) (by kernel_rfl) (by kernel_rfl) (by kernel_rfl) (by kernel_rfl) hx) (DA.tK 6 (some 34) (Value.pointer (some (Addr.add p7 1))) ?_)
    obtain ⟨x8,hx,h⟩:=bind_some h
    refine DA.tD 7 (some 35) (Sl3.v x8) (Abs.det_load (t:=48) (x:=.tmp 34) (a:=(Addr.add p7 1)) (by kernel_rfl) (by kernel_rfl) (by kernel_rfl) (by kernel_rfl) (z8 hx zb)) ?_
    obtain ⟨p9,hx,h⟩:=bind_some h
    refine DA.tD 9 (some 37) (Value.pointer (some p9)) (Abs.det_idx (s:=x8) (k:=.i64) (t:=48) (e:=52) (x:=.tmp 35) (y:=.tmp 36) (by kernel_rfl) (by kernel_rfl) (by kernel_rfl) (by kernel_rfl) (by kernel_rfl) hx) (DA.tK 10 (some 38) (Value.pointer (some (Addr.add p9 1))) ?_)
    obtain ⟨x10_0,hx0,h⟩:=bind_some h
    obtain ⟨x10_1,hx1,h⟩:=bind_some h
    obtain ⟨x10_2,hx2,h⟩:=bind_some h
    obtain ⟨x10_3,hx3,h⟩:=bind_some h
    refine DA.tD 11 (some 39) (Value.agg #[(Value.int .i64 x10_0),(Value.int .i64 x10_1),(Value.string x10_2),(Sl3.v x10_3)]) (Abs.det_loadA (t:=28) (x:=.tmp 38) (a:=(Addr.add p9 1)) (k:=4) (by kernel_rfl) (by kernel_rfl) (by kernel_rfl) (by kernel_rfl) (z9 (z8 hx0 zh) (z9 (z8 hx1 zh) (z9 (z8 hx2 zg) (z9 (z8 hx3 zb) zk))))) (DA.tL 12 (some 40) (.val (Value.agg #[(Sl3.v a1_0),(Sl3.v a1_1),(Sl3.v a1_2)])) ?_)
    obtain ⟨x11,hx,h⟩:=bind_some h
    refine DA.on 14 (DA.aC 14 (some 42) (v:=(Value.bool x11)) 98 #[(Value.agg #[(Value.int .i64 x10_0),(Value.int .i64 x10_1),(Value.string x10_2),(Sl3.v x10_3)]),(Value.agg #[(Sl3.v a1_0),(Sl3.v a1_1),(Sl3.v a1_2)]),(Sl3.v a2)] (zjw hx) (DA.tP 15 (some 43) (Value.bool x11) (DA.tP 16 (some 8) (Value.bool x11) (DA.dn ?_))))
    cases h
    exact fun a w hs=>bkN ((jsN (hs.sb 2)))
   ·refine DA.fx 29 false (b_not hp) ?_
    refine DA.tskipP 2 (some 30) (by kernel_rfl) (by kernel_rfl) (by kernel_rfl) hcl (fun _ _ _ h=>h) (by kernel_rfl) ?_
    refine DA.tskipP 3 (some 31) (by kernel_rfl) (by kernel_rfl) (by kernel_rfl) hcl (fun _ _ _ h=>h) (by kernel_rfl) ?_
    refine DA.tskipP 4 (some 32) (by kernel_rfl) (by kernel_rfl) (by kernel_rfl) hcl (fun _ _ _ h=>h) (by kernel_rfl) ?_
    refine DA.tskipP 5 (some 33) (by kernel_rfl) (by kernel_rfl) (by kernel_rfl) hcl (fun _ _ _ h=>h) (by kernel_rfl) ?_
    refine DA.tskipP 6 (some 34) (by kernel_rfl) (by kernel_rfl) (by kernel_rfl) hcl (fun _ _ _ h=>h) (by kernel_rfl) ?_
    refine DA.tskipP 7 (some 35) (by kernel_rfl) (by kernel_rfl) (by kernel_rfl) hcl (fun _ _ _ h=>h) (by kernel_rfl) ?_
    refine DA.tskipP 8 (some 36) (by kernel_rfl) (by kernel_rfl) (by kernel_rfl) hcl (fun _ _ _ h=>h) (by kernel_rfl) ?_
    refine DA.tskipP 9 (some 37) (by kernel_rfl) (by kernel_rfl) (by kernel_rfl) hcl (fun _ _ _ h=>h) (by kernel_rfl) ?_
    refine DA.tskipP 10 (some 38) (by kernel_rfl) (by kernel_rfl) (by kernel_rfl) hcl (fun _ _ _ h=>h) (by kernel_rfl) ?_
    refine DA.tskipP 11 (some 39) (by kernel_rfl) (by kernel_rfl) (by kernel_rfl) hcl (fun _ _ _ h=>h) (by kernel_rfl) ?_
    refine DA.tskipP 12 (some 40) (by kernel_rfl) (by kernel_rfl) (by kernel_rfl) hcl (fun _ _ _ h=>h) (by kernel_rfl) ?_
    refine DA.tskipP 13 (some 41) (by kernel_rfl) (by kernel_rfl) (by kernel_rfl) hcl (fun _ _ _ h=>h) (by kernel_rfl) ?_
    refine DA.tskipP 14 (some 42) (by kernel_rfl) (by kernel_rfl) (by kernel_rfl) hcl (fun _ _ _ h=>h) (by kernel_rfl) ?_
    refine DA.tP 15 (some 43) (Value.bool false) (DA.tP 16 (some 8) (Value.bool false) (DA.dn ?_))
    cases h
    exact fun a w hs=>bkN ((jsN (hs.sb 2)))
  ·clear hx
   refine WS.rg (RS.mS 3 [kI 9 (IntKind.i64.wrap (v9_3+1)),kI 27 (IntKind.i64.wrap (v9_3+1)),kI 26 v9_3] (RS.dn ?_))
   cases h
   exact fun a w hs=>lsN rfl (hs.sb 2)
 ·refine WS.fx 25 false (decide_eq_false hp) (WS.cF (WS.ex 2 ?_))
  cases h
  exact fun a w hs=>sqE (lsB rfl (hs.sb 2))
theorem zc6 {E m L H a0_0 a0_1 a1_0 a1_1 a1_2 a2} :LoopF Tryd.prog (NE.plain 1000) m E Tryd.f85 ((cfst (csnd (cfst (csnd B85))))) (zix L H a0_0 a0_1 a1_0 a1_1 a1_2 a2) (fun _=>H) 0 za1 (zb1 H) (z52 L H a0_0 a0_1 a1_0 a1_1 a1_2 a2):=by
 rintro v7_1 o h
 unfold z52 at h
 try dsimp only at h
 refine WS.sq (WS.sq (WS.rg (RS.mS 5 [kB 14 (decide (v7_1<(a0_1.n:Int))),kI 13 (a0_1.n:Int),kS 12 a0_1,kL 11 0 1,kI 10 v7_1] (RS.dn (WS.nxt ?_)))))
 rcases z7 h with ⟨hp,h⟩ | ⟨hp,h⟩
 ·refine WS.fx 14 true (decide_eq_true hp) (WS.cT (WS.sk (WS.nxt (WS.sq (WS.bk 1 (WS.sq (WS.rg (RS.mS 1 [kB 8 true] (RS.dn ?_)))))))))
  refine WS.nxt (WS.sq (WS.sq (WS.rg (RS.mS 1 [kI 9 0] (RS.dn (WS.nxt (WS.bk 2 ?_)))))))
  obtain ⟨o,hl,h⟩:=bind_some h
  rcases o with ⟨v8_12,v9_13⟩ | r
  ·try dsimp only at h
   refine WS.lI (zcd (L:=L) (E:=E) (m:=m) (H:=H)) (L.ok hl) 2 ?_
   clear hl
   refine fun a w hs=>bkE ((WS.nxt ?_ a w hs))
   refine WS.sq (WS.rg (RS.mS 1 [kB 44 v8_12] (RS.dn (WS.nxt ?_))))
   rcases z7 h with ⟨hp,h⟩ | ⟨hp,h⟩
   ·refine WS.fx 44 true hp (WS.cT (WS.sq (WS.rg (RS.mS 1 [kB 6 true] (RS.dn (WS.nxt (WS.rt ?_)))))))
    cases h
    exact fun a w hs=>bkR (sqR (lsR rfl (rS hs)))
   ·refine WS.fx 44 false (b_not hp) (WS.cF (WS.sk ?_))
    refine fun a w hs=>bkN ((WS.nxt ?_ a w hs))
    refine WS.rg (RS.mS 3 [kI 7 (IntKind.i64.wrap (v7_1+1)),kI 16 (IntKind.i64.wrap (v7_1+1)),kI 15 v7_1] (RS.dn ?_))
    cases h
    exact fun a w hs=>lsN rfl (hs.sb 2)
  ·try dsimp only at h
   refine WS.lR (zcd (L:=L) (E:=E) (m:=m) (H:=H)) (L.ok hl) 2 ?_
   cases h
   exact fun a w hq=>bkR (sqR (bkR (sqR (lsR rfl hq))))
 ·refine WS.fx 14 false (decide_eq_false hp) (WS.cF (WS.ex 0 ?_))
  cases h
  exact fun a w hs=>sqE (lsB rfl (hs.sb 2))
theorem zng {L:LC} {m:Nat} {H:AH} {a0_0:ByteArray} {a0_1 a1_0:Sl3} {a1_1 a1_2 a2:Sl3} {r:Bool} (h:z9v L H a0_0 a0_1 a1_0 a1_1 a1_2 a2=some r) :
  CallS Tryd.prog (NE.plain 1000) m 85 #[(Value.agg #[(Value.string a0_0),(Sl3.v a0_1)]),(Value.agg #[(Sl3.v a1_0),(Sl3.v a1_1),(Sl3.v a1_2)]),(Sl3.v a2)] H (za1 r) (zb1 H r):=by
 refine CallS.mk (args:=[(Value.agg #[(Value.string a0_0),(Sl3.v a0_1)]),(Value.agg #[(Sl3.v a1_0),(Sl3.v a1_1),(Sl3.v a1_2)]),(Sl3.v a2)]) Tryd.func85 (B:=B85) (by kernel_rfl) (fun E _=>?_)
 unfold z9v at h
 refine WS.sq (WS.rg (RS.mL 3 [kB 6 false,kL 4 1 0,kL 3 0 0] ([some (46,[(Value.string a0_0),(Sl3.v a0_1)]),some (33,[(Sl3.v a1_0),(Sl3.v a1_1),(Sl3.v a1_2)])]) (RS.dn (WS.nxt (WS.sq (WS.sq (WS.rg (RS.mS 1 [kI 7 0] (RS.dn ?_)))))))))
 refine WS.nxt (WS.bk 0 ?_)
 obtain ⟨o,hl,h⟩:=bind_some h
 rcases o with v7_14 | r
 ·try dsimp only at h
  refine WS.lI (zc6 (L:=L) (E:=E) (m:=m) (H:=H)) (L.ok hl) 2 ?_
  clear hl
  refine fun a w hs=>bkE ((WS.nxt ?_ a w hs))
  refine WS.sq (WS.rg (RS.mS 1 [kB 6 false] (RS.dn (WS.nxt (WS.rt ?_)))))
  cases h
  exact fun a w hs=>rtR (rS hs)
 ·try dsimp only at h
  refine WS.lR (zc6 (L:=L) (E:=E) (m:=m) (H:=H)) (L.ok hl) 2 ?_
  cases h
  exact fun a w hq=>bkR (sqR (rtR hq))
def z7e:(Sl3×AH)→Value
 | (r0,_)=>(Sl3.v r0)
def z7z (_:AH):(Sl3×AH)→AH:=fun r=>r.2
noncomputable def B53:Code:=(Tryd.f53.body).getD .skip
noncomputable def z1g (L:LC) (m:Nat) (a0_0 a0_1:Sl3) (a0_2 s1:Sl3) (_v4_4:Int):(AH×Int)→Option (Lp (AH×Int) (Sl3×AH)):=fun (H5,v5_6) =>
 if v5_6<(a0_1.n:Int) then
  Option.bind (α:=AH) (
   Option.bind (idxA 2 a0_1 v5_6) fun p8 =>
   Option.bind (rd deS H5 (Addr.add p8 0)) fun x9_0 =>
   Option.bind (rd deSl H5 (Addr.add p8 1)) fun x9_1 =>
   Option.bind (z9v L H5 x9_0 x9_1 a0_0 a0_1 a0_2 s1) fun x10 =>
   if x10=true then
    Option.bind (idxA 1 s1 v5_6) fun p11 =>
    Option.bind (H5.setCell m p11 (Value.bool true)) fun H12 =>
    some H12
   else
    some H5) fun H7 =>
  some (.next (H7,(IntKind.i64.wrap (v5_6+1))))
 else
  some (.brk (H5,v5_6))
def zfn (_L:LC) (_m:Nat) (a0_0 a0_1:Sl3) (a0_2 s1:Sl3) (v4_4:Int):(AH×Int)→KN×Lcs:=fun (_,v5_6)=>([kI 5 v5_6,kL 1 0 0,kS 3 s1,kI 4 v4_4],[some (33,[(Sl3.v a0_0),(Sl3.v a0_1),(Sl3.v a0_2)])])
noncomputable def z26 (L:LC) (m:Nat) (a0_0 a0_1:Sl3) (a0_2 s1:Sl3):(AH×Int)→Option (Lp (AH×Int) (Sl3×AH)):=fun (H3,v4_4) =>
 if v4_4<(a0_1.n:Int) then
  Option.bind (L.run (z1g L m a0_0 a0_1 a0_2 s1 v4_4) (H3,0)) fun o=>match o with
  | .inl (H13,_) =>
   some (.next (H13,(IntKind.i64.wrap (v4_4+1))))
  | .inr r=>some (.ret r)
 else
  some (.brk (H3,v4_4))
def zfa (_L:LC) (_m:Nat) (a0_0 a0_1:Sl3) (a0_2 s1:Sl3):(AH×Int)→KN×Lcs:=fun (_,v4_4)=>([kI 4 v4_4,kL 1 0 0,kS 3 s1],[some (33,[(Sl3.v a0_0),(Sl3.v a0_1),(Sl3.v a0_2)])])
noncomputable def z5b (L:LC) (m:Nat) (H:AH) (a0_0 a0_1 a0_2:Sl3):Option (Sl3×AH) :=
 Option.bind (mkS 4 1 1 #[(Value.bool false)] H (a0_1.n:Int) (a0_1.n:Int)) fun (s1,H2) =>
 Option.bind (L.run (z26 L m a0_0 a0_1 a0_2 s1) (H2,0)) fun o=>match o with
 | .inl (H15,_) =>
  some (s1,H15)
 | .inr r=>some r
theorem z93 {E H L m a0_0 a0_1 a0_2 s1 v4_4} :LoopF Tryd.prog (NE.plain 1000) m E Tryd.f53 ((cfst (csnd (cfst (cfst (csnd (cfst (cfst (csnd (cfst (csnd (csnd B53)))))))))))) (zfn L m a0_0 a0_1 a0_2 s1 v4_4) (fun s=>s.1) 2 z7e (z7z H) (z1g L m a0_0 a0_1 a0_2 s1 v4_4):=by
 rintro ⟨H5,v5_6⟩ o h
 unfold z1g at h
 try dsimp only at h
 refine WS.sq (WS.sq (WS.rg (RS.mS 5 [kB 21 (decide (v5_6<(a0_1.n:Int))),kI 20 (a0_1.n:Int),kS 19 a0_1,kL 18 0 1,kI 17 v5_6] (RS.dn (WS.nxt ?_)))))
 rcases z7 h with ⟨hp,h⟩ | ⟨hp,h⟩
 ·refine WS.fx 21 true (decide_eq_true hp) (WS.cT (WS.sk (WS.nxt ?_)))
  obtain ⟨H7,hx,h⟩:=bind_some h
  refine WS.sq ?_
  refine WS.join ([kL 1 0 0,kS 3 s1,kI 4 v4_4,kI 5 v5_6]) ([some (33,[(Sl3.v a0_0),(Sl3.v a0_1),(Sl3.v a0_2)])]) H7 ?_ (fun a w hs=>WS.nxt ?_ a w hs)
  ·clear h; rename _=>h
   refine WS.bk 3 (WS.sq ?_)
   refine WS.dr [0,1,2,3,4,5] [0,1,0,7,15,0,0,127] 8 (fun hcl=>?_)
   refine DA.tL 0 (some 24) (.loc 0 1) (DA.tL 1 (some 25) (.val (Sl3.v a0_1)) (DA.tK 2 (some 26) (Value.int .i64 v5_6) ?_))
   obtain ⟨p8,hx,h⟩:=bind_some h
   refine DA.tD 3 (some 27) (Value.pointer (some p8)) (Abs.det_idx (s:=a0_1) (k:=.i64) (t:=30) (e:=46) (x:=.tmp 25) (y:=.tmp 26) (by kernel_rfl) (by kernel_rfl) (by kernel_rfl) (by kernel_rfl) (by kernel_rfl) hx) ?_
   obtain ⟨x9_0,hx0,h⟩:=bind_some h
   obtain ⟨x9_1,hx1,h⟩:=bind_some h
   refine DA.tD 4 (some 28) (Value.agg #[(Value.string x9_0),(Sl3.v x9_1)]) (Abs.det_loadA (t:=46) (x:=.tmp 27) (a:=p8) (k:=2) (by kernel_rfl) (by kernel_rfl) (by kernel_rfl) (by kernel_rfl) (z9 (z8 hx0 zg) (z9 (z8 hx1 zb) zk))) (DA.tL 5 (some 29) (.val (Value.agg #[(Sl3.v a0_0),(Sl3.v a0_1),(Sl3.v a0_2)])) (DA.tP 6 (some 30) (Sl3.v s1) ?_))
   obtain ⟨x10,hx,h⟩:=bind_some h
   refine DA.on 7 (DA.aC 7 (some 31) (v:=(Value.bool x10)) 85 #[(Value.agg #[(Value.string x9_0),(Sl3.v x9_1)]),(Value.agg #[(Sl3.v a0_0),(Sl3.v a0_1),(Sl3.v a0_2)]),(Sl3.v s1)] (zng hx) (DA.dn (WS.nxt ?_)))
   rcases z7 h with ⟨hp,h⟩ | ⟨hp,h⟩
   ·refine WS.fx 31 true hp (WS.cT (WS.rg (RS.mS 2 [kI 33 v5_6,kS 32 s1] ?_)))
    obtain ⟨p11,hx,h⟩:=bind_some h
    refine RS.ix 34 56 4 (.tmp 32) (.tmp 33) hx ?_
    obtain ⟨H12,hx,h⟩:=bind_some h
    refine RS.o (H':=H12) none undef (Abs.run_store1 (t:=4) (x:=.tmp 34) (y:=.const (Value.bool true)) (a:=p11) (v:=(Value.bool true)) (by kernel_rfl) (by kernel_rfl) (by kernel_rfl) (by kernel_rfl) (by kernel_rfl) hx) (RS.dn ?_)
    cases h
    exact fun a w hs=>bkN ((jsN (hs.sb 1)))
   ·refine WS.fx 31 false (b_not hp) (WS.cF (WS.sk ?_))
    cases h
    exact fun a w hs=>bkN ((jsN (hs.sb 1)))
  ·clear hx
   refine WS.rg (RS.mS 3 [kI 5 (IntKind.i64.wrap (v5_6+1)),kI 23 (IntKind.i64.wrap (v5_6+1)),kI 22 v5_6] (RS.dn ?_))
   cases h
   exact fun a w hs=>lsN rfl (hs.sb 1)
 ·refine WS.fx 21 false (decide_eq_false hp) (WS.cF (WS.ex 2 ?_))
  cases h
  exact fun a w hs=>sqE (lsB rfl (hs.sb 1))
theorem z95 {E H L m a0_0 a0_1 a0_2 s1} :LoopF Tryd.prog (NE.plain 1000) m E Tryd.f53 ((cfst (csnd (cfst (csnd (csnd B53)))))) (zfa L m a0_0 a0_1 a0_2 s1) (fun s=>s.1) 0 z7e (z7z H) (z26 L m a0_0 a0_1 a0_2 s1):=by
 rintro ⟨H3,v4_4⟩ o h
 unfold z26 at h
 try dsimp only at h
 refine WS.sq (WS.sq (WS.rg (RS.mS 5 [kB 14 (decide (v4_4<(a0_1.n:Int))),kI 13 (a0_1.n:Int),kS 12 a0_1,kL 11 0 1,kI 10 v4_4] (RS.dn (WS.nxt ?_)))))
 rcases z7 h with ⟨hp,h⟩ | ⟨hp,h⟩
 ·refine WS.fx 14 true (decide_eq_true hp) (WS.cT (WS.sk (WS.nxt (WS.sq (WS.bk 1 (WS.sq (WS.rg (RS.mS 1 [kI 5 0] (RS.dn ?_)))))))))
  refine WS.nxt (WS.bk 2 ?_)
  obtain ⟨o,hl,h⟩:=bind_some h
  rcases o with ⟨H13,v5_14⟩ | r
  ·try dsimp only at h
   refine WS.lI (z93 (L:=L) (E:=E) (m:=m) (H:=H)) (L.ok hl) 1 ?_
   clear hl
   refine fun a w hs=>bkE (bkN ((WS.nxt ?_ a w hs)))
   refine WS.rg (RS.mS 3 [kI 4 (IntKind.i64.wrap (v4_4+1)),kI 16 (IntKind.i64.wrap (v4_4+1)),kI 15 v4_4] (RS.dn ?_))
   cases h
   exact fun a w hs=>lsN rfl (hs.sb 1)
  ·try dsimp only at h
   refine WS.lR (z93 (L:=L) (E:=E) (m:=m) (H:=H)) (L.ok hl) 1 ?_
   cases h
   exact fun a w hq=>bkR (bkR (sqR (lsR rfl hq)))
 ·refine WS.fx 14 false (decide_eq_false hp) (WS.cF (WS.ex 0 ?_))
  cases h
  exact fun a w hs=>sqE (lsB rfl (hs.sb 1))
theorem zbs {L:LC} {m:Nat} {H:AH} {a0_0 a0_1 a0_2:Sl3} {r:(Sl3×AH)} (h:z5b L m H a0_0 a0_1 a0_2=some r) :
  CallS Tryd.prog (NE.plain 1000) m 53 #[(Value.agg #[(Sl3.v a0_0),(Sl3.v a0_1),(Sl3.v a0_2)])] H (z7e r) (z7z H r):=by
 refine CallS.mk (args:=[(Value.agg #[(Sl3.v a0_0),(Sl3.v a0_1),(Sl3.v a0_2)])]) Tryd.func53 (B:=B53) (by kernel_rfl) (fun E _=>?_)
 unfold z5b at h
 refine WS.sq (WS.rg (RS.mL 2 [kS 2 Sl3.nil,kL 1 0 0] ([some (33,[(Sl3.v a0_0),(Sl3.v a0_1),(Sl3.v a0_2)])]) (RS.dn (WS.nxt (WS.sq (WS.rg (RS.mS 3 [kI 8 (a0_1.n:Int),kS 7 a0_1,kL 6 0 1] ?_)))))))
 obtain ⟨⟨s1,H2⟩,hx,h⟩:=bind_some h
 try dsimp only at h
 refine RS.o (H':=H2) (some 9) (Sl3.v s1) (Abs.run_mk (t:=56) (x:=.tmp 8) (y:=.tmp 8) (k1:=.i64) (k2:=.i64) (by kernel_rfl) (by kernel_rfl) (by kernel_rfl) (by kernel_rfl) hx) (RS.mS 1 [kS 3 s1] (RS.dn (WS.nxt (WS.sq (WS.sq (WS.rg (RS.mS 1 [kI 4 0] (RS.dn (WS.nxt ?_)))))))))
 refine WS.bk 0 ?_
 obtain ⟨o,hl,h⟩:=bind_some h
 rcases o with ⟨H15,v4_16⟩ | r
 ·try dsimp only at h
  refine WS.lI (z95 (L:=L) (E:=E) (m:=m) (H:=H)) (L.ok hl) 1 ?_
  clear hl
  refine fun a w hs=>bkE ((WS.nxt ?_ a w hs))
  refine WS.sq (WS.rg (RS.mS 2 [kS 2 s1,kS 35 s1] (RS.dn (WS.nxt (WS.rt ?_)))))
  cases h
  exact fun a w hs=>rtR (rS hs)
 ·try dsimp only at h
  refine WS.lR (z95 (L:=L) (E:=E) (m:=m) (H:=H)) (L.ok hl) 1 ?_
  cases h
  exact fun a w hq=>bkR (sqR (rtR hq))
def z5g:(Int×AH)→Value
 | (r0,_)=>(Value.int .i64 r0)
def z5t (_:AH):(Int×AH)→AH:=fun r=>r.2
noncomputable def B21:Code:=(Tryd.f21.body).getD .skip
noncomputable def z1z (L:LC) (a0_0 a0_1:Sl3) (a0_2 x4:Sl3) (H5:AH):Int→Option (Lp Int (Int×AH)):=fun v5_6 =>
 if v5_6<(x4.n:Int) then
  Option.bind (idxA 4 x4 v5_6) fun p7 =>
  Option.bind (rd (deI .i64) H5 (Addr.add p7 0)) fun x8_0 =>
  Option.bind (rd (deI .i64) H5 (Addr.add p7 1)) fun x8_1 =>
  Option.bind (rd deS H5 (Addr.add p7 2)) fun x8_2 =>
  Option.bind (rd deSl H5 (Addr.add p7 3)) fun x8_3 =>
  Option.bind (z7q L H5 x8_0 x8_1 x8_2 x8_3 a0_0 a0_1 a0_2) fun x9 =>
  if x9=0 then
   some (.next (IntKind.i64.wrap (v5_6+1)))
  else
   some (.ret (x9,H5))
 else
  some (.brk v5_6)
def ze9 (_L:LC) (a0_0 a0_1:Sl3) (a0_2 x4:Sl3) (_H5:AH):Int→KN×Lcs:=fun v5_6=>([kI 5 v5_6,kL 1 0 0,kS 4 x4],[some (33,[(Sl3.v a0_0),(Sl3.v a0_1),(Sl3.v a0_2)])])
noncomputable def z1d (L:LC) (m:Nat) (a0_0 a0_1 a0_2:Sl3):(AH×Int)→Option (Lp (AH×Int) (Int×AH)):=fun (H11,v6_12) =>
 if v6_12<(a0_1.n:Int) then
  Option.bind (z72 L m H11 a0_0 a0_1 a0_2 v6_12) fun (x13,H14) =>
  if x13=true then
   some (.ret (44,H14))
  else
   some (.next (H14,(IntKind.i64.wrap (v6_12+1))))
 else
  some (.brk (H11,v6_12))
def zes (_L:LC) (_m:Nat) (a0_0 a0_1 a0_2:Sl3):(AH×Int)→KN×Lcs:=fun (_,v6_12)=>([kI 6 v6_12,kL 1 0 0],[some (33,[(Sl3.v a0_0),(Sl3.v a0_1),(Sl3.v a0_2)])])
noncomputable def z23 (_L:LC) (_a0_0 _a0_1:Sl3) (_a0_2 x17:Sl3) (H18:AH):Int→Option (Lp Int (Int×AH)):=fun v8_19 =>
 if v8_19<(x17.n:Int) then
  Option.bind (idxA 1 x17 v8_19) fun p20 =>
  Option.bind (rd deB H18 p20) fun x21 =>
  if x21=true then
   some (.next (IntKind.i64.wrap (v8_19+1)))
  else
   some (.ret (43,H18))
 else
  some (.brk v8_19)
def zep (_L:LC) (a0_0 a0_1:Sl3) (a0_2 x17:Sl3) (_H18:AH):Int→KN×Lcs:=fun v8_19=>([kI 8 v8_19,kS 7 x17],[some (33,[(Sl3.v a0_0),(Sl3.v a0_1),(Sl3.v a0_2)])])
noncomputable def z60 (L:LC) (m:Nat) (H:AH) (a0_0 a0_1 a0_2:Sl3):Option (Int×AH) :=
 Option.bind (z8h L H a0_0 a0_1 a0_2) fun x1 =>
 if x1=true then
  some (3,H)
 else
  Option.bind (z7u L m H a0_0 a0_1 a0_2) fun (x2,H3) =>
  if x2=0 then
   Option.bind (z7h L m H3 a0_0 a0_1 a0_2) fun (x4,H5) =>
   Option.bind (L.run (z1z L a0_0 a0_1 a0_2 x4 H5) 0) fun o=>match o with
   | .inl _ =>
    Option.bind (L.run (z1d L m a0_0 a0_1 a0_2) (H5,0)) fun o=>match o with
    | .inl (H15,_) =>
     Option.bind (z5b L m H15 a0_0 a0_1 a0_2) fun (x17,H18) =>
     Option.bind (L.run (z23 L a0_0 a0_1 a0_2 x17 H18) 0) fun o=>match o with
     | .inl _ =>
      some (0,H18)
     | .inr r=>some r
    | .inr r=>some r
   | .inr r=>some r
  else
   some (x2,H3)
theorem z8i {E m H L a0_0 a0_1 a0_2 x4 H5} :LoopF Tryd.prog (NE.plain 1000) m E Tryd.f21 ((cfst (csnd (cfst (csnd (csnd (csnd (csnd (csnd B21))))))))) (ze9 L a0_0 a0_1 a0_2 x4 H5) (fun _=>H5) 0 z5g (z5t H) (z1z L a0_0 a0_1 a0_2 x4 H5):=by
 rintro v5_6 o h
 unfold z1z at h
 try dsimp only at h
 refine WS.sq (WS.sq (WS.rg (RS.mS 4 [kB 21 (decide (v5_6<(x4.n:Int))),kI 20 (x4.n:Int),kS 19 x4,kI 18 v5_6] (RS.dn (WS.nxt ?_)))))
 rcases z7 h with ⟨hp,h⟩ | ⟨hp,h⟩
 ·refine WS.fx 21 true (decide_eq_true hp) (WS.cT (WS.sk (WS.nxt (WS.sq (WS.bk 1 (WS.sq ?_))))))
  refine WS.dr [0,1,2,3,4] [0,0,3,7,0,31,63] 7 (fun hcl=>?_)
  refine DA.tK 0 (some 24) (Sl3.v x4) (DA.tK 1 (some 25) (Value.int .i64 v5_6) ?_)
  obtain ⟨p7,hx,h⟩:=bind_some h
  refine DA.tD 2 (some 26) (Value.pointer (some p7)) (Abs.det_idx (s:=x4) (k:=.i64) (t:=26) (e:=28) (x:=.tmp 24) (y:=.tmp 25) (by kernel_rfl) (by kernel_rfl) (by kernel_rfl) (by kernel_rfl) (by kernel_rfl) hx) ?_
  obtain ⟨x8_0,hx0,h⟩:=bind_some h
  obtain ⟨x8_1,hx1,h⟩:=bind_some h
  obtain ⟨x8_2,hx2,h⟩:=bind_some h
  obtain ⟨x8_3,hx3,h⟩:=bind_some h
  refine DA.tD 3 (some 27) (Value.agg #[(Value.int .i64 x8_0),(Value.int .i64 x8_1),(Value.string x8_2),(Sl3.v x8_3)]) (Abs.det_loadA (t:=28) (x:=.tmp 26) (a:=p7) (k:=4) (by kernel_rfl) (by kernel_rfl) (by kernel_rfl) (by kernel_rfl) (z9 (z8 hx0 zh) (z9 (z8 hx1 zh) (z9 (z8 hx2 zg) (z9 (z8 hx3 zb) zk))))) (DA.tL 4 (some 28) (.val (Value.agg #[(Sl3.v a0_0),(Sl3.v a0_1),(Sl3.v a0_2)])) ?_)
  obtain ⟨x9,hx,h⟩:=bind_some h
  refine DA.on 5 (DA.aC 5 (some 29) (v:=(Value.int .i64 x9)) 19 #[(Value.agg #[(Value.int .i64 x8_0),(Value.int .i64 x8_1),(Value.string x8_2),(Sl3.v x8_3)]),(Value.agg #[(Sl3.v a0_0),(Sl3.v a0_1),(Sl3.v a0_2)])] (zki hx) (DA.tP 6 (some 3) (Value.int .i64 x9) (DA.dn (WS.nxt (WS.sq (WS.rg (RS.mS 2 [kB 31 (!decide (x9=0)),kI 30 x9] (RS.dn (WS.nxt ?_)))))))))
  rcases z7 h with ⟨hp,h⟩ | ⟨hp,h⟩
  ·refine WS.fx 31 false (z62 hp) (WS.cF (WS.sk ?_))
   refine fun a w hs=>bkN ((WS.nxt ?_ a w hs))
   refine WS.rg (RS.mS 3 [kI 5 (IntKind.i64.wrap (v5_6+1)),kI 23 (IntKind.i64.wrap (v5_6+1)),kI 22 v5_6] (RS.dn ?_))
   cases h
   exact fun a w hs=>lsN rfl (hs.sb 1)
  ·refine WS.fx 31 true (z4v hp) (WS.cT (WS.sq (WS.rg (RS.mS 2 [kI 2 x9,kI 32 x9] (RS.dn (WS.nxt (WS.rt ?_)))))))
   cases h
   exact fun a w hs=>bkR (sqR (lsR rfl (rS hs)))
 ·refine WS.fx 21 false (decide_eq_false hp) (WS.cF (WS.ex 0 ?_))
  cases h
  exact fun a w hs=>sqE (lsB rfl (hs.sb 1))
theorem z8q {E H L m a0_0 a0_1 a0_2} :LoopF Tryd.prog (NE.plain 1000) m E Tryd.f21 ((cfst (csnd (cfst (csnd (csnd (csnd (csnd (csnd (csnd B21)))))))))) (zes L m a0_0 a0_1 a0_2) (fun s=>s.1) 2 z5g (z5t H) (z1d L m a0_0 a0_1 a0_2):=by
 rintro ⟨H11,v6_12⟩ o h
 unfold z1d at h
 try dsimp only at h
 refine WS.sq (WS.sq (WS.rg (RS.mS 5 [kB 37 (decide (v6_12<(a0_1.n:Int))),kI 36 (a0_1.n:Int),kS 35 a0_1,kL 34 0 1,kI 33 v6_12] (RS.dn (WS.nxt ?_)))))
 rcases z7 h with ⟨hp,h⟩ | ⟨hp,h⟩
 ·refine WS.fx 37 true (decide_eq_true hp) (WS.cT (WS.sk (WS.nxt (WS.sq (WS.bk 3 (WS.sq (WS.rg (RS.mS 2 [kI 41 v6_12,kA 40 #[(Sl3.v a0_0),(Sl3.v a0_1),(Sl3.v a0_2)]] ?_))))))))
  obtain ⟨⟨x13,H14⟩,hx,h⟩:=bind_some h
  try dsimp only at h
  refine RS.cl (some 42) (v:=(Value.bool x13)) 52 #[(Value.agg #[(Sl3.v a0_0),(Sl3.v a0_1),(Sl3.v a0_2)]),(Value.int .i64 v6_12)] (ziz hx) (RS.dn (WS.nxt ?_))
  rcases z7 h with ⟨hp,h⟩ | ⟨hp,h⟩
  ·refine WS.fx 42 true hp (WS.cT (WS.sq (WS.rg (RS.mS 1 [kI 2 44] (RS.dn (WS.nxt (WS.rt ?_)))))))
   cases h
   exact fun a w hs=>bkR (sqR (lsR rfl (rS hs)))
  ·refine WS.fx 42 false (b_not hp) (WS.cF (WS.sk ?_))
   refine fun a w hs=>bkN ((WS.nxt ?_ a w hs))
   refine WS.rg (RS.mS 3 [kI 6 (IntKind.i64.wrap (v6_12+1)),kI 39 (IntKind.i64.wrap (v6_12+1)),kI 38 v6_12] (RS.dn ?_))
   cases h
   exact fun a w hs=>lsN rfl (hs.sb 1)
 ·refine WS.fx 37 false (decide_eq_false hp) (WS.cF (WS.ex 2 ?_))
  cases h
  exact fun a w hs=>sqE (lsB rfl (hs.sb 1))
theorem z8p {E m H L a0_0 a0_1 a0_2 x17 H18} :LoopF Tryd.prog (NE.plain 1000) m E Tryd.f21 ((cfst (csnd (cfst (csnd (csnd (csnd (csnd (csnd (csnd (csnd (csnd B21)))))))))))) (zep L a0_0 a0_1 a0_2 x17 H18) (fun _=>H18) 4 z5g (z5t H) (z23 L a0_0 a0_1 a0_2 x17 H18):=by
 rintro v8_19 o h
 unfold z23 at h
 try dsimp only at h
 refine WS.sq (WS.sq (WS.rg (RS.mS 4 [kB 48 (decide (v8_19<(x17.n:Int))),kI 47 (x17.n:Int),kS 46 x17,kI 45 v8_19] (RS.dn (WS.nxt ?_)))))
 rcases z7 h with ⟨hp,h⟩ | ⟨hp,h⟩
 ·refine WS.fx 48 true (decide_eq_true hp) (WS.cT (WS.sk (WS.nxt (WS.sq (WS.bk 5 (WS.sq (WS.rg (RS.mS 2 [kI 52 v8_19,kS 51 x17] ?_))))))))
  obtain ⟨p20,hx,h⟩:=bind_some h
  refine RS.ix 53 56 4 (.tmp 51) (.tmp 52) hx ?_
  obtain ⟨x21,hx,h⟩:=bind_some h
  refine RS.ld 54 4 (.tmp 53) (z8 hx z3t) (RS.mS 1 [kB 55 (!x21)] (RS.dn (WS.nxt ?_)))
  rcases z7 h with ⟨hp,h⟩ | ⟨hp,h⟩
  ·refine WS.fx 55 false (nb_not hp) (WS.cF (WS.sk ?_))
   refine fun a w hs=>bkN ((WS.nxt ?_ a w hs))
   refine WS.rg (RS.mS 3 [kI 8 (IntKind.i64.wrap (v8_19+1)),kI 50 (IntKind.i64.wrap (v8_19+1)),kI 49 v8_19] (RS.dn ?_))
   cases h
   exact fun a w hs=>lsN rfl (hs.sb 1)
  ·refine WS.fx 55 true (z2n hp) (WS.cT (WS.sq (WS.rg (RS.mS 1 [kI 2 43] (RS.dn (WS.nxt (WS.rt ?_)))))))
   cases h
   exact fun a w hs=>bkR (sqR (lsR rfl (rS hs)))
 ·refine WS.fx 48 false (decide_eq_false hp) (WS.cF (WS.ex 4 ?_))
  cases h
  exact fun a w hs=>sqE (lsB rfl (hs.sb 1))
theorem zhj {L:LC} {m:Nat} {H:AH} {a0_0 a0_1 a0_2:Sl3} {r:(Int×AH)} (h:z60 L m H a0_0 a0_1 a0_2=some r) :
  CallS Tryd.prog (NE.plain 1000) m 21 #[(Value.agg #[(Sl3.v a0_0),(Sl3.v a0_1),(Sl3.v a0_2)])] H (z5g r) (z5t H r):=by
 refine CallS.mk (args:=[(Value.agg #[(Sl3.v a0_0),(Sl3.v a0_1),(Sl3.v a0_2)])]) Tryd.func21 (B:=B21) (by kernel_rfl) (fun E _=>?_)
 unfold z60 at h
 refine WS.sq (WS.rg (RS.mL 2 [kI 2 0,kL 1 0 0] ([some (33,[(Sl3.v a0_0),(Sl3.v a0_1),(Sl3.v a0_2)])]) (RS.dn (WS.nxt (WS.sq (WS.sq (WS.rg (RS.mS 1 [kA 9 #[(Sl3.v a0_0),(Sl3.v a0_1),(Sl3.v a0_2)]] ?_))))))))
 obtain ⟨x1,hx,h⟩:=bind_some h
 refine RS.cl (some 10) (v:=(Value.bool x1)) 49 #[(Value.agg #[(Sl3.v a0_0),(Sl3.v a0_1),(Sl3.v a0_2)])] (zlp hx) (RS.dn (WS.nxt ?_))
 rcases z7 h with ⟨hp,h⟩ | ⟨hp,h⟩
 ·refine WS.fx 10 true hp (WS.cT (WS.sq (WS.rg (RS.mS 1 [kI 2 3] (RS.dn (WS.nxt (WS.rt ?_)))))))
  cases h
  exact fun a w hs=>sqR (rtR (rS hs))
 ·refine WS.fx 10 false (b_not hp) (WS.cF (WS.sk (WS.nxt (WS.sq (WS.rg (RS.mS 1 [kA 11 #[(Sl3.v a0_0),(Sl3.v a0_1),(Sl3.v a0_2)]] ?_))))))
  obtain ⟨⟨x2,H3⟩,hx,h⟩:=bind_some h
  try dsimp only at h
  refine RS.cl (some 12) (v:=(Value.int .i64 x2)) 50 #[(Value.agg #[(Sl3.v a0_0),(Sl3.v a0_1),(Sl3.v a0_2)])] (zkl hx) (RS.mS 1 [kI 3 x2] (RS.dn (WS.nxt (WS.sq (WS.sq (WS.rg (RS.mS 2 [kB 14 (!decide (x2=0)),kI 13 x2] (RS.dn (WS.nxt ?_)))))))))
  rcases z7 h with ⟨hp,h⟩ | ⟨hp,h⟩
  ·refine WS.fx 14 false (z62 hp) (WS.cF (WS.sk (WS.nxt (WS.sq (WS.rg (RS.mS 1 [kA 16 #[(Sl3.v a0_0),(Sl3.v a0_1),(Sl3.v a0_2)]] ?_))))))
   obtain ⟨⟨x4,H5⟩,hx,h⟩:=bind_some h
   try dsimp only at h
   refine RS.cl (some 17) (v:=(Sl3.v x4)) 51 #[(Value.agg #[(Sl3.v a0_0),(Sl3.v a0_1),(Sl3.v a0_2)])] (zk0 hx) (RS.mS 1 [kS 4 x4] (RS.dn (WS.nxt (WS.sq (WS.sq (WS.rg (RS.mS 1 [kI 5 0] (RS.dn (WS.nxt ?_)))))))))
   refine WS.bk 0 ?_
   obtain ⟨o,hl,h⟩:=bind_some h
   rcases o with v5_10 | r
   ·try dsimp only at h
    refine WS.lI (z8i (L:=L) (E:=E) (m:=m) (H:=H)) (L.ok hl) 1 ?_
    clear hl
    refine fun a w hs=>bkE ((WS.nxt ?_ a w hs))
    refine WS.sq (WS.sq (WS.rg (RS.mS 1 [kI 6 0] (RS.dn (WS.nxt (WS.bk 2 ?_))))))
    obtain ⟨o,hl,h⟩:=bind_some h
    rcases o with ⟨H15,v6_16⟩ | r
    ·try dsimp only at h
     refine WS.lI (z8q (L:=L) (E:=E) (m:=m) (H:=H)) (L.ok hl) 1 ?_
     clear hl
     refine fun a w hs=>bkE ((WS.nxt ?_ a w hs))
     refine WS.sq (WS.rg (RS.mS 1 [kA 43 #[(Sl3.v a0_0),(Sl3.v a0_1),(Sl3.v a0_2)]] ?_))
     obtain ⟨⟨x17,H18⟩,hx,h⟩:=bind_some h
     try dsimp only at h
     refine RS.cl (some 44) (v:=(Sl3.v x17)) 53 #[(Value.agg #[(Sl3.v a0_0),(Sl3.v a0_1),(Sl3.v a0_2)])] (zbs hx) (RS.mS 1 [kS 7 x17] (RS.dn (WS.nxt (WS.sq (WS.sq (WS.rg (RS.mS 1 [kI 8 0] (RS.dn (WS.nxt ?_)))))))))
     refine WS.bk 4 ?_
     obtain ⟨o,hl,h⟩:=bind_some h
     rcases o with v8_22 | r
     ·try dsimp only at h
      refine WS.lI (z8p (L:=L) (E:=E) (m:=m) (H:=H)) (L.ok hl) 1 ?_
      clear hl
      refine fun a w hs=>bkE ((WS.nxt ?_ a w hs))
      refine WS.sq (WS.rg (RS.mS 1 [kI 2 0] (RS.dn (WS.nxt (WS.rt ?_)))))
      cases h
      exact fun a w hs=>rtR (rS hs)
     ·try dsimp only at h
      refine WS.lR (z8p (L:=L) (E:=E) (m:=m) (H:=H)) (L.ok hl) 1 ?_
      cases h
      exact fun a w hq=>bkR (sqR (rtR hq))
    ·try dsimp only at h
     refine WS.lR (z8q (L:=L) (E:=E) (m:=m) (H:=H)) (L.ok hl) 1 ?_
     cases h
     exact fun a w hq=>bkR (sqR (rtR hq))
   ·try dsimp only at h
    refine WS.lR (z8i (L:=L) (E:=E) (m:=m) (H:=H)) (L.ok hl) 1 ?_
    cases h
    exact fun a w hq=>bkR (sqR (rtR hq))
  ·refine WS.fx 14 true (z4v hp) (WS.cT (WS.sq (WS.rg (RS.mS 2 [kI 2 x2,kI 15 x2] (RS.dn (WS.nxt (WS.rt ?_)))))))
   cases h
   exact fun a w hs=>sqR (rtR (rS hs))
end Go.Proofs.YtccbilfbhecdaaaDoor
namespace Go.Proofs.YtccbilfbhecdaaaDoor
open Go Go.Abs
set_option maxRecDepth 100000
def badC (c:Con):Bool:=decide (c.sels.length > 64)
def badD (d:Dat):Bool:=decide (d.cons.length<1)||(decide (d.cons.length > 64)||d.cons.any badC)
def badF (f:Fnc):Bool:=decide (f.args.len > 64)
def sumL {α:Type} (f:α→Nat):List α→Nat
 | []=>0
 | x :: l=>f x+sumL f l
def cntD (d:Dat):Nat:=d.cons.length+sumL (fun c=>c.sels.length) d.cons
def cntG (g:Sg):Nat:=g.users.length+g.datas.length+g.funs.length+sumL cntD g.datas
def manyS (g:Sg):Bool:=g.datas.any badD||(g.funs.any badF||decide (cntG g > 4096))
theorem zkp {α:Type} {f:α→Nat} {F:Nat}:∀{l:List α},(∀x∈l,f x≤F)→sumL f l≤l.length*F
 | [],_=>by simp [sumL]
 | x :: l,h=>by
  have h1:=h x (by simp)
  have h2:=zkp (l:=l) fun y hy=>h y (by simp [hy])
  simp only [sumL,List.length_cons,Nat.add_mul,Nat.one_mul]
  omega
theorem zcp {α R:Type} {xs:List α} {body:Int×Int→Option (Lp (Int×Int) R)} (f:α→Nat) (bad:α→Option R) (F M:Nat) (hF:∀x,bad x=none→f x≤F)
  (hs:∀(i:Nat) (hi:i<xs.length) (n:Nat),n+F≤M→body ((n:Int),(i:Int))=some (match bad xs[i] with | some r=>.ret r | none=>.next (((n+f xs[i]:Nat):Int),((i+1:Nat):Int))))
  (he:∀n:Nat,body ((n:Int),(xs.length:Int))=some (.brk ((n:Int),(xs.length:Int)))) :
  ∀(d i n:Nat),i+d=xs.length→n+d*F≤M→loopO body ((n:Int),(i:Int))=some (match (xs.drop i).findSome? bad with | some r=>.inr r | none=>.inl (((n+sumL f (xs.drop i):Nat):Int),(xs.length:Int))):=by
 intro d
 induction d with
 | zero =>
  intro i n hi hn
  have:i=xs.length:=by omega
  subst this
  rw [List.drop_length]
  exact zl (he n)
 | succ d ih =>
  intro i n hi hn
  have hlt:i<xs.length:=by omega
  rw [Nat.add_mul,Nat.one_mul] at hn
  have hb:=hs i hlt n (by omega)
  rw [List.drop_eq_getElem_cons hlt,List.findSome?_cons]
  cases hq:bad xs[i] with
  | some r=>rw [hq] at hb; exact z41 hb
  | none =>
   rw [hq] at hb
   have h1:=hF xs[i] hq
   rw [zj hb,ih (i+1) (n+f xs[i]) (by omega) (by omega)]
   simp only [sumL]
   cases (xs.drop (i+1)).findSome? bad with
   | some r=>rfl
   | none=>simp only [Nat.add_assoc]
theorem zl3 {α R:Type} {xs:List α} {body:Int×Int→Option (Lp (Int×Int) R)}
  (hs:∀(i:Nat) (hi:i<xs.length) (n:Int),∃n',body (n,(i:Int))=some (.next (n',((i+1:Nat):Int)))) (he:∀n:Int,body (n,(xs.length:Int))=some (.brk (n,(xs.length:Int)))) :
  ∀(d i:Nat) (n:Int),i+d=xs.length→∃n',loopO body (n,(i:Int))=some (.inl (n',(xs.length:Int))):=by
 intro d
 induction d with
 | zero =>
  intro i n hi
  have:i=xs.length:=by omega
  subst this
  exact ⟨n,zl (he n)⟩
 | succ d ih =>
  intro i n hi
  obtain ⟨n',hb⟩:=hs i (by omega) n
  obtain ⟨n2,h⟩:=ih (i+1) n' (by omega)
  exact ⟨n2,by rw [zj hb]; exact h⟩
theorem zcq {α R:Type} (l:List α) (p:α→Bool) (r:R):(l.findSome? fun x=>if p x=true then some r else none)=if l.any p=true then some r else none:=by
 induction l with
 | nil=>rfl
 | cons x l ih =>
  rw [List.findSome?_cons,List.any_cons,ih]
  cases p x <;> rfl
theorem z81 {α R:Type} (l:List α) (bad:α→Bool) (r:R) (d:α) :
  (List.range l.length).findSome? (fun i=>if bad (l.getD i d)=true then some r else none)=if l.any bad=true then some r else none:=by
 induction l with
 | nil=>simp
 | cons x l ih =>
  rw [List.length_cons,List.range_succ_eq_map,List.findSome?_cons,List.any_cons]
  cases hx:bad x with
  | true=>simp [hx]
  | false =>
   simp only [List.getD_cons_zero,hx,Bool.false_eq_true,if_false,Bool.false_or,List.findSome?_map,Function.comp_def,List.getD_cons_succ]
   exact ih
theorem z71 {a b:Nat} (h:a+b≤maxN):IntKind.i64.wrap ((a:Int)+(b:Int))=((a+b:Nat):Int):=zni (by omega) (by rw [z1n] at h; omega)
theorem zug (c:Nat) {H:AH} {s1 s2 s3 sl:Sl3} {v:Int} {x0:ByteArray} {cs:List Con} (h:SlL ConA 2 H sl cs) (hl:cs.length≤64) {n:Nat} (hn:n+4096≤maxN) :
  loopO (z35 (LCo c) H s1 s2 s3 v x0 sl) ((n:Int),0)=some (if cs.any badC=true then .inr true else .inl (((n+sumL (fun c=>c.sels.length) cs:Nat):Int),(cs.length:Int))):=by
 have hs:loopO (z35 (LCo c) H s1 s2 s3 v x0 sl) ((n:Int),((0:Nat):Int))=_:=zcp (xs:=cs) (body:=z35 (LCo c) H s1 s2 s3 v x0 sl) (fun c=>c.sels.length) (fun c=>if badC c=true then some true else none) 64 (n+4096)
  (fun x hx=>by
   unfold badC at hx
   by_cases h:x.sels.length > 64
   ·simp [h] at hx
   ·omega)
  (fun i hi n' hn'=>by
   unfold z35
   have hln:=h.n
   obtain ⟨q,h1,h2⟩:=h.get hi (v:=(i:Int)) rfl
   obtain ⟨sx,h3,h4⟩:=h2.ex
   have r0:rd deS H (q.add 0)=some cs[i].n:=by rw [h2.n.rd]; rfl
   have r1:rd deSl H (q.add 1)=some sx:=by rw [h3.rd]; rfl
   simp only [if_pos (show (i:Int)<(sl.n:Int) by omega),h1,Option.bind_some,r0,r1,h4.n]
   unfold badC
   by_cases hb:cs[i].sels.length > 64
   ·have:((cs[i].sels.length:Nat):Int) > 64:=by omega
    simp [hb,this]
   ·have:¬(((cs[i].sels.length:Nat):Int) > 64):=by omega
    rw [if_neg this,z71 (by omega),zd hi h.len]
    simp [hb])
  (fun n'=>by
   unfold z35
   have hln:=h.n
   simp only [if_neg (show ¬((cs.length:Int)<(sl.n:Int)) by omega)])
  cs.length 0 n (by omega) (by omega)
 rw [List.drop_zero,zcq] at hs
 refine hs.trans ?_
 cases cs.any badC <;> rfl
theorem zre (c:Nat) {H:AH} {s1 s2 s3:Sl3} {g:Sg} (h:SigA H s1 s2 s3 g) (hB:SgB g):z9m (LCo c) H s1 s2 s3=some (manyS g):=by
 have eS:maxS=140737488351232:=rfl
 have eN:=z1n
 have hu:=h.u.n; have hd:=h.d.n; have hf:=h.f.n
 have b1:=hB.u; have b2:=hB.d; have b3:=hB.f
 unfold z9m
 have w0:IntKind.i64.wrap (IntKind.i64.wrap ((s1.n:Int)+(s2.n:Int))+(s3.n:Int))=((s1.n+s2.n+s3.n:Nat):Int):=by
  rw [z71 (by omega),z71 (by omega)]
 rw [w0]
 have hs:loopO (z40 (LCo c) H s1 s2 s3) (((s1.n+s2.n+s3.n:Nat):Int),((0:Nat):Int))=_:=zcp (xs:=g.datas) (body:=z40 (LCo c) H s1 s2 s3) cntD (fun d=>if badD d=true then some true else none) 8256 9000000000000000000
  (fun d hd=>by
   by_cases hb:badD d=true
   ·rw [if_pos hb] at hd; cases hd
   ·simp only [badD,Bool.or_eq_true,decide_eq_true_eq,not_or,List.any_eq_true,not_exists,not_and] at hb
    have:sumL (fun c=>c.sels.length) d.cons≤d.cons.length*64:=zkp fun x hx=>by
     have:=hb.2.2 x hx
     simp only [badC,decide_eq_true_eq] at this
     omega
    unfold cntD
    omega)
  (fun i hi n' hn'=>by
   unfold z40
   obtain ⟨q,h1,h2⟩:=h.d.get hi (v:=(i:Int)) rfl
   obtain ⟨sx,h3,h4⟩:=h2.ex
   have r0:rd deS H (q.add 0)=some g.datas[i].n:=by rw [h2.n.rd]; rfl
   have r1:rd deSl H (q.add 1)=some sx:=by rw [h3.rd]; rfl
   simp only [if_pos (show (i:Int)<(s2.n:Int) by omega),h1,Option.bind_some,r0,r1,h4.n]
   by_cases c1:g.datas[i].cons.length<1
   ·have:((g.datas[i].cons.length:Nat):Int)<1:=by omega
    simp [badD,c1,this]
   ·have c1':¬(((g.datas[i].cons.length:Nat):Int)<1):=by omega
    rw [if_neg c1']
    by_cases c2:g.datas[i].cons.length > 64
    ·have:((g.datas[i].cons.length:Nat):Int) > 64:=by omega
     simp [badD,c2,this]
    ·have c2':¬(((g.datas[i].cons.length:Nat):Int) > 64):=by omega
     simp only [decide_eq_false c2',Option.bind_some,Bool.false_eq_true,if_false]
     rw [z71 (by omega)]
     have hb1:=zug c (s1:=s1) (s2:=s2) (s3:=s3) (v:=(i:Int)) (x0:=g.datas[i].n) h4 (by omega) (n:=n'+g.datas[i].cons.length) (by omega)
     show Option.bind (loopO (z35 (LCo c) H s1 s2 s3 (i:Int) g.datas[i].n sx) (((n'+g.datas[i].cons.length:Nat):Int),0)) _=_
     rw [hb1]
     have hbd:badD g.datas[i]=g.datas[i].cons.any badC:=by simp [badD,c1,c2]
     rw [hbd]
     cases g.datas[i].cons.any badC with
     | true=>rfl
     | false =>
      simp only [Bool.false_eq_true,if_false,Option.bind_some]
      rw [zd hi h.d.len]
      simp only [cntD,Nat.add_assoc])
  (fun n'=>by
   unfold z40
   simp only [if_neg (show ¬((g.datas.length:Int)<(s2.n:Int)) by omega)])
  g.datas.length 0 (s1.n+s2.n+s3.n) (by omega) (by omega)
 rw [List.drop_zero,zcq] at hs
 show Option.bind (loopO (z40 (LCo c) H s1 s2 s3) (((s1.n+s2.n+s3.n:Nat):Int),((0:Nat):Int))) _=_
 rw [hs]
 unfold manyS
 cases g.datas.any badD with
 | true=>rfl
 | false =>
  simp only [Bool.false_eq_true,if_false,Option.bind_some,Bool.false_or]
  have hl:∀v,loopO (z4z (LCo c) H s1 s2 s3 v) 0=some (found g.funs.length ((List.range g.funs.length).findSome? (fun i=>if badF (g.funs.getD i ⟨emptyT,.nil,0,0,emptyT,.nil⟩)=true then some true else none))):=by
   intro v
   refine z1f g.funs.length h.f.len _ (fun i hi=>?_) ?_
   ·unfold z4z
    obtain ⟨q,h1,h2⟩:=h.f.get hi (v:=(i:Int)) rfl
    obtain ⟨sx,h3,h4⟩:=h2.ar
    obtain ⟨sy,k2,k3,k4,k5,k6,k7⟩:=h2.ex
    have r0:rd deS H (q.add 0)=some g.funs[i].n:=by rw [h2.n.rd]; rfl
    have r1:rd deSl H (q.add 1)=some sx:=by rw [h3.rd]; rfl
    have r2:rd (deI .i64) H (q.add 2)=some g.funs[i].k:=by rw [k2.rd]; rfl
    have r3:rd (deI .i64) H (q.add 3)=some g.funs[i].w:=by rw [k3.rd]; rfl
    have r4:rd deS H (q.add 4)=some g.funs[i].sn:=by rw [k4.rd]; rfl
    have r5:rd deSl H (q.add 5)=some sy:=by rw [k5.rd]; rfl
    have:g.funs.getD i ⟨emptyT,.nil,0,0,emptyT,.nil⟩=g.funs[i]:=by simp [List.getD,hi]
    simp only [if_pos (show (i:Int)<(s3.n:Int) by omega),h1,Option.bind_some,r0,r1,r2,r3,r4,r5,this,badF,h4.1]
    by_cases hb:g.funs[i].args.len > 64
    ·have:((g.funs[i].args.len:Nat):Int) > 64:=by omega
     simp [hb,this,stepO]
    ·have:¬(((g.funs[i].args.len:Nat):Int) > 64):=by omega
     simp [hb,this,stepO]
   ·unfold z4z
    rw [if_neg (by omega)]
  show Option.bind (loopO (z4z (LCo c) H s1 s2 s3 _) 0) _=_
  rw [hl,z81 g.funs badF true ⟨emptyT,.nil,0,0,emptyT,.nil⟩]
  cases g.funs.any badF with
  | true=>rfl
  | false =>
   simp only [Bool.false_eq_true,if_false,found,Option.bind_some,Bool.false_or]
   congr 2
   apply propext
   unfold cntG
   omega
theorem zp6 (c:Nat) {H:AH} {s1 s2 s3 sl:Sl3} {v:Int} {x0:ByteArray} {cs:List Con} (h:SlL ConA 2 H sl cs) {i:Nat} (hi:i<cs.length) (n:Int) :
  z1j (LCo c) H s1 s2 s3 v x0 sl (n,(i:Int))=some (.next (IntKind.i64.wrap (n+(cs[i].sels.length:Nat)),((i+1:Nat):Int))):=by
 unfold z1j
 have hln:=h.n
 obtain ⟨q,h1,h2⟩:=h.get hi (v:=(i:Int)) rfl
 obtain ⟨sx,h3,h4⟩:=h2.ex
 have r1:rd deSl H (q.add 1)=some sx:=by rw [h3.rd]; rfl
 simp only [if_pos (show (i:Int)<(sl.n:Int) by omega),h1,Option.bind_some,r1,h4.n]
 rw [zd hi h.len]
theorem zou (c:Nat) {H:AH} {s1 s2 s3 sl:Sl3} {v:Int} {x0:ByteArray} {cs:List Con} (h:SlL ConA 2 H sl cs) (n:Int) :
  z1j (LCo c) H s1 s2 s3 v x0 sl (n,(cs.length:Int))=some (.brk (n,(cs.length:Int))):=by
 unfold z1j
 have hln:=h.n
 simp only [if_neg (show ¬((cs.length:Int)<(sl.n:Int)) by omega)]
theorem zsm (c:Nat) {H:AH} {s1 s2 s3:Sl3} {g:Sg} (h:SigA H s1 s2 s3 g) (hB:SgB g):z8h (LCo c) H s1 s2 s3=some (manyS g):=by
 have eS:maxS=140737488351232:=rfl
 have eN:=z1n
 have hu:=h.u.n; have hd:=h.d.n; have hf:=h.f.n
 have b1:=hB.u; have b2:=hB.d; have b3:=hB.f
 unfold z8h
 have w0:IntKind.i64.wrap (IntKind.i64.wrap ((s1.n:Int)+(s2.n:Int))+(s3.n:Int))=((s1.n+s2.n+s3.n:Nat):Int):=by
  rw [z71 (by omega),z71 (by omega)]
 rw [w0]
 have hsum:∃v:Int,loopO (z1k (LCo c) H s1 s2 s3) (((s1.n+s2.n+s3.n:Nat):Int),((0:Nat):Int))=some (.inl (v,(g.datas.length:Int)))∧(g.datas.any badD=false→v=(cntG g:Int)):=by
  cases hbad:g.datas.any badD with
  | true =>
   obtain ⟨v,hv⟩:=zl3 (xs:=g.datas) (body:=z1k (LCo c) H s1 s2 s3) (fun i hi n=>by
     obtain ⟨q,h1,h2⟩:=h.d.get hi (v:=(i:Int)) rfl
     obtain ⟨sx,h3,h4⟩:=h2.ex
     have r0:rd deS H (q.add 0)=some g.datas[i].n:=by rw [h2.n.rd]; rfl
     have r1:rd deSl H (q.add 1)=some sx:=by rw [h3.rd]; rfl
     obtain ⟨n',hn'⟩:=zl3 (xs:=g.datas[i].cons) (body:=z1j (LCo c) H s1 s2 s3 (i:Int) g.datas[i].n sx) (fun j hj n=>⟨_,zp6 c h4 hj n⟩) (zou c h4) g.datas[i].cons.length 0 (IntKind.i64.wrap (n+(g.datas[i].cons.length:Nat))) (by omega)
     refine ⟨n',?_⟩
     unfold z1k
     simp only [if_pos (show (i:Int)<(s2.n:Int) by omega),h1,Option.bind_some,r0,r1,h4.n]
     show Option.bind (loopO (z1j (LCo c) H s1 s2 s3 (i:Int) g.datas[i].n sx) (_,((0:Nat):Int))) _=_
     rw [hn']
     simp only [Option.bind_some]
     rw [zd hi h.d.len])
    (fun n=>by
     unfold z1k
     simp only [if_neg (show ¬((g.datas.length:Int)<(s2.n:Int)) by omega)])
    g.datas.length 0 ((s1.n+s2.n+s3.n:Nat):Int) (by omega)
   exact ⟨v,hv,fun h=>by cases h⟩
  | false =>
   have hok:∀d∈g.datas,badD d=false:=by
    rw [List.any_eq_false] at hbad
    intro d hd
    simpa using hbad d hd
   refine ⟨(cntG g:Int),?_,fun _=>rfl⟩
   have hs:loopO (z1k (LCo c) H s1 s2 s3) (((s1.n+s2.n+s3.n:Nat):Int),((0:Nat):Int))=_:=zcp (xs:=g.datas) (body:=z1k (LCo c) H s1 s2 s3) (fun d=>if badD d=true then 0 else cntD d) (fun _=>none) 8256 9000000000000000000
    (fun d _=>by
     by_cases hb:badD d=true
     ·rw [if_pos hb]; omega
     ·rw [if_neg hb]
      simp only [badD,Bool.or_eq_true,decide_eq_true_eq,not_or,List.any_eq_true,not_exists,not_and] at hb
      have:sumL (fun c=>c.sels.length) d.cons≤d.cons.length*64:=zkp fun x hx=>by
       have:=hb.2.2 x hx
       simp only [badC,decide_eq_true_eq] at this
       omega
      unfold cntD
      omega)
    (fun i hi n' hn'=>by
     obtain ⟨q,h1,h2⟩:=h.d.get hi (v:=(i:Int)) rfl
     obtain ⟨sx,h3,h4⟩:=h2.ex
     have r0:rd deS H (q.add 0)=some g.datas[i].n:=by rw [h2.n.rd]; rfl
     have r1:rd deSl H (q.add 1)=some sx:=by rw [h3.rd]; rfl
     have hbd:=hok g.datas[i] (List.getElem_mem hi)
     have hbd':=hbd
     simp only [badD,Bool.or_eq_false_iff,decide_eq_false_iff_not] at hbd'
     have hsel:∀x∈g.datas[i].cons,x.sels.length≤64:=by
      intro x hx
      have:=hbd'.2.2
      rw [List.any_eq_false] at this
      have:=this x hx
      simp only [badC,decide_eq_true_eq] at this
      omega
     have hs1:loopO (z1j (LCo c) H s1 s2 s3 (i:Int) g.datas[i].n sx) (((n'+g.datas[i].cons.length:Nat):Int),((0:Nat):Int))=_:=zcp (xs:=g.datas[i].cons) (body:=z1j (LCo c) H s1 s2 s3 (i:Int) g.datas[i].n sx) (fun c=>if badC c=true then 0 else c.sels.length) (fun _=>none) 64 9000000000000000064
      (fun x _=>by
       unfold badC
       by_cases h:x.sels.length > 64
       ·simp [h]
       ·simp [h]; omega)
      (fun j hj n2 hn2=>by
       rw [zp6 c h4 hj,z71 (by have:=hsel _ (List.getElem_mem hj); omega)]
       have:badC g.datas[i].cons[j]=false:=by
        have:=hsel _ (List.getElem_mem hj)
        simp [badC]; omega
       simp [this])
      (fun n2=>zou c h4 n2)
      g.datas[i].cons.length 0 (n'+g.datas[i].cons.length) (by omega) (by omega)
     rw [List.drop_zero] at hs1
     have e1:(g.datas[i].cons.findSome? fun (_:Con)=>(none:Option Bool))=none:=by simp
     rw [e1] at hs1
     have e2:sumL (fun c=>if badC c=true then 0 else c.sels.length) g.datas[i].cons=sumL (fun c=>c.sels.length) g.datas[i].cons:=by
      have key:∀l:List Con,(∀x∈l,x.sels.length≤64)→sumL (fun c=>if badC c=true then 0 else c.sels.length) l=sumL (fun c=>c.sels.length) l:=by
       intro l
       induction l with
       | nil=>intro _; rfl
       | cons x l ih =>
        intro hx
        have:badC x=false:=by have:=hx x (by simp); simp [badC]; omega
        simp only [sumL,this,Bool.false_eq_true,if_false]
        rw [ih fun y hy=>hx y (by simp [hy])]
      exact key _ hsel
     unfold z1k
     simp only [if_pos (show (i:Int)<(s2.n:Int) by omega),h1,Option.bind_some,r0,r1,h4.n]
     rw [z71 (by omega)]
     show Option.bind (loopO (z1j (LCo c) H s1 s2 s3 (i:Int) g.datas[i].n sx) (((n'+g.datas[i].cons.length:Nat):Int),((0:Nat):Int))) _=_
     rw [hs1,e2]
     simp only [Option.bind_some,hbd,Bool.false_eq_true,if_false]
     rw [zd hi h.d.len]
     simp only [cntD,Nat.add_assoc])
    (fun n'=>by
     unfold z1k
     simp only [if_neg (show ¬((g.datas.length:Int)<(s2.n:Int)) by omega)])
    g.datas.length 0 (s1.n+s2.n+s3.n) (by omega) (by omega)
   rw [List.drop_zero] at hs
   have e1:(g.datas.findSome? fun (_:Dat)=>(none:Option Bool))=none:=by simp
   rw [e1] at hs
   have e2:sumL (fun d=>if badD d=true then 0 else cntD d) g.datas=sumL cntD g.datas:=by
    have key:∀l:List Dat,(∀x∈l,badD x=false)→sumL (fun d=>if badD d=true then 0 else cntD d) l=sumL cntD l:=by
     intro l
     induction l with
     | nil=>intro _; rfl
     | cons x l ih =>
      intro hx
      simp only [sumL,hx x (by simp),Bool.false_eq_true,if_false]
      rw [ih fun y hy=>hx y (by simp [hy])]
    exact key _ hok
   rw [e2] at hs
   refine hs.trans ?_
   simp only [cntG,hu,hd,hf]
 obtain ⟨v,hv,hv2⟩:=hsum
 show Option.bind (loopO (z1k (LCo c) H s1 s2 s3) (((s1.n+s2.n+s3.n:Nat):Int),((0:Nat):Int))) _=_
 rw [hv]
 simp only [Option.bind_some]
 have hl2:loopO (z3n (LCo c) H s1 s2 s3) 0=some (found g.datas.length ((List.range g.datas.length).findSome? (fun i=>if badD (g.datas.getD i ⟨emptyT,[]⟩)=true then some true else none))):=by
  refine z1f g.datas.length h.d.len _ (fun i hi=>?_) ?_
  ·unfold z3n
   obtain ⟨q,h1,h2⟩:=h.d.get hi (v:=(i:Int)) rfl
   obtain ⟨sx,h3,h4⟩:=h2.ex
   have r0:rd deS H (q.add 0)=some g.datas[i].n:=by rw [h2.n.rd]; rfl
   have r1:rd deSl H (q.add 1)=some sx:=by rw [h3.rd]; rfl
   have eg:g.datas.getD i ⟨emptyT,[]⟩=g.datas[i]:=by simp [List.getD,hi]
   simp only [if_pos (show (i:Int)<(s2.n:Int) by omega),h1,Option.bind_some,r0,r1,h4.n,eg]
   by_cases c1:g.datas[i].cons.length<1
   ·have:((g.datas[i].cons.length:Nat):Int)<1:=by omega
    simp [badD,c1,this,stepO]
   ·have c1':¬(((g.datas[i].cons.length:Nat):Int)<1):=by omega
    rw [if_neg c1']
    by_cases c2:g.datas[i].cons.length > 64
    ·have:((g.datas[i].cons.length:Nat):Int) > 64:=by omega
     simp [badD,c2,this,stepO]
    ·have c2':¬(((g.datas[i].cons.length:Nat):Int) > 64):=by omega
     simp only [decide_eq_false c2',Option.bind_some,Bool.false_eq_true,if_false]
     have hl3:loopO (z4d (LCo c) H s1 s2 s3 (i:Int) g.datas[i].n sx) 0=some (found g.datas[i].cons.length ((List.range g.datas[i].cons.length).findSome? (fun j=>if badC (g.datas[i].cons.getD j ⟨emptyT,[]⟩)=true then some true else none))):=by
      refine z1f g.datas[i].cons.length h4.len _ (fun j hj=>?_) ?_
      ·unfold z4d
       have hln:=h4.n
       obtain ⟨q',k1,k2⟩:=h4.get hj (v:=(j:Int)) rfl
       obtain ⟨sy,k3,k4⟩:=k2.ex
       have r1:rd deSl H (q'.add 1)=some sy:=by rw [k3.rd]; rfl
       have eg:g.datas[i].cons.getD j ⟨emptyT,[]⟩=g.datas[i].cons[j]:=by simp [List.getD,hj]
       simp only [if_pos (show (j:Int)<(sx.n:Int) by omega),k1,Option.bind_some,r1,k4.n,eg,badC]
       by_cases hb:g.datas[i].cons[j].sels.length > 64
       ·have:((g.datas[i].cons[j].sels.length:Nat):Int) > 64:=by omega
        simp [hb,this,stepO]
       ·have:¬(((g.datas[i].cons[j].sels.length:Nat):Int) > 64):=by omega
        simp [hb,this,stepO]
      ·unfold z4d
       have hln:=h4.n
       rw [if_neg (by omega)]
     show Option.bind (loopO (z4d (LCo c) H s1 s2 s3 (i:Int) g.datas[i].n sx) 0) _=_
     rw [hl3,z81 g.datas[i].cons badC true ⟨emptyT,[]⟩]
     have hbd:badD g.datas[i]=g.datas[i].cons.any badC:=by simp [badD,c1,c2]
     rw [hbd]
     cases g.datas[i].cons.any badC <;> rfl
  ·unfold z3n
   rw [if_neg (by omega)]
 have hl4:loopO (z3h (LCo c) H s1 s2 s3) 0=some (found g.funs.length ((List.range g.funs.length).findSome? (fun i=>if badF (g.funs.getD i ⟨emptyT,.nil,0,0,emptyT,.nil⟩)=true then some true else none))):=by
  refine z1f g.funs.length h.f.len _ (fun i hi=>?_) ?_
  ·unfold z3h
   obtain ⟨q,h1,h2⟩:=h.f.get hi (v:=(i:Int)) rfl
   obtain ⟨sx,h3,h4⟩:=h2.ar
   have r1:rd deSl H (q.add 1)=some sx:=by rw [h3.rd]; rfl
   have:g.funs.getD i ⟨emptyT,.nil,0,0,emptyT,.nil⟩=g.funs[i]:=by simp [List.getD,hi]
   simp only [if_pos (show (i:Int)<(s3.n:Int) by omega),h1,Option.bind_some,r1,this,badF,h4.1]
   by_cases hb:g.funs[i].args.len > 64
   ·have:((g.funs[i].args.len:Nat):Int) > 64:=by omega
    simp [hb,this,stepO]
   ·have:¬(((g.funs[i].args.len:Nat):Int) > 64):=by omega
    simp [hb,this,stepO]
  ·unfold z3h
   rw [if_neg (by omega)]
 have tail:(Option.bind ((LCo c).run (z3n (LCo c) H s1 s2 s3) 0) fun o=>match o with
   | .inl _=>Option.bind ((LCo c).run (z3h (LCo c) H s1 s2 s3) 0) fun o=>match o with
    | .inl _=>some false
    | .inr r=>some r
   | .inr r=>some r)=some (g.datas.any badD||g.funs.any badF):=by
  show Option.bind (loopO (z3n (LCo c) H s1 s2 s3) 0) _=_
  rw [hl2,z81 g.datas badD true ⟨emptyT,[]⟩]
  cases g.datas.any badD with
  | true=>rfl
  | false =>
   simp only [Bool.false_eq_true,if_false,found,Option.bind_some,Bool.false_or]
   show Option.bind (loopO (z3h (LCo c) H s1 s2 s3) 0) _=_
   rw [hl4,z81 g.funs badF true ⟨emptyT,.nil,0,0,emptyT,.nil⟩]
   cases g.funs.any badF <;> rfl
 unfold manyS
 by_cases hvv:v > 4096
 ·rw [if_pos hvv]
  cases hb:g.datas.any badD with
  | true=>rfl
  | false =>
   have:=hv2 hb
   have:cntG g > 4096:=by omega
   simp [this]
 ·rw [if_neg hvv]
  refine tail.trans ?_
  cases hb:g.datas.any badD with
  | true=>rfl
  | false =>
   have:=hv2 hb
   have:¬cntG g > 4096:=by omega
   simp [this]
end Go.Proofs.YtccbilfbhecdaaaDoor
namespace Go.Proofs.YtccbilfbhecdaaaDoor
open Go Go.Abs
set_option maxRecDepth 100000
def strE:Enc ByteArray:=⟨fun s=>[.string s],1,fun _=>rfl,fun _=>rfl⟩
def selNames (c:Con):List ByteArray:=c.n :: c.sels.map (·.n)
def conNames (d:Dat):List ByteArray:=d.cons.flatMap selNames
def sortNamesS (g:Sg):List ByteArray:=g.users++g.datas.flatMap fun d=>[d.n]
def funNamesS (g:Sg):List ByteArray:=g.datas.flatMap conNames++g.funs.flatMap fun f=>[f.n]
theorem flat_one {α β:Type} (f:α→β) (l:List α):(l.flatMap fun x=>[f x]).length=l.length:=by
 induction l with
 | nil=>rfl
 | cons x l ih=>rw [List.flatMap_cons,List.length_append,ih]; simp; omega
theorem znf (d:Dat):(conNames d).length=cntD d:=by
 unfold conNames cntD
 generalize d.cons=l
 induction l with
 | nil=>rfl
 | cons c l ih =>
  rw [List.flatMap_cons,List.length_append,ih]
  simp only [selNames,List.length_cons,List.length_map,sumL]
  omega
theorem zm1 (l:List Dat):(l.flatMap conNames).length=sumL cntD l:=by
 induction l with
 | nil=>rfl
 | cons c l ih=>rw [List.flatMap_cons,List.length_append,ih,znf]; rfl
theorem z7t {g:Sg} (h:manyS g=false):(sortNamesS g).length+(funNamesS g).length≤4096:=by
 unfold manyS at h
 simp only [Bool.or_eq_false_iff,decide_eq_false_iff_not] at h
 have:=h.2.2
 unfold cntG at this
 unfold sortNamesS funNamesS
 rw [List.length_append,List.length_append,flat_one,flat_one,zm1]
 omega
theorem room {n:Nat} (h:n≤100000):(2*n+1000)*16≤281474976710656∧n≤281474976710656:=by omega
theorem own_lt {α:Type} {E:Enc α} {e:TypeId} {m:Nat} {H:AH} {l:List α} {s:Sl3} (h:VecA E e m H l s):∀id,owns s id→id<H.next:=fun id hid=>(VecV.own h id hid).2
theorem z6p {m:Nat} {H:AH} {l:List ByteArray} {s:Sl3} (h:VecA strE 9 m H l s) (x:ByteArray) (hN:l.length+1≤100000) (hm:m≤H.next) :
  ∃z H1 s' H',newR 9 1 #[(Value.string x)] H=some (z,H1)∧appS m 9 1 16 H1 s z=some (s',H')∧VecA strE 9 m H' (l++[x]) s'∧Ch H s H' s' :=
 VecA.push h x (room hN).1 (room hN).2 hm (own_lt h)
theorem zuv {H:AH} {s:Sl3} {l:List ByteArray} (h:SlL StrA 1 H s l):RdV 1 H s l.length (l.flatMap strE.enc):=by
 refine ⟨h.n,fun hp=>?_,fun a ha=>?_,strE.flat_one l⟩
 ·have:l=[]:=by
   cases l with
   | nil=>rfl
   | cons x l =>
    obtain ⟨a,h1,_⟩:=h.at_.get 0 (by simp)
    rw [hp] at h1; cases h1
  subst this; exact ⟨rfl,rfl⟩
 ·have:=z8v (H:=H) (a:=a) (l.flatMap strE.enc) 0 fun i hi=>by
   rw [strE.flat_len] at hi
   have hi':i<l.length:=by
    have:strE.sz=1:=rfl
    rw [this] at hi; omega
   obtain ⟨a',h1,h2⟩:=h.at_.get i hi'
   rw [ha] at h1; cases h1
   have e1:(l.flatMap strE.enc)[i]? = some (.string l[i]):=by
    have:=strE.flat_get (l:=l) (i:=i) (j:=0) hi' (by decide)
    rw [show i*strE.sz+0=i from by show i*1+0=i; omega] at this
    rw [this]; rfl
   rw [List.getElem?_eq_getElem (by rw [strE.flat_len]; exact hi)] at e1
   rw [Option.some.inj e1,Nat.zero_add]
   rw [Nat.zero_add,Nat.mul_one] at h2
   exact h2.1
  rw [strE.flat_len] at this
  exact this
theorem zjs (c m:Nat) {H:AH} {s:Sl3} {l:List ByteArray} (h:∀H',Ext H H'→RdV 1 H' s l.length (l.flatMap strE.enc)) (hN:l.length≤100000) (hm:m≤H.next) :
  ∃s' H',z5y (LCo c) m H s=some (s',H')∧VecA strE 9 m H' l s'∧Ext H H'∧∀id,owns s' id→H.next≤id:=by
 unfold z5y
 cases hnil:isNilS s with
 | true =>
  have hp:s.p=none:=by
   unfold isNilS at hnil
   cases hq:s.p with
   | none=>rfl
   | some a=>rw [hq] at hnil; cases hnil
  have:l=[]:=by
   have:=(h H (Fm.refl _ _)).nil hp
   exact List.length_eq_zero_iff.1 this.1
  subst this
  exact ⟨Sl3.nil,H,rfl,VecA.nil _ _ _ _,Fm.refl _ _,fun id h=>absurd h z4b⟩
 | false =>
  have hp:Ext H (H.push { obj:=.cells #[] 9 (0,0),opn:=false,esz:=0,ro:=false }):=Fm.push _ _ _
  obtain ⟨s',H',a1,a2,a3⟩:=VecA.app (E:=strE) (e:=9) (bytes:=16) (l:=[]) (l':=l) (m:=m) (VecA.zero _ _ _ _ ⟨H.next,0,none⟩ ⟨by simp,rfl⟩) (h _ hp) (by simp only [List.length_nil,Nat.zero_add]; exact (room hN).1) (by simp only [List.length_nil,Nat.zero_add]; exact (room hN).2) (by simp; omega)
  have hx:=a3.ext hp fun id h=>absurd h zcf
  refine ⟨s',H',?_,a2,hx.1,hx.2⟩
  simp only [Bool.false_eq_true,if_false,newR,Option.bind_some]
  have a1':appS m 9 1 16 (H.push { obj:=.cells #[] 9 (0,0),opn:=false,esz:=0,ro:=false }) ⟨some ⟨H.next,0,none⟩,0,0⟩ s=some (s',H'):=a1
  rw [a1']
  rfl
theorem zp3 {H:AH} {s:Sl3} {l:List ByteArray} (h:SlL StrA 1 H s l):∀H',Ext H H'→RdV 1 H' s l.length (l.flatMap strE.enc):=fun H' hx=>zuv (h.ext hx fun _ _ h=>Cel.ext h hx)
theorem zev {m:Nat} {H:AH} {s:Sl3} {l:List ByteArray} (h:VecA strE 9 m H l s):∀H',Ext H H'→RdV 1 H' s l.length (l.flatMap strE.enc):=fun H' hx=>(VecV.ext h hx).rdv
theorem z9f {m:Nat} {H:AH} {s:Sl3} {l:List ByteArray} (h:VecA strE 9 m H l s) (hN:l.length≤100000):SlL StrA 1 H s l :=
 VecA.sl h (by rw [z1n]; omega) fun x q hc=>hc 0 _ rfl
end Go.Proofs.YtccbilfbhecdaaaDoor
namespace Go.Proofs.YtccbilfbhecdaaaDoor
open Go Go.Abs
set_option maxRecDepth 100000
theorem z9h {α β:Type} (f:α→β) (l:List α):(l.flatMap fun x=>[f x])=l.map f:=by
 induction l with
 | nil=>rfl
 | cons x l ih=>rw [List.flatMap_cons,ih]; rfl
section
variable {m:Nat} {H0 H:AH} {s1 s2 s3:Sl3} {g:Sg} {s:Sl3} {l:List ByteArray}
theorem zsq (c:Nat) {v20 v32:Int} {x8_0 x17_0:ByteArray} {x8_1 s11 sl:Sl3} {ss:List Sel} (h:SlL SelA 5 H0 sl ss) (hm:m≤H0.next) (hv:VecA strE 9 m H l s) (hx:Ext H0 H) (ho:∀id,owns s id→H0.next≤id) (hN:l.length+ss.length≤100000) :
  ∃H' s',loopO (z3l (LCo c) m s1 s2 s3 v20 x8_0 x8_1 s11 v32 x17_0 sl) (H,s,0)=some (.inl (H',s',(ss.length:Int)))∧VecA strE 9 m H' (l++ss.map (·.n)) s'∧Ch H s H' s':=by
 have key:=z5o (E:=strE) (e:=9) (m:=m) (xs:=ss) (body:=z3l (LCo c) m s1 s2 s3 v20 x8_0 x8_1 s11 v32 x17_0 sl) (fun x=>[x.n]) 100000 (H0:=H0)
  (fun i hi G t k hk hG _ hN=>by
   have h':=h.ext hG fun _ _ h=>h.ext hG
   have hln:=h'.n
   obtain ⟨q,g1,g2⟩:=h'.get hi (v:=(i:Int)) rfl
   obtain ⟨z,e1,e2,e3,e4,e5,e6⟩:=g2.ex
   have r0:rd deS G (q.add 0)=some ss[i].n:=by rw [g2.n.rd]; rfl
   have r1:rd (deI .i64) G (q.add 1)=some ss[i].k:=by rw [e1.rd]; rfl
   have r2:rd (deI .i64) G (q.add 2)=some ss[i].w:=by rw [e2.rd]; rfl
   have r3:rd deS G (q.add 3)=some ss[i].sn:=by rw [e3.rd]; rfl
   have r4:rd deSl G (q.add 4)=some z:=by rw [e4.rd]; rfl
   obtain ⟨z1,G1,t1,G2,p1,p2,p3,p4⟩:=z6p hk ss[i].n (by simpa using hN) (Nat.le_trans hm hG.1)
   refine ⟨G2,t1,?_,p3,p4⟩
   unfold z3l
   simp only [if_pos (show (i:Int)<(sl.n:Int) by omega),g1,Option.bind_some,r0,r1,r2,r3,r4,p1,p2]
   rw [zd hi h.len])
  (fun G t hG=>by
   unfold z3l
   have hln:=h.n
   simp only [if_neg (show ¬((ss.length:Int)<(sl.n:Int)) by omega)])
  ss.length 0 H s l (by omega) hv hx ho (by rw [List.drop_zero,flat_one]; exact hN)
 rw [List.drop_zero,z9h] at key
 exact key
theorem zsn (c:Nat) {v20:Int} {x8_0:ByteArray} {s11 sl:Sl3} {cs:List Con} (h:SlL ConA 2 H0 sl cs) (hm:m≤H0.next) (hv:VecA strE 9 m H l s) (hx:Ext H0 H) (ho:∀id,owns s id→H0.next≤id) (hN:l.length+(cs.flatMap selNames).length≤100000) :
  ∃H' s',loopO (z3g (LCo c) m s1 s2 s3 v20 x8_0 sl s11) (H,s,0)=some (.inl (H',s',(cs.length:Int)))∧VecA strE 9 m H' (l++cs.flatMap selNames) s'∧Ch H s H' s':=by
 have key:=z5o (E:=strE) (e:=9) (m:=m) (xs:=cs) (body:=z3g (LCo c) m s1 s2 s3 v20 x8_0 sl s11) selNames 100000 (H0:=H0)
  (fun i hi G t k hk hG hO hN=>by
   have h':=h.ext hG fun _ _ h=>h.ext hG
   have hln:=h'.n
   obtain ⟨q,g1,g2⟩:=h'.get hi (v:=(i:Int)) rfl
   obtain ⟨z,e1,e2⟩:=g2.ex
   have r0:rd deS G (q.add 0)=some cs[i].n:=by rw [g2.n.rd]; rfl
   have r1:rd deSl G (q.add 1)=some z:=by rw [e1.rd]; rfl
   simp only [selNames,List.length_cons,List.length_map] at hN
   obtain ⟨z1,G1,t1,G2,p1,p2,p3,p4⟩:=z6p hk cs[i].n (by omega) (Nat.le_trans hm hG.1)
   obtain ⟨x2,o2⟩:=p4.ext hG hO
   obtain ⟨z',f1,f2⟩:∃z',SlL SelA 5 H0 z' cs[i].sels∧z'=z:=by
    obtain ⟨q',k1,k2⟩:=h.get hi (v:=(i:Int)) rfl
    obtain ⟨z',k3,k4⟩:=k2.ex
    rw [g1] at k1; cases k1
    have:=(k3.ext hG).1
    rw [e1.1] at this
    have e:Sl3.v z=Sl3.v z':=Option.some.inj this
    obtain ⟨a,b,d⟩:=z
    obtain ⟨a',b',d'⟩:=z'
    simp only [Sl3.v,Value.slice.injEq] at e
    obtain ⟨rfl,rfl,rfl⟩:=e
    exact ⟨_,k4,rfl⟩
   subst f2
   obtain ⟨G3,t2,w1,w2,w3⟩:=zsq c (s1:=s1) (s2:=s2) (s3:=s3) (v20:=v20) (v32:=(i:Int)) (x8_0:=x8_0) (x17_0:=cs[i].n) (x8_1:=sl) (s11:=s11) f1 hm p3 x2 o2 (by simp; omega)
   refine ⟨G3,t2,?_,by simpa [selNames,List.append_assoc] using w2,p4.trans w3⟩
   unfold z3g
   simp only [if_pos (show (i:Int)<(sl.n:Int) by omega),g1,Option.bind_some,r0,r1,p1,p2]
   show Option.bind (loopO (z3l (LCo c) m s1 s2 s3 v20 x8_0 sl s11 (i:Int) cs[i].n z') (G2,t1,0)) _=_
   rw [w1]
   simp only [Option.bind_some]
   rw [zd hi h.len])
  (fun G t hG=>by
   unfold z3g
   have hln:=h.n
   simp only [if_neg (show ¬((cs.length:Int)<(sl.n:Int)) by omega)])
  cs.length 0 H s l (by omega) hv hx ho (by rw [List.drop_zero]; exact hN)
 rw [List.drop_zero] at key
 exact key
theorem zpz {q:Addr} {i:Nat} {z z':Sl3} (h:Cel H0 (q.add i) z'.v) (hx:Ext H0 H) (h':Cel H (q.add i) z.v):z'=z:=by
 have:=(h.ext hx).1
 rw [h'.1] at this
 have e:Sl3.v z=Sl3.v z':=Option.some.inj this
 obtain ⟨a,b,d⟩:=z
 obtain ⟨a',b',d'⟩:=z'
 simp only [Sl3.v,Value.slice.injEq] at e
 obtain ⟨rfl,rfl,rfl⟩:=e
 rfl
theorem ztc (c:Nat) (h:SigA H0 s1 s2 s3 g) (hm:m≤H0.next):∀(d i:Nat) (H:AH) (s4 s5:Sl3) (l4 l5:List ByteArray),i+d=g.datas.length→VecA strE 9 m H l4 s4→VecA strE 9 m H l5 s5→Ext H0 H →
  (∀id,owns s4 id→H0.next≤id)→(∀id,owns s5 id→H0.next≤id)→(∀id,owns s4 id→¬owns s5 id)→l4.length+d≤100000→l5.length+((g.datas.drop i).flatMap conNames).length≤100000 →
  ∃H' s4' s5',loopO (z3m (LCo c) m s1 s2 s3) (H,s4,s5,(i:Int))=some (.inl (H',s4',s5',(g.datas.length:Int)))∧VecA strE 9 m H' (l4++(g.datas.drop i).map (·.n)) s4'∧VecA strE 9 m H' (l5++(g.datas.drop i).flatMap conNames) s5'∧Ext H0 H' ∧
   (∀id,owns s4' id→H0.next≤id)∧(∀id,owns s5' id→H0.next≤id)∧(∀id,owns s4' id→¬owns s5' id):=by
 have hd:=h.d.n
 intro d
 induction d with
 | zero =>
  intro i H s4 s5 l4 l5 hi v4 v5 hx o4 o5 dj n4 n5
  have:i=g.datas.length:=by omega
  subst this
  refine ⟨H,s4,s5,zl ?_,by simpa using v4,by simpa using v5,hx,o4,o5,dj⟩
  unfold z3m
  simp only [if_neg (show ¬((g.datas.length:Int)<(s2.n:Int)) by omega)]
 | succ d ih =>
  intro i H s4 s5 l4 l5 hi v4 v5 hx o4 o5 dj n4 n5
  have hlt:i<g.datas.length:=by omega
  rw [List.drop_eq_getElem_cons hlt,List.flatMap_cons,List.length_append] at n5
  have h':=h.d.ext hx fun _ _ h=>h.ext hx
  obtain ⟨q,g1,g2⟩:=h'.get hlt (v:=(i:Int)) rfl
  obtain ⟨z,e1,e2⟩:=g2.ex
  obtain ⟨q',k1,k2⟩:=h.d.get hlt (v:=(i:Int)) rfl
  rw [g1] at k1; cases k1
  obtain ⟨z',k3,k4⟩:=k2.ex
  obtain rfl:=zpz k3 hx e1
  have r0:rd deS H (q.add 0)=some g.datas[i].n:=by rw [g2.n.rd]; rfl
  have r1:rd deSl H (q.add 1)=some z':=by rw [e1.rd]; rfl
  obtain ⟨z1,G1,t4,G2,p1,p2,p3,p4⟩:=z6p v4 g.datas[i].n (by omega) (Nat.le_trans hm hx.1)
  obtain ⟨x2,o42⟩:=p4.ext hx o4
  have v52:VecA strE 9 m G2 l5 s5:=v5.other p4 fun id h5 h4=>dj id h4 h5
  have dj2:∀id,owns t4 id→¬owns s5 id:=fun id h4 h5=>by
   rcases p4.ow id h4 with h | h
   ·exact dj id h h5
   ·have:=own_lt v5 id h5; omega
  obtain ⟨G3,t5,w1,w2,w3⟩:=zsn c (s1:=s1) (s2:=s2) (s3:=s3) (v20:=(i:Int)) (x8_0:=g.datas[i].n) (s11:=t4) k4 hm v52 x2 o5 (by show l5.length+(conNames g.datas[i]).length≤100000; omega)
  obtain ⟨x3,o53⟩:=w3.ext x2 o5
  have v43:VecA strE 9 m G3 (l4++[g.datas[i].n]) t4:=p3.other w3 dj2
  have dj3:∀id,owns t4 id→¬owns t5 id:=fun id h4 h5=>by
   rcases w3.ow id h5 with h | h
   ·exact dj2 id h4 h
   ·have:=own_lt p3 id h4; omega
  obtain ⟨H',s4',s5',y1,y2,y3,y4,y5,y6,y7⟩:=ih (i+1) G3 t4 t5 _ _ (by omega) v43 w2 x3 o42 o53 dj3 (by simp; omega) (by show (l5++conNames g.datas[i]).length+_≤_; rw [List.length_append]; omega)
  refine ⟨H',s4',s5',?_,?_,?_,y4,y5,y6,y7⟩
  ·have hb:z3m (LCo c) m s1 s2 s3 (H,s4,s5,(i:Int))=some (.next (G3,t4,t5,((i+1:Nat):Int))):=by
    unfold z3m
    simp only [if_pos (show (i:Int)<(s2.n:Int) by omega),g1,Option.bind_some,r0,r1,p1,p2]
    show Option.bind (loopO (z3g (LCo c) m s1 s2 s3 (i:Int) g.datas[i].n z' t4) (G2,s5,0)) _=_
    rw [w1]
    simp only [Option.bind_some]
    rw [zd hlt h.d.len]
   rw [zj hb]
   exact y1
  ·rw [List.drop_eq_getElem_cons hlt,List.map_cons]
   simpa [List.append_assoc] using y2
  ·rw [List.drop_eq_getElem_cons hlt,List.flatMap_cons,← List.append_assoc]
   exact y3
theorem zsh (c:Nat) {v4:Sl3} (h:SigA H0 s1 s2 s3 g) (hm:m≤H0.next) (hv:VecA strE 9 m H l s) (hx:Ext H0 H) (ho:∀id,owns s id→H0.next≤id) (hN:l.length+g.funs.length≤100000) :
  ∃H' s',loopO (z3i (LCo c) m s1 s2 s3 v4) (H,s,0)=some (.inl (H',s',(g.funs.length:Int)))∧VecA strE 9 m H' (l++g.funs.flatMap fun f=>[f.n]) s'∧Ch H s H' s':=by
 have hf:=h.f.n
 have key:=z5o (E:=strE) (e:=9) (m:=m) (xs:=g.funs) (body:=z3i (LCo c) m s1 s2 s3 v4) (fun f=>[f.n]) 100000 (H0:=H0)
  (fun i hi G t k hk hG _ hN=>by
   have h':=h.f.ext hG fun _ _ h=>h.ext hG
   obtain ⟨q,g1,g2⟩:=h'.get hi (v:=(i:Int)) rfl
   obtain ⟨y,f1,_⟩:=g2.ar
   obtain ⟨z,e1,e2,e3,e4,e5,e6⟩:=g2.ex
   have r0:rd deS G (q.add 0)=some g.funs[i].n:=by rw [g2.n.rd]; rfl
   have r1:rd deSl G (q.add 1)=some y:=by rw [f1.rd]; rfl
   have r2:rd (deI .i64) G (q.add 2)=some g.funs[i].k:=by rw [e1.rd]; rfl
   have r3:rd (deI .i64) G (q.add 3)=some g.funs[i].w:=by rw [e2.rd]; rfl
   have r4:rd deS G (q.add 4)=some g.funs[i].sn:=by rw [e3.rd]; rfl
   have r5:rd deSl G (q.add 5)=some z:=by rw [e4.rd]; rfl
   obtain ⟨z1,G1,t1,G2,p1,p2,p3,p4⟩:=z6p hk g.funs[i].n (by simpa using hN) (Nat.le_trans hm hG.1)
   refine ⟨G2,t1,?_,p3,p4⟩
   unfold z3i
   simp only [if_pos (show (i:Int)<(s3.n:Int) by omega),g1,Option.bind_some,r0,r1,r2,r3,r4,r5,p1,p2]
   rw [zd hi h.f.len])
  (fun G t hG=>by
   unfold z3i
   simp only [if_neg (show ¬((g.funs.length:Int)<(s3.n:Int)) by omega)])
  g.funs.length 0 H s l (by omega) hv hx ho (by rw [List.drop_zero,flat_one]; exact hN)
 rw [List.drop_zero] at key
 exact key
theorem zqm (c:Nat) (h:SigA H0 s1 s2 s3 g) (hm:m≤H0.next) (hs:manyS g=false) :
  ∃x2 x3 H',z8g (LCo c) m H0 s1 s2 s3=some (x2,x3,H')∧VecA strE 9 m H' (sortNamesS g) x2∧VecA strE 9 m H' (funNamesS g) x3∧Ext H0 H'∧(∀id,owns x2 id→H0.next≤id)∧(∀id,owns x3 id→H0.next≤id):=by
 have hsm:=z7t hs
 unfold sortNamesS funNamesS at hsm
 simp only [List.length_append,flat_one] at hsm
 obtain ⟨x1,H1,a1,a2,a3,a4⟩:=zjs c m (zp3 h.str) (by omega) hm
 obtain ⟨H2,s4,s5,b1,b2,b3,b4,b5,b6,b7⟩:=ztc c h hm g.datas.length 0 H1 x1 Sl3.nil g.users [] (by omega) a2 (VecA.nil _ _ _ _) a3 a4 (fun id h=>absurd h z4b) (fun id _ h=>absurd h z4b) (by omega) (by rw [List.drop_zero,List.length_nil]; omega)
 rw [List.drop_zero] at b2 b3
 obtain ⟨H3,t5,c1,c2,c3⟩:=zsh c (v4:=s4) h hm b3 b4 b6 (by rw [List.nil_append]; omega)
 obtain ⟨x3,o3⟩:=c3.ext b4 b6
 refine ⟨s4,t5,H3,?_,?_,by simpa [funNamesS] using c2,x3,b5,o3⟩
 ·unfold z8g
  rw [a1]
  simp only [Option.bind_some]
  show Option.bind (loopO (z3m (LCo c) m s1 s2 s3) (H1,x1,Sl3.nil,((0:Nat):Int))) _=_
  rw [b1]
  simp only [Option.bind_some]
  show Option.bind (loopO (z3i (LCo c) m s1 s2 s3 s4) (H2,s5,0)) _=_
  rw [c1]
  rfl
 ·have:=b2.other c3 b7
  unfold sortNamesS
  rw [z9h]
  exact this
end
end Go.Proofs.YtccbilfbhecdaaaDoor
namespace Go.Proofs.YtccbilfbhecdaaaDoor
open Go Go.Abs
set_option maxRecDepth 100000
section
variable {m:Nat} {H0 H:AH} {s1 s2 s3:Sl3} {g:Sg} {s:Sl3} {l:List ByteArray}
theorem rSortNames (c:Nat) (h:SigA H s1 s2 s3 g) (hm:m≤H.next) (hs:manyS g=false) :
  ∃x H',z5h (LCo c) m H s1 s2 s3=some (x,H')∧VecA strE 9 m H' (sortNamesS g) x∧Ext H H'∧(∀id,owns x id→H.next≤id):=by
 have hsm:=z7t hs
 unfold sortNamesS funNamesS at hsm
 simp only [List.length_append,flat_one] at hsm
 have hd:=h.d.n
 have hp:Ext H (H.push { obj:=.cells #[] 9 (0,0),opn:=false,esz:=0,ro:=false }):=Fm.push _ _ _
 obtain ⟨x1,H1,a1,a2,a3⟩:=VecA.app (E:=strE) (e:=9) (bytes:=16) (l:=[]) (l':=g.users) (m:=m) (VecA.zero _ _ _ _ ⟨H.next,0,none⟩ ⟨by simp,rfl⟩) (zp3 h.str _ hp) (by simp only [List.length_nil,Nat.zero_add]; exact (room (by omega)).1) (by simp only [List.length_nil,Nat.zero_add]; exact (room (by omega)).2) (by simp; omega)
 obtain ⟨xx,oo⟩:=a3.ext hp fun id h=>absurd h zcf
 obtain ⟨H2,s',b1,b2,b3⟩:=z5o (E:=strE) (e:=9) (m:=m) (xs:=g.datas) (body:=z1s (LCo c) m s1 s2 s3) (fun d=>[d.n]) 100000 (H0:=H)
  (fun i hi G t k hk hG _ hN=>by
   have h':=h.d.ext hG fun _ _ h=>h.ext hG
   obtain ⟨q,g1,g2⟩:=h'.get hi (v:=(i:Int)) rfl
   have r0:rd deS G (q.add 0)=some g.datas[i].n:=by rw [g2.n.rd]; rfl
   obtain ⟨z1,G1,t1,G2,p1,p2,p3,p4⟩:=z6p hk g.datas[i].n (by simpa using hN) (Nat.le_trans hm hG.1)
   refine ⟨G2,t1,?_,p3,p4⟩
   unfold z1s
   simp only [if_pos (show (i:Int)<(s2.n:Int) by omega),g1,Option.bind_some,r0,p1,p2]
   rw [zd hi h.d.len])
  (fun G t hG=>by
   unfold z1s
   simp only [if_neg (show ¬((g.datas.length:Int)<(s2.n:Int)) by omega)])
  g.datas.length 0 H1 x1 g.users (by omega) (by simpa using a2) xx oo (by rw [List.drop_zero,flat_one]; omega)
 rw [List.drop_zero] at b2
 obtain ⟨x2,o2⟩:=b3.ext xx oo
 refine ⟨s',H2,?_,b2,x2,o2⟩
 unfold z5h
 simp only [newR,Option.bind_some]
 have a1':appS m 9 1 16 (H.push { obj:=.cells #[] 9 (0,0),opn:=false,esz:=0,ro:=false }) ⟨some ⟨H.next,0,none⟩,0,0⟩ s1=some (x1,H1):=a1
 rw [a1']
 simp only [Option.bind_some]
 show Option.bind (loopO (z1s (LCo c) m s1 s2 s3) (H1,x1,0)) _=_
 have b1':loopO (z1s (LCo c) m s1 s2 s3) (H1,x1,0)=_:=b1
 rw [b1']
 rfl
theorem zuo (c:Nat) {v4 v5:Int} {x12:ByteArray} {sl:Sl3} {ss:List Sel} (h:SlL SelA 5 H0 sl ss) (hm:m≤H0.next) (hv:VecA strE 9 m H l s) (hx:Ext H0 H) (ho:∀id,owns s id→H0.next≤id) (hN:l.length+ss.length≤100000) :
  ∃H' s',loopO (z21 (LCo c) m s1 s2 s3 v4 v5 x12 sl) (H,s,0)=some (.inl (H',s',(ss.length:Int)))∧VecA strE 9 m H' (l++ss.map (·.n)) s'∧Ch H s H' s':=by
 have key:=z5o (E:=strE) (e:=9) (m:=m) (xs:=ss) (body:=z21 (LCo c) m s1 s2 s3 v4 v5 x12 sl) (fun x=>[x.n]) 100000 (H0:=H0)
  (fun i hi G t k hk hG _ hN=>by
   have h':=h.ext hG fun _ _ h=>h.ext hG
   have hln:=h'.n
   obtain ⟨q,g1,g2⟩:=h'.get hi (v:=(i:Int)) rfl
   have r0:rd deS G (q.add 0)=some ss[i].n:=by rw [g2.n.rd]; rfl
   obtain ⟨z1,G1,t1,G2,p1,p2,p3,p4⟩:=z6p hk ss[i].n (by simpa using hN) (Nat.le_trans hm hG.1)
   refine ⟨G2,t1,?_,p3,p4⟩
   unfold z21
   simp only [if_pos (show (i:Int)<(sl.n:Int) by omega),g1,Option.bind_some,r0,p1,p2]
   rw [zd hi h.len])
  (fun G t hG=>by
   unfold z21
   have hln:=h.n
   simp only [if_neg (show ¬((ss.length:Int)<(sl.n:Int)) by omega)])
  ss.length 0 H s l (by omega) hv hx ho (by rw [List.drop_zero,flat_one]; exact hN)
 rw [List.drop_zero,z9h] at key
 exact key
theorem ztu (c:Nat) (h:SigA H0 s1 s2 s3 g) (hm:m≤H0.next) {k:Nat} (hk:k<g.datas.length) (hv:VecA strE 9 m H l s) (hx:Ext H0 H) (ho:∀id,owns s id→H0.next≤id) (hN:l.length+(conNames g.datas[k]).length≤100000) :
  ∃H' s',loopO (z22 (LCo c) m s1 s2 s3 (k:Int)) (H,s,0)=some (.inl (H',s',(g.datas[k].cons.length:Int)))∧VecA strE 9 m H' (l++conNames g.datas[k]) s'∧Ch H s H' s':=by
 obtain ⟨qk,gk1,gk2⟩:=h.d.get hk (v:=(k:Int)) rfl
 obtain ⟨sl,gk3,hc⟩:=gk2.ex
 have key:=z5o (E:=strE) (e:=9) (m:=m) (xs:=g.datas[k].cons) (body:=z22 (LCo c) m s1 s2 s3 (k:Int)) selNames 100000 (H0:=H0)
  (fun i hi G t k' hk' hG hO hN=>by
   have h':=hc.ext hG fun _ _ h=>h.ext hG
   have hln:=h'.n
   have rk:rd deSl G (qk.add 1)=some sl:=by rw [(gk3.ext hG).rd]; rfl
   obtain ⟨q,g1,g2⟩:=h'.get hi (v:=(i:Int)) rfl
   obtain ⟨q',k1,k2⟩:=hc.get hi (v:=(i:Int)) rfl
   rw [g1] at k1; cases k1
   obtain ⟨z,e1,e2⟩:=k2.ex
   have r0:rd deS G (q.add 0)=some g.datas[k].cons[i].n:=by rw [g2.n.rd]; rfl
   have r1:rd deSl G (q.add 1)=some z:=by rw [(e1.ext hG).rd]; rfl
   simp only [selNames,List.length_cons,List.length_map] at hN
   obtain ⟨z1,G1,t1,G2,p1,p2,p3,p4⟩:=z6p hk' g.datas[k].cons[i].n (by omega) (Nat.le_trans hm hG.1)
   obtain ⟨x2,o2⟩:=p4.ext hG hO
   obtain ⟨G3,t2,w1,w2,w3⟩:=zuo c (s1:=s1) (s2:=s2) (s3:=s3) (v4:=(k:Int)) (v5:=(i:Int)) (x12:=g.datas[k].cons[i].n) e2 hm p3 x2 o2 (by simp; omega)
   refine ⟨G3,t2,?_,by simpa [selNames,List.append_assoc] using w2,p4.trans w3⟩
   unfold z22
   simp only [gk1,Option.bind_some,rk,if_pos (show (i:Int)<(sl.n:Int) by omega),g1,r0,r1,p1,p2]
   show Option.bind (loopO (z21 (LCo c) m s1 s2 s3 (k:Int) (i:Int) g.datas[k].cons[i].n z) (G2,t1,0)) _=_
   rw [w1]
   simp only [Option.bind_some]
   rw [zd hi hc.len])
  (fun G t hG=>by
   have rk:rd deSl G (qk.add 1)=some sl:=by rw [(gk3.ext hG).rd]; rfl
   have hln:=hc.n
   unfold z22
   simp only [gk1,Option.bind_some,rk,if_neg (show ¬((g.datas[k].cons.length:Int)<(sl.n:Int)) by omega)])
  g.datas[k].cons.length 0 H s l (by omega) hv hx ho (by rw [List.drop_zero]; exact hN)
 rw [List.drop_zero] at key
 exact key
theorem zu2 (c:Nat) (h:SigA H0 s1 s2 s3 g) (hm:m≤H0.next) (hv:VecA strE 9 m H l s) (hx:Ext H0 H) (ho:∀id,owns s id→H0.next≤id) (hN:l.length+(g.datas.flatMap conNames).length≤100000) :
  ∃H' s',loopO (z1y (LCo c) m s1 s2 s3) (H,s,0)=some (.inl (H',s',(g.datas.length:Int)))∧VecA strE 9 m H' (l++g.datas.flatMap conNames) s'∧Ch H s H' s':=by
 have hd:=h.d.n
 have key:=z5o (E:=strE) (e:=9) (m:=m) (xs:=g.datas) (body:=z1y (LCo c) m s1 s2 s3) conNames 100000 (H0:=H0)
  (fun i hi G t k hk hG hO hN=>by
   obtain ⟨G3,t2,w1,w2,w3⟩:=ztu c h hm hi hk hG hO hN
   refine ⟨G3,t2,?_,w2,w3⟩
   unfold z1y
   simp only [if_pos (show (i:Int)<(s2.n:Int) by omega)]
   show Option.bind (loopO (z22 (LCo c) m s1 s2 s3 (i:Int)) (G,t,0)) _=_
   rw [w1]
   simp only [Option.bind_some]
   rw [zd hi h.d.len])
  (fun G t hG=>by
   unfold z1y
   simp only [if_neg (show ¬((g.datas.length:Int)<(s2.n:Int)) by omega)])
  g.datas.length 0 H s l (by omega) hv hx ho (by rw [List.drop_zero]; exact hN)
 rw [List.drop_zero] at key
 exact key
theorem zuk (c:Nat) (h:SigA H0 s1 s2 s3 g) (hm:m≤H0.next) (hv:VecA strE 9 m H l s) (hx:Ext H0 H) (ho:∀id,owns s id→H0.next≤id) (hN:l.length+g.funs.length≤100000) :
  ∃H' s',loopO (z20 (LCo c) m s1 s2 s3) (H,s,0)=some (.inl (H',s',(g.funs.length:Int)))∧VecA strE 9 m H' (l++g.funs.flatMap fun f=>[f.n]) s'∧Ch H s H' s':=by
 have hf:=h.f.n
 have key:=z5o (E:=strE) (e:=9) (m:=m) (xs:=g.funs) (body:=z20 (LCo c) m s1 s2 s3) (fun f=>[f.n]) 100000 (H0:=H0)
  (fun i hi G t k hk hG _ hN=>by
   have h':=h.f.ext hG fun _ _ h=>h.ext hG
   obtain ⟨q,g1,g2⟩:=h'.get hi (v:=(i:Int)) rfl
   have r0:rd deS G (q.add 0)=some g.funs[i].n:=by rw [g2.n.rd]; rfl
   obtain ⟨z1,G1,t1,G2,p1,p2,p3,p4⟩:=z6p hk g.funs[i].n (by simpa using hN) (Nat.le_trans hm hG.1)
   refine ⟨G2,t1,?_,p3,p4⟩
   unfold z20
   simp only [if_pos (show (i:Int)<(s3.n:Int) by omega),g1,Option.bind_some,r0,p1,p2]
   rw [zd hi h.f.len])
  (fun G t hG=>by
   unfold z20
   simp only [if_neg (show ¬((g.funs.length:Int)<(s3.n:Int)) by omega)])
  g.funs.length 0 H s l (by omega) hv hx ho (by rw [List.drop_zero,flat_one]; exact hN)
 rw [List.drop_zero] at key
 exact key
theorem rFunNames (c:Nat) (h:SigA H s1 s2 s3 g) (hm:m≤H.next) (hs:manyS g=false) :
  ∃x H',z5z (LCo c) m H s1 s2 s3=some (x,H')∧VecA strE 9 m H' (funNamesS g) x∧Ext H H'∧(∀id,owns x id→H.next≤id):=by
 have hsm:=z7t hs
 unfold sortNamesS funNamesS at hsm
 simp only [List.length_append,flat_one] at hsm
 obtain ⟨H1,t1,a1,a2,a3⟩:=zu2 c h hm (VecA.nil strE 9 m H) (Fm.refl _ _) (fun id h=>absurd h z4b) (by rw [List.length_nil]; omega)
 obtain ⟨x1,o1⟩:=a3.ext (Fm.refl _ _) fun id h=>absurd h z4b
 obtain ⟨H2,t2,b1,b2,b3⟩:=zuk c h hm a2 x1 o1 (by rw [List.nil_append]; omega)
 obtain ⟨x2,o2⟩:=b3.ext x1 o1
 refine ⟨t2,H2,?_,by simpa [funNamesS] using b2,x2,o2⟩
 unfold z5z
 show Option.bind (loopO (z1y (LCo c) m s1 s2 s3) (H,Sl3.nil,0)) _=_
 rw [a1]
 simp only [Option.bind_some]
 show Option.bind (loopO (z20 (LCo c) m s1 s2 s3) (H1,t1,0)) _=_
 rw [b1]
 rfl
def twS (l:List ByteArray):Bool:=(List.range l.length).any fun i=>hasU (l.take i) (l.getD i emptyT)
theorem zuq (h:VecA strE 9 m H l s) {i:Nat} (hi:i<l.length) (hN:l.length≤100000):∃s',slc 1 H s none (some (i:Int)) none=some s'∧SlL StrA 1 H s' (l.take i):=by
 have hsl:=z9f h hN
 have hO:OPEN=9223372036854775808:=rfl
 cases h with
 | nil hn hv=>omega
 | zero a ha hn hv=>omega
 | opn id off cs hm hid hg hl ho hx =>
  refine ⟨⟨some ((⟨id,off,none⟩:Addr).add (0*1)),i - 0,OPEN⟩,?_,?_⟩
  ·unfold slc
   have hb:slcB l.length l.length none (some (i:Int)) none=some (0,i,l.length):=by
    unfold slcB
    have b1:boundI l.length l.length none=some l.length:=rfl
    have b2:boundI l.length l.length (some (i:Int))=some i:=by
     unfold boundI
     simp only []
     rw [if_pos ⟨by omega,by omega⟩]
     simp
    have b3:boundI i 0 none=some 0:=rfl
    simp only [b1,b2,b3]
    rfl
   simp only [if_true,hb,hg]
   have e1:strE.sz=1:=rfl
   rw [if_pos ⟨trivial,e1,rfl⟩]
  ·refine ⟨by simp; omega,by show i - 0≤OPEN; omega,by show i - 0≤maxN; rw [z1n]; omega,fun a ha=>?_,LAt.of fun j hj=>?_⟩
   ·cases ha
    exact ⟨hid,rfl⟩
   ·have hj':j<l.length:=by simp at hj; omega
    obtain ⟨a,h1,h2⟩:=hsl.at_.get j hj'
    cases h1
    refine ⟨_,rfl,?_⟩
    rw [List.getElem_take]
    exact h2
theorem rTwice (c:Nat) (h:VecA strE 9 m H l s) (hN:l.length≤100000):z6e (LCo c) H s=some (twS l):=by
 have hsl:=z9f h hN
 have hn:=hsl.n
 have hl:loopO (z3s (LCo c) H s) 0=some (found l.length ((List.range l.length).findSome? (fun i=>if hasU (l.take i) (l.getD i emptyT)=true then some true else none))):=by
  refine z1f l.length hsl.len _ (fun i hi=>?_) ?_
  ·unfold z3s
   obtain ⟨q,h1,h2⟩:=hsl.get hi (v:=(i:Int)) rfl
   have r0:rd deS H q=some l[i]:=by rw [Cel.rd h2]; rfl
   obtain ⟨s',k1,k2⟩:=zuq h hi hN
   have eg:l.getD i emptyT=l[i]:=by simp [List.getD,hi]
   simp only [if_pos (show (i:Int)<(s.n:Int) by omega),h1,Option.bind_some,r0,k1,zmb c k2,zkv,eg]
   cases hasU (l.take i) l[i] <;> rfl
  ·unfold z3s
   rw [if_neg (by omega)]
 unfold z6e
 show Option.bind (loopO (z3s (LCo c) H s) 0) _=_
 rw [hl]
 unfold twS
 have key:∀(xs:List Nat) (p:Nat→Bool),(xs.findSome? fun i=>if p i=true then some true else none)=if xs.any p=true then some true else none:=fun xs p=>zcq xs p true
 rw [key]
 cases (List.range l.length).any fun i=>hasU (l.take i) (l.getD i emptyT) <;> rfl
end
end Go.Proofs.YtccbilfbhecdaaaDoor
namespace Go.Proofs.YtccbilfbhecdaaaDoor
open Go Go.Abs
set_option maxRecDepth 100000
theorem strK:KeyK Tryd.prog 9 (fun s:ByteArray=>Value.string s):=by
 refine ⟨⟨.string,by kernel_rfl,.inl fun a b=>?_⟩,fun a b=>by kernel_rfl,fun a=>?_⟩
 ·show some (a == b)=_
  rw [ba_beq]
 ·show (a == a)=true
  rw [ba_beq]; simp
theorem und102:Tryd.prog.underlying 102=some (.map 9 4):=by kernel_rfl
theorem zero4:(Tryd.prog.info? 4).bind (·.zero)=some (.bool false):=by kernel_rfl
end Go.Proofs.YtccbilfbhecdaaaDoor
namespace Go.Proofs.YtccbilfbhecdaaaDoor
open Go Go.Abs
set_option maxRecDepth 100000
section
variable {m:Nat} {H0 H:AH} {s1 s2 s3:Sl3} {g:Sg} {s:Sl3} {l:List ByteArray}
theorem zpc:twS l=true↔∃i,∃h:i<l.length,hasU (l.take i) l[i]=true:=by
 unfold twS
 rw [List.any_eq_true]
 constructor
 ·rintro ⟨i,hi,h⟩
  have hi:=List.mem_range.1 hi
  refine ⟨i,hi,?_⟩
  have eg:l.getD i emptyT=l[i]:=by simp [List.getD,hi]
  rw [eg] at h
  exact h
 ·rintro ⟨i,hi,h⟩
  refine ⟨i,List.mem_range.2 hi,?_⟩
  have eg:l.getD i emptyT=l[i]:=by simp [List.getD,hi]
  rw [eg]
  exact h
theorem zj0 (c:Nat) (h:∀H',Ext H H'→SlL StrA 1 H' s l) (hm:m≤H.next):∃H',z5l (LCo c) m H s=some (twS l,H')∧Ext H H':=by
 have hp:Ext H (H.push mapB):=Fm.push _ _ _
 have hsl:=h _ hp
 have hn:=hsl.n
 obtain ⟨o,h1,h2⟩:=zec (body:=z3j (LCo c) m s H.next) l
  (fun i st=>st.2=(i:Int)∧Fm (fun j=>j=H.next) (H.push mapB) st.1∧st.1.next=H.next+1∧MapA (fun s:ByteArray=>Value.string s) st.1 H.next (fun k=>if hasU (l.take i) k=true then some (.bool true) else none)∧∀j (hj:j<l.length),j<i→hasU (l.take j) l[j]=false)
  (fun o=>∃H',(o=.inr (true,H')∧twS l=true∧Ext H H')∨((∃v,o=.inl (H',v))∧twS l=false∧Ext H H'))
  (fun i st hi hst=>by
   obtain ⟨G,v⟩:=st
   obtain ⟨q1,q2,q3,q4,q5⟩:=hst
   simp only at q1 q2 q3 q4 q5
   subst q1 hi
   refine ⟨(G,(l.length:Int)),?_,G,.inr ⟨⟨_,rfl⟩,?_,?_⟩⟩
   ·unfold z3j
    simp only [if_neg (show ¬((l.length:Int)<(s.n:Int)) by omega)]
   ·cases hq:twS l with
    | false=>rfl
    | true =>
     obtain ⟨j,hj,hh⟩:=zpc.1 hq
     rw [q5 j hj hj] at hh; cases hh
   ·exact hp.comp q2 fun id hid _ hw=>by omega)
  (fun i hi st hst=>by
   obtain ⟨G,v⟩:=st
   obtain ⟨q1,q2,q3,q4,q5⟩:=hst
   simp only at q1 q2 q3 q4 q5
   subst q1
   have hx:Ext H G:=hp.comp q2 fun id hid _ hw=>by omega
   obtain ⟨q,g1,g2⟩:=(h G hx).get hi (v:=(i:Int)) rfl
   have r0:rd deS G q=some l[i]:=by rw [Cel.rd g2]; rfl
   have hlk:=zm8 strK und102 zero4 rfl q4 l[i] deB
   cases hd:hasU (l.take i) l[i] with
   | true =>
    rw [hd] at hlk
    refine .inl ⟨(true,G),?_,G,.inl ⟨rfl,zpc.2 ⟨i,hi,hd⟩,hx⟩⟩
    unfold z3j
    simp only [if_pos (show (i:Int)<(s.n:Int) by omega),g1,Option.bind_some,r0,hlk]
    rfl
   | false =>
    rw [hd] at hlk
    obtain ⟨G',u1,u2,u3,u4⟩:=zik strK und102 q4 hm l[i] (.bool true)
    refine .inr ⟨(G',((i+1:Nat):Int)),?_,rfl,q2.comp u3 fun _ _ h=>h,u4.trans q3,?_,fun j hj hlt=>?_⟩
    ·unfold z3j
     simp only [if_pos (show (i:Int)<(s.n:Int) by omega),g1,Option.bind_some,r0,hlk]
     simp only [Bool.false_eq_true,if_false,Option.getD_none,deB,Option.bind_some,u1]
     rw [zd hi hsl.len]
    ·have e:(fun k'=>if k'=l[i] then some (Value.bool true) else if hasU (l.take i) k'=true then some (.bool true) else none)=fun k=>if hasU (l.take (i+1)) k=true then some (Value.bool true) else none:=by
      funext k
      rw [zkw hi]
      by_cases e:k=l[i]
      ·subst e; simp
      ·have e':¬l[i]=k:=fun h=>e h.symm
       rw [if_neg e,decide_eq_false e',Bool.or_false]
     rw [← e]; exact u2
    ·by_cases e:j=i
     ·subst e; exact hd
     ·exact q5 j hj (by omega))
  (s:=(H.push mapB,0)) ⟨rfl,Fm.refl _ _,by simp,by
   have e:(fun k=>if hasU (l.take 0) k=true then some (Value.bool true) else none)=fun _=>none:=by
    funext k; simp [hasU]
   rw [e]; exact MapA.new _,fun j hj h=>absurd h (Nat.not_lt_zero _)⟩
 obtain ⟨H',hh⟩:=h2
 refine ⟨H',?_,?_⟩
 ·unfold z5l newM
  simp only [Option.bind_some]
  show Option.bind (loopO (z3j (LCo c) m s H.next) (H.push mapB,0)) _=_
  rw [h1]
  rcases hh with ⟨rfl,ht,_⟩ | ⟨⟨v,rfl⟩,ht,_⟩
  ·rw [ht]; rfl
  ·rw [ht]; rfl
 ·rcases hh with ⟨_,_,hx⟩ | ⟨_,_,hx⟩ <;> exact hx
theorem zjr (h:SigA H s1 s2 s3 g):∀x∈sortNamesS g++funNamesS g,x.size≤maxS:=by
 intro x hx
 have hU:∀x∈g.users,x.size≤maxS:=fun x hx=>by
  obtain ⟨i,hi,rfl⟩:=List.getElem_of_mem hx
  obtain ⟨q,_,h2⟩:=h.u.get hi (v:=(i:Int)) rfl
  exact h2.2
 have hD:∀d∈g.datas,d.n.size≤maxS∧∀c∈d.cons,c.n.size≤maxS∧∀e∈c.sels,e.n.size≤maxS:=fun d hd=>by
  obtain ⟨i,hi,rfl⟩:=List.getElem_of_mem hd
  obtain ⟨q,_,h2⟩:=h.d.get hi (v:=(i:Int)) rfl
  refine ⟨h2.nm,fun c hc=>?_⟩
  obtain ⟨z,_,h3⟩:=h2.ex
  obtain ⟨j,hj,rfl⟩:=List.getElem_of_mem hc
  obtain ⟨q,_,h4⟩:=h3.get hj (v:=(j:Int)) rfl
  refine ⟨h4.nm,fun e he=>?_⟩
  obtain ⟨z,_,h5⟩:=h4.ex
  obtain ⟨k,hk,rfl⟩:=List.getElem_of_mem he
  obtain ⟨q,_,h6⟩:=h5.get hk (v:=(k:Int)) rfl
  exact h6.nm
 have hF:∀f∈g.funs,f.n.size≤maxS:=fun f hf=>by
  obtain ⟨i,hi,rfl⟩:=List.getElem_of_mem hf
  obtain ⟨q,_,h2⟩:=h.f.get hi (v:=(i:Int)) rfl
  exact h2.nm
 unfold sortNamesS funNamesS conNames selNames at hx
 simp only [List.mem_append,List.mem_flatMap,List.mem_cons,List.not_mem_nil,or_false,List.mem_map] at hx
 rcases hx with (hx | ⟨d,hd,rfl⟩) | ⟨d,hd,c,hc,rfl | ⟨e,he,rfl⟩⟩ | ⟨f,hf,rfl⟩
 ·exact hU x hx
 ·exact (hD d hd).1
 ·exact ((hD d hd).2 c hc).1
 ·exact ((hD d hd).2 c hc).2 e he
 ·exact hF f hf
def namesS (g:Sg):Int:=if (sortNamesS g++funNamesS g).any (fun x=>!nameS x)=true then 42 else if (twS (sortNamesS g)||twS (funNamesS g))=true then 41 else 0
theorem zo6 (c:Nat) (h:SigA H s1 s2 s3 g) (hm:m≤H.next) (hs:manyS g=false):∃H',z7u (LCo c) m H s1 s2 s3=some (namesS g,H')∧Ext H H':=by
 have hsm:=z7t hs
 obtain ⟨x1,H2,a1,a2,a3,a4⟩:=rSortNames c h hm hs
 obtain ⟨x3,H4,b1,b2,b3,b4⟩:=rFunNames c (h.ext a3) (Nat.le_trans hm a3.1) hs
 have a2':=VecV.ext a2 b3
 have hp:Ext H4 (H4.push { obj:=.cells #[] 9 (0,0),opn:=false,esz:=0,ro:=false }):=Fm.push _ _ _
 have hm4:m≤H4.next:=Nat.le_trans hm (Nat.le_trans a3.1 b3.1)
 obtain ⟨x7,H8,c1,c2,c3⟩:=VecA.app (E:=strE) (e:=9) (bytes:=16) (l:=[]) (l':=sortNamesS g) (m:=m) (VecA.zero _ _ _ _ ⟨H4.next,0,none⟩ ⟨by simp,rfl⟩) (zev a2' _ hp) (by simp only [List.length_nil,Nat.zero_add]; exact (room (by omega)).1) (by simp only [List.length_nil,Nat.zero_add]; exact (room (by omega)).2) (by simp; omega)
 obtain ⟨x8,o8⟩:=c3.ext hp fun id h=>absurd h zcf
 obtain ⟨x9,H10,d1,d2,d3⟩:=VecA.app (E:=strE) (e:=9) (bytes:=16) (l:=[]++sortNamesS g) (l':=funNamesS g) (m:=m) c2 (zev b2 _ x8) (by simp only [List.nil_append]; exact (room (by omega)).1) (by simp only [List.nil_append]; exact (room (by omega)).2) (Nat.le_trans hm4 x8.1)
 obtain ⟨x10,o10⟩:=d3.ext x8 o8
 have hx:Ext H H10:=(a3.trans b3).trans x10
 have d2':VecA strE 9 m H10 (sortNamesS g++funNamesS g) x9:=by simpa using d2
 have hsl:=z9f d2' (by rw [List.length_append]; omega)
 have hn:=hsl.n
 have hsz:=zjr h
 generalize hall:sortNamesS g++funNamesS g=all at hsl hn hsz
 have hl:loopO (z3q (LCo c) s1 s2 s3 x1 x3 x9 H10) 0=some (found all.length ((List.range all.length).findSome? (fun i=>if (fun x=>!nameS x) (all.getD i emptyT)=true then some ((42:Int),H10) else none))):=by
  refine z1f all.length hsl.len _ (fun i hi=>?_) ?_
  ·unfold z3q
   obtain ⟨q,h1,h2⟩:=hsl.get hi (v:=(i:Int)) rfl
   have r0:rd deS H10 q=some all[i]:=by rw [Cel.rd h2]; rfl
   have eg:all.getD i emptyT=all[i]:=by simp [List.getD,hi]
   simp only [if_pos (show (i:Int)<(x9.n:Int) by omega),h1,Option.bind_some,r0,zfz c (zc4 (hsz _ (List.getElem_mem hi))),eg]
   cases nameS all[i] <;> rfl
  ·unfold z3q
   rw [if_neg (by omega)]
 refine ⟨H10,?_,hx⟩
 unfold z7u
 rw [a1]
 simp only [Option.bind_some]
 rw [b1]
 simp only [Option.bind_some,newR]
 have c1':appS m 9 1 16 (H4.push { obj:=.cells #[] 9 (0,0),opn:=false,esz:=0,ro:=false }) ⟨some ⟨H4.next,0,none⟩,0,0⟩ x1=some (x7,H8):=c1
 rw [c1']
 simp only [Option.bind_some]
 have d1':appS m 9 1 16 H8 x7 x3=some (x9,H10):=d1
 rw [d1']
 simp only [Option.bind_some]
 show Option.bind (loopO (z3q (LCo c) s1 s2 s3 x1 x3 x9 H10) 0) _=_
 rw [hl,z81 all (fun x=>!nameS x) ((42:Int),H10) emptyT]
 unfold namesS
 rw [hall]
 cases all.any fun x=>!nameS x with
 | true=>rfl
 | false =>
  simp only [Bool.false_eq_true,if_false,found,Option.bind_some]
  rw [rTwice c (VecV.ext a2' x10) (by omega)]
  simp only [Option.bind_some]
  cases twS (sortNamesS g) with
  | true=>rfl
  | false =>
   simp only [Bool.false_eq_true,if_false]
   rw [rTwice c (VecV.ext b2 x10) (by omega)]
   cases twS (funNamesS g) <;> rfl
end
end Go.Proofs.YtccbilfbhecdaaaDoor
namespace Go.Proofs.YtccbilfbhecdaaaDoor
open Go Go.Abs
set_option maxRecDepth 100000
structure SrtA where
 k:Int
 w:Int
 n:ByteArray
 s:Sl3
 a:Fo
def srtE:Enc SrtA:=⟨fun x=>[.int .i64 x.k,.int .i64 x.w,.string x.n,Sl3.v x.s],4,fun _=>rfl,fun _=>rfl⟩
def SrtOk (H:AH) (x:SrtA):Prop:=SlF H x.s x.a∧x.n.size≤maxS
theorem SrtOk.ext {H H':AH} {x:SrtA} (h:SrtOk H x) (hf:Ext H H'):SrtOk H' x:=⟨h.1.ext hf,h.2⟩
def Fo.list:Fo→List (Int×Int×ByteArray×Fo)
 | .nil=>[]
 | .cons k w n a r=>(k,w,n,a) :: r.list
def SrtA.er (x:SrtA):Int×Int×ByteArray×Fo:=(x.k,x.w,x.n,x.a)
theorem zpd {H:AH} {p:Option Addr}:∀{f:Fo} {i:Nat},FoA H p i f→∃l:List SrtA,l.map SrtA.er=f.list∧l.length=f.len∧(∀x∈l,SrtOk H x)∧∀(j:Nat) (hj:j<l.length),∃a,p=some a∧∀t v,(srtE.enc l[j])[t]? = some v→Cel H ((a.add ((i+j)*4)).add t) v
 | .nil,_,_=>⟨[],rfl,rfl,fun x hx=>(by cases hx),fun j hj=>absurd hj (Nat.not_lt_zero _)⟩
 | .cons k w n a r,i,h=>by
  obtain ⟨⟨q,s,h1,h2,h3,h4,h5⟩,h6⟩:=h
  obtain ⟨l,e1,e2,e3,e4⟩:=zpd h6
  refine ⟨⟨k,w,n,s,a⟩ :: l,by simp [Fo.list,SrtA.er,e1],by simp [Fo.len,e2],fun x hx=>?_,fun j hj=>?_⟩
  ·rcases List.mem_cons.1 hx with rfl | hx
   ·exact ⟨⟨h3,h4,h5⟩,h2.hn⟩
   ·exact e3 x hx
  ·cases j with
   | zero =>
    refine ⟨q,h1,fun t v hv=>?_⟩
    match t,hv with
    | 0,hv=>cases hv; exact h2.ck
    | 1,hv=>cases hv; exact h2.cw
    | 2,hv=>cases hv; exact h2.cn
    | 3,hv=>cases hv; exact h2.cs
   | succ j =>
    obtain ⟨b,k1,k2⟩:=e4 j (by simpa using hj)
    exact ⟨b,k1,by rw [show i+(j+1)=i+1+j by omega]; exact k2⟩
theorem zn6 {H:AH} {s:Sl3} {f:Fo} (h:SlF H s f):∃l:List SrtA,l.map SrtA.er=f.list∧l.length=f.len∧(∀x∈l,SrtOk H x)∧∀H',Ext H H'→RdV 4 H' s l.length (l.flatMap srtE.enc):=by
 obtain ⟨l,e1,e2,e3,e4⟩:=zpd h.2.2
 refine ⟨l,e1,e2,e3,fun H' hx=>⟨by rw [h.1,e2],fun hp=>?_,fun a ha=>?_,srtE.flat_one l⟩⟩
 ·have:l=[]:=by
   cases l with
   | nil=>rfl
   | cons x l =>
    obtain ⟨a,h1,_⟩:=e4 0 (by simp)
    rw [hp] at h1; cases h1
  subst this; exact ⟨rfl,rfl⟩
 ·have:=z8v (H:=H') (a:=a) (l.flatMap srtE.enc) 0 fun i hi=>by
   rw [srtE.flat_len] at hi
   have e4':srtE.sz=4:=rfl
   rw [e4'] at hi
   have hj:i / 4<l.length:=by omega
   obtain ⟨a',h1,h2⟩:=e4 (i / 4) hj
   rw [ha] at h1; cases h1
   have hg:=srtE.flat_get (l:=l) (i:=i / 4) (j:=i % 4) hj (by rw [e4']; omega)
   rw [e4',show i / 4*4+i % 4=i by omega] at hg
   have hi':i<(l.flatMap srtE.enc).length:=by rw [srtE.flat_len,e4']; exact hi
   rw [List.getElem?_eq_getElem hi'] at hg
   have hc:=h2 (i % 4) _ hg.symm
   have hs:a.spot=none:=by
    obtain ⟨a0,z1,z2⟩:=e4 0 (by omega)
    rw [ha] at z1; cases z1
    have hc0:=z2 0 _ rfl
    rw [Nat.zero_add,Nat.zero_mul,add_zero,add_zero] at hc0
    obtain ⟨_,_,_,_,_,_,hs,_⟩:=zi8 hc0.1
    exact hs
   rw [zde hs,Nat.zero_add,show i / 4*4+i % 4=i by omega] at hc
   rw [Nat.zero_add]
   exact (hc.ext hx).1
  rw [srtE.flat_len] at this
  exact this
def sortsE (g:Sg):List (Int×Int×ByteArray×Fo):=(g.datas.flatMap fun d=>d.cons.flatMap fun c=>c.sels.map fun x=>(x.k,x.w,x.sn,x.a))++g.funs.flatMap fun f=>f.args.list++[(f.k,f.w,f.sn,f.a)]
def errS (g:Sg) (x:Int×Int×ByteArray×Fo):Option Int:=if checkS g x.1 x.2.1 x.2.2.1 x.2.2.2=0 then none else some (checkS g x.1 x.2.1 x.2.2.1 x.2.2.2)
def allS (g:Sg):Int:=((sortsE g).findSome? (errS g)).getD 0
def Fnc.dep (f:Fnc):Nat:=max f.args.dep f.a.dep
def Sel.dep (x:Sel):Nat:=x.a.dep
def maxL {α:Type} (f:α→Nat):List α→Nat
 | []=>0
 | x :: l=>max (f x) (maxL f l)
theorem zdc {α:Type} {f:α→Nat}:∀{l:List α} {x:α},x∈l→f x≤maxL f l
 | y :: l,x,h=>by
  simp only [maxL]
  rcases List.mem_cons.1 h with rfl | h
  ·omega
  ·have:=zdc (f:=f) h; omega
def Sg.dep (g:Sg):Nat:=max (maxL (fun d:Dat=>maxL (fun c:Con=>maxL Sel.dep c.sels) d.cons) g.datas) (maxL Fnc.dep g.funs)
theorem zp5 {g:Sg} {d:Dat} {c:Con} {x:Sel} (hd:d∈g.datas) (hc:c∈d.cons) (hx:x∈c.sels):x.a.dep≤g.dep:=by
 have h1:=zdc (f:=Sel.dep) hx
 have h2:maxL Sel.dep c.sels≤maxL (fun c:Con=>maxL Sel.dep c.sels) d.cons:=zdc (f:=fun c:Con=>maxL Sel.dep c.sels) hc
 have h3:maxL (fun c:Con=>maxL Sel.dep c.sels) d.cons≤_:=zdc (f:=fun d:Dat=>maxL (fun c:Con=>maxL Sel.dep c.sels) d.cons) hd
 unfold Sg.dep
 have:x.a.dep≤maxL Sel.dep c.sels:=h1
 omega
theorem zh0 {g:Sg} {f:Fnc} (hf:f∈g.funs):f.args.dep≤g.dep∧f.a.dep≤g.dep:=by
 have h1:=zdc (f:=Fnc.dep) hf
 unfold Fnc.dep at h1
 unfold Sg.dep
 constructor
 ·have:max f.args.dep f.a.dep≤maxL Fnc.dep g.funs:=h1
  omega
 ·have:max f.args.dep f.a.dep≤maxL Fnc.dep g.funs:=h1
  omega
theorem zi9:∀{f:Fo} {x:Int×Int×ByteArray×Fo},x∈f.list→x.2.2.2.dep≤f.dep
 | .cons k w n a r,x,h=>by
  simp only [Fo.list] at h
  simp only [Fo.dep]
  rcases List.mem_cons.1 h with rfl | h
  ·show a.dep≤_; omega
  ·have:=zi9 h; omega
theorem za8 {α β R:Type} (f:α→List β) (p:β→Option R):∀l:List α,(l.flatMap f).findSome? p=l.findSome? fun x=>(f x).findSome? p
 | []=>rfl
 | x :: l=>by
  rw [List.flatMap_cons,List.findSome?_append,List.findSome?_cons,za8 f p l]
  cases (f x).findSome? p <;> rfl
theorem z9a {α R:Type} (l:List α) (p:α→Option R) (d:α):(List.range l.length).findSome? (fun i=>p (l.getD i d))=l.findSome? p:=by
 induction l with
 | nil=>rfl
 | cons x l ih =>
  rw [List.length_cons,List.range_succ_eq_map,List.findSome?_cons,List.findSome?_cons]
  simp only [List.getD_cons_zero,List.findSome?_map,Function.comp_def,List.getD_cons_succ]
  rw [ih]
theorem err_ok {g:Sg} {x:Int×Int×ByteArray×Fo} {e:Int} (h:errS g x=some e):e=checkS g x.1 x.2.1 x.2.2.1 x.2.2.2∧e≠0:=by
 unfold errS at h
 split at h
 ·cases h
 ·cases h; exact ⟨rfl,by assumption⟩
theorem zo8 (L0 fuel:Nat) (hF:L0=fuel+1) {m:Nat} {H:AH} {s1 s2 s3 sl:Sl3} {g:Sg} {l:List SrtA} (hS:SigA H s1 s2 s3 g) (hv:VecA srtE 28 m H l sl) (hN:l.length≤1000000) (hok:∀x∈l,SrtOk H x) (hd:∀x∈l,x.a.dep≤fuel) :
  loopO (z1z (LCo L0) s1 s2 s3 sl H) 0=some (found l.length (((l.map SrtA.er).findSome? (errS g)).map fun e=>(e,H))):=by
 have hsl:SlL (fun H q (x:SrtA)=>SoC H q x.k x.w x.n x.s∧x∈l) 4 H sl l:=by
  have h1:=VecA.sl (R:=fun H q (x:SrtA)=>Cel H (q.add 0) (.int .i64 x.k)∧Cel H (q.add 1) (.int .i64 x.w)∧Cel H (q.add 2) (.string x.n)∧Cel H (q.add 3) (Sl3.v x.s)) hv (by rw [z1n]; omega) fun x q hc=>⟨hc 0 _ rfl,hc 1 _ rfl,hc 2 _ rfl,hc 3 _ rfl⟩
  refine ⟨h1.n,h1.cap,h1.top,h1.low,LAt.of fun j hj=>?_⟩
  obtain ⟨a,k1,k2⟩:=h1.at_.get j hj
  have hm:=List.getElem_mem hj
  exact ⟨a,k1,⟨k2.1,k2.2.1,k2.2.2.1,k2.2.2.2,(hok _ hm).2⟩,hm⟩
 have hn:=hsl.n
 have hl:=z1f (body:=z1z (LCo L0) s1 s2 s3 sl H) l.length hsl.len (fun i=>(errS g (l.getD i ⟨0,0,emptyT,Sl3.nil,.nil⟩).er).map fun e=>(e,H)) (fun i hi=>by
   obtain ⟨q,h1,h2,hm⟩:=hsl.get hi (v:=(i:Int)) rfl
   have r0:rd (deI .i64) H (q.add 0)=some l[i].k:=by rw [h2.ck.rd]; rfl
   have r1:rd (deI .i64) H (q.add 1)=some l[i].w:=by rw [h2.cw.rd]; rfl
   have r2:rd deS H (q.add 2)=some l[i].n:=by rw [h2.cn.rd]; rfl
   have r3:rd deSl H (q.add 3)=some l[i].s:=by rw [h2.cs.rd]; rfl
   have eg:l.getD i ⟨0,0,emptyT,Sl3.nil,.nil⟩=l[i]:=by simp [List.getD,hi]
   rw [eg]
   unfold z1z
   simp only [if_pos (show (i:Int)<(sl.n:Int) by omega),h1,Option.bind_some,r0,r1,r2,r3,zle L0 fuel hF hS (hok _ hm).1 (hok _ hm).2 (hd _ hm)]
   simp only [errS,SrtA.er]
   by_cases hz:checkS g l[i].k l[i].w l[i].n l[i].a=0
   ·simp [hz,stepO]
   ·simp [hz,stepO]) (by
   unfold z1z
   rw [if_neg (by omega)])
 rw [hl,z9a l (fun x=>(errS g x.er).map fun e=>(e,H)) ⟨0,0,emptyT,Sl3.nil,.nil⟩]
 congr 2
 rw [List.findSome?_map]
 induction l with
 | nil=>rfl
 | cons x l ih =>
  rw [List.findSome?_cons,List.findSome?_cons]
  simp only [Function.comp_apply]
  cases hq:errS g x.er with
  | some e=>rfl
  | none =>
   simp only [Option.map_none]
   have key:∀(l:List SrtA),(l.findSome? fun x=>(errS g x.er).map fun e=>(e,H))=(l.findSome? (errS g ∘ SrtA.er)).map fun e=>(e,H):=by
    intro l
    induction l with
    | nil=>rfl
    | cons y l ih =>
     rw [List.findSome?_cons,List.findSome?_cons]
     simp only [Function.comp_apply]
     cases errS g y.er with
     | some e=>rfl
     | none=>exact ih
   exact key l
end Go.Proofs.YtccbilfbhecdaaaDoor
namespace Go.Proofs.YtccbilfbhecdaaaDoor
open Go Go.Abs
set_option maxRecDepth 100000
theorem room4 {n:Nat} (h:n≤1000000):(2*n+1000)*56≤281474976710656∧n≤281474976710656:=by omega
def selE (x:Sel):Int×Int×ByteArray×Fo:=(x.k,x.w,x.sn,x.a)
def conE (c:Con):List (Int×Int×ByteArray×Fo):=c.sels.map selE
def datE (d:Dat):List (Int×Int×ByteArray×Fo):=d.cons.flatMap conE
def fncE (f:Fnc):List (Int×Int×ByteArray×Fo):=f.args.list++[(f.k,f.w,f.sn,f.a)]
theorem zg5 (g:Sg):sortsE g=g.datas.flatMap datE++g.funs.flatMap fncE:=rfl
theorem fo_len:∀f:Fo,f.list.length=f.len
 | .nil=>rfl
 | .cons k w n a r=>by simp [Fo.list,Fo.len,fo_len r]
theorem zih {α β:Type} (f:α→List β) (F:Nat):∀{l:List α},(∀x∈l,(f x).length≤F)→(l.flatMap f).length≤l.length*F
 | [],_=>by simp
 | x :: l,h=>by
  have h1:=h x (by simp)
  have h2:=zih f F (l:=l) fun y hy=>h y (by simp [hy])
  rw [List.flatMap_cons,List.length_append,List.length_cons,Nat.add_mul,Nat.one_mul]
  omega
theorem zo1 {g:Sg} (h:manyS g=false):(g.datas.flatMap datE).length+(g.funs.flatMap fncE).length≤900000:=by
 unfold manyS at h
 simp only [Bool.or_eq_false_iff,decide_eq_false_iff_not] at h
 obtain ⟨h1,h2,h3⟩:=h
 unfold cntG at h3
 have e1:(g.datas.flatMap datE).length≤sumL cntD g.datas:=by
  have:∀l:List Dat,(l.flatMap datE).length≤sumL cntD l:=by
   intro l
   induction l with
   | nil=>simp [sumL]
   | cons d l ih =>
    rw [List.flatMap_cons,List.length_append]
    have:(datE d).length≤cntD d:=by
     unfold datE cntD
     have key:∀l:List Con,(l.flatMap conE).length≤sumL (fun c=>c.sels.length) l:=by
      intro l
      induction l with
      | nil=>simp [sumL]
      | cons c l ih =>
       rw [List.flatMap_cons,List.length_append]
       simp only [conE,List.length_map,sumL]
       have ih':(l.flatMap fun c=>List.map selE c.sels).length≤sumL (fun c=>c.sels.length) l:=ih
       have e:(l.flatMap conE)=l.flatMap fun c=>List.map selE c.sels:=rfl
       rw [e]
       omega
     have:=key d.cons
     omega
    simp only [sumL]
    omega
  exact this _
 have e2:(g.funs.flatMap fncE).length≤g.funs.length*65:=zih _ _ fun f hf=>by
  rw [List.any_eq_false] at h2
  have:=h2 f hf
  simp only [badF,decide_eq_true_eq] at this
  unfold fncE
  rw [List.length_append,fo_len]
  simp
  omega
 omega
section
variable {m:Nat} {H0 H:AH} {s1 s2 s3:Sl3} {g:Sg} {s:Sl3} {l:List SrtA}
theorem zi7 (h:VecA srtE 28 m H l s) (x:SrtA) (hN:l.length+1≤1000000) (hm:m≤H.next) :
  ∃z H1 s' H',newR 28 1 #[(Value.int .i64 x.k),(Value.int .i64 x.w),(Value.string x.n),(Sl3.v x.s)] H=some (z,H1)∧appS m 28 4 56 H1 s z=some (s',H')∧VecA srtE 28 m H' (l++[x]) s'∧Ch H s H' s' :=
 VecA.push h x (room4 hN).1 (room4 hN).2 hm (own_lt h)
theorem add2 {q:Addr} {v:Value} (h:Cel H (q.add 0) v) (i j:Nat):(q.add i).add j=q.add (i+j):=by
 obtain ⟨_,_,_,_,_,_,hs,_⟩:=zi8 h.1
 rw [add_zero] at hs
 exact zde hs i j
theorem zra (c:Nat) {v4 v5:Int} {x12:ByteArray} {sl:Sl3} {ss:List Sel} (h:SlL SelA 5 H0 sl ss) (hm:m≤H0.next) (hv:VecA srtE 28 m H l s) (hx:Ext H0 H) (ho:∀id,owns s id→H0.next≤id) (hN:l.length+ss.length≤1000000) :
  ∃H' s' l2,loopO (z31 (LCo c) m s1 s2 s3 v4 v5 x12 sl) (H,s,0)=some (.inl (H',s',(ss.length:Int)))∧VecA srtE 28 m H' (l++l2) s'∧Ch H s H' s'∧l2.map SrtA.er=ss.map selE∧∀y∈l2,SrtOk H0 y:=by
 have key:=zcn (E:=srtE) (e:=28) (m:=m) (xs:=ss) (body:=z31 (LCo c) m s1 s2 s3 v4 v5 x12 sl) SrtA.er (SrtOk H0) (fun x=>[selE x]) 1000000 (H0:=H0)
  (fun i hi G t k hk hG _ hN=>by
   have hln:=h.n
   obtain ⟨q,g1,g2⟩:=h.get hi (v:=(i:Int)) rfl
   obtain ⟨z,e1,e2,e3,e4,e5,e6⟩:=g2.ex
   have hadd:∀j,(q.add 1).add j=q.add (1+j):=fun j=>add2 g2.n 1 j
   have r1:rd (deI .i64) G ((q.add 1).add 0)=some ss[i].k:=by rw [hadd,(e1.ext hG).rd]; rfl
   have r2:rd (deI .i64) G ((q.add 1).add 1)=some ss[i].w:=by rw [hadd,(e2.ext hG).rd]; rfl
   have r3:rd deS G ((q.add 1).add 2)=some ss[i].sn:=by rw [hadd,(e3.ext hG).rd]; rfl
   have r4:rd deSl G ((q.add 1).add 3)=some z:=by rw [hadd,(e4.ext hG).rd]; rfl
   obtain ⟨z1,G1,t1,G2,p1,p2,p3,p4⟩:=zi7 hk ⟨ss[i].k,ss[i].w,ss[i].sn,z,ss[i].a⟩ (by simpa using hN) (Nat.le_trans hm hG.1)
   refine ⟨G2,t1,_,?_,p3,p4,rfl,fun y hy=>by obtain rfl:=List.mem_singleton.1 hy; exact ⟨e6,e5⟩⟩
   unfold z31
   simp only [if_pos (show (i:Int)<(sl.n:Int) by omega),g1,Option.bind_some,r1,r2,r3,r4]
   simp only at p1
   rw [p1]
   simp only [Option.bind_some]
   rw [p2]
   simp only [Option.bind_some]
   rw [zd hi h.len])
  (fun G t hG=>by
   unfold z31
   have hln:=h.n
   simp only [if_neg (show ¬((ss.length:Int)<(sl.n:Int)) by omega)])
  ss.length 0 H s l (by omega) hv hx ho (by rw [List.drop_zero,flat_one]; exact hN)
 rw [List.drop_zero,z9h] at key
 exact key
theorem zrr (c:Nat) (h:SigA H0 s1 s2 s3 g) (hm:m≤H0.next) {k:Nat} (hk:k<g.datas.length) (hv:VecA srtE 28 m H l s) (hx:Ext H0 H) (ho:∀id,owns s id→H0.next≤id) (hN:l.length+(datE g.datas[k]).length≤1000000) :
  ∃H' s' l2,loopO (z2x (LCo c) m s1 s2 s3 (k:Int)) (H,s,0)=some (.inl (H',s',(g.datas[k].cons.length:Int)))∧VecA srtE 28 m H' (l++l2) s'∧Ch H s H' s'∧l2.map SrtA.er=datE g.datas[k]∧∀y∈l2,SrtOk H0 y:=by
 obtain ⟨qk,gk1,gk2⟩:=h.d.get hk (v:=(k:Int)) rfl
 obtain ⟨sl,gk3,hc⟩:=gk2.ex
 have key:=zcn (E:=srtE) (e:=28) (m:=m) (xs:=g.datas[k].cons) (body:=z2x (LCo c) m s1 s2 s3 (k:Int)) SrtA.er (SrtOk H0) conE 1000000 (H0:=H0)
  (fun i hi G t k' hk' hG hO hN=>by
   have hln:=hc.n
   have rk:rd deSl G (qk.add 1)=some sl:=by rw [(gk3.ext hG).rd]; rfl
   obtain ⟨q,g1,g2⟩:=hc.get hi (v:=(i:Int)) rfl
   obtain ⟨z,e1,e2⟩:=g2.ex
   have r0:rd deS G (q.add 0)=some g.datas[k].cons[i].n:=by rw [(g2.n.ext hG).rd]; rfl
   have r1:rd deSl G (q.add 1)=some z:=by rw [(e1.ext hG).rd]; rfl
   simp only [conE,List.length_map] at hN
   obtain ⟨G3,t2,l2,w1,w2,w3,w4,w5⟩:=zra c (s1:=s1) (s2:=s2) (s3:=s3) (v4:=(k:Int)) (v5:=(i:Int)) (x12:=g.datas[k].cons[i].n) e2 hm hk' hG hO hN
   refine ⟨G3,t2,l2,?_,w2,w3,w4,w5⟩
   unfold z2x
   simp only [gk1,Option.bind_some,rk,if_pos (show (i:Int)<(sl.n:Int) by omega),g1,r0,r1]
   show Option.bind (loopO (z31 (LCo c) m s1 s2 s3 (k:Int) (i:Int) g.datas[k].cons[i].n z) (G,t,0)) _=_
   rw [w1]
   simp only [Option.bind_some]
   rw [zd hi hc.len])
  (fun G t hG=>by
   have rk:rd deSl G (qk.add 1)=some sl:=by rw [(gk3.ext hG).rd]; rfl
   have hln:=hc.n
   unfold z2x
   simp only [gk1,Option.bind_some,rk,if_neg (show ¬((g.datas[k].cons.length:Int)<(sl.n:Int)) by omega)])
  g.datas[k].cons.length 0 H s l (by omega) hv hx ho (by rw [List.drop_zero]; exact hN)
 rw [List.drop_zero] at key
 exact key
theorem zrl (c:Nat) (h:SigA H0 s1 s2 s3 g) (hm:m≤H0.next) (hv:VecA srtE 28 m H l s) (hx:Ext H0 H) (ho:∀id,owns s id→H0.next≤id) (hN:l.length+(g.datas.flatMap datE).length≤1000000) :
  ∃H' s' l2,loopO (z2z (LCo c) m s1 s2 s3) (H,s,0)=some (.inl (H',s',(g.datas.length:Int)))∧VecA srtE 28 m H' (l++l2) s'∧Ch H s H' s'∧l2.map SrtA.er=g.datas.flatMap datE∧∀y∈l2,SrtOk H0 y:=by
 have hd:=h.d.n
 have key:=zcn (E:=srtE) (e:=28) (m:=m) (xs:=g.datas) (body:=z2z (LCo c) m s1 s2 s3) SrtA.er (SrtOk H0) datE 1000000 (H0:=H0)
  (fun i hi G t k hk hG hO hN=>by
   obtain ⟨G3,t2,l2,w1,w2,w3,w4,w5⟩:=zrr c h hm hi hk hG hO hN
   refine ⟨G3,t2,l2,?_,w2,w3,w4,w5⟩
   unfold z2z
   simp only [if_pos (show (i:Int)<(s2.n:Int) by omega)]
   show Option.bind (loopO (z2x (LCo c) m s1 s2 s3 (i:Int)) (G,t,0)) _=_
   rw [w1]
   simp only [Option.bind_some]
   rw [zd hi h.d.len])
  (fun G t hG=>by
   unfold z2z
   simp only [if_neg (show ¬((g.datas.length:Int)<(s2.n:Int)) by omega)])
  g.datas.length 0 H s l (by omega) hv hx ho (by rw [List.drop_zero]; exact hN)
 rw [List.drop_zero] at key
 exact key
theorem zrq (c:Nat) (h:SigA H0 s1 s2 s3 g) (hm:m≤H0.next) (hv:VecA srtE 28 m H l s) (hx:Ext H0 H) (ho:∀id,owns s id→H0.next≤id) (hN:l.length+(g.funs.flatMap fncE).length≤1000000) :
  ∃H' s' l2,loopO (z32 (LCo c) m s1 s2 s3) (H,s,0)=some (.inl (H',s',(g.funs.length:Int)))∧VecA srtE 28 m H' (l++l2) s'∧Ch H s H' s'∧l2.map SrtA.er=g.funs.flatMap fncE∧∀y∈l2,SrtOk H0 y:=by
 have hf:=h.f.n
 have key:=zcn (E:=srtE) (e:=28) (m:=m) (xs:=g.funs) (body:=z32 (LCo c) m s1 s2 s3) SrtA.er (SrtOk H0) fncE 1000000 (H0:=H0)
  (fun i hi G t k hk hG hO hN=>by
   obtain ⟨q,g1,g2⟩:=h.f.get hi (v:=(i:Int)) rfl
   obtain ⟨y,f1,f2⟩:=g2.ar
   obtain ⟨z,e1,e2,e3,e4,e5,e6⟩:=g2.ex
   have hadd:∀j,(q.add 2).add j=q.add (2+j):=fun j=>add2 g2.n 2 j
   have r0:rd deSl G (q.add 1)=some y:=by rw [(f1.ext hG).rd]; rfl
   obtain ⟨la,a1,a2,a3,a4⟩:=zn6 f2
   simp only [fncE,List.length_append,fo_len,List.length_cons,List.length_nil] at hN
   obtain ⟨t1,G1,b1,b2,b3⟩:=VecA.app (E:=srtE) (e:=28) (bytes:=56) (l':=la) hk (a4 G hG) (room4 (by omega)).1 (room4 (by omega)).2 (Nat.le_trans hm hG.1)
   obtain ⟨x1,o1⟩:=b3.ext hG hO
   have r1:rd (deI .i64) G1 ((q.add 2).add 0)=some g.funs[i].k:=by rw [hadd,(e1.ext x1).rd]; rfl
   have r2:rd (deI .i64) G1 ((q.add 2).add 1)=some g.funs[i].w:=by rw [hadd,(e2.ext x1).rd]; rfl
   have r3:rd deS G1 ((q.add 2).add 2)=some g.funs[i].sn:=by rw [hadd,(e3.ext x1).rd]; rfl
   have r4:rd deSl G1 ((q.add 2).add 3)=some z:=by rw [hadd,(e4.ext x1).rd]; rfl
   obtain ⟨z1,G2,t2,G3,p1,p2,p3,p4⟩:=zi7 b2 ⟨g.funs[i].k,g.funs[i].w,g.funs[i].sn,z,g.funs[i].a⟩ (by rw [List.length_append]; omega) (Nat.le_trans hm x1.1)
   refine ⟨G3,t2,la++[_],?_,by rw [← List.append_assoc]; exact p3,b3.trans p4,by rw [List.map_append,a1]; rfl,fun w hw=>?_⟩
   ·unfold z32
    have b1':appS m 28 4 56 G t y=some (t1,G1):=b1
    simp only [if_pos (show (i:Int)<(s3.n:Int) by omega),g1,Option.bind_some,r0,b1',r1,r2,r3,r4]
    simp only at p1
    rw [p1]
    simp only [Option.bind_some]
    rw [p2]
    simp only [Option.bind_some]
    rw [zd hi h.f.len]
   ·rcases List.mem_append.1 hw with hw | hw
    ·exact a3 w hw
    ·obtain rfl:=List.mem_singleton.1 hw; exact ⟨e6,e5⟩)
  (fun G t hG=>by
   unfold z32
   simp only [if_neg (show ¬((g.funs.length:Int)<(s3.n:Int)) by omega)])
  g.funs.length 0 H s l (by omega) hv hx ho (by rw [List.drop_zero]; exact hN)
 rw [List.drop_zero] at key
 exact key
theorem rSorts (c:Nat) (h:SigA H s1 s2 s3 g) (hm:m≤H.next) (hs:manyS g=false) :
  ∃x H' l,z7h (LCo c) m H s1 s2 s3=some (x,H')∧VecA srtE 28 m H' l x∧Ext H H'∧l.map SrtA.er=sortsE g∧l.length≤1000000∧∀y∈l,SrtOk H' y:=by
 have hsm:=zo1 hs
 obtain ⟨H1,t1,l1,a1,a2,a3,a4,a5⟩:=zrl c h hm (VecA.nil srtE 28 m H) (Fm.refl _ _) (fun id h=>absurd h z4b) (by rw [List.length_nil]; omega)
 obtain ⟨x1,o1⟩:=a3.ext (Fm.refl _ _) fun id h=>absurd h z4b
 have hl1:l1.length=(g.datas.flatMap datE).length:=by rw [← a4,List.length_map]
 obtain ⟨H2,t2,l2,b1,b2,b3,b4,b5⟩:=zrq c h hm a2 x1 o1 (by rw [List.nil_append]; omega)
 obtain ⟨x2,o2⟩:=b3.ext x1 o1
 have hl2:l2.length=(g.funs.flatMap fncE).length:=by rw [← b4,List.length_map]
 refine ⟨t2,H2,l1++l2,?_,by simpa using b2,x2,by rw [List.map_append,a4,b4,zg5],by rw [List.length_append]; omega,fun y hy=>?_⟩
 ·unfold z7h
  show Option.bind (loopO (z2z (LCo c) m s1 s2 s3) (H,Sl3.nil,0)) _=_
  rw [a1]
  simp only [Option.bind_some]
  show Option.bind (loopO (z32 (LCo c) m s1 s2 s3) (H1,t1,0)) _=_
  rw [b1]
  rfl
 ·rcases List.mem_append.1 hy with hy | hy
  ·exact (a5 y hy).ext x2
  ·exact (b5 y hy).ext x2
end
end Go.Proofs.YtccbilfbhecdaaaDoor
namespace Go.Proofs.YtccbilfbhecdaaaDoor
open Go Go.Abs
set_option maxRecDepth 100000
theorem z8x {α R S:Type} (l:List α) (p:α→Option R) (f:R→S):(l.findSome? fun x=>(p x).map f)=(l.findSome? p).map f:=by
 induction l with
 | nil=>rfl
 | cons x l ih =>
  rw [List.findSome?_cons,List.findSome?_cons,ih]
  cases p x <;> rfl
section
variable {m:Nat} {H0 H:AH} {s1 s2 s3:Sl3} {g:Sg} {p:Addr} {L0 fuel:Nat}
theorem zu9 (hF:L0=fuel+1) (hB:Book H p s1 s2 s3 g) {x2 x5 sl:Sl3} {v v':Int} {n5 n8:ByteArray} {ss:List Sel} (h:SlL SelA 5 H sl ss) (hd:∀x∈ss,x.a.dep≤fuel) :
  loopO (z19 (LCo L0) H p x2 v n5 x5 v' n8 sl) 0=some (found ss.length (((ss.map selE).findSome? (errS g)).map fun e=>(e,H))):=by
 have hn:=h.n
 have hl:=z1f (body:=z19 (LCo L0) H p x2 v n5 x5 v' n8 sl) ss.length h.len (fun i=>(errS g (selE (ss.getD i ⟨emptyT,0,0,emptyT,.nil⟩))).map fun e=>(e,H)) (fun i hi=>by
   obtain ⟨q,h1,h2⟩:=h.get hi (v:=(i:Int)) rfl
   obtain ⟨z,e1,e2,e3,e4,e5,e6⟩:=h2.ex
   have r0:rd deS H (q.add 0)=some ss[i].n:=by rw [h2.n.rd]; rfl
   have r1:rd (deI .i64) H (q.add 1)=some ss[i].k:=by rw [e1.rd]; rfl
   have r2:rd (deI .i64) H (q.add 2)=some ss[i].w:=by rw [e2.rd]; rfl
   have r3:rd deS H (q.add 3)=some ss[i].sn:=by rw [e3.rd]; rfl
   have r4:rd deSl H (q.add 4)=some z:=by rw [e4.rd]; rfl
   have eg:ss.getD i ⟨emptyT,0,0,emptyT,.nil⟩=ss[i]:=by simp [List.getD,hi]
   rw [eg]
   unfold z19
   simp only [if_pos (show (i:Int)<(sl.n:Int) by omega),h1,Option.bind_some,r0,r1,r2,r3,r4,zjd L0 fuel hF hB e6 e5 (hd _ (List.getElem_mem hi))]
   simp only [errS,selE]
   by_cases hz:checkS g ss[i].k ss[i].w ss[i].sn ss[i].a=0
   ·simp [hz,stepO]
   ·simp [hz,stepO]) (by
   unfold z19
   rw [if_neg (by omega)])
 rw [hl,z9a ss (fun x=>(errS g (selE x)).map fun e=>(e,H)) ⟨emptyT,0,0,emptyT,.nil⟩,z8x,List.findSome?_map]
 rfl
theorem zuc (hF:L0=fuel+1) (hB:Book H p s1 s2 s3 g) {x2 sl:Sl3} {v:Int} {n5:ByteArray} {cs:List Con} (h:SlL ConA 2 H sl cs) (hd:∀c∈cs,∀x∈c.sels,x.a.dep≤fuel) :
  loopO (z15 (LCo L0) H p x2 v n5 sl) 0=some (found cs.length (((cs.flatMap conE).findSome? (errS g)).map fun e=>(e,H))):=by
 have hn:=h.n
 have hl:=z1f (body:=z15 (LCo L0) H p x2 v n5 sl) cs.length h.len (fun i=>((conE (cs.getD i ⟨emptyT,[]⟩)).findSome? (errS g)).map fun e=>(e,H)) (fun i hi=>by
   obtain ⟨q,h1,h2⟩:=h.get hi (v:=(i:Int)) rfl
   obtain ⟨z,e1,e2⟩:=h2.ex
   have r0:rd deS H (q.add 0)=some cs[i].n:=by rw [h2.n.rd]; rfl
   have r1:rd deSl H (q.add 1)=some z:=by rw [e1.rd]; rfl
   have eg:cs.getD i ⟨emptyT,[]⟩=cs[i]:=by simp [List.getD,hi]
   rw [eg]
   unfold z15
   simp only [if_pos (show (i:Int)<(sl.n:Int) by omega),h1,Option.bind_some,r0,r1]
   show Option.bind (loopO (z19 (LCo L0) H p x2 v n5 sl (i:Int) cs[i].n z) 0) _=_
   rw [zu9 hF hB e2 (hd _ (List.getElem_mem hi))]
   show _=some (stepO i (((cs[i].sels.map selE).findSome? (errS g)).map fun e=>(e,H)))
   cases (cs[i].sels.map selE).findSome? (errS g) <;> rfl) (by
   unfold z15
   rw [if_neg (by omega)])
 rw [hl,z9a cs (fun c=>((conE c).findSome? (errS g)).map fun e=>(e,H)) ⟨emptyT,[]⟩,z8x,za8]
theorem zu4 (hF:L0=fuel+1) (hB:Book H p s1 s2 s3 g) {sl:Sl3} {ds:List Dat} (h:SlL DatA 2 H sl ds) (hd:∀d∈ds,∀c∈d.cons,∀x∈c.sels,x.a.dep≤fuel) :
  loopO (z16 (LCo L0) H p sl) 0=some (found ds.length (((ds.flatMap datE).findSome? (errS g)).map fun e=>(e,H))):=by
 have hn:=h.n
 have hl:=z1f (body:=z16 (LCo L0) H p sl) ds.length h.len (fun i=>((datE (ds.getD i ⟨emptyT,[]⟩)).findSome? (errS g)).map fun e=>(e,H)) (fun i hi=>by
   obtain ⟨q,h1,h2⟩:=h.get hi (v:=(i:Int)) rfl
   obtain ⟨z,e1,e2⟩:=h2.ex
   have r0:rd deS H (q.add 0)=some ds[i].n:=by rw [h2.n.rd]; rfl
   have r1:rd deSl H (q.add 1)=some z:=by rw [e1.rd]; rfl
   have eg:ds.getD i ⟨emptyT,[]⟩=ds[i]:=by simp [List.getD,hi]
   rw [eg]
   unfold z16
   simp only [if_pos (show (i:Int)<(sl.n:Int) by omega),h1,Option.bind_some,r0,r1]
   show Option.bind (loopO (z15 (LCo L0) H p sl (i:Int) ds[i].n z) 0) _=_
   rw [zuc hF hB e2 (hd _ (List.getElem_mem hi))]
   show _=some (stepO i (((ds[i].cons.flatMap conE).findSome? (errS g)).map fun e=>(e,H)))
   cases (ds[i].cons.flatMap conE).findSome? (errS g) <;> rfl) (by
   unfold z16
   rw [if_neg (by omega)])
 rw [hl,z9a ds (fun d=>((datE d).findSome? (errS g)).map fun e=>(e,H)) ⟨emptyT,[]⟩,z8x,za8]
theorem clone73 (c m:Nat) {H:AH} {s:Sl3} {l:List SrtA} (h:∀H',Ext H H'→RdV 4 H' s l.length (l.flatMap srtE.enc)) (hN:l.length≤1000000) (hm:m≤H.next) :
  ∃s' H',z5f (LCo c) m H s=some (s',H')∧VecA srtE 28 m H' l s'∧Ext H H'∧∀id,owns s' id→H.next≤id:=by
 unfold z5f
 cases hnil:isNilS s with
 | true =>
  have hp:s.p=none:=by
   unfold isNilS at hnil
   cases hq:s.p with
   | none=>rfl
   | some a=>rw [hq] at hnil; cases hnil
  have:l=[]:=by
   have:=(h H (Fm.refl _ _)).nil hp
   exact List.length_eq_zero_iff.1 this.1
  subst this
  exact ⟨Sl3.nil,H,rfl,VecA.nil _ _ _ _,Fm.refl _ _,fun id h=>absurd h z4b⟩
 | false =>
  have hp:Ext H (H.push { obj:=.cells #[] 28 (0,0),opn:=false,esz:=0,ro:=false }):=Fm.push _ _ _
  obtain ⟨s',H',a1,a2,a3⟩:=VecA.app (E:=srtE) (e:=28) (bytes:=56) (l:=[]) (l':=l) (m:=m) (VecA.zero _ _ _ _ ⟨H.next,0,none⟩ ⟨by simp,rfl⟩) (h _ hp) (by simp only [List.length_nil,Nat.zero_add]; exact (room4 hN).1) (by simp only [List.length_nil,Nat.zero_add]; exact (room4 hN).2) (by simp; omega)
  have hx:=a3.ext hp fun id h=>absurd h zcf
  refine ⟨s',H',?_,a2,hx.1,hx.2⟩
  simp only [Bool.false_eq_true,if_false,newR,Option.bind_some]
  have a1':appS m 28 4 56 (H.push { obj:=.cells #[] 28 (0,0),opn:=false,esz:=0,ro:=false }) ⟨some ⟨H.next,0,none⟩,0,0⟩ s=some (s',H'):=a1
  rw [a1']
  rfl
theorem zu5 (hF:L0=fuel+1) (hB:Book H p s1 s2 s3 g) {x16 y z sl:Sl3} {v:Int} {n n':ByteArray} {k w:Int} {l:List SrtA} (hv:VecA srtE 28 m H l sl) (hN:l.length≤1000000) (hok:∀x∈l,SrtOk H x) (hd:∀x∈l,x.a.dep≤fuel) :
  loopO (z1c (LCo L0) p x16 v n y k w n' z sl H) 0=some (found l.length (((l.map SrtA.er).findSome? (errS g)).map fun e=>(e,H))):=by
 have hsl:SlL (fun H q (x:SrtA)=>SoC H q x.k x.w x.n x.s∧x∈l) 4 H sl l:=by
  have h1:=VecA.sl (R:=fun H q (x:SrtA)=>Cel H (q.add 0) (.int .i64 x.k)∧Cel H (q.add 1) (.int .i64 x.w)∧Cel H (q.add 2) (.string x.n)∧Cel H (q.add 3) (Sl3.v x.s)) hv (by rw [z1n]; omega) fun x q hc=>⟨hc 0 _ rfl,hc 1 _ rfl,hc 2 _ rfl,hc 3 _ rfl⟩
  refine ⟨h1.n,h1.cap,h1.top,h1.low,LAt.of fun j hj=>?_⟩
  obtain ⟨a,k1,k2⟩:=h1.at_.get j hj
  have hm:=List.getElem_mem hj
  exact ⟨a,k1,⟨k2.1,k2.2.1,k2.2.2.1,k2.2.2.2,(hok _ hm).2⟩,hm⟩
 have hn:=hsl.n
 have hl:=z1f (body:=z1c (LCo L0) p x16 v n y k w n' z sl H) l.length hsl.len (fun i=>(errS g (l.getD i ⟨0,0,emptyT,Sl3.nil,.nil⟩).er).map fun e=>(e,H)) (fun i hi=>by
   obtain ⟨q,h1,h2,hm⟩:=hsl.get hi (v:=(i:Int)) rfl
   have r0:rd (deI .i64) H (q.add 0)=some l[i].k:=by rw [h2.ck.rd]; rfl
   have r1:rd (deI .i64) H (q.add 1)=some l[i].w:=by rw [h2.cw.rd]; rfl
   have r2:rd deS H (q.add 2)=some l[i].n:=by rw [h2.cn.rd]; rfl
   have r3:rd deSl H (q.add 3)=some l[i].s:=by rw [h2.cs.rd]; rfl
   have eg:l.getD i ⟨0,0,emptyT,Sl3.nil,.nil⟩=l[i]:=by simp [List.getD,hi]
   rw [eg]
   unfold z1c
   simp only [if_pos (show (i:Int)<(sl.n:Int) by omega),h1,Option.bind_some,r0,r1,r2,r3,zjd L0 fuel hF hB (hok _ hm).1 (hok _ hm).2 (hd _ hm)]
   simp only [errS,SrtA.er]
   by_cases hz:checkS g l[i].k l[i].w l[i].n l[i].a=0
   ·simp [hz,stepO]
   ·simp [hz,stepO]) (by
   unfold z1c
   rw [if_neg (by omega)])
 rw [hl,z9a l (fun x=>(errS g x.er).map fun e=>(e,H)) ⟨0,0,emptyT,Sl3.nil,.nil⟩,z8x,List.findSome?_map]
 rfl
theorem zuu (hF:L0=fuel+1) (hB:Book H0 p s1 s2 s3 g) {sl:Sl3} {fs:List Fnc} (h:SlL FncA 6 H0 sl fs) (hm:m≤H0.next) (hsz:∀f∈fs,f.args.len≤64) (hd:∀f∈fs,f.args.dep≤fuel∧f.a.dep≤fuel):∀(d i:Nat) (H:AH),i+d=fs.length→Ext H0 H →
  ∃H',loopO (z1b (LCo L0) m p sl) (H,(i:Int))=some (match ((fs.drop i).flatMap fncE).findSome? (errS g) with | some e=>.inr (e,H') | none=>.inl (H',(fs.length:Int)))∧Ext H0 H':=by
 have hn:=h.n
 intro d
 induction d with
 | zero =>
  intro i H hi hx
  have:i=fs.length:=by omega
  subst this
  refine ⟨H,?_,hx⟩
  rw [List.drop_length]
  refine zl ?_
  unfold z1b
  simp only [if_neg (show ¬((fs.length:Int)<(sl.n:Int)) by omega)]
 | succ d ih =>
  intro i H hi hx
  have hlt:i<fs.length:=by omega
  obtain ⟨q,g1,g2⟩:=h.get hlt (v:=(i:Int)) rfl
  obtain ⟨y,f1,f2⟩:=g2.ar
  obtain ⟨z,e1,e2,e3,e4,e5,e6⟩:=g2.ex
  have r0:rd deS H (q.add 0)=some fs[i].n:=by rw [(g2.n.ext hx).rd]; rfl
  have r1:rd deSl H (q.add 1)=some y:=by rw [(f1.ext hx).rd]; rfl
  have r2:rd (deI .i64) H (q.add 2)=some fs[i].k:=by rw [(e1.ext hx).rd]; rfl
  have r3:rd (deI .i64) H (q.add 3)=some fs[i].w:=by rw [(e2.ext hx).rd]; rfl
  have r4:rd deS H (q.add 4)=some fs[i].sn:=by rw [(e3.ext hx).rd]; rfl
  have r5:rd deSl H (q.add 5)=some z:=by rw [(e4.ext hx).rd]; rfl
  obtain ⟨la,a1,a2,a3,a4⟩:=zn6 f2
  have hla:la.length≤64:=by rw [a2]; exact hsz _ (List.getElem_mem hlt)
  have hmH:m≤H.next:=Nat.le_trans hm hx.1
  obtain ⟨x21,H22,b1,b2,b3,b4⟩:=clone73 L0 (Nat.max m H.next) (fun H' hx'=>a4 H' (hx.trans hx')) (by omega) (Nat.max_le.2 ⟨hmH,Nat.le_refl _⟩)
  have b2':VecA srtE 28 m H22 la x21:=by
   unfold VecA at b2 ⊢
   cases b2 with
   | nil hn hv=>exact .nil hn hv
   | zero a ha hn hv=>exact .zero a ha hn hv
   | opn id off cs hm' hid hg hl ho hx=>exact .opn id off cs (Nat.le_trans (Nat.le_max_left _ _) hm') hid hg hl ho hx
  have hx22:=hx.trans b3
  have hm22:m≤H22.next:=Nat.le_trans hm hx22.1
  obtain ⟨z1,G2,t2,G3,p1,p2,p3,p4⟩:=zi7 b2' ⟨fs[i].k,fs[i].w,fs[i].sn,z,fs[i].a⟩ (by omega) hm22
  have hx3:=p4.ext hx22 fun id hid=>Nat.le_trans hx.1 (b4 id hid)
  have hok:∀w∈la++[⟨fs[i].k,fs[i].w,fs[i].sn,z,fs[i].a⟩],SrtOk G3 w:=fun w hw=>by
   rcases List.mem_append.1 hw with hw | hw
   ·exact (a3 w hw).ext hx3.1
   ·obtain rfl:=List.mem_singleton.1 hw
    exact SrtOk.ext (H:=H0) ⟨e6,e5⟩ hx3.1
  have hdd:∀w∈la++[⟨fs[i].k,fs[i].w,fs[i].sn,z,fs[i].a⟩],w.a.dep≤fuel:=fun w hw=>by
   have hdi:=hd _ (List.getElem_mem hlt)
   rcases List.mem_append.1 hw with hw | hw
   ·have hmm:w.er∈fs[i].args.list:=by rw [← a1]; exact List.mem_map.2 ⟨w,hw,rfl⟩
    have:=zi9 hmm
    exact Nat.le_trans this hdi.1
   ·obtain rfl:=List.mem_singleton.1 hw
    exact hdi.2
  have hb4:=zu5 (m:=m) hF (hB.ext hx3.1) (x16:=sl) (y:=y) (z:=z) (v:=(i:Int)) (n:=fs[i].n) (n':=fs[i].sn) (k:=fs[i].k) (w:=fs[i].w) p3 (by rw [List.length_append]; simp; omega) hok hdd
  have her:(la++[(⟨fs[i].k,fs[i].w,fs[i].sn,z,fs[i].a⟩:SrtA)]).map SrtA.er=fncE fs[i]:=by rw [List.map_append,a1]; rfl
  rw [her] at hb4
  obtain ⟨H',i1,i2⟩:=ih (i+1) G3 (by omega) hx3.1
  have hbody:z1b (LCo L0) m p sl (H,(i:Int))=some (match (fncE fs[i]).findSome? (errS g) with | some e=>.ret (e,G3) | none=>.next (G3,((i+1:Nat):Int))):=by
   unfold z1b
   simp only [if_pos (show (i:Int)<(sl.n:Int) by omega),g1,Option.bind_some,r0,r1,r2,r3,r4,r5,b1]
   have p1':newS 28 [(Value.int .i64 fs[i].k),(Value.int .i64 fs[i].w),(Value.string fs[i].sn),(Sl3.v z)] H22=some (H22.next,G2):=by
    unfold newR at p1
    simp only [Option.some.injEq,Prod.mk.injEq] at p1
    unfold newS pubB
    rw [← p1.2]
   have hz1:z1=⟨some ⟨H22.next,0,none⟩,1,1⟩:=by
    unfold newR at p1
    simp only [Option.some.injEq,Prod.mk.injEq] at p1
    exact p1.1.symm
   rw [p1']
   simp only [Option.bind_some]
   rw [hz1] at p2
   rw [p2]
   simp only [Option.bind_some]
   show Option.bind (loopO (z1c (LCo L0) p sl (i:Int) fs[i].n y fs[i].k fs[i].w fs[i].sn z t2 G3) 0) _=_
   rw [hb4]
   cases (fncE fs[i]).findSome? (errS g) with
   | some e=>rfl
   | none =>
    simp only [Option.map_none,found,Option.bind_some]
    rw [zd hlt h.len]
  rw [List.drop_eq_getElem_cons hlt,List.flatMap_cons,List.findSome?_append]
  cases hq:(fncE fs[i]).findSome? (errS g) with
  | some e =>
   rw [hq] at hbody
   exact ⟨G3,z41 hbody,hx3.1⟩
  | none =>
   rw [hq] at hbody
   exact ⟨H',by rw [zj hbody]; exact i1,i2⟩
theorem zlr (hF:L0=fuel+1) (hm:m≤H.next) (hB:Book H p s1 s2 s3 g) (hS:SigA H s1 s2 s3 g) (hs:manyS g=false) (hd:g.dep≤fuel) :
  ∃H',z3y (LCo L0) m H (some p)=some (allS g,H')∧Ext H H':=by
 have hfb:∀f∈g.funs,f.args.len≤64:=by
  unfold manyS at hs
  simp only [Bool.or_eq_false_iff] at hs
  have h2:=hs.2.1
  rw [List.any_eq_false] at h2
  intro f hf
  have:=h2 f hf
  simp only [badF,decide_eq_true_eq] at this
  omega
 have hadd:∀j,(p.add 0).add j=p.add (0+j):=fun j=>add2 hB.c1 0 j
 have r1:rd deSl H ((p.add 0).add 1)=some s2:=by rw [hadd,hB.c2.rd]; rfl
 have r2:rd deSl H ((p.add 0).add 2)=some s3:=by rw [hadd,hB.c3.rd]; rfl
 have h0:=zu4 hF hB hS.d fun d hd' c hc x hx=>Nat.le_trans (zp5 hd' hc hx) hd
 obtain ⟨H',h3,h4⟩:=zuu hF hB hS.f hm hfb (fun f hf=>⟨Nat.le_trans (zh0 hf).1 hd,Nat.le_trans (zh0 hf).2 hd⟩) g.funs.length 0 H (by omega) (Fm.refl _ _)
 rw [List.drop_zero] at h3
 unfold z3y allS
 rw [zg5,List.findSome?_append]
 simp only [Option.bind_some,r1]
 show ∃H',Option.bind (loopO (z16 (LCo L0) H p s2) 0) _=_∧_
 rw [h0]
 cases (g.datas.flatMap datE).findSome? (errS g) with
 | some e=>exact ⟨H,rfl,Fm.refl _ _⟩
 | none =>
  refine ⟨H',?_,h4⟩
  simp only [Option.map_none,found,Option.bind_some,r2]
  show Option.bind (loopO (z1b (LCo L0) m p s3) (H,((0:Nat):Int))) _=_
  rw [h3]
  cases (g.funs.flatMap fncE).findSome? (errS g) <;> rfl
end
end Go.Proofs.YtccbilfbhecdaaaDoor
namespace Go.Proofs.YtccbilfbhecdaaaDoor
open Go Go.Abs
set_option maxRecDepth 100000
def natE:Enc Nat:=⟨fun x=>[.int .i64 (x:Int)],1,fun _=>rfl,fun _=>rfl⟩
def IntA (H:AH) (q:Addr) (x:Nat):Prop:=Cel H q (.int .i64 (x:Int))
theorem room8 {n:Nat} (h:n≤10000000000):(2*n+1000)*8≤281474976710656∧n≤281474976710656:=by omega
def ixS (ds:List Dat) (n:ByteArray):Nat:=(dataIx ds n).getD 0
def dtF (ds:List Dat):Fo→List Nat
 | .nil=>[]
 | .cons k _ n a r=>(if k=6 then [ixS ds n] else dtF ds a)++dtF ds r
def dtS (ds:List Dat) (k:Int) (n:ByteArray) (a:Fo):List Nat:=if k=6 then [ixS ds n] else dtF ds a
def dtI (ds:List Dat) (inside:Bool) (k:Int) (n:ByteArray) (a:Fo):List Nat:=if k=6∧inside=false then [ixS ds n] else dtF ds a
theorem zdx (ds:List Dat):∀a:Fo,(dtF ds a).length≤a.size
 | .nil=>by simp [dtF,Fo.size]
 | .cons k w n a r=>by
  have h1:=zdx ds a
  have h2:=zdx ds r
  simp only [dtF,Fo.size,List.length_append]
  split
  ·simp; omega
  ·omega
def stC (ds:List Dat) (c:Con):List Nat:=c.sels.flatMap fun x=>dtS ds x.k x.sn x.a
def stD (ds:List Dat) (d:Dat):List Nat:=d.cons.flatMap (stC ds)
section
variable {m:Nat} {H0 H:AH} {s1 s2 s3:Sl3} {g:Sg} {p:Addr} {L0 fuel:Nat}
theorem nat_sl {l:List Nat} {s:Sl3} (h:VecA natE 3 m H l s) (hN:l.length≤10000000000):SlL IntA 1 H s l:=VecA.sl h (by rw [z1n]; omega) fun x q hc=>hc 0 _ rfl
theorem zk3 {s:Sl3} {l:List Nat} (h:SlL IntA 1 H s l):RdV 1 H s l.length (l.flatMap natE.enc):=by
 refine ⟨h.n,fun hp=>?_,fun a ha=>?_,natE.flat_one l⟩
 ·have:l=[]:=by
   cases l with
   | nil=>rfl
   | cons x l =>
    obtain ⟨a,h1,_⟩:=h.at_.get 0 (by simp)
    rw [hp] at h1; cases h1
  subst this; exact ⟨rfl,rfl⟩
 ·have:=z8v (H:=H) (a:=a) (l.flatMap natE.enc) 0 fun i hi=>by
   rw [natE.flat_len] at hi
   have hi':i<l.length:=by
    have:natE.sz=1:=rfl
    rw [this] at hi; omega
   obtain ⟨a',h1,h2⟩:=h.at_.get i hi'
   rw [ha] at h1; cases h1
   have e1:(l.flatMap natE.enc)[i]? = some (.int .i64 (l[i]:Int)):=by
    have:=natE.flat_get (l:=l) (i:=i) (j:=0) hi' (by decide)
    rw [show i*natE.sz+0=i from by show i*1+0=i; omega] at this
    rw [this]; rfl
   rw [List.getElem?_eq_getElem (by rw [natE.flat_len]; exact hi)] at e1
   rw [Option.some.inj e1,Nat.zero_add]
   rw [Nat.zero_add,Nat.mul_one] at h2
   exact h2.1
  rw [natE.flat_len] at this
  exact this
theorem zum (x:Nat) (H:AH):∃s H',newR 3 1 #[(Value.int .i64 (x:Int))] H=some (s,H')∧SlL IntA 1 H' s [x]∧Ext H H':=by
 refine ⟨_,_,rfl,SlL.push (xs:=[x]) rfl (by rw [z1n]; simp) fun i hi=>?_,Fm.push _ _ _⟩
 obtain rfl:i=0:=by simpa using hi
 exact Cel.push rfl rfl
theorem zpb (hB:Book H p s1 s2 s3 g) (n:ByteArray):∃id,rd deM H (p.add 3)=some (some id)∧lk1 Tryd.prog 94 (deI .i64) H (some id) (Value.agg #[(Value.int .i64 6),(Value.string n)])=some ((ixS g.datas n:Nat):Int):=by
 obtain ⟨id,q1,q2,q3⟩:=hB.ex
 refine ⟨id,by rw [q1.rd]; rfl,?_⟩
 have hl:=zm8 keyK und94 zero3 rfl q3 (6,n) (deI .i64)
 refine hl.trans ?_
 simp only [bookF,if_neg (show ¬((6:Int)=5) by omega),ixS]
 cases dataIx g.datas n <;> rfl
theorem ziy (c:Nat):∀(d fuel:Nat) (H:AH) (k w:Int) (n:ByteArray) (s:Sl3) (a:Fo) (inside:Bool),Book H p s1 s2 s3 g→m≤H.next→SlF H s a→a.size≤1000→a.dep≤fuel→a.dep<d →
  ∃s' H',z24 (LCo c) (fuel+1) m H (some p) k w n s inside=some (s',H')∧SlL IntA 1 H' s' (dtI g.datas inside k n a)∧Ext H H':=by
 intro d
 induction d with
 | zero=>intro fuel H k w n s a inside _ _ _ _ _ h; omega
 | succ d ih =>
  intro fuel H k w n s a inside hB hm h hsz hf hd
  show ∃s' H',z3d (LCo c) (z24 (LCo c) fuel) m H (some p) k w n s inside=_∧_
  unfold z3d dtI
  by_cases hk:k=6∧inside=false
  ·obtain ⟨rfl,rfl⟩:=hk
   obtain ⟨id,r1,r2⟩:=zpb hB n
   obtain ⟨s',H',t1,t2,t3⟩:=zum (ixS g.datas n) H
   refine ⟨s',H',?_,t2,t3⟩
   simp only [if_true,Bool.not_false,Option.bind_some,r1,r2,t1]
  ·have hc:(if k=6 then some (!inside) else some false)=some false:=by
    by_cases h6:k=6
    ·rw [if_pos h6]
     cases inside with
     | true=>rfl
     | false=>exact absurd ⟨h6,rfl⟩ hk
    ·rw [if_neg h6]
   rw [hc,if_neg hk]
   simp only [Option.bind_some,Bool.false_eq_true,if_false]
   have loop:∀(f:Fo) (i:Nat) (G:AH) (v:Sl3) (l:List Nat),FoA H s.p i f→s.n=i+f.len→f.dep≤a.dep→f.size≤1000→VecA natE 3 m G l v→Ext H G→(∀id,owns v id→H.next≤id)→l.length+f.size≤10000 →
     ∃G' v',loopO (z1t (LCo c) (z24 (LCo c) fuel) m (some p) k w n s) (G,v,(i:Int))=some (.inl (G',v',(s.n:Int)))∧VecA natE 3 m G' (l++dtF g.datas f) v'∧Ch G v G' v':=by
    intro f
    induction f with
    | nil =>
     intro i G v l hA hn _ _ hv hx ho _
     simp only [Fo.len,Nat.add_zero] at hn
     subst hn
     refine ⟨G,v,zl ?_,by simpa [dtF] using hv,Ch.refl _ _⟩
     unfold z1t
     simp only [if_neg (show ¬((s.n:Int)<(s.n:Int)) by omega)]
    | cons k1 w1 n1 a1 r iha ihr =>
     intro i G v l hA hn hdep hfs hv hx ho hN
     simp only [Fo.len] at hn
     simp only [Fo.dep] at hdep
     simp only [Fo.size] at hfs hN
     obtain ⟨q,t1,q1,q2,q3,q4,q5,q6,q7,q8⟩:=(hA.ext hx).rd (s:=s) (by omega)
     obtain ⟨g',rfl⟩:∃g',fuel=g'+1:=⟨fuel - 1,by omega⟩
     obtain ⟨s',G1,y1,y2,y3⟩:=ih g' G k1 w1 n1 t1 a1 false (hB.ext hx) (Nat.le_trans hm hx.1) q6 (by omega) (by omega) (by omega)
     have hv1:VecA natE 3 m G1 l v:=VecV.ext hv y3
     have hlen:(dtI g.datas false k1 n1 a1).length≤a1.size+1:=by
      unfold dtI
      split
      ·simp
      ·have:=zdx g.datas a1; omega
     obtain ⟨v2,G2,z1,z2,z3⟩:=VecA.app (E:=natE) (e:=3) (bytes:=8) (l':=dtI g.datas false k1 n1 a1) hv1 (zk3 y2) (room8 (by omega)).1 (room8 (by omega)).2 (Nat.le_trans hm (Nat.le_trans hx.1 y3.1))
     have c1:Ch G v G2 v2:=by
      refine ⟨(y3.weak (W':=owns v) fun _ _ h=>h.elim).comp z3.fm fun id _ hn=>hn,fun id hid=>?_⟩
      rcases z3.ow id hid with h | h
      ·exact .inl h
      ·exact .inr (Nat.le_trans y3.1 h)
     obtain ⟨x2,o2⟩:=c1.ext hx ho
     obtain ⟨G3,v3,w1',w2,w3⟩:=ihr (i+1) G2 v2 (l++dtI g.datas false k1 n1 a1) hA.2 (by omega) (by omega) (by omega) z2 x2 o2 (by rw [List.length_append]; omega)
     refine ⟨G3,v3,?_,?_,c1.trans w3⟩
     ·have hb:z1t (LCo c) (z24 (LCo c) (g'+1)) m (some p) k w n s (G,v,(i:Int))=some (.next (G2,v2,((i+1:Nat):Int))):=by
       unfold z1t
       have z1':appS m 3 1 8 G1 v s'=some (v2,G2):=z1
       simp only [if_pos (show (i:Int)<(s.n:Int) by omega),q1,q2,q3,q4,q5,Option.bind_some,y1,z1']
       rw [zd (n:=s.n) (by omega) h.2.1]
      rw [zj hb]
      exact w1'
     ·have e:dtF g.datas (.cons k1 w1 n1 a1 r)=dtI g.datas false k1 n1 a1++dtF g.datas r:=by
       simp [dtF,dtI]
      rw [e,← List.append_assoc]
      exact w2
   obtain ⟨G',v',t1,t2,t3⟩:=loop a 0 H Sl3.nil [] h.2.2 (by rw [h.1]; omega) (Nat.le_refl _) hsz (VecA.nil _ _ _ _) (Fm.refl _ _) (fun id h=>absurd h z4b) (by simp; omega)
   obtain ⟨x2,_⟩:=t3.ext (Fm.refl _ _) fun id h=>absurd h z4b
   refine ⟨v',G',?_,nat_sl (by simpa using t2) (by have:=zdx g.datas a; omega),x2⟩
   show Option.bind (loopO (z1t (LCo c) (z24 (LCo c) fuel) m (some p) k w n s) (H,Sl3.nil,((0:Nat):Int))) _=_
   rw [t1]
   rfl
end
end Go.Proofs.YtccbilfbhecdaaaDoor
namespace Go.Proofs.YtccbilfbhecdaaaDoor
open Go Go.Abs
set_option maxRecDepth 100000
structure SelG (g:Sg) (x:Sel):Prop where
 sh:shS x.k x.w x.sn x.a=true
 sz:x.a.size≤255
 dp:x.a.dep≤15
 kn:knS g.users g.datas x.k x.sn x.a=true
structure GoodG (g:Sg):Prop where
 many:manyS g=false
 sel:∀d∈g.datas,∀c∈d.cons,∀x∈c.sels,SelG g x
theorem zkn {g:Sg} (hm:manyS g=false) (ha:allS g=0):GoodG g:=by
 refine ⟨hm,fun d hd c hc x hx=>?_⟩
 have hmem:selE x∈sortsE g:=by
  rw [zg5]
  refine List.mem_append.2 (.inl ?_)
  rw [List.mem_flatMap]
  refine ⟨d,hd,?_⟩
  unfold datE
  rw [List.mem_flatMap]
  exact ⟨c,hc,List.mem_map.2 ⟨x,hx,rfl⟩⟩
 have h0:errS g (selE x)=none:=by
  unfold allS at ha
  cases hq:(sortsE g).findSome? (errS g) with
  | some e =>
   rw [hq] at ha
   obtain ⟨y,hy,hye⟩:=List.exists_of_findSome?_eq_some hq
   have:=(err_ok hye).2
   exact absurd ha this
  | none=>exact List.findSome?_eq_none_iff.1 hq _ hmem
 have hc0:checkS g x.k x.w x.sn x.a=0:=by
  unfold errS at h0
  split at h0
  ·assumption
  ·cases h0
 unfold checkS at hc0
 split at hc0
 ·rename_i hw
  obtain ⟨z1,z2,z3⟩:=zj4 hw
  split at hc0
  ·rename_i hk
   exact ⟨z1,by omega,by omega,hk⟩
  ·cases hc0
 ·rename_i hw
  exact absurd hc0 hw
theorem ztr (ds:List Dat) (k:Int) (n:ByteArray) (a:Fo):(dtS ds k n a).length≤a.size+1:=by
 unfold dtS
 split
 ·simp
 ·have:=zdx ds a; omega
theorem zn2 {α:Type} {f:α→Nat}:∀{l:List α} {x:α},x∈l→f x≤sumL f l
 | y :: l,x,h=>by
  simp only [sumL]
  rcases List.mem_cons.1 h with rfl | h
  ·omega
  ·have:=zn2 (f:=f) h; omega
theorem zue {g:Sg} (hG:GoodG g) {d:Dat} (hd:d∈g.datas) {c:Con} (hc:c∈d.cons):(stC g.datas c).length≤c.sels.length*256 :=
 zih _ _ fun x hx=>by
  have:=ztr g.datas x.k x.sn x.a
  have:=(hG.sel d hd c hc x hx).sz
  omega
theorem ztf {g:Sg} (hG:GoodG g) {d:Dat} (hd:d∈g.datas):(stD g.datas d).length≤cntD d*256:=by
 unfold stD cntD
 have key:∀l:List Con,(∀c∈l,c∈d.cons)→(l.flatMap (stC g.datas)).length≤sumL (fun c=>c.sels.length) l*256:=by
  intro l
  induction l with
  | nil=>intro _; simp [sumL]
  | cons c l ih =>
   intro h
   rw [List.flatMap_cons,List.length_append]
   have h1:=zue hG hd (h c (by simp))
   have h2:=ih fun c hc=>h c (by simp [hc])
   simp only [sumL,Nat.add_mul]
   omega
 have:=key d.cons fun c hc=>hc
 rw [Nat.add_mul]
 omega
theorem zrm {g:Sg} (hG:GoodG g):sumL cntD g.datas≤4096:=by
 have:=hG.many
 unfold manyS at this
 simp only [Bool.or_eq_false_iff,decide_eq_false_iff_not] at this
 have:=this.2.2
 unfold cntG at this
 omega
theorem zk7 {g:Sg} (hG:GoodG g) {d:Dat} (hd:d∈g.datas):(stD g.datas d).length≤1048576:=by
 have h1:=ztf hG hd
 have h2:=zn2 (f:=cntD) hd
 have h3:=zrm hG
 have:cntD d*256≤4096*256:=Nat.mul_le_mul_right _ (by omega)
 omega
section
variable {m:Nat} {H0 H:AH} {s1 s2 s3:Sl3} {g:Sg} {p:Addr} {L0 fuel:Nat} {s:Sl3} {l:List Nat}
theorem znx (hF:L0=fuel+1) (hfu:15≤fuel) (hG:GoodG g) (hB:Book H0 p s1 s2 s3 g) (hm:m≤H0.next) {d:Dat} (hd:d∈g.datas) {c:Con} (hc:c∈d.cons) {x4 sl:Sl3} {v20:Int} {n9:ByteArray} (h:SlL SelA 5 H0 sl c.sels) (hv:VecA natE 3 m H l s) (hx:Ext H0 H) (ho:∀id,owns s id→H0.next≤id) (hN:l.length+(stC g.datas c).length≤2000000) :
  ∃H' s',loopO (z18 (LCo L0) m p x4 v20 n9 sl) (H,s,0)=some (.inl (H',s',(c.sels.length:Int)))∧VecA natE 3 m H' (l++stC g.datas c) s'∧Ch H s H' s':=by
 have key:=z5o (E:=natE) (e:=3) (m:=m) (xs:=c.sels) (body:=z18 (LCo L0) m p x4 v20 n9 sl) (fun x=>dtS g.datas x.k x.sn x.a) 2000000 (H0:=H0)
  (fun i hi G t k hk hx1 hO hN=>by
   have hln:=h.n
   obtain ⟨q,g1,g2⟩:=h.get hi (v:=(i:Int)) rfl
   obtain ⟨z,e1,e2,e3,e4,e5,e6⟩:=g2.ex
   have r0:rd deS G (q.add 0)=some c.sels[i].n:=by rw [(g2.n.ext hx1).rd]; rfl
   have r1:rd (deI .i64) G (q.add 1)=some c.sels[i].k:=by rw [(e1.ext hx1).rd]; rfl
   have r2:rd (deI .i64) G (q.add 2)=some c.sels[i].w:=by rw [(e2.ext hx1).rd]; rfl
   have r3:rd deS G (q.add 3)=some c.sels[i].sn:=by rw [(e3.ext hx1).rd]; rfl
   have r4:rd deSl G (q.add 4)=some z:=by rw [(e4.ext hx1).rd]; rfl
   have hs:=hG.sel d hd c hc _ (List.getElem_mem hi)
   obtain ⟨s',G1,y1,y2,y3⟩:=ziy (m:=m) L0 (c.sels[i].a.dep+1) fuel G c.sels[i].k c.sels[i].w c.sels[i].sn z c.sels[i].a false (hB.ext hx1) (Nat.le_trans hm hx1.1) (e6.ext hx1) (by have:=hs.sz; omega) (by have:=hs.dp; omega) (by omega)
   have e:dtI g.datas false c.sels[i].k c.sels[i].sn c.sels[i].a=dtS g.datas c.sels[i].k c.sels[i].sn c.sels[i].a:=by simp [dtI,dtS]
   rw [e] at y2
   obtain ⟨v2,G2,z1,z2,z3⟩:=VecA.app (E:=natE) (e:=3) (bytes:=8) (l':=dtS g.datas c.sels[i].k c.sels[i].sn c.sels[i].a) (VecV.ext hk y3) (zk3 y2) (room8 (by omega)).1 (room8 (by omega)).2 (Nat.le_trans hm (Nat.le_trans hx1.1 y3.1))
   refine ⟨G2,v2,?_,z2,?_⟩
   ·unfold z18 z5n
    have e1:(LCo L0).fuel=fuel+1:=hF
    have z1':appS m 3 1 8 G1 t s'=some (v2,G2):=z1
    rw [e1]
    simp only [if_pos (show (i:Int)<(sl.n:Int) by omega),g1,Option.bind_some,r0,r1,r2,r3,r4,y1,z1']
    rw [zd hi h.len]
   ·refine ⟨(y3.weak (W':=owns t) fun _ _ h=>h.elim).comp z3.fm fun id _ hn=>hn,fun id hid=>?_⟩
    rcases z3.ow id hid with h | h
    ·exact .inl h
    ·exact .inr (Nat.le_trans y3.1 h))
  (fun G t hx1=>by
   unfold z18
   have hln:=h.n
   simp only [if_neg (show ¬((c.sels.length:Int)<(sl.n:Int)) by omega)])
  c.sels.length 0 H s l (by omega) hv hx ho (by rw [List.drop_zero]; exact hN)
 rw [List.drop_zero] at key
 exact key
theorem zf5 (hF:L0=fuel+1) (hfu:15≤fuel) (hG:GoodG g) (hS:SigA H s1 s2 s3 g) (hB:Book H p s1 s2 s3 g) (hm:m≤H.next) {i:Nat} (hi:i<g.datas.length) :
  ∃s' H',z2t (LCo L0) m H (some p) (i:Int)=some (s',H')∧VecA natE 3 m H' (stD g.datas g.datas[i]) s'∧Ext H H'∧∀id,owns s' id→H.next≤id:=by
 have hd:=List.getElem_mem hi
 have hadd:∀j,(p.add 0).add j=p.add (0+j):=fun j=>add2 hB.c1 0 j
 have r1:rd deSl H ((p.add 0).add 1)=some s2:=by rw [hadd,hB.c2.rd]; rfl
 obtain ⟨q,g1,g2⟩:=hS.d.get hi (v:=(i:Int)) rfl
 obtain ⟨z,e1,hc⟩:=g2.ex
 have r2:rd deSl H (q.add 1)=some z:=by rw [e1.rd]; rfl
 have key:=z5o (E:=natE) (e:=3) (m:=m) (xs:=g.datas[i].cons) (body:=z17 (LCo L0) m p z) (stC g.datas) 2000000 (H0:=H)
  (fun j hj G t k hk hx1 hO hN=>by
   have hln:=hc.n
   obtain ⟨q',k1,k2⟩:=hc.get hj (v:=(j:Int)) rfl
   obtain ⟨z',f1,f2⟩:=k2.ex
   have r0:rd deS G (q'.add 0)=some g.datas[i].cons[j].n:=by rw [(k2.n.ext hx1).rd]; rfl
   have r3:rd deSl G (q'.add 1)=some z':=by rw [(f1.ext hx1).rd]; rfl
   obtain ⟨G2,t2,w1,w2,w3⟩:=znx hF hfu hG hB hm hd (List.getElem_mem hj) (x4:=z) (v20:=(j:Int)) (n9:=g.datas[i].cons[j].n) f2 hk hx1 hO hN
   refine ⟨G2,t2,?_,w2,w3⟩
   unfold z17
   simp only [if_pos (show (j:Int)<(z.n:Int) by omega),k1,Option.bind_some,r0,r3]
   show Option.bind (loopO (z18 (LCo L0) m p z (j:Int) g.datas[i].cons[j].n z') (G,t,0)) _=_
   rw [w1]
   simp only [Option.bind_some]
   rw [zd hj hc.len])
  (fun G t hx1=>by
   unfold z17
   have hln:=hc.n
   simp only [if_neg (show ¬((g.datas[i].cons.length:Int)<(z.n:Int)) by omega)])
  g.datas[i].cons.length 0 H Sl3.nil [] (by omega) (VecA.nil _ _ _ _) (Fm.refl _ _) (fun id h=>absurd h z4b) (by rw [List.drop_zero]; have:=zk7 hG hd; show 0+(stD g.datas g.datas[i]).length≤_; omega)
 rw [List.drop_zero] at key
 obtain ⟨H',s',t1,t2,t3⟩:=key
 obtain ⟨x2,o2⟩:=t3.ext (Fm.refl _ _) fun id h=>absurd h z4b
 refine ⟨s',H',?_,by simpa [stD] using t2,x2,o2⟩
 unfold z2t
 simp only [Option.bind_some,r1,g1,r2]
 show Option.bind (loopO (z17 (LCo L0) m p z) (H,Sl3.nil,0)) _=_
 have t1':loopO (z17 (LCo L0) m p z) (H,Sl3.nil,0)=_:=t1
 rw [t1']
 rfl
end
def EdgS (g:Sg) (i k:Nat):Prop:=∃h:i<g.datas.length,k∈stD g.datas g.datas[i]
inductive Lean1 (g:Sg) (i:Nat):Nat→Prop
 | one {k:Nat} (h:EdgS g i k):Lean1 g i k
 | more {j k:Nat} (h:Lean1 g i j) (h':EdgS g j k):Lean1 g i k
theorem ix_lt {g:Sg} {n:ByteArray} (h:(dataIx g.datas n).isSome=true):ixS g.datas n<g.datas.length:=by
 unfold ixS
 obtain ⟨i,hi⟩:=Option.isSome_iff_exists.1 h
 rw [hi]
 unfold dataIx at hi
 exact (List.findIdx?_eq_some_iff_getElem.1 hi).1
theorem dtF_lt {g:Sg}:∀{a:Fo},shF a=true→knF g.users g.datas a=true→∀k∈dtF g.datas a,k<g.datas.length
 | .nil,_,_,k,hk=>by simp [dtF] at hk
 | .cons k w n a r,hs,h,j,hj=>by
  simp only [knF,Bool.and_eq_true] at h
  simp only [shF,Bool.and_eq_true] at hs
  simp only [dtF,List.mem_append] at hj
  rcases hj with hj | hj
  ·by_cases h6:k=6
   ·subst h6
    simp only [if_true,List.mem_singleton,if_neg (show ¬((6:Int)=5) by omega)] at hj h
    subst hj
    exact ix_lt h.1
   ·rw [if_neg h6] at hj
    by_cases h5:k=5
    ·have:=z98 (k:=k) (w:=w) (n:=n) (a:=a) (by simp only [shS,Bool.and_eq_true]; exact hs.1) (.inl h5)
     subst this
     simp [dtF] at hj
    ·rw [if_neg h5,if_neg h6] at h
     exact dtF_lt hs.1.2 h.1 j hj
  ·exact dtF_lt hs.2 h.2 j hj
theorem dtS_lt {g:Sg} {x:Sel} (h:SelG g x):∀k∈dtS g.datas x.k x.sn x.a,k<g.datas.length:=by
 intro k hk
 have hs:=h.sh
 have hkn:=h.kn
 unfold dtS at hk
 unfold knS at hkn
 by_cases h6:x.k=6
 ·rw [if_pos h6] at hk
  rw [if_neg (by omega),if_pos h6] at hkn
  simp only [List.mem_singleton] at hk
  subst hk
  exact ix_lt hkn
 ·rw [if_neg h6] at hk
  by_cases h5:x.k=5
  ·have:=z98 hs (.inl h5)
   rw [this] at hk
   simp [dtF] at hk
  ·rw [if_neg h5,if_neg h6] at hkn
   simp only [shS,Bool.and_eq_true] at hs
   exact dtF_lt hs.2 hkn k hk
theorem stD_lt {g:Sg} (hG:GoodG g) {d:Dat} (hd:d∈g.datas):∀k∈stD g.datas d,k<g.datas.length:=by
 intro k hk
 unfold stD stC at hk
 simp only [List.mem_flatMap] at hk
 obtain ⟨c,hc,x,hx,hk⟩:=hk
 exact dtS_lt (hG.sel d hd c hc x hx) k hk
theorem edg_lt {g:Sg} (hG:GoodG g) {i k:Nat} (h:EdgS g i k):k<g.datas.length:=by
 obtain ⟨hi,h⟩:=h
 exact stD_lt hG (List.getElem_mem hi) k h
theorem zua {g:Sg} (hG:GoodG g) {i k:Nat} (h:Lean1 g i k):k<g.datas.length:=by
 cases h with
 | one h=>exact edg_lt hG h
 | more _ h=>exact edg_lt hG h
end Go.Proofs.YtccbilfbhecdaaaDoor
namespace Go.Proofs.YtccbilfbhecdaaaDoor
open Go Go.Abs
set_option maxRecDepth 100000
def bV (bl:List Bool):List Value:=bl.map Value.bool
theorem bV_set (bl:List Bool) (i:Nat) (b:Bool):(bV bl).set i (.bool b)=bV (bl.set i b):=by
 unfold bV; rw [List.map_set]
def freeN (bl:List Bool):Nat:=bl.countP fun b=>!b
theorem zgv {bl:List Bool} {i:Nat} (hi:i<bl.length) (hb:bl[i]=false):freeN (bl.set i true)+1=freeN bl:=by
 unfold freeN
 rw [List.countP_set (h:=hi)]
 have hpos:0<bl.countP fun b=>!b:=List.countP_pos_iff.2 ⟨bl[i],List.getElem_mem hi,by simp [hb]⟩
 simp [hb]
 omega
section
variable {m:Nat} {H0 H:AH} {s1 s2 s3:Sl3} {g:Sg} {p:Addr} {L0 fuel:Nat} {s:Sl3} {l:List Nat}
structure Work (g:Sg) (i:Nat) (bl:List Bool) (ql:List Nat):Prop where
 len:bl.length=g.datas.length
 sound:∀k (h:k<bl.length),bl[k]=true→Lean1 g i k
 wait:∀k∈ql,Lean1 g i k
 first:∀k,EdgS g i k→(∃h:k<bl.length,bl[k]=true)∨k∈ql
 next:∀j k,(∃h:j<bl.length,bl[j]=true)→EdgS g j k→(∃h:k<bl.length,bl[k]=true)∨k∈ql
theorem Work.done {i:Nat} {bl:List Bool} (h:Work g i bl []):∀k (hk:k<bl.length),bl[k]=true↔Lean1 g i k:=by
 have key:∀k,Lean1 g i k→∃h:k<bl.length,bl[k]=true:=by
  intro k hk
  induction hk with
  | one h1=>exact (h.first _ h1).resolve_right (by simp)
  | more h1 h2 ih=>exact (h.next _ _ ih h2).resolve_right (by simp)
 exact fun k hk=>⟨h.sound k hk,fun hl=>(key k hl).2⟩
theorem z5s {bl:List Bool} {x k:Nat}:(∃h:k<(bl.set x true).length,(bl.set x true)[k]=true)↔(∃h:k<bl.length,bl[k]=true)∨(k=x∧x<bl.length):=by
 constructor
 ·rintro ⟨h,hb⟩
  have hk:k<bl.length:=by simpa using h
  rw [List.getElem_set] at hb
  split at hb
  ·rename_i e; exact .inr ⟨e.symm,by omega⟩
  ·exact .inl ⟨hk,hb⟩
 ·rintro (⟨h,hb⟩ | ⟨rfl,hx⟩)
  ·refine ⟨by simpa using h,?_⟩
   rw [List.getElem_set]
   split
   ·rfl
   ·exact hb
  ·exact ⟨by simpa using hx,by simp⟩
theorem Work.pop {i x:Nat} {bl:List Bool} {t:List Nat} (h:Work g i bl (x :: t)) (hx:∃h:x<bl.length,bl[x]=true):Work g i bl t:=by
 refine ⟨h.len,h.sound,fun k hk=>h.wait k (by simp [hk]),fun k hk=>?_,fun j k hj hk=>?_⟩
 ·rcases h.first k hk with h1 | h1
  ·exact .inl h1
  ·rcases List.mem_cons.1 h1 with rfl | h1
   ·exact .inl hx
   ·exact .inr h1
 ·rcases h.next j k hj hk with h1 | h1
  ·exact .inl h1
  ·rcases List.mem_cons.1 h1 with rfl | h1
   ·exact .inl hx
   ·exact .inr h1
theorem Work.mark {i x:Nat} {bl:List Bool} {t:List Nat} (h:Work g i bl (x :: t)) (hx:x<g.datas.length):Work g i (bl.set x true) (t++stD g.datas g.datas[x]):=by
 have hlx:Lean1 g i x:=h.wait x (by simp)
 have hxl:x<bl.length:=by rw [h.len]; exact hx
 refine ⟨by simp [h.len],fun k hk hb=>?_,fun k hk=>?_,fun k hk=>?_,fun j k hj hk=>?_⟩
 ·rcases z5s.1 ⟨hk,hb⟩ with ⟨h1,h2⟩ | ⟨rfl,_⟩
  ·exact h.sound k h1 h2
  ·exact hlx
 ·rcases List.mem_append.1 hk with hk | hk
  ·exact h.wait k (by simp [hk])
  ·exact .more hlx ⟨hx,hk⟩
 ·rcases h.first k hk with h1 | h1
  ·exact .inl (z5s.2 (.inl h1))
  ·rcases List.mem_cons.1 h1 with rfl | h1
   ·exact .inl (z5s.2 (.inr ⟨rfl,hxl⟩))
   ·exact .inr (List.mem_append.2 (.inl h1))
 ·rcases z5s.1 hj with h1 | ⟨rfl,_⟩
  ·rcases h.next j k h1 hk with h2 | h2
   ·exact .inl (z5s.2 (.inl h2))
   ·rcases List.mem_cons.1 h2 with rfl | h2
    ·exact .inl (z5s.2 (.inr ⟨rfl,hxl⟩))
    ·exact .inr (List.mem_append.2 (.inl h2))
  ·obtain ⟨_,hk⟩:=hk
   exact .inr (List.mem_append.2 (.inr hk))
theorem zss (hF:L0=fuel+1) (hfu:15≤fuel) (hG:GoodG g) (hS:SigA H0 s1 s2 s3 g) (hB:Book H0 p s1 s2 s3 g) (hm:m≤H0.next) {id3 idr n:Nat} {x2:Sl3} {rows:List Value} {i:Nat} (hn:n=g.datas.length) (hi:i<n)
  (hrow:rows[i]? = some (Sl3.v ⟨some ⟨idr,0,none⟩,n,n⟩)) (hne:id3≠idr) (h3:H0.next≤id3) (hr:H0.next≤idr):∀(u q:Nat) (bl:List Bool) (ql:List Nat) (H:AH) (v:Sl3),freeN bl=u→ql.length=q→Work g i bl ql→Ext H0 H →
   ArrV 56 m H id3 rows→ArrV 4 m H idr (bV bl)→VecA natE 3 m H ql v→(∀id,owns v id→H0.next≤id∧id≠id3∧id≠idr)→ql.length+u*1048576≤5000000000 →
   ∃H' v' bl',loopO (z12 (LCo L0) m p x2 ⟨some ⟨id3,0,none⟩,n,n⟩ (i:Int)) (H,v)=some (.inl (H',v'))∧Work g i bl' []∧ArrV 56 m H' id3 rows∧ArrV 4 m H' idr (bV bl')∧Ext H0 H'∧Fm (fun id=>id=idr∨owns v id) H H':=by
 intro u
 induction u using Nat.strongRecOn with
 | ind u ihu =>
  intro q
  induction q with
  | zero =>
   intro bl ql H v hu hq hW hx ha3 har hv ho hN
   obtain rfl:ql=[]:=List.length_eq_zero_iff.1 hq
   refine ⟨H,v,bl,zl ?_,hW,ha3,har,hx,Fm.refl _ _⟩
   unfold z12
   have:v.n=0:=hv.n
   simp only [this]
   rw [if_neg (by omega)]
  | succ q ihq =>
   intro bl ql H v hu hq hW hx ha3 har hv ho hN
   cases ql with
   | nil=>simp at hq
   | cons x t =>
    have hxn:x<g.datas.length:=zua hG (hW.wait x (by simp))
    have hxb:x<bl.length:=by rw [hW.len]; exact hxn
    have hvn:v.n=t.length+1:=hv.n
    have hsl:=nat_sl hv (by omega)
    obtain ⟨qa,k1,k2⟩:=hsl.get (i:=0) (by simp) (v:=(0:Int)) rfl
    have r0:rd (deI .i64) H qa=some (x:Int):=by rw [Cel.rd k2]; rfl
    obtain ⟨v1,t1,t2,t3⟩:=hv.tail rfl (by unfold OPEN; simp at hN; omega)
    have r1:rd deSl H ((⟨id3,0,none⟩:Addr).add (i*1))=some ⟨some ⟨idr,0,none⟩,n,n⟩:=by rw [(ha3.cel hrow).rd]; rfl
    have hbx:(bV bl)[x]? = some (.bool bl[x]):=by simp [bV,hxb]
    have r2:rd deB H ((⟨idr,0,none⟩:Addr).add (x*1))=some bl[x]:=by rw [(har.cel hbx).rd]; rfl
    have i3:idxA 1 (⟨some ⟨id3,0,none⟩,n,n⟩:Sl3) (i:Int)=some ((⟨id3,0,none⟩:Addr).add (i*1)):=z34 hi rfl
    have ir:idxA 1 (⟨some ⟨idr,0,none⟩,n,n⟩:Sl3) (x:Int)=some ((⟨idr,0,none⟩:Addr).add (x*1)):=z34 (by omega) rfl
    have o1:∀id,owns v1 id→H0.next≤id∧id≠id3∧id≠idr:=fun id hid=>ho id (t3 id hid)
    simp only [List.length_cons] at hq hN
    cases hb:bl[x] with
    | true =>
     obtain ⟨H',v',bl',w1,w2,w3,w4,w5,w6⟩:=ihq bl t H v1 hu (by omega) (hW.pop ⟨hxb,hb⟩) hx ha3 har t2 o1 (by omega)
     refine ⟨H',v',bl',?_,w2,w3,w4,w5,w6.weak fun id _ h=>?_⟩
     ·have hbody:z12 (LCo L0) m p x2 ⟨some ⟨id3,0,none⟩,n,n⟩ (i:Int) (H,v)=some (.next (H,v1)):=by
       unfold z12
       rw [hb] at r2
       simp only [if_pos (show (v.n:Int) > 0 by omega),k1,Option.bind_some,r0,t1,i3,r1,ir,r2,if_true]
      rw [zj hbody]
      exact w1
     ·rcases h with h | h
      ·exact .inl h
      ·exact .inr (t3 id h)
    | false =>
     obtain ⟨H25,c1,c2,c3,c4⟩:=har.set (i:=x) (by simp [bV]; exact hxb) (.bool true)
     rw [bV_set] at c2
     have xx:Ext H0 H25:=hx.comp c3 fun id hid _ h=>by omega
     have a3':ArrV 56 m H25 id3 rows:=ha3.fr c3 hne
     have v1':VecA natE 3 m H25 t v1:=VecV.fr t2 c3 fun id hid h=>(o1 id hid).2.2 h
     have hmH:m≤H25.next:=Nat.le_trans hm xx.1
     obtain ⟨s',H27,d1,d2,d3,d4⟩:=zf5 hF hfu hG (hS.ext xx) (hB.ext xx) hmH hxn
     have hst:=zk7 hG (List.getElem_mem hxn)
     obtain ⟨v2,H29,e1,e2,e3⟩:=VecA.app (E:=natE) (e:=3) (bytes:=8) (l':=stD g.datas g.datas[x]) (VecV.ext v1' d3) (zk3 (nat_sl d2 (by omega))) (room8 (by omega)).1 (room8 (by omega)).2 (Nat.le_trans hmH d3.1)
     have f29:Fm (fun id=>id=idr∨owns v id) H H29:=by
      refine (c3.weak (W':=fun id=>id=idr∨owns v id) fun id _ h=>.inl h).comp ((d3.weak (W':=owns v1) fun _ _ h=>h.elim).comp e3.fm fun id _ hn=>hn) fun id hid hn h=>?_
      exact hn (.inr (t3 id h))
     have own2:∀id,owns v2 id→owns v1 id∨H27.next≤id:=e3.ow
     have lt3:=ha3.low
     have ltr:=har.low
     have hge:H.next≤H27.next:=by rw [← c4]; exact d3.1
     have o2:∀id,owns v2 id→H0.next≤id∧id≠id3∧id≠idr:=fun id hid=>by
      rcases own2 id hid with h | h
      ·exact o1 id h
      ·have:=hx.1; omega
     have a329:ArrV 56 m H29 id3 rows:=(a3'.ext d3).fr e3.fm fun h=>(o1 id3 h).2.1 rfl
     have ar29:ArrV 4 m H29 idr (bV (bl.set x true)):=(c2.ext d3).fr e3.fm fun h=>(o1 idr h).2.2 rfl
     have x29:Ext H0 H29:=(xx.trans d3).comp e3.fm fun id hid _ h=>by have:=(o1 id h).1; omega
     have hfree:=zgv hxb hb
     obtain ⟨H',v',bl',w1,w2,w3,w4,w5,w6⟩:=ihu (freeN (bl.set x true)) (by omega) _ (bl.set x true) (t++stD g.datas g.datas[x]) H29 v2 rfl rfl (hW.mark hxn) x29 a329 ar29 e2 o2 (by
      rw [List.length_append]
      have:u=freeN (bl.set x true)+1:=by omega
      rw [this,Nat.add_mul] at hN
      omega)
     refine ⟨H',v',bl',?_,w2,w3,w4,w5,f29.comp w6 fun id hid hn h=>?_⟩
     ·have hbody:z12 (LCo L0) m p x2 ⟨some ⟨id3,0,none⟩,n,n⟩ (i:Int) (H,v)=some (.next (H29,v2)):=by
       unfold z12
       rw [hb] at r2
       have e1':appS m 3 1 8 H27 v1 s'=some (v2,H29):=e1
       simp only [if_pos (show (v.n:Int) > 0 by omega),k1,Option.bind_some,r0,t1,i3,r1,ir,r2,Bool.false_eq_true,if_false,c1,d1,e1']
      rw [zj hbody]
      exact w1
     ·rcases h with h | h
      ·exact hn (.inl h)
      ·rcases own2 id h with h | h
       ·exact hn (.inr (t3 id h))
       ·omega
end
end Go.Proofs.YtccbilfbhecdaaaDoor
namespace Go.Proofs.YtccbilfbhecdaaaDoor
open Go Go.Abs
set_option maxRecDepth 100000
theorem z28 {g:Sg} (hG:GoodG g):g.datas.length≤4096:=by
 have:=hG.many
 unfold manyS at this
 simp only [Bool.or_eq_false_iff,decide_eq_false_iff_not] at this
 have:=this.2.2
 unfold cntG at this
 omega
theorem zgl (n:Nat):freeN (List.replicate n false)=n:=by
 unfold freeN
 rw [List.countP_replicate]
 simp
theorem zia {α:Type} {xs:List α} {body:AH×Int→Option (Lp (AH×Int) (Bool×AH))} (P:Nat→α→Prop) {H0:AH}
  (step:∀(i:Nat) (hi:i<xs.length) (H:AH),Ext H0 H→∃H',Ext H0 H'∧((P i xs[i]∧body (H,(i:Int))=some (.ret (true,H')))∨(¬P i xs[i]∧body (H,(i:Int))=some (.next (H',((i+1:Nat):Int))))))
  (he:∀H,Ext H0 H→body (H,(xs.length:Int))=some (.brk (H,(xs.length:Int)))) :
  ∀(d i:Nat) (H:AH),i+d=xs.length→Ext H0 H→∃H',Ext H0 H'∧(((∃j,∃h:j<xs.length,i≤j∧P j xs[j])∧loopO body (H,(i:Int))=some (.inr (true,H')))∨((¬∃j,∃h:j<xs.length,i≤j∧P j xs[j])∧loopO body (H,(i:Int))=some (.inl (H',(xs.length:Int))))):=by
 intro d
 induction d with
 | zero =>
  intro i H hi hx
  have:i=xs.length:=by omega
  subst this
  refine ⟨H,hx,.inr ⟨?_,zl (he H hx)⟩⟩
  rintro ⟨j,h,h',_⟩
  omega
 | succ d ih =>
  intro i H hi hx
  have hlt:i<xs.length:=by omega
  obtain ⟨H1,x1,h⟩:=step i hlt H hx
  rcases h with ⟨hp,hb⟩ | ⟨hp,hb⟩
  ·exact ⟨H1,x1,.inl ⟨⟨i,hlt,Nat.le_refl _,hp⟩,z41 hb⟩⟩
  ·obtain ⟨H2,x2,h⟩:=ih (i+1) H1 (by omega) x1
   refine ⟨H2,x2,?_⟩
   rw [zj hb]
   rcases h with ⟨⟨j,hj,h1,h2⟩,h3⟩ | ⟨h1,h3⟩
   ·exact .inl ⟨⟨j,hj,by omega,h2⟩,h3⟩
   ·refine .inr ⟨?_,h3⟩
    rintro ⟨j,hj,h4,h5⟩
    by_cases e:j=i
    ·subst e; exact hp h5
    ·exact h1 ⟨j,hj,by omega,h5⟩
def LeanT (g:Sg) (H:AH) (id3:Nat):Prop:=∀i,i<g.datas.length→∃row:Sl3,Cel H ((⟨id3,0,none⟩:Addr).add (i*1)) row.v∧∀k,k<g.datas.length→∃q b,idxA 1 row (k:Int)=some q∧Cel H q (.bool b)∧(b=true↔Lean1 g i k)
theorem LeanT.ext {g:Sg} {H H':AH} {id3:Nat} (h:LeanT g H id3) (hf:Ext H H'):LeanT g H' id3:=fun i hi=>by
 obtain ⟨row,h1,h2⟩:=h i hi
 exact ⟨row,h1.ext hf,fun k hk=>let ⟨q,b,a1,a2,a3⟩:=h2 k hk; ⟨q,b,a1,a2.ext hf,a3⟩⟩
section
variable {m:Nat} {H0 H:AH} {s1 s2 s3:Sl3} {g:Sg} {p:Addr} {L0 fuel:Nat}
def RowOk (g:Sg) (m:Nat) (H0 H:AH) (id3 n:Nat) (rows:List Value) (j:Nat):Prop :=
 ∃idj bl,rows[j]? = some (Sl3.v ⟨some ⟨idj,0,none⟩,n,n⟩)∧ArrV 4 m H idj (bV bl)∧(∀k (h:k<bl.length),bl[k]=true↔Lean1 g j k)∧bl.length=n∧H0.next≤idj∧idj≠id3
theorem zt0 (hF:L0=fuel+1) (hfu:15≤fuel) (hG:GoodG g) (hS:SigA H0 s1 s2 s3 g) (hB:Book H0 p s1 s2 s3 g) (hm:m≤H0.next) {id3 n:Nat} (hn:n=g.datas.length) (h3:H0.next≤id3):∀(d i:Nat) (H:AH) (rows:List Value),i+d=n→Ext H0 H→ArrV 56 m H id3 rows→rows.length=n →
   (∀j,j<i→RowOk g m H0 H id3 n rows j) →
   ∃H' rows',loopO (z1r (LCo L0) m p s2 ⟨some ⟨id3,0,none⟩,n,n⟩) (H,(i:Int))=some (.inl (H',(n:Int)))∧Ext H0 H'∧ArrV 56 m H' id3 rows'∧∀j,j<n→RowOk g m H0 H' id3 n rows' j:=by
 have hd:=hS.d.n
 have hnn:n≤4096:=by rw [hn]; exact z28 hG
 intro d
 induction d with
 | zero =>
  intro i H rows hi hx ha hl hr
  obtain rfl:i=n:=by omega
  refine ⟨H,rows,zl ?_,hx,ha,hr⟩
  unfold z1r
  simp only [if_neg (show ¬((i:Int)<(s2.n:Int)) by omega)]
 | succ d ih =>
  intro i H rows hi hx ha hl hr
  have hin:i<n:=by omega
  have hig:i<g.datas.length:=by omega
  have hmH:=Nat.le_trans hm hx.1
  obtain ⟨H8,b1,b2,b3,b4⟩:=zdy (e:=4) (bytes:=1) (m:=m) (H:=H) (z:=.bool false) (n:=n) (by omega) (by omega) hmH
  have hs2:s2.n=n:=by rw [hd,hn]
  have ha8:=ha.ext b3
  obtain ⟨H10,c1,c2,c3,c4⟩:=ha8.set (i:=i) (by omega) (Sl3.v ⟨some ⟨H.next,0,none⟩,n,n⟩)
  have hlow:=ha.low
  have x8:=hx.trans b3
  have x10:Ext H0 H10:=x8.comp c3 fun id hid _ h=>by omega
  have b2':ArrV 4 m H10 H.next (bV (List.replicate n false)):=by
   have:bV (List.replicate n false)=List.replicate n (Value.bool false):=by simp [bV]
   rw [this]
   exact b2.fr c3 (by omega)
  obtain ⟨x11,H12,d1,d2,d3,d4⟩:=zf5 hF hfu hG (hS.ext x10) (hB.ext x10) (Nat.le_trans hm x10.1) hig
  have hst:=zk7 hG (List.getElem_mem hig)
  have x12:=x10.trans d3
  have hrow:(rows.set i (Sl3.v ⟨some ⟨H.next,0,none⟩,n,n⟩))[i]? = some (Sl3.v ⟨some ⟨H.next,0,none⟩,n,n⟩):=by simp [hl,hin]
  have hW:Work g i (List.replicate n false) (stD g.datas g.datas[i]):=by
   refine ⟨by simp [hn],fun k hk hb=>by simp at hb,fun k hk=>.one ⟨hig,hk⟩,fun k hk=>?_,fun j k hj _=>?_⟩
   ·obtain ⟨_,hk⟩:=hk; exact .inr hk
   ·obtain ⟨_,hb⟩:=hj; simp at hb
  obtain ⟨H',v',bl',e1,e2,e3,e4,e5,e6⟩:=zss hF hfu hG hS hB hm (x2:=s2) hn hin hrow (by omega) h3 hx.1 n _ (List.replicate n false) _ H12 x11 (zgl n) rfl hW x12 (c2.ext d3) (b2'.ext d3) d2 (fun id hid=>by have:=d4 id hid; have:=b4; have:=x10.1; omega) (by omega)
  have keep:∀j,j<i→RowOk g m H0 H' id3 n (rows.set i (Sl3.v ⟨some ⟨H.next,0,none⟩,n,n⟩)) j:=by
   intro j hj
   obtain ⟨idj,bl,k1,k2,k3,k4,k5,k6⟩:=hr j hj
   have hlj:=k2.low
   refine ⟨idj,bl,?_,?_,k3,k4,k5,k6⟩
   ·rw [List.getElem?_set_ne (by omega)]; exact k1
   ·refine (((k2.ext b3).fr c3 k6).ext d3).fr e6 fun h=>?_
    rcases h with h | h
    ·omega
    ·have:=d4 idj h; omega
  have mine:RowOk g m H0 H' id3 n (rows.set i (Sl3.v ⟨some ⟨H.next,0,none⟩,n,n⟩)) i :=
   ⟨H.next,bl',hrow,e4,e2.done,by rw [e2.len,hn],hx.1,by omega⟩
  obtain ⟨H2,rows',y1,y2,y3,y4⟩:=ih (i+1) H' _ (by omega) e5 e3 (by simp [hl]) fun j hj=>by
   by_cases e:j=i
   ·subst e; exact mine
   ·exact keep j (by omega)
  refine ⟨H2,rows',?_,y2,y3,y4⟩
  have hbody:z1r (LCo L0) m p s2 ⟨some ⟨id3,0,none⟩,n,n⟩ (H,(i:Int))=some (.next (H',((i+1:Nat):Int))):=by
   unfold z1r
   simp only [hs2,if_pos (show (i:Int)<(n:Int) by omega),b1,Option.bind_some,z34 hin rfl,c1,d1]
   show Option.bind (loopO (z12 (LCo L0) m p s2 ⟨some ⟨id3,0,none⟩,n,n⟩ (i:Int)) (H12,x11)) _=_
   rw [e1]
   simp only [Option.bind_some]
   rw [zd hin (by rw [z1n]; omega)]
  rw [zj hbody]
  exact y1
theorem zqe (hF:L0=fuel+1) (hfu:15≤fuel) (hG:GoodG g) (hS:SigA H s1 s2 s3 g) (hB:Book H p s1 s2 s3 g) (hm:m≤H.next) :
  ∃id3 H',z5m (LCo L0) m H (some p)=some (⟨some ⟨id3,0,none⟩,g.datas.length,g.datas.length⟩,H')∧Ext H H'∧LeanT g H' id3:=by
 have hd:=hS.d.n
 have hnn:=z28 hG
 have hadd:∀j,(p.add 0).add j=p.add (0+j):=fun j=>add2 hB.c1 0 j
 have r1:rd deSl H ((p.add 0).add 1)=some s2:=by rw [hadd,hB.c2.rd]; rfl
 obtain ⟨H4,b1,b2,b3,b4⟩:=zdy (e:=56) (bytes:=24) (m:=m) (H:=H) (z:=Sl3.v Sl3.nil) (n:=g.datas.length) (by omega) (by omega) hm
 obtain ⟨H',rows',c1,c2,c3,c4⟩:=zt0 hF hfu hG hS hB hm (id3:=H.next) rfl (Nat.le_refl _) g.datas.length 0 H4 _ (by omega) b3 b2 (by simp) (fun j hj=>absurd hj (Nat.not_lt_zero _))
 refine ⟨H.next,H',?_,c2,fun i hi=>?_⟩
 ·unfold z5m
  simp only [Option.bind_some,r1,hd,b1]
  show Option.bind (loopO (z1r (LCo L0) m p s2 ⟨some ⟨H.next,0,none⟩,g.datas.length,g.datas.length⟩) (H4,((0:Nat):Int))) _=_
  rw [c1]
  rfl
 ·obtain ⟨idj,bl,k1,k2,k3,k4,k5,k6⟩:=c4 i hi
  refine ⟨_,c3.cel k1,fun k hk=>⟨_,bl[k]'(by omega),z34 hk rfl,k2.cel (by simp [bV,k4,hk]),k3 k (by omega)⟩⟩
def NestX (g:Sg) (i:Nat) (x:Sel):Prop:=∃k∈dtI g.datas true x.k x.sn x.a,k=i∨Lean1 g k i
def NestP (g:Sg):Prop:=∃i,∃h:i<g.datas.length,∃c∈(g.datas[i]).cons,∃x∈c.sels,NestX g i x
theorem dtI_lt {g:Sg} {x:Sel} (h:SelG g x):∀k∈dtI g.datas true x.k x.sn x.a,k<g.datas.length:=by
 intro k hk
 have hk:k∈dtF g.datas x.a:=by simpa [dtI] using hk
 have hs:=h.sh
 have hkn:=h.kn
 unfold knS at hkn
 by_cases h56:x.k=5∨x.k=6
 ·have:=z98 hs h56
  rw [this] at hk
  simp [dtF] at hk
 ·rw [if_neg (by omega),if_neg (by omega)] at hkn
  simp only [shS,Bool.and_eq_true] at hs
  exact dtF_lt hs.2 hkn k hk
theorem zr9 (c:Nat) {id3:Nat} {i:Nat} {x2 x6 x10 x14 x15:Sl3} {v27 v34 y1 y2:Int} {n6 n10 n14 n15:ByteArray} {l:List Nat} (hT:LeanT g H id3) (hi:i<g.datas.length) (hl:SlL IntA 1 H x15 l) (hlt:∀k∈l,k<g.datas.length) :
  loopO (z1h (LCo c) ⟨some ⟨id3,0,none⟩,g.datas.length,g.datas.length⟩ p x2 (i:Int) n6 x6 v27 n10 x10 v34 n14 y1 y2 n15 x14 x15 H) 0=some (found l.length (l.findSome? fun k=>open Classical in if k=i∨Lean1 g k i then some (true,H) else none)):=by
 classical
 have hn:=hl.n
 have hu:=z1f (body:=z1h (LCo c) ⟨some ⟨id3,0,none⟩,g.datas.length,g.datas.length⟩ p x2 (i:Int) n6 x6 v27 n10 x10 v34 n14 y1 y2 n15 x14 x15 H) l.length hl.len (fun j=>if (l.getD j 0)=i∨Lean1 g (l.getD j 0) i then some (true,H) else none) (fun j hj=>by
   obtain ⟨q,h1,h2⟩:=hl.get hj (v:=(j:Int)) rfl
   have r0:rd (deI .i64) H q=some (l[j]:Int):=by rw [Cel.rd h2]; rfl
   have eg:l.getD j 0=l[j]:=by simp [List.getD,hj]
   rw [eg]
   have hkl:=hlt _ (List.getElem_mem hj)
   obtain ⟨row,k1,k2⟩:=hT l[j] hkl
   obtain ⟨q',b,k3,k4,k5⟩:=k2 i hi
   have r1:rd deSl H ((⟨id3,0,none⟩:Addr).add (l[j]*1))=some row:=by rw [k1.rd]; rfl
   have r2:rd deB H q'=some b:=by rw [k4.rd]; rfl
   unfold z1h
   simp only [if_pos (show (j:Int)<(x15.n:Int) by omega),h1,Option.bind_some,r0]
   by_cases e:l[j]=i
   ·have:((l[j]:Nat):Int)=(i:Int):=by omega
    simp [this,e,stepO]
   ·have:¬(((l[j]:Nat):Int)=(i:Int)):=by omega
    simp only [if_neg this,z34 hkl rfl,Option.bind_some,r1,k3,r2]
    cases b with
    | true=>simp [k5.1 rfl,stepO]
    | false =>
     have:¬Lean1 g l[j] i:=fun h=>by have:=k5.2 h; cases this
     simp [this,e,stepO]) (by
   unfold z1h
   rw [if_neg (by omega)])
 rw [hu,z9a l (fun k=>if k=i∨Lean1 g k i then some (true,H) else none) 0]
theorem zro {R:Type} (l:List Nat) (P:Nat→Prop) [DecidablePred P] (r:R):((∃k∈l,P k)∧(l.findSome? fun k=>if P k then some r else none)=some r)∨((¬∃k∈l,P k)∧(l.findSome? fun k=>if P k then some r else none)=none):=by
 induction l with
 | nil=>exact .inr ⟨by simp,rfl⟩
 | cons x l ih =>
  rw [List.findSome?_cons]
  by_cases h:P x
  ·rw [if_pos h]; exact .inl ⟨⟨x,by simp,h⟩,rfl⟩
  ·rw [if_neg h]
   rcases ih with ⟨⟨k,hk,hp⟩,h2⟩ | ⟨h1,h2⟩
   ·exact .inl ⟨⟨k,by simp [hk],hp⟩,h2⟩
   ·refine .inr ⟨?_,h2⟩
    rintro ⟨k,hk,hp⟩
    rcases List.mem_cons.1 hk with rfl | hk
    ·exact h hp
    ·exact h1 ⟨k,hk,hp⟩
theorem zr3 (hF:L0=fuel+1) (hfu:15≤fuel) (hG:GoodG g) (hB:Book H0 p s1 s2 s3 g) (hm:m≤H0.next) {id3 i:Nat} (hT:LeanT g H0 id3) (hi:i<g.datas.length) {c:Con} (hc:c∈(g.datas[i]).cons) {x2 x6 sl:Sl3} {v27:Int} {n6 n10:ByteArray} (h:SlL SelA 5 H0 sl c.sels) (hx:Ext H0 H) :
  ∃H',Ext H0 H'∧(((∃x∈c.sels,NestX g i x)∧loopO (zw (LCo L0) m ⟨some ⟨id3,0,none⟩,g.datas.length,g.datas.length⟩ p x2 (i:Int) n6 x6 v27 n10 sl) (H,0)=some (.inr (true,H'))) ∨
   ((¬∃x∈c.sels,NestX g i x)∧loopO (zw (LCo L0) m ⟨some ⟨id3,0,none⟩,g.datas.length,g.datas.length⟩ p x2 (i:Int) n6 x6 v27 n10 sl) (H,0)=some (.inl (H',(c.sels.length:Int))))):=by
 classical
 have hln:=h.n
 obtain ⟨H',h1,h2⟩:=zia (xs:=c.sels) (body:=zw (LCo L0) m ⟨some ⟨id3,0,none⟩,g.datas.length,g.datas.length⟩ p x2 (i:Int) n6 x6 v27 n10 sl) (fun _ x=>NestX g i x) (H0:=H0)
  (fun j hj G hG1=>by
   obtain ⟨q,g1,g2⟩:=h.get hj (v:=(j:Int)) rfl
   obtain ⟨z,e1,e2,e3,e4,e5,e6⟩:=g2.ex
   have r0:rd deS G (q.add 0)=some c.sels[j].n:=by rw [(g2.n.ext hG1).rd]; rfl
   have r1:rd (deI .i64) G (q.add 1)=some c.sels[j].k:=by rw [(e1.ext hG1).rd]; rfl
   have r2:rd (deI .i64) G (q.add 2)=some c.sels[j].w:=by rw [(e2.ext hG1).rd]; rfl
   have r3:rd deS G (q.add 3)=some c.sels[j].sn:=by rw [(e3.ext hG1).rd]; rfl
   have r4:rd deSl G (q.add 4)=some z:=by rw [(e4.ext hG1).rd]; rfl
   have hs:=hG.sel _ (List.getElem_mem hi) c hc _ (List.getElem_mem hj)
   obtain ⟨s',G1,y1,y2,y3⟩:=ziy (m:=m) L0 (c.sels[j].a.dep+1) fuel G c.sels[j].k c.sels[j].w c.sels[j].sn z c.sels[j].a true (hB.ext hG1) (Nat.le_trans hm hG1.1) (e6.ext hG1) (by have:=hs.sz; omega) (by have:=hs.dp; omega) (by omega)
   have hb3:=zr9 (p:=p) L0 (i:=i) (x2:=x2) (x6:=x6) (x10:=sl) (x14:=z) (v27:=v27) (v34:=(j:Int)) (y1:=c.sels[j].k) (y2:=c.sels[j].w) (n6:=n6) (n10:=n10) (n14:=c.sels[j].n) (n15:=c.sels[j].sn) (hT.ext (hG1.trans y3)) hi y2 (dtI_lt hs)
   have e1':(LCo L0).fuel=fuel+1:=hF
   refine ⟨G1,hG1.trans y3,?_⟩
   have hbody:zw (LCo L0) m ⟨some ⟨id3,0,none⟩,g.datas.length,g.datas.length⟩ p x2 (i:Int) n6 x6 v27 n10 sl (G,(j:Int))=(match (found (dtI g.datas true c.sels[j].k c.sels[j].sn c.sels[j].a).length ((dtI g.datas true c.sels[j].k c.sels[j].sn c.sels[j].a).findSome? fun k=>if k=i∨Lean1 g k i then some (true,G1) else none)) with | .inl _=>some (.next (G1,((j+1:Nat):Int))) | .inr r=>some (.ret r)):=by
    unfold zw z5n
    rw [e1']
    simp only [if_pos (show (j:Int)<(sl.n:Int) by omega),g1,Option.bind_some,r0,r1,r2,r3,r4,y1]
    show Option.bind (loopO (z1h (LCo L0) ⟨some ⟨id3,0,none⟩,g.datas.length,g.datas.length⟩ p x2 (i:Int) n6 x6 v27 n10 sl (j:Int) c.sels[j].n c.sels[j].k c.sels[j].w c.sels[j].sn z s' G1) 0) _=_
    rw [hb3,zd hj h.len]
    rfl
   rcases zro (dtI g.datas true c.sels[j].k c.sels[j].sn c.sels[j].a) (fun k=>k=i∨Lean1 g k i) (true,G1) with ⟨hp,hf⟩ | ⟨hp,hf⟩
   ·rw [hf] at hbody
    exact .inl ⟨hp,hbody⟩
   ·rw [hf] at hbody
    exact .inr ⟨hp,hbody⟩)
  (fun G hG1=>by
   unfold zw
   simp only [if_neg (show ¬((c.sels.length:Int)<(sl.n:Int)) by omega)])
  c.sels.length 0 H (by omega) hx
 refine ⟨H',h1,?_⟩
 have iff:(∃j,∃h:j<c.sels.length,0≤j∧NestX g i c.sels[j])↔∃x∈c.sels,NestX g i x:=by
  constructor
  ·rintro ⟨j,hj,_,hp⟩; exact ⟨_,List.getElem_mem hj,hp⟩
  ·rintro ⟨x,hx,hp⟩
   obtain ⟨j,hj,rfl⟩:=List.getElem_of_mem hx
   exact ⟨j,hj,Nat.zero_le _,hp⟩
 rw [iff] at h2
 exact h2
theorem zr7 (hF:L0=fuel+1) (hfu:15≤fuel) (hG:GoodG g) (hB:Book H0 p s1 s2 s3 g) (hm:m≤H0.next) {id3 i:Nat} (hT:LeanT g H0 id3) (hi:i<g.datas.length) {x2 sl:Sl3} {n6:ByteArray} (h:SlL ConA 2 H0 sl (g.datas[i]).cons) (hx:Ext H0 H) :
  ∃H',Ext H0 H'∧(((∃c∈(g.datas[i]).cons,∃x∈c.sels,NestX g i x)∧loopO (zx (LCo L0) m ⟨some ⟨id3,0,none⟩,g.datas.length,g.datas.length⟩ p x2 (i:Int) n6 sl) (H,0)=some (.inr (true,H'))) ∨
   ((¬∃c∈(g.datas[i]).cons,∃x∈c.sels,NestX g i x)∧loopO (zx (LCo L0) m ⟨some ⟨id3,0,none⟩,g.datas.length,g.datas.length⟩ p x2 (i:Int) n6 sl) (H,0)=some (.inl (H',((g.datas[i]).cons.length:Int))))):=by
 have hln:=h.n
 obtain ⟨H',h1,h2⟩:=zia (xs:=(g.datas[i]).cons) (body:=zx (LCo L0) m ⟨some ⟨id3,0,none⟩,g.datas.length,g.datas.length⟩ p x2 (i:Int) n6 sl) (fun _ c=>∃x∈c.sels,NestX g i x) (H0:=H0)
  (fun j hj G hG1=>by
   obtain ⟨q,g1,g2⟩:=h.get hj (v:=(j:Int)) rfl
   obtain ⟨z,e1,e2⟩:=g2.ex
   have r0:rd deS G (q.add 0)=some (g.datas[i]).cons[j].n:=by rw [(g2.n.ext hG1).rd]; rfl
   have r1:rd deSl G (q.add 1)=some z:=by rw [(e1.ext hG1).rd]; rfl
   obtain ⟨G1,k1,k2⟩:=zr3 hF hfu hG hB hm hT hi (List.getElem_mem hj) (x2:=x2) (x6:=sl) (v27:=(j:Int)) (n6:=n6) (n10:=(g.datas[i]).cons[j].n) e2 hG1
   refine ⟨G1,k1,?_⟩
   rcases k2 with ⟨hp,hb⟩ | ⟨hp,hb⟩
   ·refine .inl ⟨hp,?_⟩
    unfold zx
    simp only [if_pos (show (j:Int)<(sl.n:Int) by omega),g1,Option.bind_some,r0,r1]
    show Option.bind (loopO (zw (LCo L0) m ⟨some ⟨id3,0,none⟩,g.datas.length,g.datas.length⟩ p x2 (i:Int) n6 sl (j:Int) (g.datas[i]).cons[j].n z) (G,0)) _=_
    rw [hb]
    rfl
   ·refine .inr ⟨hp,?_⟩
    unfold zx
    simp only [if_pos (show (j:Int)<(sl.n:Int) by omega),g1,Option.bind_some,r0,r1]
    show Option.bind (loopO (zw (LCo L0) m ⟨some ⟨id3,0,none⟩,g.datas.length,g.datas.length⟩ p x2 (i:Int) n6 sl (j:Int) (g.datas[i]).cons[j].n z) (G,0)) _=_
    rw [hb]
    simp only [Option.bind_some]
    rw [zd hj h.len])
  (fun G hG1=>by
   unfold zx
   simp only [if_neg (show ¬(((g.datas[i]).cons.length:Int)<(sl.n:Int)) by omega)])
  (g.datas[i]).cons.length 0 H (by omega) hx
 refine ⟨H',h1,?_⟩
 have iff:(∃j,∃h:j<(g.datas[i]).cons.length,0≤j∧∃x∈((g.datas[i]).cons[j]).sels,NestX g i x)↔∃c∈(g.datas[i]).cons,∃x∈c.sels,NestX g i x:=by
  constructor
  ·rintro ⟨j,hj,_,hp⟩; exact ⟨_,List.getElem_mem hj,hp⟩
  ·rintro ⟨x,hx,hp⟩
   obtain ⟨j,hj,rfl⟩:=List.getElem_of_mem hx
   exact ⟨j,hj,Nat.zero_le _,hp⟩
 rw [iff] at h2
 exact h2
theorem zo0 (hF:L0=fuel+1) (hfu:15≤fuel) (hG:GoodG g) (hS:SigA H s1 s2 s3 g) (hB:Book H p s1 s2 s3 g) (hm:m≤H.next) {id3:Nat} (hT:LeanT g H id3) :
  ∃b H',z54 (LCo L0) m H (some p) ⟨some ⟨id3,0,none⟩,g.datas.length,g.datas.length⟩=some (b,H')∧Ext H H'∧(b=true↔NestP g):=by
 have hd:=hS.d.n
 have hadd:∀j,(p.add 0).add j=p.add (0+j):=fun j=>add2 hB.c1 0 j
 have r1:rd deSl H ((p.add 0).add 1)=some s2:=by rw [hadd,hB.c2.rd]; rfl
 obtain ⟨H',h1,h2⟩:=zia (xs:=g.datas) (body:=z1i (LCo L0) m ⟨some ⟨id3,0,none⟩,g.datas.length,g.datas.length⟩ p s2) (fun i d=>∃c∈d.cons,∃x∈c.sels,NestX g i x) (H0:=H)
  (fun i hi G hG1=>by
   obtain ⟨q,g1,g2⟩:=hS.d.get hi (v:=(i:Int)) rfl
   obtain ⟨z,e1,e2⟩:=g2.ex
   have r0:rd deS G (q.add 0)=some (g.datas[i]).n:=by rw [(g2.n.ext hG1).rd]; rfl
   have r1:rd deSl G (q.add 1)=some z:=by rw [(e1.ext hG1).rd]; rfl
   obtain ⟨G1,k1,k2⟩:=zr7 hF hfu hG hB hm hT hi (x2:=s2) (n6:=(g.datas[i]).n) e2 hG1
   refine ⟨G1,k1,?_⟩
   rcases k2 with ⟨hp,hb⟩ | ⟨hp,hb⟩
   ·refine .inl ⟨hp,?_⟩
    unfold z1i
    simp only [if_pos (show (i:Int)<(s2.n:Int) by omega),g1,Option.bind_some,r0,r1]
    show Option.bind (loopO (zx (LCo L0) m ⟨some ⟨id3,0,none⟩,g.datas.length,g.datas.length⟩ p s2 (i:Int) (g.datas[i]).n z) (G,0)) _=_
    rw [hb]
    rfl
   ·refine .inr ⟨hp,?_⟩
    unfold z1i
    simp only [if_pos (show (i:Int)<(s2.n:Int) by omega),g1,Option.bind_some,r0,r1]
    show Option.bind (loopO (zx (LCo L0) m ⟨some ⟨id3,0,none⟩,g.datas.length,g.datas.length⟩ p s2 (i:Int) (g.datas[i]).n z) (G,0)) _=_
    rw [hb]
    simp only [Option.bind_some]
    rw [zd hi hS.d.len])
  (fun G hG1=>by
   unfold z1i
   simp only [if_neg (show ¬((g.datas.length:Int)<(s2.n:Int)) by omega)])
  g.datas.length 0 H (by omega) (Fm.refl _ _)
 have iff:(∃j,∃h:j<g.datas.length,0≤j∧∃c∈(g.datas[j]).cons,∃x∈c.sels,NestX g j x)↔NestP g:=by
  constructor
  ·rintro ⟨j,hj,_,hp⟩; exact ⟨j,hj,hp⟩
  ·rintro ⟨j,hj,hp⟩; exact ⟨j,hj,Nat.zero_le _,hp⟩
 rw [iff] at h2
 unfold z54
 simp only [Option.bind_some,r1]
 show ∃b H',Option.bind (loopO (z1i (LCo L0) m ⟨some ⟨id3,0,none⟩,g.datas.length,g.datas.length⟩ p s2) (H,((0:Nat):Int))) _=_∧_
 rcases h2 with ⟨hp,hb⟩ | ⟨hp,hb⟩
 ·exact ⟨true,H',by rw [hb]; rfl,h1,by simp [hp]⟩
 ·exact ⟨false,H',by rw [hb]; rfl,h1,by simp [hp]⟩
end
end Go.Proofs.YtccbilfbhecdaaaDoor
namespace Go.Proofs.YtccbilfbhecdaaaDoor
open Go Go.Abs
set_option maxRecDepth 100000
def mkL (bl:List Bool) (l:List Nat):List Bool:=l.foldl (fun b i=>b.set i true) bl
theorem zau:∀(l:List Nat) (bl:List Bool),(mkL bl l).length=bl.length
 | [],bl=>rfl
 | x :: l,bl=>by
  show (mkL (bl.set x true) l).length=_
  rw [zau l,List.length_set]
theorem zk6 (bl:List Bool) (l l':List Nat):mkL bl (l++l')=mkL (mkL bl l) l':=by unfold mkL; rw [List.foldl_append]
theorem zpa:∀(l:List Nat) (bl:List Bool) (k:Nat),(∃h:k<(mkL bl l).length,(mkL bl l)[k]=true)↔(∃h:k<bl.length,bl[k]=true)∨(k∈l∧k<bl.length)
 | [],bl,k=>by simp [mkL]
 | x :: l,bl,k=>by
  have ih:=zpa l (bl.set x true) k
  have e:mkL bl (x :: l)=mkL (bl.set x true) l:=rfl
  rw [e,ih,z5s]
  simp only [List.length_set,List.mem_cons]
  constructor
  ·rintro ((h | ⟨rfl,h⟩) | ⟨h,h'⟩)
   ·exact .inl h
   ·exact .inr ⟨.inl rfl,h⟩
   ·exact .inr ⟨.inr h,h'⟩
  ·rintro (h | ⟨rfl | h,h'⟩)
   ·exact .inl (.inl h)
   ·exact .inl (.inr ⟨rfl,h'⟩)
   ·exact .inr ⟨h,h'⟩
def rtF (ds:List Dat) (inside:Bool):Bool→Fo→List Nat
 | _,.nil=>[]
 | arr,.cons k _ n a r=>(if k=6∧(inside=false∨arr=true) then [ixS ds n] else [])++rtF ds inside (arr||decide (k=4)) a++rtF ds inside arr r
def rtS (ds:List Dat) (inside arr:Bool) (k:Int) (n:ByteArray) (a:Fo):List Nat:=(if k=6∧(inside=false∨arr=true) then [ixS ds n] else [])++rtF ds inside (arr||decide (k=4)) a
theorem zk9 (ds:List Dat):∀(a:Fo) (inside arr:Bool),shF a=true→(inside=false∨arr=true)→rtF ds inside arr a=dtF ds a
 | .nil,_,_,_,_=>rfl
 | .cons k w n a r,inside,arr,hs,h=>by
  simp only [shF,Bool.and_eq_true] at hs
  have h1:=zk9 ds a inside (arr||decide (k=4)) hs.1.2 (by rcases h with h | h; exact .inl h; exact .inr (by simp [h]))
  have h2:=zk9 ds r inside arr hs.2 h
  simp only [rtF,dtF,h1,h2]
  by_cases h6:k=6
  ·have:=z98 (k:=k) (w:=w) (n:=n) (a:=a) (by simp only [shS,Bool.and_eq_true]; exact hs.1) (.inr h6)
   subst this
   simp [h6,h,dtF]
  ·simp [h6]
theorem zuw (ds:List Dat) {k w:Int} {n:ByteArray} {a:Fo} (inside:Bool) (hs:shS k w n a=true):rtS ds inside false k n a=dtI ds inside k n a:=by
 have hF:shF a=true:=by simp only [shS,Bool.and_eq_true] at hs; exact hs.2
 unfold rtS dtI
 by_cases h6:k=6
 ·have:=z98 hs (.inr h6)
  subst this
  cases inside <;> simp [h6,rtF,dtF]
 ·by_cases h4:k=4
  ·have e:=zk9 ds a inside (false||decide (k=4)) hF (.inr (by simp [h4]))
   rw [e]
   simp [h6]
  ·have:a=.nil:=by
    rcases zc8 hs with ⟨h,_⟩ | ⟨h,_⟩
    ·exact h
    ·exact absurd h h4
   subst this
   simp [h6,rtF,dtF]
theorem zn3 {α R:Type} {m:Nat} {xs:List α} {body:AH×Int→Option (Lp (AH×Int) R)} (f:α→List Nat) {H0:AH} {idm N:Nat} (hid:H0.next≤idm)
  (step:∀(i:Nat) (hi:i<xs.length) (H:AH) (bl:List Bool),Ext H0 H→ArrV 4 m H idm (bV bl)→bl.length=N→∃H',body (H,(i:Int))=some (.next (H',((i+1:Nat):Int)))∧ArrV 4 m H' idm (bV (mkL bl (f xs[i])))∧Fm (fun j=>j=idm) H H')
  (he:∀H,Ext H0 H→body (H,(xs.length:Int))=some (.brk (H,(xs.length:Int)))) :
  ∀(d i:Nat) (H:AH) (bl:List Bool),i+d=xs.length→Ext H0 H→ArrV 4 m H idm (bV bl)→bl.length=N →
   ∃H',loopO body (H,(i:Int))=some (.inl (H',(xs.length:Int)))∧ArrV 4 m H' idm (bV (mkL bl ((xs.drop i).flatMap f)))∧Fm (fun j=>j=idm) H H':=by
 intro d
 induction d with
 | zero =>
  intro i H bl hi hx ha hl
  have:i=xs.length:=by omega
  subst this
  refine ⟨H,zl (he H hx),?_,Fm.refl _ _⟩
  rw [List.drop_length]
  exact ha
 | succ d ih =>
  intro i H bl hi hx ha hl
  have hlt:i<xs.length:=by omega
  obtain ⟨H1,b1,b2,b3⟩:=step i hlt H bl hx ha hl
  have x1:Ext H0 H1:=hx.comp b3 fun id hid' _ h=>by omega
  obtain ⟨H2,c1,c2,c3⟩:=ih (i+1) H1 _ (by omega) x1 b2 (by rw [zau]; exact hl)
  refine ⟨H2,by rw [zj b1]; exact c1,?_,b3.comp c3 fun _ _ h=>h⟩
  rw [List.drop_eq_getElem_cons hlt,List.flatMap_cons,zk6]
  exact c2
section
variable {m:Nat} {H0 H:AH} {s1 s2 s3:Sl3} {g:Sg} {L0 fuel:Nat}
theorem zpk (c:Nat) {idm N:Nat} (hS:SigA H0 s1 s2 s3 g) (hid:H0.next≤idm) (hN:N=g.datas.length):∀(d fuel:Nat) (H:AH) (bl:List Bool) (k w:Int) (n:ByteArray) (s:Sl3) (a:Fo) (inside arr:Bool),Ext H0 H→ArrV 4 m H idm (bV bl)→bl.length=N→SlF H0 s a→shS k w n a=true→knS g.users g.datas k n a=true→a.dep≤fuel→a.dep<d →
  ∃H',z39 (LCo c) (fuel+1) m H k w n s s1 s2 s3 inside arr ⟨some ⟨idm,0,none⟩,N,N⟩=some H'∧ArrV 4 m H' idm (bV (mkL bl (rtS g.datas inside arr k n a)))∧Fm (fun j=>j=idm) H H':=by
 intro d
 induction d with
 | zero=>intro fuel H bl k w n s a inside arr _ _ _ _ _ _ _ h; omega
 | succ d ih =>
  intro fuel H bl k w n s a inside arr hx ha hl h hsh hkn hf hd
  show ∃H',z53 (LCo c) (z39 (LCo c) fuel) m H k w n s s1 s2 s3 inside arr ⟨some ⟨idm,0,none⟩,N,N⟩=some H'∧_
  unfold z53
  have own:∃H1,(Option.bind (α:=Bool) (if k=6 then (if inside=true then some arr else some true) else some false) fun v20_2=>if v20_2=true then Option.bind (z3e (LCo c) H s1 s2 s3 n) fun x3=>Option.bind (idxA 1 (⟨some ⟨idm,0,none⟩,N,N⟩:Sl3) x3) fun p4=>Option.bind (H.setCell m p4 (Value.bool true)) fun H5=>some H5 else some H)=some H1 ∧
    ArrV 4 m H1 idm (bV (mkL bl (if k=6∧(inside=false∨arr=true) then [ixS g.datas n] else [])))∧Fm (fun j=>j=idm) H H1:=by
   by_cases hc:k=6∧(inside=false∨arr=true)
   ·rw [if_pos hc]
    have hk:=hkn
    unfold knS at hk
    rw [if_neg (by omega),if_pos hc.1] at hk
    have hlt:=ix_lt hk
    have hD:=zgd c (hS.ext hx) n
    have hD:z3e (LCo c) H s1 s2 s3 n=some ((ixS g.datas n:Nat):Int):=by
     rw [hD]
     unfold ixS
     obtain ⟨i,hi⟩:=Option.isSome_iff_exists.1 hk
     rw [hi]
     rfl
    obtain ⟨H1,c1,c2,c3,c4⟩:=ha.set (i:=ixS g.datas n) (by simp [bV]; omega) (.bool true)
    refine ⟨H1,?_,by rw [bV_set] at c2; exact c2,c3⟩
    have hb:(if inside=true then some arr else some true)=some true:=by
     rcases hc.2 with rfl | rfl
     ·rfl
     ·cases inside <;> rfl
    simp only [if_pos hc.1,hb,Option.bind_some,if_true,hD,z34 (show ixS g.datas n<N by omega) rfl,c1]
   ·rw [if_neg hc]
    refine ⟨H,?_,ha,Fm.refl _ _⟩
    have hb:(if k=6 then (if inside=true then some arr else some true) else some false)=some false:=by
     by_cases h6:k=6
     ·rw [if_pos h6]
      cases inside with
      | false=>exact absurd ⟨h6,.inl rfl⟩ hc
      | true =>
       cases arr with
       | false=>rfl
       | true=>exact absurd ⟨h6,.inr rfl⟩ hc
     ·rw [if_neg h6]
    rw [hb]
    rfl
  obtain ⟨H1,o1,o2,o3⟩:=own
  have x1:Ext H0 H1:=hx.comp o3 fun id hid' _ h=>by omega
  have hshF:shF a=true:=by simp only [shS,Bool.and_eq_true] at hsh; exact hsh.2
  have hknF:a=.nil∨knF g.users g.datas a=true:=by
   by_cases h56:k=5∨k=6
   ·exact .inl (z98 hsh h56)
   ·unfold knS at hkn
    rw [if_neg (by omega),if_neg (by omega)] at hkn
    exact .inr hkn
  have loop:∀(f:Fo) (i:Nat) (G:AH) (bl:List Bool),FoA H0 s.p i f→s.n=i+f.len→f.dep≤a.dep→shF f=true→(f=.nil∨knF g.users g.datas f=true)→Ext H0 G→ArrV 4 m G idm (bV bl)→bl.length=N →
    ∃G',loopO (z2v (LCo c) (z39 (LCo c) fuel) m k w n s s1 s2 s3 inside arr ⟨some ⟨idm,0,none⟩,N,N⟩) (G,(i:Int))=some (.inl (G',(s.n:Int)))∧ArrV 4 m G' idm (bV (mkL bl (rtF g.datas inside (arr||decide (k=4)) f)))∧Fm (fun j=>j=idm) G G':=by
   intro f
   induction f with
   | nil =>
    intro i G bl hA hn _ _ _ hx ha hl
    simp only [Fo.len,Nat.add_zero] at hn
    subst hn
    refine ⟨G,zl ?_,ha,Fm.refl _ _⟩
    unfold z2v
    simp only [if_neg (show ¬((s.n:Int)<(s.n:Int)) by omega)]
   | cons k1 w1 n1 a1 r iha ihr =>
    intro i G bl hA hn hdep hs1 hk1 hx ha hl
    simp only [Fo.len] at hn
    simp only [Fo.dep] at hdep
    simp only [shF,Bool.and_eq_true] at hs1
    have hk1':=hk1.resolve_left (by simp)
    simp only [knF,Bool.and_eq_true] at hk1'
    obtain ⟨q,t1,q1,q2,q3,q4,q5,q6,q7,q8⟩:=hA.rd (s:=s) (by omega)
    obtain ⟨_,_,q1',q2',q3',q4',q5',_,_,_⟩:=(hA.ext hx).rd (s:=s) (by omega)
    rw [q1] at q1'; cases q1'
    have hq5:rd deSl G (q.add 3)=some t1:=by
     obtain ⟨⟨qq,ss,z1,z2,z3,z4,z5⟩,_⟩:=hA
     have e1:=z6x (sz:=4) z1 (v:=(i:Int)) rfl (show i<s.n by omega)
     rw [q1] at e1; cases e1
     have r1:rd deSl H0 ((qq.add (i*4)).add 3)=some ss:=by rw [z2.cs.rd]; rfl
     rw [r1] at q5; cases q5
     rw [(z2.cs.ext hx).rd]; rfl
    obtain ⟨g',rfl⟩:∃g',fuel=g'+1:=⟨fuel - 1,by omega⟩
    obtain ⟨G1,y1,y2,y3⟩:=ih g' G bl k1 w1 n1 t1 a1 inside (arr||decide (k=4)) hx ha hl q6 (by simp only [shS,Bool.and_eq_true]; exact hs1.1) hk1'.1 (by omega) (by omega)
    have x2:Ext H0 G1:=hx.comp y3 fun id hid' _ h=>by omega
    obtain ⟨G2,z1,z2,z3⟩:=ihr (i+1) G1 _ q8 (by omega) (by omega) hs1.2 (by cases r with | nil=>exact .inl rfl | cons=>exact .inr hk1'.2) x2 y2 (by rw [zau]; exact hl)
    refine ⟨G2,?_,?_,y3.comp z3 fun _ _ h=>h⟩
    ·have hb:z2v (LCo c) (z39 (LCo c) (g'+1)) m k w n s s1 s2 s3 inside arr ⟨some ⟨idm,0,none⟩,N,N⟩ (G,(i:Int))=some (.next (G1,((i+1:Nat):Int))):=by
      unfold z2v
      simp only [if_pos (show (i:Int)<(s.n:Int) by omega),q1,q2',q3',q4',hq5,Option.bind_some]
      cases arr with
      | true =>
       simp only [Bool.true_or] at y1
       simp only [if_true,y1,Option.bind_some]
       rw [zd (n:=s.n) (by omega) h.2.1]
      | false =>
       simp only [Bool.false_or] at y1
       simp only [Bool.false_eq_true,if_false,y1,Option.bind_some]
       rw [zd (n:=s.n) (by omega) h.2.1]
     rw [zj hb]
     exact z1
    ·have e:rtF g.datas inside (arr||decide (k=4)) (.cons k1 w1 n1 a1 r)=rtS g.datas inside (arr||decide (k=4)) k1 n1 a1++rtF g.datas inside (arr||decide (k=4)) r:=rfl
     rw [e,zk6]
     exact z2
  obtain ⟨H2,l1,l2,l3⟩:=loop a 0 H1 _ h.2.2 (by rw [h.1]; omega) (Nat.le_refl _) hshF hknF x1 o2 (by rw [zau]; exact hl)
  refine ⟨H2,?_,?_,o3.comp l3 fun _ _ h=>h⟩
  ·rw [o1]
   simp only [Option.bind_some]
   show Option.bind (loopO (z2v (LCo c) (z39 (LCo c) fuel) m k w n s s1 s2 s3 inside arr ⟨some ⟨idm,0,none⟩,N,N⟩) (H1,((0:Nat):Int))) _=_
   rw [l1]
   rfl
  ·unfold rtS
   rw [zk6]
   exact l2
end
end Go.Proofs.YtccbilfbhecdaaaDoor
namespace Go.Proofs.YtccbilfbhecdaaaDoor
open Go Go.Abs
set_option maxRecDepth 100000
def wiC (ds:List Dat) (inside:Bool) (c:Con):List Nat:=c.sels.flatMap fun x=>dtI ds inside x.k x.sn x.a
def wiD (ds:List Dat) (inside:Bool) (d:Dat):List Nat:=d.cons.flatMap (wiC ds inside)
theorem zr5 (ds:List Dat) (d:Dat):wiD ds false d=stD ds d:=by
 unfold wiD stD wiC stC
 simp [dtI,dtS]
theorem zej:∀(a b:List Bool),a.length=b.length→(∀k (h:k<a.length) (h':k<b.length),a[k]=true→b[k]=true)→(∃k,∃h:k<a.length,∃h':k<b.length,b[k]=true∧a[k]=false)→freeN b<freeN a
 | [],[],_,_,⟨k,h,_⟩=>absurd h (Nat.not_lt_zero _)
 | [],_ :: _,h,_,_=>by simp at h
 | _ :: _,[],h,_,_=>by simp at h
 | x :: a,y :: b,hl,hm,⟨k,h,h',hb,ha⟩=>by
  have hl':a.length=b.length:=by simpa using hl
  have hm':∀k (h:k<a.length) (h':k<b.length),a[k]=true→b[k]=true:=fun k h h' hh=>by
   have:=hm (k+1) (by simp; omega) (by simp; omega) (by simpa using hh)
   simpa using this
  have le:freeN b≤freeN a:=by
   by_cases e:∃k,∃h:k<a.length,∃h':k<b.length,b[k]=true∧a[k]=false
   ·exact Nat.le_of_lt (zej a b hl' hm' e)
   ·have:a=b:=by
     refine List.ext_getElem hl' fun i h1 h2=>?_
     cases hai:a[i] with
     | true=>rw [hm' i h1 h2 hai]
     | false =>
      cases hbi:b[i] with
      | false=>rfl
      | true=>exact absurd ⟨i,h1,h2,hbi,hai⟩ e
    rw [this]
    exact Nat.le_refl _
  have c0:=hm 0 (by simp) (by simp)
  simp only [List.getElem_cons_zero] at c0
  unfold freeN at le ⊢
  rw [List.countP_cons,List.countP_cons]
  cases k with
  | zero =>
   simp only [List.getElem_cons_zero] at hb ha
   subst hb ha
   simp
   omega
  | succ k =>
   have hlt:=zej a b hl' hm' ⟨k,by simpa using h,by simpa using h',by simpa using hb,by simpa using ha⟩
   unfold freeN at hlt
   cases x with
   | true=>rw [c0 rfl]; simpa using hlt
   | false=>cases y <;> simp <;> omega
section
variable {m:Nat} {H0 H:AH} {s1 s2 s3:Sl3} {g:Sg} {L0 fuel:Nat}
theorem zcv (hF:L0=fuel+1) (hfu:15≤fuel) (hG:GoodG g) (hS:SigA H s1 s2 s3 g) (hm:m≤H.next) {i:Nat} (hi:i<g.datas.length) (inside:Bool) :
  ∃id bl H',z50 (LCo L0) m H s1 s2 s3 (i:Int) inside=some (⟨some ⟨id,0,none⟩,g.datas.length,g.datas.length⟩,H')∧Ext H H'∧H.next≤id∧ArrV 4 m H' id (bV bl)∧bl.length=g.datas.length∧∀k (h:k<bl.length),bl[k]=true↔k∈wiD g.datas inside g.datas[i]:=by
 have hd:=hS.d.n
 have hnn:=z28 hG
 obtain ⟨H2,b1,b2,b3,b4⟩:=zdy (e:=4) (bytes:=1) (m:=m) (H:=H) (z:=.bool false) (n:=g.datas.length) (by omega) (by omega) hm
 have b2':ArrV 4 m H2 H.next (bV (List.replicate g.datas.length false)):=by
  have:bV (List.replicate g.datas.length false)=List.replicate g.datas.length (Value.bool false):=by simp [bV]
  rw [this]; exact b2
 obtain ⟨qk,gk1,gk2⟩:=hS.d.get hi (v:=(i:Int)) rfl
 obtain ⟨sl,gk3,hc⟩:=gk2.ex
 have key:=zn3 (m:=m) (xs:=(g.datas[i]).cons) (body:=z2j (LCo L0) m s1 s2 s3 (i:Int) inside ⟨some ⟨H.next,0,none⟩,g.datas.length,g.datas.length⟩) (wiC g.datas inside) (H0:=H) (idm:=H.next) (N:=g.datas.length) (Nat.le_refl _)
  (fun j hj G bl hx ha hl=>by
   have hln:=hc.n
   have rk:rd deSl G (qk.add 1)=some sl:=by rw [(gk3.ext hx).rd]; rfl
   obtain ⟨q,g1,g2⟩:=hc.get hj (v:=(j:Int)) rfl
   obtain ⟨z,e1,e2⟩:=g2.ex
   have r0:rd deS G (q.add 0)=some (g.datas[i]).cons[j].n:=by rw [(g2.n.ext hx).rd]; rfl
   have r1:rd deSl G (q.add 1)=some z:=by rw [(e1.ext hx).rd]; rfl
   have key2:=zn3 (m:=m) (xs:=(g.datas[i]).cons[j].sels) (body:=z2h (LCo L0) m s1 s2 s3 (i:Int) inside ⟨some ⟨H.next,0,none⟩,g.datas.length,g.datas.length⟩ (j:Int) (g.datas[i]).cons[j].n z) (fun x=>dtI g.datas inside x.k x.sn x.a) (H0:=H) (idm:=H.next) (N:=g.datas.length) (Nat.le_refl _)
    (fun t ht G bl hx ha hl=>by
     have hln:=e2.n
     obtain ⟨q',k1,k2⟩:=e2.get ht (v:=(t:Int)) rfl
     obtain ⟨y,f1,f2,f3,f4,f5,f6⟩:=k2.ex
     have hadd:∀j,(q'.add 1).add j=q'.add (1+j):=fun j=>add2 k2.n 1 j
     have r1:rd (deI .i64) G ((q'.add 1).add 0)=some ((g.datas[i]).cons[j].sels[t]).k:=by rw [hadd,(f1.ext hx).rd]; rfl
     have r2:rd (deI .i64) G ((q'.add 1).add 1)=some ((g.datas[i]).cons[j].sels[t]).w:=by rw [hadd,(f2.ext hx).rd]; rfl
     have r3:rd deS G ((q'.add 1).add 2)=some ((g.datas[i]).cons[j].sels[t]).sn:=by rw [hadd,(f3.ext hx).rd]; rfl
     have r4:rd deSl G ((q'.add 1).add 3)=some y:=by rw [hadd,(f4.ext hx).rd]; rfl
     have hs:=hG.sel _ (List.getElem_mem hi) _ (List.getElem_mem hj) _ (List.getElem_mem ht)
     obtain ⟨G1,y1,y2,y3⟩:=zpk (m:=m) L0 hS (Nat.le_refl _) rfl (((g.datas[i]).cons[j].sels[t]).a.dep+1) fuel G bl ((g.datas[i]).cons[j].sels[t]).k ((g.datas[i]).cons[j].sels[t]).w ((g.datas[i]).cons[j].sels[t]).sn y ((g.datas[i]).cons[j].sels[t]).a inside false hx ha hl f6 hs.sh hs.kn (by have:=hs.dp; omega) (by omega)
     rw [zuw g.datas inside hs.sh] at y2
     refine ⟨G1,?_,y2,y3⟩
     have e1':(LCo L0).fuel=fuel+1:=hF
     unfold z2h zd6
     rw [e1']
     simp only [if_pos (show (t:Int)<(z.n:Int) by omega),k1,Option.bind_some,r1,r2,r3,r4,y1]
     rw [zd ht e2.len])
    (fun G hx=>by
     unfold z2h
     have hln:=e2.n
     simp only [if_neg (show ¬(((g.datas[i]).cons[j].sels.length:Int)<(z.n:Int)) by omega)])
    (g.datas[i]).cons[j].sels.length 0 G bl (by omega) hx ha hl
   rw [List.drop_zero] at key2
   obtain ⟨G1,y1,y2,y3⟩:=key2
   refine ⟨G1,?_,y2,y3⟩
   unfold z2j
   simp only [gk1,Option.bind_some,rk,if_pos (show (j:Int)<(sl.n:Int) by omega),g1,r0,r1]
   show Option.bind (loopO (z2h (LCo L0) m s1 s2 s3 (i:Int) inside ⟨some ⟨H.next,0,none⟩,g.datas.length,g.datas.length⟩ (j:Int) (g.datas[i]).cons[j].n z) (G,0)) _=_
   have y1':loopO (z2h (LCo L0) m s1 s2 s3 (i:Int) inside ⟨some ⟨H.next,0,none⟩,g.datas.length,g.datas.length⟩ (j:Int) (g.datas[i]).cons[j].n z) (G,0)=_:=y1
   rw [y1']
   simp only [Option.bind_some]
   rw [zd hj hc.len])
  (fun G hx=>by
   have rk:rd deSl G (qk.add 1)=some sl:=by rw [(gk3.ext hx).rd]; rfl
   have hln:=hc.n
   unfold z2j
   simp only [gk1,Option.bind_some,rk,if_neg (show ¬(((g.datas[i]).cons.length:Int)<(sl.n:Int)) by omega)])
  (g.datas[i]).cons.length 0 H2 _ (by omega) b3 b2' (by simp)
 rw [List.drop_zero] at key
 obtain ⟨H',c1,c2,c3⟩:=key
 refine ⟨H.next,_,H',?_,b3.comp c3 fun id hid _ h=>by omega,Nat.le_refl _,c2,by rw [zau]; simp,fun k hk=>?_⟩
 ·unfold z50
  simp only [hd,b1,Option.bind_some]
  show Option.bind (loopO (z2j (LCo L0) m s1 s2 s3 (i:Int) inside ⟨some ⟨H.next,0,none⟩,g.datas.length,g.datas.length⟩) (H2,0)) _=_
  have c1':loopO (z2j (LCo L0) m s1 s2 s3 (i:Int) inside ⟨some ⟨H.next,0,none⟩,g.datas.length,g.datas.length⟩) (H2,0)=_:=c1
  rw [c1']
  rfl
 ·have hk':k<g.datas.length:=by rw [zau] at hk; simpa using hk
  have:=zpa ((g.datas[i]).cons.flatMap (wiC g.datas inside)) (List.replicate g.datas.length false) k
  constructor
  ·intro h
   rcases this.1 ⟨hk,h⟩ with ⟨h1,h2⟩ | h1
   ·simp at h2
   ·exact h1.1
  ·intro h
   exact (this.2 (.inr ⟨h,by simpa using hk'⟩)).2
theorem zgy {i k:Nat} (hi:i<g.datas.length):k∈wiD g.datas false g.datas[i]↔EdgS g i k:=by
 rw [zr5]
 exact ⟨fun h=>⟨hi,h⟩,fun ⟨_,h⟩=>h⟩
theorem zse (c:Nat) {idm idn n:Nat} {v7:Int} {bl nb:List Bool} {v6:Bool} (hne:idm≠idn) (hnl:nb.length=n) (hbl:bl.length=n) (hn:n≤4096) (ha:ArrV 4 m H idm (bV bl)) (hb:ArrV 4 m H idn (bV nb)) :
  ∃H' bl' v',loopO (z1o (LCo c) m s1 s2 s3 ⟨some ⟨idm,0,none⟩,n,n⟩ v7 ⟨some ⟨idn,0,none⟩,n,n⟩) (H,v6,0)=some (.inl (H',v',(n:Int)))∧ArrV 4 m H' idm (bV bl')∧bl'.length=n∧Fm (fun j=>j=idm) H H' ∧
   (∀k (h:k<bl'.length) (h1:k<bl.length) (h2:k<nb.length),bl'[k]=true↔(bl[k]=true∨nb[k]=true))∧(v'=true↔v6=true∨∃k,∃h1:k<bl.length,∃h2:k<nb.length,nb[k]=true∧bl[k]=false):=by
 have key:∀(d i:Nat) (G:AH) (bc:List Bool) (v:Bool),i+d=n→ArrV 4 m G idm (bV bc)→ArrV 4 m G idn (bV nb)→bc.length=n →
   ∃H' bl' v',loopO (z1o (LCo c) m s1 s2 s3 ⟨some ⟨idm,0,none⟩,n,n⟩ v7 ⟨some ⟨idn,0,none⟩,n,n⟩) (G,v,(i:Int))=some (.inl (H',v',(n:Int)))∧ArrV 4 m H' idm (bV bl')∧bl'.length=n∧Fm (fun j=>j=idm) G H' ∧
    (∀k (h:k<bl'.length) (h1:k<bc.length) (h2:k<nb.length),bl'[k]=true↔(bc[k]=true∨(i≤k∧nb[k]=true)))∧(v'=true↔v=true∨∃k,∃h1:k<bc.length,∃h2:k<nb.length,i≤k∧nb[k]=true∧bc[k]=false):=by
  intro d
  induction d with
  | zero =>
   intro i G bc v hi ha hb hl
   obtain rfl:i=n:=by omega
   refine ⟨G,bc,v,zl ?_,ha,hl,Fm.refl _ _,fun k h h1 h2=>?_,?_⟩
   ·unfold z1o
    simp only [if_neg (show ¬((i:Int)<(i:Int)) by omega)]
   ·constructor
    ·exact fun h=>.inl h
    ·rintro (h | ⟨h,_⟩)
     ·exact h
     ·omega
   ·constructor
    ·exact fun h=>.inl h
    ·rintro (h | ⟨k,h1,h2,h3,_⟩)
     ·exact h
     ·omega
  | succ d ih =>
   intro i G bc v hi ha hb hl
   have hin:i<n:=by omega
   have hib:i<bc.length:=by omega
   have hinb:i<nb.length:=by omega
   have rn:rd deB G ((⟨idn,0,none⟩:Addr).add (i*1))=some nb[i]:=by rw [(hb.cel (show (bV nb)[i]? = some (.bool nb[i]) by simp [bV,hinb])).rd]; rfl
   have rm:rd deB G ((⟨idm,0,none⟩:Addr).add (i*1))=some bc[i]:=by rw [(ha.cel (show (bV bc)[i]? = some (.bool bc[i]) by simp [bV,hib])).rd]; rfl
   have im:idxA 1 (⟨some ⟨idm,0,none⟩,n,n⟩:Sl3) (i:Int)=some ((⟨idm,0,none⟩:Addr).add (i*1)):=z34 hin rfl
   have inn:idxA 1 (⟨some ⟨idn,0,none⟩,n,n⟩:Sl3) (i:Int)=some ((⟨idn,0,none⟩:Addr).add (i*1)):=z34 hin rfl
   by_cases hch:nb[i]=true∧bc[i]=false
   ·obtain ⟨G1,c1,c2,c3,c4⟩:=ha.set (i:=i) (by simp [bV]; omega) (.bool true)
    rw [bV_set] at c2
    have hb1:=hb.fr c3 (fun h=>hne h.symm)
    obtain ⟨H',bl',v',w1,w2,w3,w4,w5,w6⟩:=ih (i+1) G1 (bc.set i true) true (by omega) c2 hb1 (by simp [hl])
    refine ⟨H',bl',v',?_,w2,w3,c3.comp w4 fun _ _ h=>h,fun k h h1 h2=>?_,?_⟩
    ·have hbody:z1o (LCo c) m s1 s2 s3 ⟨some ⟨idm,0,none⟩,n,n⟩ v7 ⟨some ⟨idn,0,none⟩,n,n⟩ (G,v,(i:Int))=some (.next (G1,true,((i+1:Nat):Int))):=by
      unfold z1o
      simp only [if_pos (show (i:Int)<(n:Int) by omega),inn,Option.bind_some,rn,hch.1,if_true,im,rm,hch.2,Bool.not_false,c1]
      rw [zd hin (by rw [z1n]; omega)]
     rw [zj hbody]
     exact w1
    ·rw [w5 k h (by simpa using h1) h2,List.getElem_set]
     by_cases e:i=k
     ·subst e
      simp [hch.1]
     ·rw [if_neg e]
      constructor
      ·rintro (h | ⟨h,h'⟩)
       ·exact .inl h
       ·exact .inr ⟨by omega,h'⟩
      ·rintro (h | ⟨h,h'⟩)
       ·exact .inl h
       ·exact .inr ⟨by omega,h'⟩
    ·rw [w6]
     constructor
     ·intro _; exact .inr ⟨i,hib,hinb,Nat.le_refl _,hch⟩
     ·intro _; exact .inl rfl
   ·have hcond:(if nb[i]=true then some (!bc[i]) else some false)=some false:=by
     cases hnb:nb[i] with
     | false=>rfl
     | true =>
      cases hbc:bc[i] with
      | true=>rfl
      | false=>exact absurd ⟨hnb,hbc⟩ hch
    obtain ⟨H',bl',v',w1,w2,w3,w4,w5,w6⟩:=ih (i+1) G bc v (by omega) ha hb hl
    refine ⟨H',bl',v',?_,w2,w3,w4,fun k h h1 h2=>?_,?_⟩
    ·have hbody:z1o (LCo c) m s1 s2 s3 ⟨some ⟨idm,0,none⟩,n,n⟩ v7 ⟨some ⟨idn,0,none⟩,n,n⟩ (G,v,(i:Int))=some (.next (G,v,((i+1:Nat):Int))):=by
      unfold z1o
      simp only [if_pos (show (i:Int)<(n:Int) by omega),inn,Option.bind_some,rn,im,rm,hcond,Bool.false_eq_true,if_false]
      rw [zd hin (by rw [z1n]; omega)]
     rw [zj hbody]
     exact w1
    ·rw [w5 k h h1 h2]
     constructor
     ·rintro (h | ⟨h,h'⟩)
      ·exact .inl h
      ·exact .inr ⟨by omega,h'⟩
     ·rintro (h | ⟨h,h'⟩)
      ·exact .inl h
      ·by_cases e:i=k
       ·subst e
        cases hbc:bc[i] with
        | true=>exact .inl rfl
        | false=>exact absurd ⟨h',hbc⟩ hch
       ·exact .inr ⟨by omega,h'⟩
    ·rw [w6]
     constructor
     ·rintro (h | ⟨k,h1,h2,h3,h4⟩)
      ·exact .inl h
      ·exact .inr ⟨k,h1,h2,by omega,h4⟩
     ·rintro (h | ⟨k,h1,h2,h3,h4⟩)
      ·exact .inl h
      ·by_cases e:i=k
       ·subst e; exact absurd h4 hch
       ·exact .inr ⟨k,h1,h2,by omega,h4⟩
 obtain ⟨H',bl',v',w1,w2,w3,w4,w5,w6⟩:=key n 0 H bl v6 (by omega) ha hb hbl
 refine ⟨H',bl',v',w1,w2,w3,w4,fun k h h1 h2=>?_,?_⟩
 ·rw [w5 k h h1 h2]; simp
 ·rw [w6]; simp
end
end Go.Proofs.YtccbilfbhecdaaaDoor
