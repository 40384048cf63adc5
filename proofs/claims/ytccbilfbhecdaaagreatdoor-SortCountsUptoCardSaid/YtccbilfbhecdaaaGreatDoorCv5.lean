/- Parts of the proof: an abstract interpreter of the loaded program and its soundness, printed functions, the law's own texts; part 5. No condition. -/
import Derived.Test.YtccbilfbhecdaaaGreatDoorCv4
import Derived.Test.YtccbilfbhecdaaaGreatDoorCards
import Derived.Test.YtccbilfbhecdaaaGreatDoorTie
import Derived.Deep.DeepWitnessRowRef
import Derived.ChangeMaps5
namespace Go.Proofs.YtccbilfbhecdaaaGreatDoor
open Go Go.Abs
open Go.Value renaming int → vI, string → vS, pointer → vP, agg → vA, bool → vB
set_option maxRecDepth 100000
def L8:((Option Addr)×AH)→Value
 | (r0,_)=>(vP r0)
def i9 (_:AH):((Option Addr)×AH)→AH:=fun r=>r.2
noncomputable def B15:Code:=(Tryz.f15.body).getD .skip
noncomputable def j5 (L:LC) (m:Nat) (_a0_0 a0_1 _a0_2:Sl3) (k7:Nat) (_v6_10:Int):(AH×Int)→Option (Lp (AH×Int) ((Option Addr)×AH)):=fun (H11,v7_12) =>
 if v7_12<(a0_1.n:Int) then
  (idxA 2 a0_1 v7_12).bind fun p13 => (rd deS H11 (Addr.add p13 0)).bind fun x14_0 => (rd deSl H11 (Addr.add p13 1)).bind fun x14_1 => (M7 L H11 (some (⟨k7,0,none⟩:Addr)) x14_0 x14_1 true).bind fun x15 => (rd deSl H11 (Addr.add (⟨k7,0,none⟩:Addr) 5)).bind fun x16 => (idxA 1 x16 v7_12).bind fun p17 => (H11.setCell m p17 (vI .i64 x15)).bind fun H18 => some (.next (H18,(IntKind.i64.wrap (v7_12+1))))
 else
  some (.brk (H11,v7_12))
def zbp (_L:LC) (_m:Nat) (a0_0 a0_1 a0_2:Sl3) (k7:Nat) (v6_10:Int):(AH×Int)→KN×Lcs:=fun (_,v7_12)=>([kI 7 v7_12,kL 2 0 0,(5,.val (vP (some (⟨k7,0,none⟩:Addr)))),kI 6 v6_10],[some (30,[(Sl3.v a0_0),(Sl3.v a0_1),(Sl3.v a0_2)]),none,none,none])
noncomputable def i5 (L:LC) (m:Nat) (a0_0 a0_1 a0_2:Sl3) (k7:Nat):(AH×Int)→Option (Lp (AH×Int) ((Option Addr)×AH)):=fun (H9,v6_10) =>
 if v6_10≤(a0_1.n:Int) then
  (L.run (j5 L m a0_0 a0_1 a0_2 k7 v6_10) (H9,0)).bind fun o=>match o with
  | .inl (H19,_) =>
   some (.next (H19,(IntKind.i64.wrap (v6_10+1))))
  | .inr r=>some (.ret r)
 else
  some (.brk (H9,v6_10))
def zc3 (_L:LC) (_m:Nat) (a0_0 a0_1 a0_2:Sl3) (k7:Nat):(AH×Int)→KN×Lcs:=fun (_,v6_10)=>([kI 6 v6_10,kL 2 0 0,(5,.val (vP (some (⟨k7,0,none⟩:Addr))))],[some (30,[(Sl3.v a0_0),(Sl3.v a0_1),(Sl3.v a0_2)]),none,none,none])
noncomputable def X4 (L:LC) (m:Nat) (_a0_0 a0_1 _a0_2:Sl3) (k7:Nat) (_v9_24:Int):(AH×Int)→Option (Lp (AH×Int) ((Option Addr)×AH)):=fun (H25,v10_26) =>
 if v10_26<(a0_1.n:Int) then
  (idxA 2 a0_1 v10_26).bind fun p27 => (rd deS H25 (Addr.add p27 0)).bind fun x28_0 => (rd deSl H25 (Addr.add p27 1)).bind fun x28_1 => (M7 L H25 (some (⟨k7,0,none⟩:Addr)) x28_0 x28_1 false).bind fun x29 => (rd deSl H25 (Addr.add (⟨k7,0,none⟩:Addr) 4)).bind fun x30 => (idxA 1 x30 v10_26).bind fun p31 => (H25.setCell m p31 (vI .i64 x29)).bind fun H32 => some (.next (H32,(IntKind.i64.wrap (v10_26+1))))
 else
  some (.brk (H25,v10_26))
def zbj (_L:LC) (_m:Nat) (a0_0 a0_1 a0_2:Sl3) (k7:Nat) (v9_24:Int):(AH×Int)→KN×Lcs:=fun (_,v10_26)=>([kI 10 v10_26,kL 2 0 0,(5,.val (vP (some (⟨k7,0,none⟩:Addr)))),kI 9 v9_24],[some (30,[(Sl3.v a0_0),(Sl3.v a0_1),(Sl3.v a0_2)]),none,none,none])
noncomputable def F5 (L:LC) (m:Nat) (a0_0 a0_1 a0_2:Sl3) (k7:Nat):(AH×Int)→Option (Lp (AH×Int) ((Option Addr)×AH)):=fun (H23,v9_24) =>
 if v9_24≤(a0_1.n:Int) then
  (L.run (X4 L m a0_0 a0_1 a0_2 k7 v9_24) (H23,0)).bind fun o=>match o with
  | .inl (H33,_) =>
   some (.next (H33,(IntKind.i64.wrap (v9_24+1))))
  | .inr r=>some (.ret r)
 else
  some (.brk (H23,v9_24))
def zbo (_L:LC) (_m:Nat) (a0_0 a0_1 a0_2:Sl3) (k7:Nat):(AH×Int)→KN×Lcs:=fun (_,v9_24)=>([kI 9 v9_24,kL 2 0 0,(5,.val (vP (some (⟨k7,0,none⟩:Addr))))],[some (30,[(Sl3.v a0_0),(Sl3.v a0_1),(Sl3.v a0_2)]),none,none,none])
noncomputable def G8 (L:LC) (m:Nat) (H:AH) (a0_0 a0_1 a0_2:Sl3) (a1:Int):Option ((Option Addr)×AH) :=
 (mkN 8 (a0_1.n:Int)).bind fun c1 => (mkN 8 (a0_1.n:Int)).bind fun c2 => (newS 3 (mkCells #[(vI .i64 0)] 1 c1) H).bind fun (k3,H4) => (newS 3 (mkCells #[(vI .i64 0)] 1 c2) H4).bind fun (k5,H6) => (newS 89 [(Sl3.v a0_0),(Sl3.v a0_1),(Sl3.v a0_2),(vI .i64 a1),(Sl3.v (⟨some ⟨k3,0,none⟩,c1,c1⟩:Sl3)),(Sl3.v (⟨some ⟨k5,0,none⟩,c2,c2⟩:Sl3))] H6).bind fun (k7,H8) => (L.run (i5 L m a0_0 a0_1 a0_2 k7) (H8,0)).bind fun o=>match o with
 | .inl (H21,_) =>
  (L.run (F5 L m a0_0 a0_1 a0_2 k7) (H21,0)).bind fun o=>match o with
  | .inl (H35,_) =>
   some ((some (⟨k7,0,none⟩:Addr)),H35)
  | .inr r=>some r
 | .inr r=>some r
theorem z48 {E H L m a0_0 a0_1 a0_2 k7 v6_10} :LoopF Tryz.prog (NE.plain 1000) m E Tryz.f15 ((cfst (csnd (cfst (cfst (csnd (cfst (cfst (csnd (cfst (csnd (csnd B15)))))))))))) (zbp L m a0_0 a0_1 a0_2 k7 v6_10) (fun s=>s.1) 2 L8 (i9 H) (j5 L m a0_0 a0_1 a0_2 k7 v6_10):=by
 rintro ⟨H11,v7_12⟩ o h
 unfold j5 at h;try dsimp only at h
 refine A0 (A0 (C0 (m0 5 [kB 35 (decide (v7_12<(a0_1.n:Int))),kI 34 (a0_1.n:Int),kS 33 a0_1,kL 32 0 1,kI 31 v7_12] (B0 (o0 ?_)))));rcases Q1 h with ⟨hp,h⟩ | ⟨hp,h⟩
 ·refine D0 35 true (decide_eq_true hp) (E0 (G0 (o0 (A0 (J0 3 (A0 (C0 (m0 4 [kI 41 v7_12,kS 40 a0_1,kL 39 0 1,(38,.val (vP (some (⟨k7,0,none⟩:Addr))))] ?_))))))));obtain ⟨p13,hx,h⟩:=bind_some h;refine O0 42 27 93 (.tmp 40) (.tmp 41) hx ?_;obtain ⟨x14_0,hx0,h⟩:=bind_some h;obtain ⟨x14_1,hx1,h⟩:=bind_some h;refine RS.la 43 93 (.tmp 42) 2 (P1 (O1 hx0 T1) (P1 (O1 hx1 R1) U1)) ?_;obtain ⟨x15,hx,h⟩:=bind_some h;refine N0 (some 44) (v:=(vI .i64 x15)) 44 _ (z45 hx) (m0 1 [kI 8 x15] (B0 (o0 (C0 (m0 3 [(47,.val (vP (some (Addr.add (⟨k7,0,none⟩:Addr) 5)))),(46,.val (vP (some (⟨k7,0,none⟩:Addr)))),(45,.val (vP (some (⟨k7,0,none⟩:Addr))))] ?_)))));obtain ⟨x16,hx,h⟩:=bind_some h;refine T0 48 87 (.tmp 47) (O1 hx R1) (m0 2 [kI 50 x15,kI 49 v7_12] ?_);obtain ⟨p17,hx,h⟩:=bind_some h;refine O0 51 87 3 (.tmp 48) (.tmp 49) hx ?_;obtain ⟨H18,hx,h⟩:=bind_some h;refine P0 (H':=H18) none undef (Abs.run_store1 (t:=3) (x:=.tmp 51) (y:=.tmp 50) (a:=p17) (v:=(vI .i64 x15)) (by kernel_rfl) (by kernel_rfl) (by kernel_rfl) (by kernel_rfl) (by kernel_rfl) hx) (B0 ?_);refine fun a w hs=>bkN ((o0 ?_ a w hs));refine C0 (m0 3 [kI 7 (IntKind.i64.wrap (v7_12+1)),kI 37 (IntKind.i64.wrap (v7_12+1)),kI 36 v7_12] (B0 ?_));cases h;exact fun a w hs=>lsN rfl (hs.sb 4)
 ·refine D0 35 false (decide_eq_false hp) (F0 (WS.ex 2 ?_));cases h;exact fun a w hs=>sqE (lsB rfl (hs.sb 4))
theorem z44 {E H L m a0_0 a0_1 a0_2 k7} :LoopF Tryz.prog (NE.plain 1000) m E Tryz.f15 ((cfst (csnd (cfst (csnd (csnd B15)))))) (zc3 L m a0_0 a0_1 a0_2 k7) (fun s=>s.1) 0 L8 (i9 H) (i5 L m a0_0 a0_1 a0_2 k7):=by
 rintro ⟨H9,v6_10⟩ o h
 unfold i5 at h;try dsimp only at h
 refine A0 (A0 (C0 (m0 5 [kB 28 (decide (v6_10≤(a0_1.n:Int))),kI 27 (a0_1.n:Int),kS 26 a0_1,kL 25 0 1,kI 24 v6_10] (B0 (o0 ?_)))));rcases Q1 h with ⟨hp,h⟩ | ⟨hp,h⟩
 ·refine D0 28 true (decide_eq_true hp) (E0 (G0 (o0 (A0 (J0 1 (A0 (C0 (m0 1 [kI 7 0] (B0 ?_)))))))));refine o0 (J0 2 ?_);obtain ⟨o,hl,h⟩:=bind_some h;rcases o with ⟨H19,v7_20⟩ | r
  ·try dsimp only at h
   refine S0 (z48 (L:=L) (E:=E) (m:=m) (H:=H)) (L.ok hl) 4 ?_;clear hl;refine fun a w hs=>bkE (bkN ((o0 ?_ a w hs)));refine C0 (m0 3 [kI 6 (IntKind.i64.wrap (v6_10+1)),kI 30 (IntKind.i64.wrap (v6_10+1)),kI 29 v6_10] (B0 ?_));cases h;exact fun a w hs=>lsN rfl (hs.sb 4)
  ·try dsimp only at h
   refine R0 (z48 (L:=L) (E:=E) (m:=m) (H:=H)) (L.ok hl) 4 ?_;cases h;exact fun a w hq=>bkR (bkR (sqR (lsR rfl hq)))
 ·refine D0 28 false (decide_eq_false hp) (F0 (WS.ex 0 ?_));cases h;exact fun a w hs=>sqE (lsB rfl (hs.sb 4))
theorem z47 {E H L m a0_0 a0_1 a0_2 k7 v9_24} :LoopF Tryz.prog (NE.plain 1000) m E Tryz.f15 ((cfst (csnd (cfst (cfst (csnd (cfst (cfst (csnd (cfst (csnd (csnd (csnd B15))))))))))))) (zbj L m a0_0 a0_1 a0_2 k7 v9_24) (fun s=>s.1) 6 L8 (i9 H) (X4 L m a0_0 a0_1 a0_2 k7 v9_24):=by
 rintro ⟨H25,v10_26⟩ o h
 unfold X4 at h;try dsimp only at h
 refine A0 (A0 (C0 (m0 5 [kB 63 (decide (v10_26<(a0_1.n:Int))),kI 62 (a0_1.n:Int),kS 61 a0_1,kL 60 0 1,kI 59 v10_26] (B0 (o0 ?_)))));rcases Q1 h with ⟨hp,h⟩ | ⟨hp,h⟩
 ·refine D0 63 true (decide_eq_true hp) (E0 (G0 (o0 (A0 (J0 7 (A0 (C0 (m0 4 [kI 69 v10_26,kS 68 a0_1,kL 67 0 1,(66,.val (vP (some (⟨k7,0,none⟩:Addr))))] ?_))))))));obtain ⟨p27,hx,h⟩:=bind_some h;refine O0 70 27 93 (.tmp 68) (.tmp 69) hx ?_;obtain ⟨x28_0,hx0,h⟩:=bind_some h;obtain ⟨x28_1,hx1,h⟩:=bind_some h;refine RS.la 71 93 (.tmp 70) 2 (P1 (O1 hx0 T1) (P1 (O1 hx1 R1) U1)) ?_;obtain ⟨x29,hx,h⟩:=bind_some h;refine N0 (some 72) (v:=(vI .i64 x29)) 44 _ (z45 hx) (m0 1 [kI 11 x29] (B0 (o0 (C0 (m0 3 [(75,.val (vP (some (Addr.add (⟨k7,0,none⟩:Addr) 4)))),(74,.val (vP (some (⟨k7,0,none⟩:Addr)))),(73,.val (vP (some (⟨k7,0,none⟩:Addr))))] ?_)))));obtain ⟨x30,hx,h⟩:=bind_some h;refine T0 76 87 (.tmp 75) (O1 hx R1) (m0 2 [kI 78 x29,kI 77 v10_26] ?_);obtain ⟨p31,hx,h⟩:=bind_some h;refine O0 79 87 3 (.tmp 76) (.tmp 77) hx ?_;obtain ⟨H32,hx,h⟩:=bind_some h;refine P0 (H':=H32) none undef (Abs.run_store1 (t:=3) (x:=.tmp 79) (y:=.tmp 78) (a:=p31) (v:=(vI .i64 x29)) (by kernel_rfl) (by kernel_rfl) (by kernel_rfl) (by kernel_rfl) (by kernel_rfl) hx) (B0 ?_);refine fun a w hs=>bkN ((o0 ?_ a w hs));refine C0 (m0 3 [kI 10 (IntKind.i64.wrap (v10_26+1)),kI 65 (IntKind.i64.wrap (v10_26+1)),kI 64 v10_26] (B0 ?_));cases h;exact fun a w hs=>lsN rfl (hs.sb 4)
 ·refine D0 63 false (decide_eq_false hp) (F0 (WS.ex 6 ?_));cases h;exact fun a w hs=>sqE (lsB rfl (hs.sb 4))
theorem z46 {E H L m a0_0 a0_1 a0_2 k7} :LoopF Tryz.prog (NE.plain 1000) m E Tryz.f15 ((cfst (csnd (cfst (csnd (csnd (csnd B15))))))) (zbo L m a0_0 a0_1 a0_2 k7) (fun s=>s.1) 4 L8 (i9 H) (F5 L m a0_0 a0_1 a0_2 k7):=by
 rintro ⟨H23,v9_24⟩ o h
 unfold F5 at h;try dsimp only at h
 refine A0 (A0 (C0 (m0 5 [kB 56 (decide (v9_24≤(a0_1.n:Int))),kI 55 (a0_1.n:Int),kS 54 a0_1,kL 53 0 1,kI 52 v9_24] (B0 (o0 ?_)))));rcases Q1 h with ⟨hp,h⟩ | ⟨hp,h⟩
 ·refine D0 56 true (decide_eq_true hp) (E0 (G0 (o0 (A0 (J0 5 (A0 (C0 (m0 1 [kI 10 0] (B0 ?_)))))))));refine o0 (J0 6 ?_);obtain ⟨o,hl,h⟩:=bind_some h;rcases o with ⟨H33,v10_34⟩ | r
  ·try dsimp only at h
   refine S0 (z47 (L:=L) (E:=E) (m:=m) (H:=H)) (L.ok hl) 4 ?_;clear hl;refine fun a w hs=>bkE (bkN ((o0 ?_ a w hs)));refine C0 (m0 3 [kI 9 (IntKind.i64.wrap (v9_24+1)),kI 58 (IntKind.i64.wrap (v9_24+1)),kI 57 v9_24] (B0 ?_));cases h;exact fun a w hs=>lsN rfl (hs.sb 4)
  ·try dsimp only at h
   refine R0 (z47 (L:=L) (E:=E) (m:=m) (H:=H)) (L.ok hl) 4 ?_;cases h;exact fun a w hq=>bkR (bkR (sqR (lsR rfl hq)))
 ·refine D0 56 false (decide_eq_false hp) (F0 (WS.ex 4 ?_));cases h;exact fun a w hs=>sqE (lsB rfl (hs.sb 4))
theorem P3 {L:LC} {m:Nat} {H:AH} {a0_0 a0_1 a0_2:Sl3} {a1:Int} {r:((Option Addr)×AH)} (h:G8 L m H a0_0 a0_1 a0_2 a1=some r) :
  CallS Tryz.prog (NE.plain 1000) m 15 #[(vA #[(Sl3.v a0_0),(Sl3.v a0_1),(Sl3.v a0_2)]),(vI .i64 a1)] H (L8 r) (i9 H r):=by
 refine CallS.mk (args:=[(vA #[(Sl3.v a0_0),(Sl3.v a0_1),(Sl3.v a0_2)]),(vI .i64 a1)]) Tryz.func15 (B:=B15) (by kernel_rfl) (fun E _=>?_);unfold G8 at h;refine A0 (C0 (Q0 2 [(4,.val (vP none)),kL 2 0 0] ([some (30,[(Sl3.v a0_0),(Sl3.v a0_1),(Sl3.v a0_2)])]) (B0 (o0 (A0 ?_)))));obtain ⟨c1,hx_5,h⟩:=bind_some h;obtain ⟨c2,hx_9,h⟩:=bind_some h;obtain ⟨⟨k3,H4⟩,hx_k3,h⟩:=bind_some h;try dsimp only at h
 obtain ⟨⟨k5,H6⟩,hx_k5,h⟩:=bind_some h;try dsimp only at h
 obtain ⟨⟨k7,H8⟩,hx_k7,h⟩:=bind_some h;try dsimp only at h
 refine WS.toone ([kL 2 0 0,kL 5 3 0]) ([some (30,[(Sl3.v a0_0),(Sl3.v a0_1),(Sl3.v a0_2)]),none,none,some (89,[(Sl3.v a0_0),(Sl3.v a0_1),(Sl3.v a0_2),(vI .i64 a1),(Sl3.v (⟨some ⟨k3,0,none⟩,c1,c1⟩:Sl3)),(Sl3.v (⟨some ⟨k5,0,none⟩,c2,c2⟩:Sl3))])]) H6 ?_ ?_
 ·clear h;refine D1 [0,2,3,6,7] [0,0,0,4,12,28,0,64,192,448,1023,2047,4095] 13 (fun hcl=>?_);refine V0 0 (some 12) (.val (vA #[(Sl3.v a0_0),(Sl3.v a0_1),(Sl3.v a0_2)])) (V0 2 (some 14) (.loc 0 1) (V0 3 (some 15) (.val (Sl3.v a0_1)) (V0 6 (some 18) (.loc 0 1) (V0 7 (some 19) (.val (Sl3.v a0_1)) (M0 1 (some 13) (vI .i64 a1) (DA.restart [0,2,3,4,6,7,8] (by kernel_rfl) (U0 4 (some 16) (vI .i64 (a0_1.n:Int)) (U0 8 (some 20) (vI .i64 (a0_1.n:Int)) ?_))))))));refine E1 5 9 (by kernel_rfl) ?_ ?_
  ·refine L1 (k1:=.i64) (k2:=.i64) 5 (some 17) 87 3 1 8 #[(vI .i64 0)] (.tmp 16) (.tmp 16) hx_5 (DA.on 9 (L1 (k1:=.i64) (k2:=.i64) 9 (some 21) 87 3 1 8 #[(vI .i64 0)] (.tmp 20) (.tmp 20) hx_9 (DA.on 10 (K1 1 _ _ hx_k3 (by kernel_rfl) rfl rfl (K1 2 _ _ hx_k5 (by kernel_rfl) rfl rfl (Y0 (H':=H6) 10 (some 22) (vA #[(Sl3.v a0_0),(Sl3.v a0_1),(Sl3.v a0_2),(vI .i64 a1),(Sl3.v (⟨some ⟨k3,0,none⟩,c1,c1⟩:Sl3)),(Sl3.v (⟨some ⟨k5,0,none⟩,c2,c2⟩:Sl3))]) (by kernel_rfl) (DA.on 11 (B1 11 (some 23) (.loc 3 0) ([some (30,[(Sl3.v a0_0),(Sl3.v a0_1),(Sl3.v a0_2)]),none,none,some (89,[(Sl3.v a0_0),(Sl3.v a0_1),(Sl3.v a0_2),(vI .i64 a1),(Sl3.v (⟨some ⟨k3,0,none⟩,c1,c1⟩:Sl3)),(Sl3.v (⟨some ⟨k5,0,none⟩,c2,c2⟩:Sl3))])]) false (F1 12 (some 5) (.loc 3 0) ?_)))))))));refine W0 ?_;exact fun a w hs=>jsN (hs.sb 4)
  ·refine L1 (k1:=.i64) (k2:=.i64) 9 (some 21) 87 3 1 8 #[(vI .i64 0)] (.tmp 20) (.tmp 20) hx_9 (DA.on 5 (L1 (k1:=.i64) (k2:=.i64) 5 (some 17) 87 3 1 8 #[(vI .i64 0)] (.tmp 16) (.tmp 16) hx_5 (DA.on 10 (K1 2 _ _ hx_k3 (by kernel_rfl) rfl rfl (K1 1 _ _ hx_k5 (by kernel_rfl) rfl rfl (Y0 (H':=H6) 10 (some 22) (vA #[(Sl3.v a0_0),(Sl3.v a0_1),(Sl3.v a0_2),(vI .i64 a1),(Sl3.v (⟨some ⟨k3,0,none⟩,c1,c1⟩:Sl3)),(Sl3.v (⟨some ⟨k5,0,none⟩,c2,c2⟩:Sl3))]) (by kernel_rfl) (DA.on 11 (B1 11 (some 23) (.loc 3 0) ([some (30,[(Sl3.v a0_0),(Sl3.v a0_1),(Sl3.v a0_2)]),none,none,some (89,[(Sl3.v a0_0),(Sl3.v a0_1),(Sl3.v a0_2),(vI .i64 a1),(Sl3.v (⟨some ⟨k3,0,none⟩,c1,c1⟩:Sl3)),(Sl3.v (⟨some ⟨k5,0,none⟩,c2,c2⟩:Sl3))])]) false (F1 12 (some 5) (.loc 3 0) ?_)))))))));refine W0 ?_;exact fun a w hs=>jsN (hs.sb 4)
 ·refine WS.pubS 3 ([kL 2 0 0,(5,.val (vP (some (⟨k7,0,none⟩:Addr))))]) ([some (30,[(Sl3.v a0_0),(Sl3.v a0_1),(Sl3.v a0_2)]),none,none,none]) hx_k7 (by kernel_rfl) (by kernel_rfl) (by kernel_rfl) (o0 (A0 (A0 (C0 (m0 1 [kI 6 0] (B0 (o0 (J0 0 ?_))))))));obtain ⟨o,hl,h⟩:=bind_some h;rcases o with ⟨H21,v6_22⟩ | r
  ·try dsimp only at h
   refine S0 (z44 (L:=L) (E:=E) (m:=m) (H:=H)) (L.ok hl) 4 ?_;clear hl;refine fun a w hs=>bkE ((o0 ?_ a w hs));refine A0 (A0 (C0 (m0 1 [kI 9 0] (B0 (o0 (J0 4 ?_))))));obtain ⟨o,hl,h⟩:=bind_some h;rcases o with ⟨H35,v9_36⟩ | r
   ·try dsimp only at h
    refine S0 (z46 (L:=L) (E:=E) (m:=m) (H:=H)) (L.ok hl) 4 ?_;clear hl;refine fun a w hs=>bkE ((o0 ?_ a w hs));refine A0 (C0 (m0 2 [(4,.val (vP (some (⟨k7,0,none⟩:Addr)))),(80,.val (vP (some (⟨k7,0,none⟩:Addr))))] (B0 (o0 (I0 ?_)))));cases h;exact fun a w hs=>rtR (rS hs)
   ·try dsimp only at h
    refine R0 (z46 (L:=L) (E:=E) (m:=m) (H:=H)) (L.ok hl) 4 ?_;cases h;exact fun a w hq=>bkR (sqR (rtR hq))
  ·try dsimp only at h
   refine R0 (z44 (L:=L) (E:=E) (m:=m) (H:=H)) (L.ok hl) 4 ?_;cases h;exact fun a w hq=>bkR (sqR (rtR hq))
def zg5:(Int×Bool×AH)→Value
 | (r0,r1,_)=>(Value.tuple #[(vI .i64 r0),(vB r1)])
def zgy (_:AH):(Int×Bool×AH)→AH:=fun r=>r.2.2
noncomputable def B5:Code:=(Tryz.f5.body).getD .skip
noncomputable def z2p (L:LC) (m:Nat) (H:AH) (a0_0 a0_1:Int) (a0_2:ByteArray) (a0_3 a1_0:Sl3) (a1_1 a1_2:Sl3) (a2:Int):Option (Int×Bool×AH) :=
 Option.bind (α:=(AH×Bool)) (
  if a2<1 then
   some (H,true)
  else
   (d9 L m H a1_0 a1_1 a1_2).bind fun (x3,H4) => if x3=0 then
    (z8 L H4 a0_0 a0_1 a0_2 a0_3 a1_0 a1_1 a1_2).bind fun x5 => some (H4,(!decide (x5=0)))
   else
    some (H4,true)) fun (H1,v22_2) =>
 if v22_2=true then
  some (0,false,H1)
 else
  (G8 L (Nat.max m H1.next) H1 a1_0 a1_1 a1_2 a2).bind fun (x6,H7) => (d8 L H7 x6 a0_0 a0_1 a0_2 a0_3 false).bind fun (x8,x9) => if x9=true then
   some (x8,true,H7)
  else
   some (0,false,H7)
theorem zgs {L:LC} {m:Nat} {H:AH} {a0_0 a0_1:Int} {a0_2:ByteArray} {a0_3 a1_0:Sl3} {a1_1 a1_2:Sl3} {a2:Int} {r:(Int×Bool×AH)} (h:z2p L m H a0_0 a0_1 a0_2 a0_3 a1_0 a1_1 a1_2 a2=some r) :
  CallS Tryz.prog (NE.plain 1000) m 5 #[(vA #[(vI .i64 a0_0),(vI .i64 a0_1),(vS a0_2),(Sl3.v a0_3)]),(vA #[(Sl3.v a1_0),(Sl3.v a1_1),(Sl3.v a1_2)]),(vI .i64 a2)] H (zg5 r) (zgy H r):=by
 refine CallS.mk (args:=[(vA #[(vI .i64 a0_0),(vI .i64 a0_1),(vS a0_2),(Sl3.v a0_3)]),(vA #[(Sl3.v a1_0),(Sl3.v a1_1),(Sl3.v a1_2)]),(vI .i64 a2)]) Tryz.func5 (B:=B5) (by kernel_rfl) (fun E _=>?_);unfold z2p at h;refine A0 (C0 (Q0 4 [kB 7 false,kI 6 0,kL 4 1 0,kL 3 0 0] ([some (25,[(vI .i64 a0_0),(vI .i64 a0_1),(vS a0_2),(Sl3.v a0_3)]),some (30,[(Sl3.v a1_0),(Sl3.v a1_1),(Sl3.v a1_2)])]) (B0 (o0 (A0 ?_)))));obtain ⟨⟨H1,v22_2⟩,hx,h⟩:=bind_some h;try dsimp only at h
 refine A0 ?_;refine A1 ([kB 22 v22_2,kI 2 a2,kL 3 0 0,kL 4 1 0]) ([some (25,[(vI .i64 a0_0),(vI .i64 a0_1),(vS a0_2),(Sl3.v a0_3)]),some (30,[(Sl3.v a1_0),(Sl3.v a1_1),(Sl3.v a1_2)])]) H1 ?_ (fun a w hs=>o0 ?_ a w hs)
 ·clear h; rename _=>h;refine C0 (m0 3 [kB 12 (decide (a2<1)),kB 11 (decide (a2<1)),kI 10 a2] ?_);rcases Q1 h with ⟨hp,h⟩ | ⟨hp,h⟩
  ·refine K0 12 true (decide_eq_true hp) (m0 10 [kB 22 true,kU 21,kU 20,kU 19,kU 18,kB 17 true,kB 16 true,kU 15,kU 14,kU 13] (B0 ?_));cases h;exact fun a w hs=>(jsN (hs.sb 2))
  ·refine K0 12 false (decide_eq_false hp) (m0 1 [kA 13 #[(Sl3.v a1_0),(Sl3.v a1_1),(Sl3.v a1_2)]] ?_);obtain ⟨⟨x3,H4⟩,hx,h⟩:=bind_some h;try dsimp only at h
   refine N0 (some 14) (v:=(vI .i64 x3)) 13 _ (z5t hx) (m0 3 [kB 17 (!decide (x3=0)),kB 16 (!decide (x3=0)),kB 15 (!decide (x3=0))] ?_);rcases Q1 h with ⟨hp,h⟩ | ⟨hp,h⟩
   ·refine K0 17 false (e9 hp) (m0 2 [kA 19 #[(Sl3.v a1_0),(Sl3.v a1_1),(Sl3.v a1_2)],kA 18 #[(vI .i64 a0_0),(vI .i64 a0_1),(vS a0_2),(Sl3.v a0_3)]] ?_);obtain ⟨x5,hx,h⟩:=bind_some h;refine N0 (some 20) (v:=(vI .i64 x5)) 14 _ (z4m hx) (m0 2 [kB 22 (!decide (x5=0)),kB 21 (!decide (x5=0))] (B0 ?_));cases h;exact fun a w hs=>(jsN (hs.sb 2))
   ·refine K0 17 true (N7 hp) (m0 5 [kB 22 true,kU 21,kU 20,kU 19,kU 18] (B0 ?_));cases h;exact fun a w hs=>(jsN (hs.sb 2))
 ·clear hx;rcases Q1 h with ⟨hp,h⟩ | ⟨hp,h⟩
  ·refine D0 22 true hp (E0 (A0 (C0 (m0 2 [kB 7 false,kI 6 0] (B0 (o0 (I0 ?_)))))));cases h;exact fun a w hs=>sqR (rtR (rS hs))
  ·refine D0 22 false (b_not hp) (F0 (G0 (o0 (A0 ?_))));refine D1 [0,3] [0,0,3,0,15,31,63,63,127,511] 10 (fun hcl=>?_);refine V0 0 (some 24) (.val (vA #[(Sl3.v a1_0),(Sl3.v a1_1),(Sl3.v a1_2)])) (V0 3 (some 27) (.val (vA #[(vI .i64 a0_0),(vI .i64 a0_1),(vS a0_2),(Sl3.v a0_3)])) (M0 1 (some 25) (vI .i64 a2) ?_));obtain ⟨⟨x6,H7⟩,hx,h⟩:=bind_some h;try dsimp only at h
   refine DA.on 2 (I1 2 (some 26) false (v:=(vP x6)) 15 _ (P3 hx) ?_);obtain ⟨⟨x8,x9⟩,hx,h⟩:=bind_some h;try dsimp only at h
   refine DA.on 4 (X0 4 (some 28) (v:=(Value.tuple #[(vI .i64 x8),(vB x9)])) 16 _ (z1t hx) (M0 5 (some 23) (Value.tuple #[(vI .i64 x8),(vB x9)]) (M0 6 (some 29) (vI .i64 x8) (M0 7 (some 30) (vB x9) (M0 8 (some 8) (vI .i64 x8) (M0 9 (some 9) (vB x9) (W0 (o0 (A0 ?_)))))))));refine A0 (C0 (m0 2 [kB 32 (!x9),kB 31 x9] (B0 (o0 ?_))));rcases Q1 h with ⟨hp,h⟩ | ⟨hp,h⟩
   ·refine D0 32 false (nb_not hp) (F0 (G0 (o0 (A0 (C0 (m0 3 [kB 7 true,kI 6 x8,kI 33 x8] (B0 (o0 (I0 ?_)))))))));cases h;exact fun a w hs=>rtR (rS hs)
   ·refine D0 32 true (W2 hp) (E0 (A0 (C0 (m0 2 [kB 7 false,kI 6 0] (B0 (o0 (I0 ?_)))))));cases h;exact fun a w hs=>sqR (rtR (rS hs))
def F9:Bool→Value
 | r0=>(vB r0)
def V9 (H:AH):Bool→AH:=fun _=>H
noncomputable def B19:Code:=(Tryz.f19.body).getD .skip
noncomputable def i7 (L:LC) (rec_ref04_Ends_sort:AH→(Option Addr)→Int→Int→ByteArray→Sl3→Option Bool) (H:AH) (a0:Option Addr) (a1_0 _a1_1:Int) (a1_2:ByteArray) (a1_3:Sl3):Option Bool :=
 Option.bind (α:=Bool) (
  if a1_0=1 then
   some true
  else
   some (decide (a1_0=3))) fun v9_1 =>
 if v9_1=true then
  some true
 else
  if a1_0=4 then
   a0.bind fun q2 => (rd deP H (Addr.add q2 4)).bind fun x3 => (idxA 4 a1_3 1).bind fun p4 => (rd (deI .i64) H (Addr.add p4 0)).bind fun x5_0 => (rd (deI .i64) H (Addr.add p4 1)).bind fun x5_1 => (rd deS H (Addr.add p4 2)).bind fun x5_2 => (rd deSl H (Addr.add p4 3)).bind fun x5_3 => (d8 L H x3 x5_0 x5_1 x5_2 x5_3 false).bind fun (x6,x7) => (idxA 4 a1_3 0).bind fun p8 => (rd (deI .i64) H (Addr.add p8 0)).bind fun x9_0 => (rd (deI .i64) H (Addr.add p8 1)).bind fun x9_1 => (rd deS H (Addr.add p8 2)).bind fun x9_2 => (rd deSl H (Addr.add p8 3)).bind fun x9_3 => (rec_ref04_Ends_sort H (some q2) x9_0 x9_1 x9_2 x9_3).bind fun x10 => if x10=true then
    (idxA 4 a1_3 1).bind fun p11 => (rd (deI .i64) H (Addr.add p11 0)).bind fun x12_0 => (rd (deI .i64) H (Addr.add p11 1)).bind fun x12_1 => (rd deS H (Addr.add p11 2)).bind fun x12_2 => (rd deSl H (Addr.add p11 3)).bind fun x12_3 => (rec_ref04_Ends_sort H (some q2) x12_0 x12_1 x12_2 x12_3).bind fun x13 => if x13=true then
     some true
    else
     if x7=true then
      some (decide (x6=1))
     else
      some false
   else
    if x7=true then
     some (decide (x6=1))
    else
     some false
  else
   if a1_0=6 then
    a0.bind fun q14 => (rd deSl H (Addr.add q14 3)).bind fun x15 => (rd deSl H (Addr.add (Addr.add q14 0) 0)).bind fun x16_0 => (rd deSl H (Addr.add (Addr.add q14 0) 1)).bind fun x16_1 => (rd deSl H (Addr.add (Addr.add q14 0) 2)).bind fun x16_2 => (S3 L H x16_0 x16_1 x16_2 a1_2).bind fun x17 => (idxA 1 x15 x17).bind fun p18 => (rd deB H p18).bind fun x19 => some x19
   else
    some false
noncomputable def C9 (L:LC) (n:Nat):(AH→(Option Addr)→Int→Int→ByteArray→Sl3→Option Bool):=Nat.rec (motive:=fun _=>(AH→(Option Addr)→Int→Int→ByteArray→Sl3→Option Bool)) (fun _ _ _ _ _ _=>none) (fun _ p=>i7 L p) n
noncomputable def b8 (L:LC) (H:AH) (a0:Option Addr) (a1_0 a1_1:Int) (a1_2:ByteArray) (a1_3:Sl3):Option Bool:=(C9 L L.fuel) H a0 a1_0 a1_1 a1_2 a1_3
theorem z7u {L:LC} {rec_ref04_Ends_sort:AH→(Option Addr)→Int→Int→ByteArray→Sl3→Option Bool} (hrec_ref04_Ends_sort:∀(m:Nat) (H:AH) (a0:Option Addr) (a1_0 a1_1:Int) (a1_2:ByteArray) (a1_3:Sl3) (r:Bool),rec_ref04_Ends_sort H a0 a1_0 a1_1 a1_2 a1_3=some r→CallS Tryz.prog (NE.plain 1000) m 19 #[(vP a0),(vA #[(vI .i64 a1_0),(vI .i64 a1_1),(vS a1_2),(Sl3.v a1_3)])] H (F9 r) (V9 H r)) {m:Nat} {H:AH} {a0:Option Addr} {a1_0 a1_1:Int} {a1_2:ByteArray} {a1_3:Sl3} {r:Bool} (h:i7 L rec_ref04_Ends_sort H a0 a1_0 a1_1 a1_2 a1_3=some r) :
  CallS Tryz.prog (NE.plain 1000) m 19 #[(vP a0),(vA #[(vI .i64 a1_0),(vI .i64 a1_1),(vS a1_2),(Sl3.v a1_3)])] H (F9 r) (V9 H r):=by
 refine CallS.mk (args:=[(vP a0),(vA #[(vI .i64 a1_0),(vI .i64 a1_1),(vS a1_2),(Sl3.v a1_3)])]) Tryz.func19 (B:=B19) (by kernel_rfl) (fun E _=>?_);unfold i7 at h;refine A0 (C0 (Q0 2 [kB 4 false,kL 3 0 0] ([some (25,[(vI .i64 a1_0),(vI .i64 a1_1),(vS a1_2),(Sl3.v a1_3)])]) (B0 (o0 (A0 (A0 (C0 (m0 2 [kI 8 a1_0,kL 7 0 0] (B0 ?_)))))))));refine o0 (J0 0 ?_);obtain ⟨v9_1,hx,h⟩:=bind_some h;refine A0 ?_;refine A1 ([kB 9 v9_1,(0,.val (vP a0)),kL 3 0 0,kI 8 a1_0]) ([some (25,[(vI .i64 a1_0),(vI .i64 a1_1),(vS a1_2),(Sl3.v a1_3)])]) H ?_ (fun a w hs=>o0 ?_ a w hs)
 ·clear h; rename _=>h;refine A0 (C0 (m0 2 [kB 9 (decide (a1_0=1)),kB 10 (decide (a1_0=1))] (B0 (o0 ?_))));rcases Q1 h with ⟨hp,h⟩ | ⟨hp,h⟩
  ·refine D0 9 true (decide_eq_true hp) (E0 (G0 ?_));cases h;exact fun a w hs=>(jsN (hs.sb 1))
  ·refine D0 9 false (decide_eq_false hp) (F0 (C0 (m0 2 [kB 9 (decide (a1_0=3)),kB 11 (decide (a1_0=3))] (B0 ?_))));cases h;exact fun a w hs=>(jsN (hs.sb 1))
 ·clear hx;rcases Q1 h with ⟨hp,h⟩ | ⟨hp,h⟩
  ·refine D0 9 true hp (E0 (A0 (C0 (m0 1 [kB 4 true] (B0 (o0 (I0 ?_)))))));cases h;exact fun a w hs=>bkR (sqR (rtR (rS hs)))
  ·refine D0 9 false (b_not hp) (F0 (A0 (C0 (m0 2 [kB 12 (decide (a1_0=4)),kB 13 (decide (a1_0=4))] (B0 (o0 ?_))))));rcases Q1 h with ⟨hp,h⟩ | ⟨hp,h⟩
   ·refine D0 12 true (decide_eq_true hp) (E0 (A0 ?_));refine D1 [0,1,2,3,4,5,6,7] [0,1,3,7,0,16,48,112,255,511,1023,1023,2047,8191] 14 (fun hcl=>?_);refine U0 0 (some 15) (vP a0) ?_;obtain ⟨q2,hx,hq2⟩:=bind_some h;subst hx;have h:=hq2;refine U0 1 (some 16) (vP (some q2)) (U0 2 (some 17) (vP (some (Addr.add q2 4))) ?_);obtain ⟨x3,hx,h⟩:=bind_some h;refine Z0 3 (some 18) (vP x3) (Abs.det_load (t:=44) (x:=.tmp 17) (a:=(Addr.add q2 4)) (by kernel_rfl) (by kernel_rfl) (by kernel_rfl) (by kernel_rfl) (O1 hx U8)) (V0 4 (some 19) (.loc 0 3) (V0 5 (some 20) (.val (Sl3.v a1_3)) ?_));obtain ⟨p4,hx,h⟩:=bind_some h;refine Z0 6 (some 21) (vP (some p4)) (Abs.det_idx (s:=a1_3) (k:=.i64) (t:=23) (e:=25) (x:=.tmp 20) (y:=.const (vI .i64 1)) (by kernel_rfl) (by kernel_rfl) (by kernel_rfl) (by kernel_rfl) (by kernel_rfl) hx) ?_;obtain ⟨x5_0,hx0,h⟩:=bind_some h;obtain ⟨x5_1,hx1,h⟩:=bind_some h;obtain ⟨x5_2,hx2,h⟩:=bind_some h;obtain ⟨x5_3,hx3,h⟩:=bind_some h;refine Z0 7 (some 22) (vA #[(vI .i64 x5_0),(vI .i64 x5_1),(vS x5_2),(Sl3.v x5_3)]) (Abs.det_loadA (t:=25) (x:=.tmp 21) (a:=p4) (k:=4) (by kernel_rfl) (by kernel_rfl) (by kernel_rfl) (by kernel_rfl) (P1 (O1 hx0 S1) (P1 (O1 hx1 S1) (P1 (O1 hx2 T1) (P1 (O1 hx3 R1) U1))))) ?_;obtain ⟨⟨x6,x7⟩,hx,h⟩:=bind_some h;try dsimp only at h
    refine DA.on 8 (X0 8 (some 23) (v:=(Value.tuple #[(vI .i64 x6),(vB x7)])) 16 _ (z1t hx) (M0 9 (some 14) (Value.tuple #[(vI .i64 x6),(vB x7)]) (M0 10 (some 24) (vI .i64 x6) (M0 11 (some 25) (vB x7) (M0 12 (some 5) (vI .i64 x6) (M0 13 (some 6) (vB x7) (W0 (o0 (A0 ?_)))))))));refine C0 (m0 3 [kS 28 a1_3,kL 27 0 3,kP 26 q2] ?_);obtain ⟨p8,hx,h⟩:=bind_some h;refine O0 29 23 25 (.tmp 28) (.const (vI .i64 0)) hx ?_;obtain ⟨x9_0,hx0,h⟩:=bind_some h;obtain ⟨x9_1,hx1,h⟩:=bind_some h;obtain ⟨x9_2,hx2,h⟩:=bind_some h;obtain ⟨x9_3,hx3,h⟩:=bind_some h;refine RS.la 30 25 (.tmp 29) 4 (P1 (O1 hx0 S1) (P1 (O1 hx1 S1) (P1 (O1 hx2 T1) (P1 (O1 hx3 R1) U1)))) ?_;obtain ⟨x10,hx,h⟩:=bind_some h;refine N0 (some 31) (v:=(vB x10)) 19 _ (hrec_ref04_Ends_sort _ _ _ _ _ _ _ _ hx) (m0 1 [kB 32 x10] ?_);rcases Q1 h with ⟨hp,h⟩ | ⟨hp,h⟩
    ·refine K0 32 true hp (m0 3 [kS 35 a1_3,kL 34 0 3,kP 33 q2] ?_);obtain ⟨p11,hx,h⟩:=bind_some h;refine O0 36 23 25 (.tmp 35) (.const (vI .i64 1)) hx ?_;obtain ⟨x12_0,hx0,h⟩:=bind_some h;obtain ⟨x12_1,hx1,h⟩:=bind_some h;obtain ⟨x12_2,hx2,h⟩:=bind_some h;obtain ⟨x12_3,hx3,h⟩:=bind_some h;refine RS.la 37 25 (.tmp 36) 4 (P1 (O1 hx0 S1) (P1 (O1 hx1 S1) (P1 (O1 hx2 T1) (P1 (O1 hx3 R1) U1)))) ?_;obtain ⟨x13,hx,h⟩:=bind_some h;refine N0 (some 38) (v:=(vB x13)) 19 _ (hrec_ref04_Ends_sort _ _ _ _ _ _ _ _ hx) (m0 2 [kB 40 x13,kB 39 x13] ?_);rcases Q1 h with ⟨hp,h⟩ | ⟨hp,h⟩
     ·refine K0 40 true hp (m0 7 [kB 4 true,kB 46 true,kU 45,kU 44,kU 43,kU 42,kU 41] (B0 (o0 (I0 ?_))));cases h;exact fun a w hs=>bkR (sqR (rtR (rS hs)))
     ·refine K0 40 false (b_not hp) (m0 2 [kB 42 x7,kB 41 x7] ?_);rcases Q1 h with ⟨hp,h⟩ | ⟨hp,h⟩
      ·refine K0 42 true hp (m0 5 [kB 4 (decide (x6=1)),kB 46 (decide (x6=1)),kB 45 (decide (x6=1)),kB 44 (decide (x6=1)),kI 43 x6] (B0 (o0 (I0 ?_))));cases h;exact fun a w hs=>bkR (sqR (rtR (rS hs)))
      ·refine K0 42 false (b_not hp) (m0 5 [kB 4 false,kB 46 false,kB 45 false,kU 44,kU 43] (B0 (o0 (I0 ?_))));cases h;exact fun a w hs=>bkR (sqR (rtR (rS hs)))
    ·refine K0 32 false (b_not hp) (m0 10 [kB 42 x7,kB 41 x7,kB 40 false,kB 39 false,kU 38,kU 37,kU 36,kU 35,kU 34,kU 33] ?_);rcases Q1 h with ⟨hp,h⟩ | ⟨hp,h⟩
     ·refine K0 42 true hp (m0 5 [kB 4 (decide (x6=1)),kB 46 (decide (x6=1)),kB 45 (decide (x6=1)),kB 44 (decide (x6=1)),kI 43 x6] (B0 (o0 (I0 ?_))));cases h;exact fun a w hs=>bkR (sqR (rtR (rS hs)))
     ·refine K0 42 false (b_not hp) (m0 5 [kB 4 false,kB 46 false,kB 45 false,kU 44,kU 43] (B0 (o0 (I0 ?_))));cases h;exact fun a w hs=>bkR (sqR (rtR (rS hs)))
   ·refine D0 12 false (decide_eq_false hp) (F0 (A0 (C0 (m0 2 [kB 47 (decide (a1_0=6)),kB 48 (decide (a1_0=6))] (B0 (o0 ?_))))));rcases Q1 h with ⟨hp,h⟩ | ⟨hp,h⟩
    ·refine D0 47 true (decide_eq_true hp) (E0 (A0 ?_));refine D1 [0,1,2,3,4,5,6,7,8,9] [0,1,3,7,0,16,48,112,0,256,1008,2047,4095,8191] 14 (fun hcl=>?_);refine U0 0 (some 49) (vP a0) ?_;obtain ⟨q14,hx,hq14⟩:=bind_some h;subst hx;have h:=hq14;refine U0 1 (some 50) (vP (some q14)) (U0 2 (some 51) (vP (some (Addr.add q14 3))) ?_);obtain ⟨x15,hx,h⟩:=bind_some h;refine Z0 3 (some 52) (Sl3.v x15) (Abs.det_load (t:=70) (x:=.tmp 51) (a:=(Addr.add q14 3)) (by kernel_rfl) (by kernel_rfl) (by kernel_rfl) (by kernel_rfl) (O1 hx R1)) (U0 4 (some 53) (vP (some q14)) (U0 5 (some 54) (vP (some q14)) (U0 6 (some 55) (vP (some (Addr.add q14 0))) ?_)));obtain ⟨x16_0,hx0,h⟩:=bind_some h;obtain ⟨x16_1,hx1,h⟩:=bind_some h;obtain ⟨x16_2,hx2,h⟩:=bind_some h;refine Z0 7 (some 56) (vA #[(Sl3.v x16_0),(Sl3.v x16_1),(Sl3.v x16_2)]) (Abs.det_loadA (t:=30) (x:=.tmp 55) (a:=(Addr.add q14 0)) (k:=3) (by kernel_rfl) (by kernel_rfl) (by kernel_rfl) (by kernel_rfl) (P1 (O1 hx0 R1) (P1 (O1 hx1 R1) (P1 (O1 hx2 R1) U1)))) (V0 8 (some 57) (.loc 0 2) (V0 9 (some 58) (.val (vS a1_2)) ?_));obtain ⟨x17,hx,h⟩:=bind_some h;refine DA.on 10 (I1 10 (some 59) false (v:=(vI .i64 x17)) 46 _ (I8 hx) ?_);obtain ⟨p18,hx,h⟩:=bind_some h;refine J1 11 (some 60) (vP (some p18)) (Abs.det_idx (s:=x15) (k:=.i64) (t:=70) (e:=4) (x:=.tmp 52) (y:=.tmp 59) (by kernel_rfl) (by kernel_rfl) (by kernel_rfl) (by kernel_rfl) (by kernel_rfl) hx) ?_;obtain ⟨x19,hx,h⟩:=bind_some h;refine DA.on 12 (Y0 (H':=H) 12 (some 61) (vB x19) (Abs.run_load (t:=4) (x:=.tmp 60) (a:=p18) (by kernel_rfl) (by kernel_rfl) (by kernel_rfl) (O1 hx F6)) (M0 13 (some 4) (vB x19) (W0 (o0 (I0 ?_)))));cases h;exact fun a w hs=>bkR (sqR (rtR (rS hs)))
    ·refine D0 47 false (decide_eq_false hp) (F0 (G0 ?_));refine fun a w hs=>bkN ((o0 ?_ a w hs));refine A0 (C0 (m0 1 [kB 4 false] (B0 (o0 (I0 ?_)))));cases h;exact fun a w hs=>rtR (rS hs)
theorem z8m {L:LC}:∀n,(∀(m:Nat) (H:AH) (a0:Option Addr) (a1_0 a1_1:Int) (a1_2:ByteArray) (a1_3:Sl3) (r:Bool),((C9 L n)) H a0 a1_0 a1_1 a1_2 a1_3=some r→CallS Tryz.prog (NE.plain 1000) m 19 #[(vP a0),(vA #[(vI .i64 a1_0),(vI .i64 a1_1),(vS a1_2),(Sl3.v a1_3)])] H (F9 r) (V9 H r)):=by
 intro n;induction n with
 | zero=>exact (fun _ _ _ _ _ _ _ _ h=>(Option.some_ne_none _ h.symm).elim)
 | succ n ih=>exact (fun _ _ _ _ _ _ _ _ h=>z7u (L:=L) ih h)
theorem z4z {L:LC} {m:Nat} {H:AH} {a0:Option Addr} {a1_0 a1_1:Int} {a1_2:ByteArray} {a1_3:Sl3} {r:Bool} (h:b8 L H a0 a1_0 a1_1 a1_2 a1_3=some r) :
  CallS Tryz.prog (NE.plain 1000) m 19 #[(vP a0),(vA #[(vI .i64 a1_0),(vI .i64 a1_1),(vS a1_2),(Sl3.v a1_3)])] H (F9 r) (V9 H r) :=
 (z8m _) _ _ _ _ _ _ _ _ h
def z1c:Bool→Value
 | r0=>(vB r0)
def z28 (H:AH):Bool→AH:=fun _=>H
noncomputable def B48:Code:=(Tryz.f48.body).getD .skip
noncomputable def R2 (L:LC) (H:AH) (a0:Option Addr) (_a1_0:ByteArray) (a1_1:Sl3) (v5_1:Int):Int→Option (Lp Int Bool):=fun v6_2 =>
 (idxA 2 a1_1 v5_1).bind fun p3 => (rd deSl H (Addr.add p3 1)).bind fun x4 => if v6_2<(x4.n:Int) then
  (idxA 2 a1_1 v5_1).bind fun p5 => (rd deSl H (Addr.add p5 1)).bind fun x6 => (idxA 5 x6 v6_2).bind fun p7 => (rd (deI .i64) H (Addr.add (Addr.add p7 1) 0)).bind fun x8_0 => (rd (deI .i64) H (Addr.add (Addr.add p7 1) 1)).bind fun x8_1 => (rd deS H (Addr.add (Addr.add p7 1) 2)).bind fun x8_2 => (rd deSl H (Addr.add (Addr.add p7 1) 3)).bind fun x8_3 => (b8 L H a0 x8_0 x8_1 x8_2 x8_3).bind fun x9 => if x9=true then
   some (.next (IntKind.i64.wrap (v6_2+1)))
  else
   some (.ret false)
 else
  some (.brk v6_2)
def zaa (_L:LC) (_H:AH) (a0:Option Addr) (a1_0:ByteArray) (a1_1:Sl3) (v5_1:Int):Int→KN×Lcs:=fun v6_2=>([kI 6 v6_2,(0,.val (vP a0)),kL 3 0 0,kI 5 v5_1],[some (93,[(vS a1_0),(Sl3.v a1_1)])])
noncomputable def S2 (L:LC) (H:AH) (a0:Option Addr) (a1_0:ByteArray) (a1_1:Sl3):Int→Option (Lp Int Bool):=fun v5_1 =>
 if v5_1<(a1_1.n:Int) then
  (L.run (R2 L H a0 a1_0 a1_1 v5_1) 0).bind fun o=>match o with
  | .inl _ =>
   some (.next (IntKind.i64.wrap (v5_1+1)))
  | .inr r=>some (.ret r)
 else
  some (.brk v5_1)
def zap (_L:LC) (_H:AH) (a0:Option Addr) (a1_0:ByteArray) (a1_1:Sl3):Int→KN×Lcs:=fun v5_1=>([kI 5 v5_1,(0,.val (vP a0)),kL 3 0 0],[some (93,[(vS a1_0),(Sl3.v a1_1)])])
noncomputable def zl (L:LC) (H:AH) (a0:Option Addr) (a1_0:ByteArray) (a1_1:Sl3):Option Bool :=
 (L.run (S2 L H a0 a1_0 a1_1) 0).bind fun o=>match o with
 | .inl _ =>
  some true
 | .inr r=>some r
theorem z3m {E m L H a0 a1_0 a1_1 v5_1} :LoopF Tryz.prog (NE.plain 1000) m E Tryz.f48 ((cfst (csnd (cfst (cfst (csnd (cfst (cfst (csnd (cfst (csnd B48))))))))))) (zaa L H a0 a1_0 a1_1 v5_1) (fun _=>H) 2 z1c (z28 H) (R2 L H a0 a1_0 a1_1 v5_1):=by
 rintro v6_2 o h
 unfold R2 at h;try dsimp only at h
 refine A0 (A0 (C0 (m0 4 [kI 17 v5_1,kS 16 a1_1,kL 15 0 1,kI 14 v6_2] ?_)));obtain ⟨p3,hx,h⟩:=bind_some h;refine O0 18 91 103 (.tmp 16) (.tmp 17) hx (m0 1 [(19,.val (vP (some (Addr.add p3 1))))] ?_);obtain ⟨x4,hx,h⟩:=bind_some h;refine T0 20 101 (.tmp 19) (O1 hx R1) (m0 2 [kB 22 (decide (v6_2<(x4.n:Int))),kI 21 (x4.n:Int)] (B0 (o0 ?_)));rcases Q1 h with ⟨hp,h⟩ | ⟨hp,h⟩
 ·refine D0 22 true (decide_eq_true hp) (E0 (G0 (o0 (A0 (J0 3 (A0 (C0 (m0 4 [kI 28 v5_1,kS 27 a1_1,kL 26 0 1,(25,.val (vP a0))] ?_))))))));obtain ⟨p5,hx,h⟩:=bind_some h;refine O0 29 91 103 (.tmp 27) (.tmp 28) hx (m0 1 [(30,.val (vP (some (Addr.add p5 1))))] ?_);obtain ⟨x6,hx,h⟩:=bind_some h;refine T0 31 101 (.tmp 30) (O1 hx R1) (m0 1 [kI 32 v6_2] ?_);obtain ⟨p7,hx,h⟩:=bind_some h;refine O0 33 101 105 (.tmp 31) (.tmp 32) hx (m0 1 [(34,.val (vP (some (Addr.add p7 1))))] ?_);obtain ⟨x8_0,hx0,h⟩:=bind_some h;obtain ⟨x8_1,hx1,h⟩:=bind_some h;obtain ⟨x8_2,hx2,h⟩:=bind_some h;obtain ⟨x8_3,hx3,h⟩:=bind_some h;refine RS.la 35 25 (.tmp 34) 4 (P1 (O1 hx0 S1) (P1 (O1 hx1 S1) (P1 (O1 hx2 T1) (P1 (O1 hx3 R1) U1)))) ?_;obtain ⟨x9,hx,h⟩:=bind_some h;refine N0 (some 36) (v:=(vB x9)) 19 _ (z4z hx) (m0 1 [kB 37 (!x9)] (B0 (o0 ?_)));rcases Q1 h with ⟨hp,h⟩ | ⟨hp,h⟩
  ·refine D0 37 false (nb_not hp) (F0 (G0 ?_));refine fun a w hs=>bkN ((o0 ?_ a w hs));refine C0 (m0 3 [kI 6 (IntKind.i64.wrap (v6_2+1)),kI 24 (IntKind.i64.wrap (v6_2+1)),kI 23 v6_2] (B0 ?_));cases h;exact fun a w hs=>lsN rfl (hs.sb 1)
  ·refine D0 37 true (W2 hp) (E0 (A0 (C0 (m0 1 [kB 4 false] (B0 (o0 (I0 ?_)))))));cases h;exact fun a w hs=>bkR (sqR (lsR rfl (rS hs)))
 ·refine D0 22 false (decide_eq_false hp) (F0 (WS.ex 2 ?_));cases h;exact fun a w hs=>sqE (lsB rfl (hs.sb 1))
theorem z3y {E m L H a0 a1_0 a1_1} :LoopF Tryz.prog (NE.plain 1000) m E Tryz.f48 ((cfst (csnd (cfst (csnd B48))))) (zap L H a0 a1_0 a1_1) (fun _=>H) 0 z1c (z28 H) (S2 L H a0 a1_0 a1_1):=by
 rintro v5_1 o h
 unfold S2 at h;try dsimp only at h
 refine A0 (A0 (C0 (m0 5 [kB 11 (decide (v5_1<(a1_1.n:Int))),kI 10 (a1_1.n:Int),kS 9 a1_1,kL 8 0 1,kI 7 v5_1] (B0 (o0 ?_)))));rcases Q1 h with ⟨hp,h⟩ | ⟨hp,h⟩
 ·refine D0 11 true (decide_eq_true hp) (E0 (G0 (o0 (A0 (J0 1 (A0 (C0 (m0 1 [kI 6 0] (B0 ?_)))))))));refine o0 (J0 2 ?_);obtain ⟨o,hl,h⟩:=bind_some h;rcases o with v6_10 | r
  ·try dsimp only at h
   refine S0 (z3m (L:=L) (E:=E) (m:=m) (H:=H)) (L.ok hl) 1 ?_;clear hl;refine fun a w hs=>bkE (bkN ((o0 ?_ a w hs)));refine C0 (m0 3 [kI 5 (IntKind.i64.wrap (v5_1+1)),kI 13 (IntKind.i64.wrap (v5_1+1)),kI 12 v5_1] (B0 ?_));cases h;exact fun a w hs=>lsN rfl (hs.sb 1)
  ·try dsimp only at h
   refine R0 (z3m (L:=L) (E:=E) (m:=m) (H:=H)) (L.ok hl) 1 ?_;cases h;exact fun a w hq=>bkR (bkR (sqR (lsR rfl hq)))
 ·refine D0 11 false (decide_eq_false hp) (F0 (WS.ex 0 ?_));cases h;exact fun a w hs=>sqE (lsB rfl (hs.sb 1))
theorem zdq {L:LC} {m:Nat} {H:AH} {a0:Option Addr} {a1_0:ByteArray} {a1_1:Sl3} {r:Bool} (h:zl L H a0 a1_0 a1_1=some r) :
  CallS Tryz.prog (NE.plain 1000) m 48 #[(vP a0),(vA #[(vS a1_0),(Sl3.v a1_1)])] H (z1c r) (z28 H r):=by
 refine CallS.mk (args:=[(vP a0),(vA #[(vS a1_0),(Sl3.v a1_1)])]) Tryz.func48 (B:=B48) (by kernel_rfl) (fun E _=>?_);unfold zl at h;refine A0 (C0 (Q0 2 [kB 4 false,kL 3 0 0] ([some (93,[(vS a1_0),(Sl3.v a1_1)])]) (B0 (o0 (A0 (A0 (C0 (m0 1 [kI 5 0] (B0 ?_)))))))));refine o0 (J0 0 ?_);obtain ⟨o,hl,h⟩:=bind_some h;rcases o with v5_11 | r
 ·try dsimp only at h
  refine S0 (z3y (L:=L) (E:=E) (m:=m) (H:=H)) (L.ok hl) 1 ?_;clear hl;refine fun a w hs=>bkE ((o0 ?_ a w hs));refine A0 (C0 (m0 1 [kB 4 true] (B0 (o0 (I0 ?_)))));cases h;exact fun a w hs=>rtR (rS hs)
 ·try dsimp only at h
  refine R0 (z3y (L:=L) (E:=E) (m:=m) (H:=H)) (L.ok hl) 1 ?_;cases h;exact fun a w hq=>bkR (sqR (rtR hq))
def z2a:((Option Addr)×AH)→Value
 | (r0,_)=>(vP r0)
def z30 (_:AH):((Option Addr)×AH)→AH:=fun r=>r.2
noncomputable def B18:Code:=(Tryz.f18.body).getD .skip
noncomputable def E5 (L:LC) (m:Nat) (_a0_0 a0_1 _a0_2:Sl3) (k6:Nat) (_v4_9:Int):(AH×Int)→Option (Lp (AH×Int) ((Option Addr)×AH)):=fun (H10,v5_11) =>
 if v5_11<(a0_1.n:Int) then
  Option.bind (α:=AH) (
   (idxA 2 a0_1 v5_11).bind fun p13 => (rd deS H10 (Addr.add p13 0)).bind fun x14_0 => (rd deSl H10 (Addr.add p13 1)).bind fun x14_1 => (zl L H10 (some (⟨k6,0,none⟩:Addr)) x14_0 x14_1).bind fun x15 => if x15=true then
    (rd deSl H10 (Addr.add (⟨k6,0,none⟩:Addr) 3)).bind fun x16 => (idxA 1 x16 v5_11).bind fun p17 => (H10.setCell m p17 (vB true)).bind fun H18 => some H18
   else
    some H10) fun H12 =>
  some (.next (H12,(IntKind.i64.wrap (v5_11+1))))
 else
  some (.brk (H10,v5_11))
def zbk (_L:LC) (_m:Nat) (a0_0 a0_1 a0_2:Sl3) (k6:Nat) (v4_9:Int):(AH×Int)→KN×Lcs:=fun (_,v5_11)=>([kI 5 v5_11,kL 1 0 0,(3,.val (vP (some (⟨k6,0,none⟩:Addr)))),kI 4 v4_9],[some (30,[(Sl3.v a0_0),(Sl3.v a0_1),(Sl3.v a0_2)]),none,none])
noncomputable def Z4 (L:LC) (m:Nat) (a0_0 a0_1 a0_2:Sl3) (k6:Nat):(AH×Int)→Option (Lp (AH×Int) ((Option Addr)×AH)):=fun (H8,v4_9) =>
 if v4_9≤(a0_1.n:Int) then
  (L.run (E5 L m a0_0 a0_1 a0_2 k6 v4_9) (H8,0)).bind fun o=>match o with
  | .inl (H19,_) =>
   some (.next (H19,(IntKind.i64.wrap (v4_9+1))))
  | .inr r=>some (.ret r)
 else
  some (.brk (H8,v4_9))
def zc6 (_L:LC) (_m:Nat) (a0_0 a0_1 a0_2:Sl3) (k6:Nat):(AH×Int)→KN×Lcs:=fun (_,v4_9)=>([kI 4 v4_9,kL 1 0 0,(3,.val (vP (some (⟨k6,0,none⟩:Addr))))],[some (30,[(Sl3.v a0_0),(Sl3.v a0_1),(Sl3.v a0_2)]),none,none])
noncomputable def zx (L:LC) (m:Nat) (H:AH) (a0_0 a0_1 a0_2:Sl3):Option ((Option Addr)×AH) :=
 (mkN 1 (a0_1.n:Int)).bind fun c1 => (G8 L (Nat.max m H.next) H a0_0 a0_1 a0_2 1).bind fun (x2,H3) => (newS 4 (mkCells #[(vB false)] 1 c1) H3).bind fun (k4,H5) => (newS 99 [(Sl3.v a0_0),(Sl3.v a0_1),(Sl3.v a0_2),(Sl3.v (⟨some ⟨k4,0,none⟩,c1,c1⟩:Sl3)),(vP x2)] H5).bind fun (k6,H7) => (L.run (Z4 L m a0_0 a0_1 a0_2 k6) (H7,0)).bind fun o=>match o with
 | .inl (H21,_) =>
  some ((some (⟨k6,0,none⟩:Addr)),H21)
 | .inr r=>some r
theorem z4e {E H L m a0_0 a0_1 a0_2 k6 v4_9} :LoopF Tryz.prog (NE.plain 1000) m E Tryz.f18 ((cfst (csnd (cfst (cfst (csnd (cfst (cfst (csnd (cfst (csnd (csnd B18)))))))))))) (zbk L m a0_0 a0_1 a0_2 k6 v4_9) (fun s=>s.1) 2 z2a (z30 H) (E5 L m a0_0 a0_1 a0_2 k6 v4_9):=by
 rintro ⟨H10,v5_11⟩ o h
 unfold E5 at h;try dsimp only at h
 refine A0 (A0 (C0 (m0 5 [kB 27 (decide (v5_11<(a0_1.n:Int))),kI 26 (a0_1.n:Int),kS 25 a0_1,kL 24 0 1,kI 23 v5_11] (B0 (o0 ?_)))));rcases Q1 h with ⟨hp,h⟩ | ⟨hp,h⟩
 ·refine D0 27 true (decide_eq_true hp) (E0 (G0 (o0 ?_)));obtain ⟨H12,hx,h⟩:=bind_some h;refine A0 ?_;refine A1 ([kL 1 0 0,(3,.val (vP (some (⟨k6,0,none⟩:Addr)))),kI 4 v4_9,kI 5 v5_11]) ([some (30,[(Sl3.v a0_0),(Sl3.v a0_1),(Sl3.v a0_2)]),none,none]) H12 ?_ (fun a w hs=>o0 ?_ a w hs)
  ·clear h; rename _=>h;refine J0 3 (A0 (C0 (m0 4 [kI 33 v5_11,kS 32 a0_1,kL 31 0 1,(30,.val (vP (some (⟨k6,0,none⟩:Addr))))] ?_)));obtain ⟨p13,hx,h⟩:=bind_some h;refine O0 34 27 93 (.tmp 32) (.tmp 33) hx ?_;obtain ⟨x14_0,hx0,h⟩:=bind_some h;obtain ⟨x14_1,hx1,h⟩:=bind_some h;refine RS.la 35 93 (.tmp 34) 2 (P1 (O1 hx0 T1) (P1 (O1 hx1 R1) U1)) ?_;obtain ⟨x15,hx,h⟩:=bind_some h;refine N0 (some 36) (v:=(vB x15)) 48 _ (zdq hx) (m0 1 [kB 6 x15] (B0 (o0 (A0 (C0 (m0 1 [kB 37 x15] (B0 (o0 ?_))))))));rcases Q1 h with ⟨hp,h⟩ | ⟨hp,h⟩
   ·refine D0 37 true hp (E0 (C0 (m0 3 [(40,.val (vP (some (Addr.add (⟨k6,0,none⟩:Addr) 3)))),(39,.val (vP (some (⟨k6,0,none⟩:Addr)))),(38,.val (vP (some (⟨k6,0,none⟩:Addr))))] ?_)));obtain ⟨x16,hx,h⟩:=bind_some h;refine T0 41 70 (.tmp 40) (O1 hx R1) (m0 1 [kI 42 v5_11] ?_);obtain ⟨p17,hx,h⟩:=bind_some h;refine O0 43 70 4 (.tmp 41) (.tmp 42) hx ?_;obtain ⟨H18,hx,h⟩:=bind_some h;refine P0 (H':=H18) none undef (Abs.run_store1 (t:=4) (x:=.tmp 43) (y:=.const (vB true)) (a:=p17) (v:=(vB true)) (by kernel_rfl) (by kernel_rfl) (by kernel_rfl) (by kernel_rfl) (by kernel_rfl) hx) (B0 ?_);cases h;exact fun a w hs=>bkN ((jsN (hs.sb 3)))
   ·refine D0 37 false (b_not hp) (F0 (G0 ?_));cases h;exact fun a w hs=>bkN ((jsN (hs.sb 3)))
  ·clear hx;refine C0 (m0 3 [kI 5 (IntKind.i64.wrap (v5_11+1)),kI 29 (IntKind.i64.wrap (v5_11+1)),kI 28 v5_11] (B0 ?_));cases h;exact fun a w hs=>lsN rfl (hs.sb 3)
 ·refine D0 27 false (decide_eq_false hp) (F0 (WS.ex 2 ?_));cases h;exact fun a w hs=>sqE (lsB rfl (hs.sb 3))
theorem z4d {E H L m a0_0 a0_1 a0_2 k6} :LoopF Tryz.prog (NE.plain 1000) m E Tryz.f18 ((cfst (csnd (cfst (csnd (csnd B18)))))) (zc6 L m a0_0 a0_1 a0_2 k6) (fun s=>s.1) 0 z2a (z30 H) (Z4 L m a0_0 a0_1 a0_2 k6):=by
 rintro ⟨H8,v4_9⟩ o h
 unfold Z4 at h;try dsimp only at h
 refine A0 (A0 (C0 (m0 5 [kB 20 (decide (v4_9≤(a0_1.n:Int))),kI 19 (a0_1.n:Int),kS 18 a0_1,kL 17 0 1,kI 16 v4_9] (B0 (o0 ?_)))));rcases Q1 h with ⟨hp,h⟩ | ⟨hp,h⟩
 ·refine D0 20 true (decide_eq_true hp) (E0 (G0 (o0 (A0 (J0 1 (A0 (C0 (m0 1 [kI 5 0] (B0 ?_)))))))));refine o0 (J0 2 ?_);obtain ⟨o,hl,h⟩:=bind_some h;rcases o with ⟨H19,v5_20⟩ | r
  ·try dsimp only at h
   refine S0 (z4e (L:=L) (E:=E) (m:=m) (H:=H)) (L.ok hl) 3 ?_;clear hl;refine fun a w hs=>bkE (bkN ((o0 ?_ a w hs)));refine C0 (m0 3 [kI 4 (IntKind.i64.wrap (v4_9+1)),kI 22 (IntKind.i64.wrap (v4_9+1)),kI 21 v4_9] (B0 ?_));cases h;exact fun a w hs=>lsN rfl (hs.sb 3)
  ·try dsimp only at h
   refine R0 (z4e (L:=L) (E:=E) (m:=m) (H:=H)) (L.ok hl) 3 ?_;cases h;exact fun a w hq=>bkR (bkR (sqR (lsR rfl hq)))
 ·refine D0 20 false (decide_eq_false hp) (F0 (WS.ex 0 ?_));cases h;exact fun a w hs=>sqE (lsB rfl (hs.sb 3))
theorem zeh {L:LC} {m:Nat} {H:AH} {a0_0 a0_1 a0_2:Sl3} {r:((Option Addr)×AH)} (h:zx L m H a0_0 a0_1 a0_2=some r) :
  CallS Tryz.prog (NE.plain 1000) m 18 #[(vA #[(Sl3.v a0_0),(Sl3.v a0_1),(Sl3.v a0_2)])] H (z2a r) (z30 H r):=by
 refine CallS.mk (args:=[(vA #[(Sl3.v a0_0),(Sl3.v a0_1),(Sl3.v a0_2)])]) Tryz.func18 (B:=B18) (by kernel_rfl) (fun E _=>?_);unfold zx at h;refine A0 (C0 (Q0 2 [(2,.val (vP none)),kL 1 0 0] ([some (30,[(Sl3.v a0_0),(Sl3.v a0_1),(Sl3.v a0_2)])]) (B0 (o0 (A0 ?_)))));obtain ⟨c1,hx_4,h⟩:=bind_some h;obtain ⟨⟨x2,H3⟩,hx_6,h⟩:=bind_some h;try dsimp only at h
 obtain ⟨⟨k4,H5⟩,hx_k4,h⟩:=bind_some h;try dsimp only at h
 obtain ⟨⟨k6,H7⟩,hx_k6,h⟩:=bind_some h;try dsimp only at h
 refine WS.toone ([kL 1 0 0,kL 3 2 0]) ([some (30,[(Sl3.v a0_0),(Sl3.v a0_1),(Sl3.v a0_2)]),none,some (99,[(Sl3.v a0_0),(Sl3.v a0_1),(Sl3.v a0_2),(Sl3.v (⟨some ⟨k4,0,none⟩,c1,c1⟩:Sl3)),(vP x2)])]) H5 ?_ ?_
 ·clear h;refine D1 [5] [0,0,2,6,14,0,32,127,255,511] 10 (fun hcl=>?_);refine V0 5 (some 12) (.val (vA #[(Sl3.v a0_0),(Sl3.v a0_1),(Sl3.v a0_2)])) (DA.restart [1,5] (by kernel_rfl) (V0 1 (some 8) (.loc 0 1) ?_));refine DA.three 0 2 6 (by kernel_rfl) ?_ ?_ ?_
  ·refine B1 0 (some 7) (.val (vA #[(Sl3.v a0_0),(Sl3.v a0_1),(Sl3.v a0_2)])) ([some (30,[(Sl3.v a0_0),(Sl3.v a0_1),(Sl3.v a0_2)])]) true ?_;refine E1 2 6 (by kernel_rfl) ?_ ?_
   ·refine B1 2 (some 9) (.val (Sl3.v a0_1)) ([some (30,[(Sl3.v a0_0),(Sl3.v a0_1),(Sl3.v a0_2)])]) true (DA.restart [1,3,5] (by kernel_rfl) (U0 3 (some 10) (vI .i64 (a0_1.n:Int)) ?_));refine E1 4 6 (by kernel_rfl) ?_ ?_
    ·refine L1 (k1:=.i64) (k2:=.i64) 4 (some 11) 70 4 1 1 #[(vB false)] (.tmp 10) (.tmp 10) hx_4 (DA.on 6 (I1 6 (some 13) false (v:=(vP x2)) 15 _ (P3 hx_6) (DA.on 7 (K1 1 _ _ hx_k4 (by kernel_rfl) rfl rfl (Y0 (H':=H5) 7 (some 14) (vA #[(Sl3.v a0_0),(Sl3.v a0_1),(Sl3.v a0_2),(Sl3.v (⟨some ⟨k4,0,none⟩,c1,c1⟩:Sl3)),(vP x2)]) (by kernel_rfl) (DA.on 8 (B1 8 (some 15) (.loc 2 0) ([some (30,[(Sl3.v a0_0),(Sl3.v a0_1),(Sl3.v a0_2)]),none,some (99,[(Sl3.v a0_0),(Sl3.v a0_1),(Sl3.v a0_2),(Sl3.v (⟨some ⟨k4,0,none⟩,c1,c1⟩:Sl3)),(vP x2)])]) false (F1 9 (some 3) (.loc 2 0) (W0 ?_)))))))));exact fun a w hs=>jsN (hs.sb 3)
    ·refine I1 6 (some 13) true (v:=(vP x2)) 15 _ (P3 hx_6) (DA.on 4 (L1 (k1:=.i64) (k2:=.i64) 4 (some 11) 70 4 1 1 #[(vB false)] (.tmp 10) (.tmp 10) hx_4 (DA.on 7 (K1 1 _ _ hx_k4 (by kernel_rfl) rfl rfl (Y0 (H':=H5) 7 (some 14) (vA #[(Sl3.v a0_0),(Sl3.v a0_1),(Sl3.v a0_2),(Sl3.v (⟨some ⟨k4,0,none⟩,c1,c1⟩:Sl3)),(vP x2)]) (by kernel_rfl) (DA.on 8 (B1 8 (some 15) (.loc 2 0) ([some (30,[(Sl3.v a0_0),(Sl3.v a0_1),(Sl3.v a0_2)]),none,some (99,[(Sl3.v a0_0),(Sl3.v a0_1),(Sl3.v a0_2),(Sl3.v (⟨some ⟨k4,0,none⟩,c1,c1⟩:Sl3)),(vP x2)])]) false (F1 9 (some 3) (.loc 2 0) (W0 ?_)))))))));exact fun a w hs=>jsN (hs.sb 3)
   ·refine I1 6 (some 13) true (v:=(vP x2)) 15 _ (P3 hx_6) (DA.on 2 (B1 2 (some 9) (.val (Sl3.v a0_1)) ([some (30,[(Sl3.v a0_0),(Sl3.v a0_1),(Sl3.v a0_2)])]) true (DA.on 3 (DA.aHk (H':=H3) 3 (some 10) true (vI .i64 (a0_1.n:Int)) (by kernel_rfl) (DA.on 4 (L1 (k1:=.i64) (k2:=.i64) 4 (some 11) 70 4 1 1 #[(vB false)] (.tmp 10) (.tmp 10) hx_4 (DA.on 7 (K1 1 _ _ hx_k4 (by kernel_rfl) rfl rfl (Y0 (H':=H5) 7 (some 14) (vA #[(Sl3.v a0_0),(Sl3.v a0_1),(Sl3.v a0_2),(Sl3.v (⟨some ⟨k4,0,none⟩,c1,c1⟩:Sl3)),(vP x2)]) (by kernel_rfl) ?_)))))))));refine DA.on 8 (B1 8 (some 15) (.loc 2 0) ([some (30,[(Sl3.v a0_0),(Sl3.v a0_1),(Sl3.v a0_2)]),none,some (99,[(Sl3.v a0_0),(Sl3.v a0_1),(Sl3.v a0_2),(Sl3.v (⟨some ⟨k4,0,none⟩,c1,c1⟩:Sl3)),(vP x2)])]) false (F1 9 (some 3) (.loc 2 0) (W0 ?_)));exact fun a w hs=>jsN (hs.sb 3)
  ·refine B1 2 (some 9) (.val (Sl3.v a0_1)) ([some (30,[(Sl3.v a0_0),(Sl3.v a0_1),(Sl3.v a0_2)])]) true (DA.restart [1,3,5] (by kernel_rfl) (U0 3 (some 10) (vI .i64 (a0_1.n:Int)) ?_));refine DA.three 0 4 6 (by kernel_rfl) ?_ ?_ ?_
   ·refine B1 0 (some 7) (.val (vA #[(Sl3.v a0_0),(Sl3.v a0_1),(Sl3.v a0_2)])) ([some (30,[(Sl3.v a0_0),(Sl3.v a0_1),(Sl3.v a0_2)])]) true ?_;refine E1 4 6 (by kernel_rfl) ?_ ?_
    ·refine L1 (k1:=.i64) (k2:=.i64) 4 (some 11) 70 4 1 1 #[(vB false)] (.tmp 10) (.tmp 10) hx_4 (DA.on 6 (I1 6 (some 13) false (v:=(vP x2)) 15 _ (P3 hx_6) (DA.on 7 (K1 1 _ _ hx_k4 (by kernel_rfl) rfl rfl (Y0 (H':=H5) 7 (some 14) (vA #[(Sl3.v a0_0),(Sl3.v a0_1),(Sl3.v a0_2),(Sl3.v (⟨some ⟨k4,0,none⟩,c1,c1⟩:Sl3)),(vP x2)]) (by kernel_rfl) (DA.on 8 (B1 8 (some 15) (.loc 2 0) ([some (30,[(Sl3.v a0_0),(Sl3.v a0_1),(Sl3.v a0_2)]),none,some (99,[(Sl3.v a0_0),(Sl3.v a0_1),(Sl3.v a0_2),(Sl3.v (⟨some ⟨k4,0,none⟩,c1,c1⟩:Sl3)),(vP x2)])]) false (F1 9 (some 3) (.loc 2 0) (W0 ?_)))))))));exact fun a w hs=>jsN (hs.sb 3)
    ·refine I1 6 (some 13) true (v:=(vP x2)) 15 _ (P3 hx_6) (DA.on 4 (L1 (k1:=.i64) (k2:=.i64) 4 (some 11) 70 4 1 1 #[(vB false)] (.tmp 10) (.tmp 10) hx_4 (DA.on 7 (K1 1 _ _ hx_k4 (by kernel_rfl) rfl rfl (Y0 (H':=H5) 7 (some 14) (vA #[(Sl3.v a0_0),(Sl3.v a0_1),(Sl3.v a0_2),(Sl3.v (⟨some ⟨k4,0,none⟩,c1,c1⟩:Sl3)),(vP x2)]) (by kernel_rfl) (DA.on 8 (B1 8 (some 15) (.loc 2 0) ([some (30,[(Sl3.v a0_0),(Sl3.v a0_1),(Sl3.v a0_2)]),none,some (99,[(Sl3.v a0_0),(Sl3.v a0_1),(Sl3.v a0_2),(Sl3.v (⟨some ⟨k4,0,none⟩,c1,c1⟩:Sl3)),(vP x2)])]) false (F1 9 (some 3) (.loc 2 0) (W0 ?_)))))))));exact fun a w hs=>jsN (hs.sb 3)
   ·refine L1 (k1:=.i64) (k2:=.i64) 4 (some 11) 70 4 1 1 #[(vB false)] (.tmp 10) (.tmp 10) hx_4 ?_;refine E1 0 6 (by kernel_rfl) ?_ ?_
    ·refine B1 0 (some 7) (.val (vA #[(Sl3.v a0_0),(Sl3.v a0_1),(Sl3.v a0_2)])) ([some (30,[(Sl3.v a0_0),(Sl3.v a0_1),(Sl3.v a0_2)]),some (4,(mkCells #[(vB false)] 1 c1))]) true (DA.on 6 (I1 6 (some 13) false (v:=(vP x2)) 15 _ (P3 hx_6) (DA.on 7 (K1 1 _ _ hx_k4 (by kernel_rfl) rfl rfl (Y0 (H':=H5) 7 (some 14) (vA #[(Sl3.v a0_0),(Sl3.v a0_1),(Sl3.v a0_2),(Sl3.v (⟨some ⟨k4,0,none⟩,c1,c1⟩:Sl3)),(vP x2)]) (by kernel_rfl) (DA.on 8 (B1 8 (some 15) (.loc 2 0) ([some (30,[(Sl3.v a0_0),(Sl3.v a0_1),(Sl3.v a0_2)]),none,some (99,[(Sl3.v a0_0),(Sl3.v a0_1),(Sl3.v a0_2),(Sl3.v (⟨some ⟨k4,0,none⟩,c1,c1⟩:Sl3)),(vP x2)])]) false (F1 9 (some 3) (.loc 2 0) (W0 ?_)))))))));exact fun a w hs=>jsN (hs.sb 3)
    ·refine I1 6 (some 13) true (v:=(vP x2)) 15 _ (P3 hx_6) (DA.on 0 (B1 0 (some 7) (.val (vA #[(Sl3.v a0_0),(Sl3.v a0_1),(Sl3.v a0_2)])) ([some (30,[(Sl3.v a0_0),(Sl3.v a0_1),(Sl3.v a0_2)]),some (4,(mkCells #[(vB false)] 1 c1))]) false (DA.on 7 (K1 1 _ _ hx_k4 (by kernel_rfl) rfl rfl (Y0 (H':=H5) 7 (some 14) (vA #[(Sl3.v a0_0),(Sl3.v a0_1),(Sl3.v a0_2),(Sl3.v (⟨some ⟨k4,0,none⟩,c1,c1⟩:Sl3)),(vP x2)]) (by kernel_rfl) (DA.on 8 (B1 8 (some 15) (.loc 2 0) ([some (30,[(Sl3.v a0_0),(Sl3.v a0_1),(Sl3.v a0_2)]),none,some (99,[(Sl3.v a0_0),(Sl3.v a0_1),(Sl3.v a0_2),(Sl3.v (⟨some ⟨k4,0,none⟩,c1,c1⟩:Sl3)),(vP x2)])]) false (F1 9 (some 3) (.loc 2 0) (W0 ?_)))))))));exact fun a w hs=>jsN (hs.sb 3)
   ·refine I1 6 (some 13) true (v:=(vP x2)) 15 _ (P3 hx_6) ?_;refine E1 0 4 (by kernel_rfl) ?_ ?_
    ·refine B1 0 (some 7) (.val (vA #[(Sl3.v a0_0),(Sl3.v a0_1),(Sl3.v a0_2)])) ([some (30,[(Sl3.v a0_0),(Sl3.v a0_1),(Sl3.v a0_2)])]) true (DA.on 4 (L1 (k1:=.i64) (k2:=.i64) 4 (some 11) 70 4 1 1 #[(vB false)] (.tmp 10) (.tmp 10) hx_4 (DA.on 7 (K1 1 _ _ hx_k4 (by kernel_rfl) rfl rfl (Y0 (H':=H5) 7 (some 14) (vA #[(Sl3.v a0_0),(Sl3.v a0_1),(Sl3.v a0_2),(Sl3.v (⟨some ⟨k4,0,none⟩,c1,c1⟩:Sl3)),(vP x2)]) (by kernel_rfl) (DA.on 8 (B1 8 (some 15) (.loc 2 0) ([some (30,[(Sl3.v a0_0),(Sl3.v a0_1),(Sl3.v a0_2)]),none,some (99,[(Sl3.v a0_0),(Sl3.v a0_1),(Sl3.v a0_2),(Sl3.v (⟨some ⟨k4,0,none⟩,c1,c1⟩:Sl3)),(vP x2)])]) false (F1 9 (some 3) (.loc 2 0) (W0 ?_)))))))));exact fun a w hs=>jsN (hs.sb 3)
    ·refine L1 (k1:=.i64) (k2:=.i64) 4 (some 11) 70 4 1 1 #[(vB false)] (.tmp 10) (.tmp 10) hx_4 (DA.on 0 (B1 0 (some 7) (.val (vA #[(Sl3.v a0_0),(Sl3.v a0_1),(Sl3.v a0_2)])) ([some (30,[(Sl3.v a0_0),(Sl3.v a0_1),(Sl3.v a0_2)]),some (4,(mkCells #[(vB false)] 1 c1))]) false (DA.on 7 (K1 1 _ _ hx_k4 (by kernel_rfl) rfl rfl (Y0 (H':=H5) 7 (some 14) (vA #[(Sl3.v a0_0),(Sl3.v a0_1),(Sl3.v a0_2),(Sl3.v (⟨some ⟨k4,0,none⟩,c1,c1⟩:Sl3)),(vP x2)]) (by kernel_rfl) (DA.on 8 (B1 8 (some 15) (.loc 2 0) ([some (30,[(Sl3.v a0_0),(Sl3.v a0_1),(Sl3.v a0_2)]),none,some (99,[(Sl3.v a0_0),(Sl3.v a0_1),(Sl3.v a0_2),(Sl3.v (⟨some ⟨k4,0,none⟩,c1,c1⟩:Sl3)),(vP x2)])]) false (F1 9 (some 3) (.loc 2 0) (W0 ?_)))))))));exact fun a w hs=>jsN (hs.sb 3)
  ·refine I1 6 (some 13) true (v:=(vP x2)) 15 _ (P3 hx_6) ?_;refine E1 0 2 (by kernel_rfl) ?_ ?_
   ·refine B1 0 (some 7) (.val (vA #[(Sl3.v a0_0),(Sl3.v a0_1),(Sl3.v a0_2)])) ([some (30,[(Sl3.v a0_0),(Sl3.v a0_1),(Sl3.v a0_2)])]) true (DA.on 2 (B1 2 (some 9) (.val (Sl3.v a0_1)) ([some (30,[(Sl3.v a0_0),(Sl3.v a0_1),(Sl3.v a0_2)])]) true (DA.on 3 (DA.aHk (H':=H3) 3 (some 10) true (vI .i64 (a0_1.n:Int)) (by kernel_rfl) (DA.on 4 (L1 (k1:=.i64) (k2:=.i64) 4 (some 11) 70 4 1 1 #[(vB false)] (.tmp 10) (.tmp 10) hx_4 (DA.on 7 (K1 1 _ _ hx_k4 (by kernel_rfl) rfl rfl (Y0 (H':=H5) 7 (some 14) (vA #[(Sl3.v a0_0),(Sl3.v a0_1),(Sl3.v a0_2),(Sl3.v (⟨some ⟨k4,0,none⟩,c1,c1⟩:Sl3)),(vP x2)]) (by kernel_rfl) ?_)))))))));refine DA.on 8 (B1 8 (some 15) (.loc 2 0) ([some (30,[(Sl3.v a0_0),(Sl3.v a0_1),(Sl3.v a0_2)]),none,some (99,[(Sl3.v a0_0),(Sl3.v a0_1),(Sl3.v a0_2),(Sl3.v (⟨some ⟨k4,0,none⟩,c1,c1⟩:Sl3)),(vP x2)])]) false (F1 9 (some 3) (.loc 2 0) (W0 ?_)));exact fun a w hs=>jsN (hs.sb 3)
   ·refine B1 2 (some 9) (.val (Sl3.v a0_1)) ([some (30,[(Sl3.v a0_0),(Sl3.v a0_1),(Sl3.v a0_2)])]) true (DA.restart [1,3,5] (by kernel_rfl) (U0 3 (some 10) (vI .i64 (a0_1.n:Int)) ?_));refine E1 0 4 (by kernel_rfl) ?_ ?_
    ·refine B1 0 (some 7) (.val (vA #[(Sl3.v a0_0),(Sl3.v a0_1),(Sl3.v a0_2)])) ([some (30,[(Sl3.v a0_0),(Sl3.v a0_1),(Sl3.v a0_2)])]) true (DA.on 4 (L1 (k1:=.i64) (k2:=.i64) 4 (some 11) 70 4 1 1 #[(vB false)] (.tmp 10) (.tmp 10) hx_4 (DA.on 7 (K1 1 _ _ hx_k4 (by kernel_rfl) rfl rfl (Y0 (H':=H5) 7 (some 14) (vA #[(Sl3.v a0_0),(Sl3.v a0_1),(Sl3.v a0_2),(Sl3.v (⟨some ⟨k4,0,none⟩,c1,c1⟩:Sl3)),(vP x2)]) (by kernel_rfl) (DA.on 8 (B1 8 (some 15) (.loc 2 0) ([some (30,[(Sl3.v a0_0),(Sl3.v a0_1),(Sl3.v a0_2)]),none,some (99,[(Sl3.v a0_0),(Sl3.v a0_1),(Sl3.v a0_2),(Sl3.v (⟨some ⟨k4,0,none⟩,c1,c1⟩:Sl3)),(vP x2)])]) false (F1 9 (some 3) (.loc 2 0) (W0 ?_)))))))));exact fun a w hs=>jsN (hs.sb 3)
    ·refine L1 (k1:=.i64) (k2:=.i64) 4 (some 11) 70 4 1 1 #[(vB false)] (.tmp 10) (.tmp 10) hx_4 (DA.on 0 (B1 0 (some 7) (.val (vA #[(Sl3.v a0_0),(Sl3.v a0_1),(Sl3.v a0_2)])) ([some (30,[(Sl3.v a0_0),(Sl3.v a0_1),(Sl3.v a0_2)]),some (4,(mkCells #[(vB false)] 1 c1))]) false (DA.on 7 (K1 1 _ _ hx_k4 (by kernel_rfl) rfl rfl (Y0 (H':=H5) 7 (some 14) (vA #[(Sl3.v a0_0),(Sl3.v a0_1),(Sl3.v a0_2),(Sl3.v (⟨some ⟨k4,0,none⟩,c1,c1⟩:Sl3)),(vP x2)]) (by kernel_rfl) (DA.on 8 (B1 8 (some 15) (.loc 2 0) ([some (30,[(Sl3.v a0_0),(Sl3.v a0_1),(Sl3.v a0_2)]),none,some (99,[(Sl3.v a0_0),(Sl3.v a0_1),(Sl3.v a0_2),(Sl3.v (⟨some ⟨k4,0,none⟩,c1,c1⟩:Sl3)),(vP x2)])]) false (F1 9 (some 3) (.loc 2 0) (W0 ?_)))))))));exact fun a w hs=>jsN (hs.sb 3)
 ·refine WS.pubS 2 ([kL 1 0 0,(3,.val (vP (some (⟨k6,0,none⟩:Addr))))]) ([some (30,[(Sl3.v a0_0),(Sl3.v a0_1),(Sl3.v a0_2)]),none,none]) hx_k6 (by kernel_rfl) (by kernel_rfl) (by kernel_rfl) (o0 (A0 (A0 (C0 (m0 1 [kI 4 0] (B0 (o0 (J0 0 ?_))))))));obtain ⟨o,hl,h⟩:=bind_some h;rcases o with ⟨H21,v4_22⟩ | r
  ·try dsimp only at h
   refine S0 (z4d (L:=L) (E:=E) (m:=m) (H:=H)) (L.ok hl) 3 ?_;clear hl;refine fun a w hs=>bkE ((o0 ?_ a w hs));refine A0 (C0 (m0 2 [(2,.val (vP (some (⟨k6,0,none⟩:Addr)))),(44,.val (vP (some (⟨k6,0,none⟩:Addr))))] (B0 (o0 (I0 ?_)))));cases h;exact fun a w hs=>rtR (rS hs)
  ·try dsimp only at h
   refine R0 (z4d (L:=L) (E:=E) (m:=m) (H:=H)) (L.ok hl) 3 ?_;cases h;exact fun a w hq=>bkR (sqR (rtR hq))
def zf9:(Bool×AH)→Value
 | (r0,_)=>(vB r0)
def zfj (_:AH):(Bool×AH)→AH:=fun r=>r.2
noncomputable def B7:Code:=(Tryz.f7.body).getD .skip
noncomputable def z1q (L:LC) (m:Nat) (H:AH) (a0_0 a0_1:Int) (a0_2:ByteArray) (a0_3 a1_0:Sl3) (a1_1 a1_2:Sl3):Option (Bool×AH) :=
 Option.bind (α:=(AH×Bool)) (
  (d9 L m H a1_0 a1_1 a1_2).bind fun (x3,H4) => if x3=0 then
   (z8 L H4 a0_0 a0_1 a0_2 a0_3 a1_0 a1_1 a1_2).bind fun x5 => some (H4,(!decide (x5=0)))
  else
   some (H4,true)) fun (H1,v13_2) =>
 if v13_2=true then
  some (false,H1)
 else
  (zx L (Nat.max m H1.next) H1 a1_0 a1_1 a1_2).bind fun (x6,H7) => (b8 L H7 x6 a0_0 a0_1 a0_2 a0_3).bind fun x8 => some (x8,H7)
theorem zg8 {L:LC} {m:Nat} {H:AH} {a0_0 a0_1:Int} {a0_2:ByteArray} {a0_3 a1_0:Sl3} {a1_1 a1_2:Sl3} {r:(Bool×AH)} (h:z1q L m H a0_0 a0_1 a0_2 a0_3 a1_0 a1_1 a1_2=some r) :
  CallS Tryz.prog (NE.plain 1000) m 7 #[(vA #[(vI .i64 a0_0),(vI .i64 a0_1),(vS a0_2),(Sl3.v a0_3)]),(vA #[(Sl3.v a1_0),(Sl3.v a1_1),(Sl3.v a1_2)])] H (zf9 r) (zfj H r):=by
 refine CallS.mk (args:=[(vA #[(vI .i64 a0_0),(vI .i64 a0_1),(vS a0_2),(Sl3.v a0_3)]),(vA #[(Sl3.v a1_0),(Sl3.v a1_1),(Sl3.v a1_2)])]) Tryz.func7 (B:=B7) (by kernel_rfl) (fun E _=>?_);unfold z1q at h;refine A0 (C0 (Q0 3 [kB 4 false,kL 3 1 0,kL 2 0 0] ([some (25,[(vI .i64 a0_0),(vI .i64 a0_1),(vS a0_2),(Sl3.v a0_3)]),some (30,[(Sl3.v a1_0),(Sl3.v a1_1),(Sl3.v a1_2)])]) (B0 (o0 (A0 ?_)))));obtain ⟨⟨H1,v13_2⟩,hx,h⟩:=bind_some h;try dsimp only at h
 refine A0 ?_;refine A1 ([kB 13 v13_2,kL 2 0 0,kL 3 1 0]) ([some (25,[(vI .i64 a0_0),(vI .i64 a0_1),(vS a0_2),(Sl3.v a0_3)]),some (30,[(Sl3.v a1_0),(Sl3.v a1_1),(Sl3.v a1_2)])]) H1 ?_ (fun a w hs=>o0 ?_ a w hs)
 ·clear h; rename _=>h;refine C0 (m0 1 [kA 5 #[(Sl3.v a1_0),(Sl3.v a1_1),(Sl3.v a1_2)]] ?_);obtain ⟨⟨x3,H4⟩,hx,h⟩:=bind_some h;try dsimp only at h
  refine N0 (some 6) (v:=(vI .i64 x3)) 13 _ (z5t hx) (m0 2 [kB 8 (!decide (x3=0)),kB 7 (!decide (x3=0))] ?_);rcases Q1 h with ⟨hp,h⟩ | ⟨hp,h⟩
  ·refine K0 8 false (e9 hp) (m0 2 [kA 10 #[(Sl3.v a1_0),(Sl3.v a1_1),(Sl3.v a1_2)],kA 9 #[(vI .i64 a0_0),(vI .i64 a0_1),(vS a0_2),(Sl3.v a0_3)]] ?_);obtain ⟨x5,hx,h⟩:=bind_some h;refine N0 (some 11) (v:=(vI .i64 x5)) 14 _ (z4m hx) (m0 2 [kB 13 (!decide (x5=0)),kB 12 (!decide (x5=0))] (B0 ?_));cases h;exact fun a w hs=>(jsN (hs.sb 2))
  ·refine K0 8 true (N7 hp) (m0 5 [kB 13 true,kU 12,kU 11,kU 10,kU 9] (B0 ?_));cases h;exact fun a w hs=>(jsN (hs.sb 2))
 ·clear hx;rcases Q1 h with ⟨hp,h⟩ | ⟨hp,h⟩
  ·refine D0 13 true hp (E0 (A0 (C0 (m0 1 [kB 4 false] (B0 (o0 (I0 ?_)))))));cases h;exact fun a w hs=>sqR (rtR (rS hs))
  ·refine D0 13 false (b_not hp) (F0 (G0 (o0 (A0 ?_))));refine D1 [0,2] [0,1,0,7,15] 5 (fun hcl=>?_);refine V0 0 (some 14) (.val (vA #[(Sl3.v a1_0),(Sl3.v a1_1),(Sl3.v a1_2)])) (V0 2 (some 16) (.val (vA #[(vI .i64 a0_0),(vI .i64 a0_1),(vS a0_2),(Sl3.v a0_3)])) ?_);obtain ⟨⟨x6,H7⟩,hx,h⟩:=bind_some h;try dsimp only at h
   refine DA.on 1 (I1 1 (some 15) false (v:=(vP x6)) 18 _ (zeh hx) ?_);obtain ⟨x8,hx,h⟩:=bind_some h;refine DA.on 3 (X0 3 (some 17) (v:=(vB x8)) 19 _ (z4z hx) (M0 4 (some 4) (vB x8) (W0 (o0 (I0 ?_)))));cases h;exact fun a w hs=>rtR (rS hs)
def zb1:(Bool×AH)→Value
 | (r0,_)=>(vB r0)
def zby (_:AH):(Bool×AH)→AH:=fun r=>r.2
noncomputable def B3:Code:=(Tryz.f3.body).getD .skip
noncomputable def zu (L:LC) (m:Nat) (H:AH) (a0_0 a0_1:Int) (a0_2:ByteArray) (a0_3 a1_0:Sl3) (a1_1 a1_2:Sl3) (a2:Int):Option (Bool×AH) :=
 (z1w L m H a0_0 a0_1 a0_2 a0_3 a1_0 a1_1 a1_2 a2).bind fun (x1,x2,H3) => (z2p L m H3 a0_0 a0_1 a0_2 a0_3 a1_0 a1_1 a1_2 a2).bind fun (x4,x5,H6) => (z12 L (Nat.max m H6.next) H6 a0_0 a0_1 a0_2 a0_3 a1_0 a1_1 a1_2).bind fun (x7,H8) => (z1q L m H8 a0_0 a0_1 a0_2 a0_3 a1_0 a1_1 a1_2).bind fun (x9,H10) => if (x7 == x9)=true then
  if x1=x4 then
   if (x2 == x5)=true then
    (z2o L H10).bind fun x11 => some (x11,H10)
   else
    some (false,H10)
  else
   some (false,H10)
 else
  some (false,H10)
theorem zbt {L:LC} {m:Nat} {H:AH} {a0_0 a0_1:Int} {a0_2:ByteArray} {a0_3 a1_0:Sl3} {a1_1 a1_2:Sl3} {a2:Int} {r:(Bool×AH)} (h:zu L m H a0_0 a0_1 a0_2 a0_3 a1_0 a1_1 a1_2 a2=some r) :
  CallS Tryz.prog (NE.plain 1000) m 3 #[(vA #[(vI .i64 a0_0),(vI .i64 a0_1),(vS a0_2),(Sl3.v a0_3)]),(vA #[(Sl3.v a1_0),(Sl3.v a1_1),(Sl3.v a1_2)]),(vI .i64 a2)] H (zb1 r) (zby H r):=by
 refine CallS.mk (args:=[(vA #[(vI .i64 a0_0),(vI .i64 a0_1),(vS a0_2),(Sl3.v a0_3)]),(vA #[(Sl3.v a1_0),(Sl3.v a1_1),(Sl3.v a1_2)]),(vI .i64 a2)]) Tryz.func3 (B:=B3) (by kernel_rfl) (fun E _=>?_);unfold zu at h;refine A0 (C0 (Q0 3 [kB 6 false,kL 4 1 0,kL 3 0 0] ([some (25,[(vI .i64 a0_0),(vI .i64 a0_1),(vS a0_2),(Sl3.v a0_3)]),some (30,[(Sl3.v a1_0),(Sl3.v a1_1),(Sl3.v a1_2)])]) (B0 (o0 (A0 (C0 (m0 3 [kI 14 a2,kA 13 #[(Sl3.v a1_0),(Sl3.v a1_1),(Sl3.v a1_2)],kA 12 #[(vI .i64 a0_0),(vI .i64 a0_1),(vS a0_2),(Sl3.v a0_3)]] ?_)))))));obtain ⟨⟨x1,x2,H3⟩,hx,h⟩:=bind_some h;try dsimp only at h
 refine N0 (some 15) (v:=(Value.tuple #[(vI .i64 x1),(vB x2)])) 4 _ (zb5 hx) (m0 5 [kB 8 x2,kI 7 x1,kB 17 x2,kI 16 x1,(11,.val (Value.tuple #[(vI .i64 x1),(vB x2)]))] (B0 (o0 (A0 (C0 (m0 3 [kI 21 a2,kA 20 #[(Sl3.v a1_0),(Sl3.v a1_1),(Sl3.v a1_2)],kA 19 #[(vI .i64 a0_0),(vI .i64 a0_1),(vS a0_2),(Sl3.v a0_3)]] ?_))))));obtain ⟨⟨x4,x5,H6⟩,hx,h⟩:=bind_some h;try dsimp only at h
 refine N0 (some 22) (v:=(Value.tuple #[(vI .i64 x4),(vB x5)])) 5 _ (zgs hx) (m0 5 [kB 10 x5,kI 9 x4,kB 24 x5,kI 23 x4,(18,.val (Value.tuple #[(vI .i64 x4),(vB x5)]))] (B0 (o0 (A0 ?_))));refine D1 [0,1,3,4] [0,0,3,0,0,31,63,127,255,255,1023,2047,4095,8191,8191,32767,65535,131071,262143,524287,1048575] 21 (fun hcl=>?_);refine V0 0 (some 25) (.val (vA #[(vI .i64 a0_0),(vI .i64 a0_1),(vS a0_2),(Sl3.v a0_3)])) (V0 1 (some 26) (.val (vA #[(Sl3.v a1_0),(Sl3.v a1_1),(Sl3.v a1_2)])) (V0 3 (some 28) (.val (vA #[(vI .i64 a0_0),(vI .i64 a0_1),(vS a0_2),(Sl3.v a0_3)])) (V0 4 (some 29) (.val (vA #[(Sl3.v a1_0),(Sl3.v a1_1),(Sl3.v a1_2)])) ?_)));obtain ⟨⟨x7,H8⟩,hx,h⟩:=bind_some h;try dsimp only at h
 refine DA.on 2 (I1 2 (some 27) false (v:=(vB x7)) 6 _ (za0 hx) ?_);obtain ⟨⟨x9,H10⟩,hx,h⟩:=bind_some h;try dsimp only at h
 refine DA.on 5 (X0 5 (some 30) (v:=(vB x9)) 7 _ (zg8 hx) (M0 6 (some 31) (vB (x7 == x9)) (M0 7 (some 32) (vB (x7 == x9)) ?_)));rcases Q1 h with ⟨hp,h⟩ | ⟨hp,h⟩
 ·refine N1 32 true hp (M0 8 (some 33) (vI .i64 x1) (M0 9 (some 34) (vI .i64 x4) (M0 10 (some 35) (vB (decide (x1=x4))) (M0 11 (some 36) (vB (decide (x1=x4))) (M0 12 (some 37) (vB (decide (x1=x4))) ?_)))));rcases Q1 h with ⟨hp,h⟩ | ⟨hp,h⟩
  ·refine N1 37 true (decide_eq_true hp) (M0 13 (some 38) (vB x2) (M0 14 (some 39) (vB x5) (M0 15 (some 40) (vB (x2 == x5)) (M0 16 (some 41) (vB (x2 == x5)) (M0 17 (some 42) (vB (x2 == x5)) ?_)))));rcases Q1 h with ⟨hp,h⟩ | ⟨hp,h⟩
   ·refine N1 42 true hp ?_;obtain ⟨x11,hx,h⟩:=bind_some h;refine DA.on 18 (X0 18 (some 43) (v:=(vB x11)) 8 _ (zhb hx) (M0 19 (some 44) (vB x11) (M0 20 (some 6) (vB x11) (W0 (o0 (I0 ?_))))));cases h;exact fun a w hs=>rtR (rS hs)
   ·refine N1 42 false (b_not hp) ?_;refine C1 18 (some 43) (by kernel_rfl) (by kernel_rfl) (by kernel_rfl) hcl (fun _ _ _ h=>h) (by kernel_rfl) ?_;refine M0 19 (some 44) (vB false) (M0 20 (some 6) (vB false) (W0 (o0 (I0 ?_))));cases h;exact fun a w hs=>rtR (rS hs)
  ·refine N1 37 false (decide_eq_false hp) ?_;refine C1 13 (some 38) (by kernel_rfl) (by kernel_rfl) (by kernel_rfl) hcl (fun _ _ _ h=>h) (by kernel_rfl) ?_;refine C1 14 (some 39) (by kernel_rfl) (by kernel_rfl) (by kernel_rfl) hcl (fun _ _ _ h=>h) (by kernel_rfl) ?_;refine C1 15 (some 40) (by kernel_rfl) (by kernel_rfl) (by kernel_rfl) hcl (fun _ _ _ h=>h) (by kernel_rfl) ?_;refine M0 16 (some 41) (vB false) (M0 17 (some 42) (vB false) ?_);refine C1 18 (some 43) (by kernel_rfl) (by kernel_rfl) (by kernel_rfl) hcl (fun _ _ _ h=>h) (by kernel_rfl) ?_;refine M0 19 (some 44) (vB false) (M0 20 (some 6) (vB false) (W0 (o0 (I0 ?_))));cases h;exact fun a w hs=>rtR (rS hs)
 ·refine N1 32 false (b_not hp) ?_;refine C1 8 (some 33) (by kernel_rfl) (by kernel_rfl) (by kernel_rfl) hcl (fun _ _ _ h=>h) (by kernel_rfl) ?_;refine C1 9 (some 34) (by kernel_rfl) (by kernel_rfl) (by kernel_rfl) hcl (fun _ _ _ h=>h) (by kernel_rfl) ?_;refine C1 10 (some 35) (by kernel_rfl) (by kernel_rfl) (by kernel_rfl) hcl (fun _ _ _ h=>h) (by kernel_rfl) ?_;refine M0 11 (some 36) (vB false) (M0 12 (some 37) (vB false) ?_);refine C1 13 (some 38) (by kernel_rfl) (by kernel_rfl) (by kernel_rfl) hcl (fun _ _ _ h=>h) (by kernel_rfl) ?_;refine C1 14 (some 39) (by kernel_rfl) (by kernel_rfl) (by kernel_rfl) hcl (fun _ _ _ h=>h) (by kernel_rfl) ?_;refine C1 15 (some 40) (by kernel_rfl) (by kernel_rfl) (by kernel_rfl) hcl (fun _ _ _ h=>h) (by kernel_rfl) ?_;refine M0 16 (some 41) (vB false) (M0 17 (some 42) (vB false) ?_);refine C1 18 (some 43) (by kernel_rfl) (by kernel_rfl) (by kernel_rfl) hcl (fun _ _ _ h=>h) (by kernel_rfl) ?_;refine M0 19 (some 44) (vB false) (M0 20 (some 6) (vB false) (W0 (o0 (I0 ?_))));cases h;exact fun a w hs=>rtR (rS hs)
theorem B2:maxN=9223372036854775807:=rfl
def bs (s:ByteArray):List UInt8:=s.data.toList
theorem bs_len (s:ByteArray):(bs s).length=s.size:=by simp [bs]
theorem zm1 {s:ByteArray} {i:Nat} (hi:i<s.size) {v:Int} (hv:v=i):bytA s v=some ((((bs s).getD i 0).toNat:Nat):Int):=by
 rw [zoy hi hv];have:(bs s).getD i 0=s[i]:=by
  simp only [bs,List.getD,Array.getElem?_toList];rw [Array.getElem?_eq_getElem hi];rfl
 rw [this]
def badB (x:Nat):Bool:=decide (x<32)||(decide (x > 126)||(decide (x=124)||decide (x=92)))
def nameS (s:ByteArray):Bool :=
 !(decide (s.size<1)||decide (s.size > 200)||decide (((bs s).getD 0 0).toNat=64)||decide (((bs s).getD 0 0).toNat=46))&&!(bs s).any fun x=>badB x.toNat
theorem zk5 {α R:Type} [Inhabited α] (l:List α) (bad:α→Bool) (r:R) (d:α) :
  (List.range l.length).findSome? (fun i=>if bad (l.getD i d)=true then some r else none)=if l.any bad=true then some r else none:=by
 induction l with
 | nil=>simp
 | cons x l ih =>
  rw [List.length_cons,List.range_succ_eq_map,List.findSome?_cons,List.any_cons];cases hx:bad x with
  | true=>simp [hx]
  | false =>
   simp only [List.getD_cons_zero,hx,Bool.false_eq_true,if_false,Bool.false_or,List.findSome?_map,Function.comp_def,List.getD_cons_succ];exact ih
theorem zcq (k:Nat) {s:ByteArray} (hs:s.size≤maxN):zm (LCo k) s=some (nameS s):=by
 unfold zm nameS;by_cases h1:(s.size:Int)<1
 ·rw [if_pos h1];have:s.size<1:=by omega
  simp [this]
 ·rw [if_neg h1];have h1':¬s.size<1:=by omega
  have hp:0<s.size:=by omega
  by_cases h2:(s.size:Int) > 200
  ·rw [if_pos h2];have:s.size > 200:=by omega
   simp [this]
  ·rw [if_neg h2];have h2':¬s.size > 200:=by omega
   rw [zm1 hp (v:=0) rfl];simp only [Option.bind_some];generalize hc:((bs s).getD 0 0).toNat=c;by_cases h3:c=64
   ·subst h3; simp
   ·have h3':¬((c:Int)=64):=by omega
    rw [if_neg h3'];by_cases h4:c=46
    ·subst h4; simp
    ·have h4':¬((c:Int)=46):=by omega
     simp only [decide_eq_false h4',Option.bind_some,Bool.false_eq_true,if_false];have hl:loopO (A9 (LCo k) s) 0=some (found s.size ((List.range s.size).findSome? (fun i=>if badB ((bs s).getD i 0).toNat=true then some false else none))):=by
      refine V3 s.size hs _ (fun i hi=>?_) ?_
      ·unfold A9;rw [if_pos (by omega),zm1 hi rfl];simp only [Option.bind_some];generalize ((bs s).getD i 0).toNat=x;unfold badB;by_cases e1:x<32
       ·have:(x:Int)<32:=by omega
        simp [e1,this,stepO]
       ·have e1':¬((x:Int)<32):=by omega
        rw [if_neg e1'];by_cases e2:x > 126
        ·have:(x:Int) > 126:=by omega
         simp [e1,e2,this,stepO]
        ·have e2':¬((x:Int) > 126):=by omega
         rw [if_neg e2'];by_cases e3:x=124
         ·subst e3; simp [stepO]
         ·have e3':¬((x:Int)=124):=by omega
          rw [if_neg e3'];by_cases e4:x=92
          ·subst e4; simp [stepO]
          ·have e4':¬((x:Int)=92):=by omega
           simp [e1,e2,e3,e4,e4',stepO]
      ·unfold A9;rw [if_neg (by omega)]
     show Option.bind (loopO (A9 (LCo k) s) 0) _=_;rw [hl,← bs_len,zk5 (bs s) (fun x=>badB x.toNat) false 0];cases ha:(bs s).any fun x=>badB x.toNat with
     | true=>simp [found]
     | false=>simp [h1',h2',h3,h4,bs_len,found]
theorem zd5 (k:Nat) {s:ByteArray} (hs:s.size≤maxN):z20 (LCo k) s=some (nameS s):=by
 have:z20 (LCo k) s=zm (LCo k) s:=rfl;rw [this,zcq k hs]
theorem min_op (x:Int) (H:AH):gOp1 Tryz.prog (opsOf (cfst (cfst (csnd (cfst (cfst (csnd (cfst (csnd (csnd B67)))))))))) 8 [(23,.val (vI .i64 x))] (deI .i64) H=some (min x 257):=by
 have h:gOp1 Tryz.prog (opsOf (cfst (cfst (csnd (cfst (cfst (csnd (cfst (csnd (csnd B67)))))))))) 8 [(23,.val (vI .i64 x))] (deI .i64) H=some (if (257:Int)<x then 257 else x):=by kernel_rfl
 rw [h]
 congr 1
 split <;> omega
def hasS (l:List ByteArray) (s:ByteArray):Bool:=l.any fun x=>x.toList == s.toList
theorem zka (k:Nat) {H:AH} {sl:Sl3} {xs:List ByteArray} (h:SlL StrA 1 H sl xs) (s:ByteArray):z36 (LCo k) H sl s=some (hasS xs s):=by
 have hl:loopO (k9 (LCo k) H sl s) 0=some (found xs.length ((List.range xs.length).findSome? (fun i=>if ((xs.getD i ⟨#[]⟩).toList == s.toList)=true then some true else none))):=by
  refine V3 xs.length h.len _ (fun i hi=>?_) ?_
  ·unfold k9;have hn:=h.n;rw [if_pos (by omega)];obtain ⟨q,h1,h2⟩:=h.get hi (v:=(i:Int)) rfl;rw [h1];simp only [Option.bind_some];rw [h2.rd];simp only [deS,Option.bind_some];have:xs.getD i ⟨#[]⟩=xs[i]:=by simp [List.getD,hi]
   rw [this];cases (xs[i].toList == s.toList) <;> simp [stepO]
  ·unfold k9;have hn:=h.n;rw [if_neg (by omega)]
 unfold z36;show Option.bind (loopO (k9 (LCo k) H sl s) 0) _=_;rw [hl,zk5 xs (fun x=>x.toList == s.toList) true ⟨#[]⟩];unfold hasS;cases xs.any fun x=>x.toList == s.toList <;> simp [found]
theorem z83 {α R:Type} (l:List α) (bad:α→Bool) (f:Nat→R) (d:α) :
  ((List.range l.length).findSome? (fun i=>if bad (l.getD i d)=true then some (f i) else none)).isSome=l.any bad ∧
   ∀x,(List.range l.length).findSome? (fun i=>if bad (l.getD i d)=true then some (f i) else none)=some x→∃i,x=f i:=by
 constructor
 ·induction l generalizing f with
  | nil=>rfl
  | cons x l ih =>
   rw [List.length_cons,List.range_succ_eq_map,List.findSome?_cons,List.any_cons];cases hx:bad x with
   | true=>simp [hx]
   | false =>
    simp only [List.getD_cons_zero,hx,Bool.false_eq_true,if_false,Bool.false_or,List.findSome?_map,Function.comp_def,List.getD_cons_succ];exact ih (fun i=>f (i+1))
 ·intro x h;obtain ⟨i,_,hi⟩:=List.exists_of_findSome?_eq_some h;split at hi
  ·cases hi; exact ⟨i,rfl⟩
  ·cases hi
theorem HasT.ext {H H':AH} (h:HasT H) (hf:Ext H H'):HasT H':=fun x hx =>
 ⟨hf.2 _ _ (h x hx).2 (fun h=>h) (h x hx).1,Nat.lt_of_lt_of_le (h x hx).2 hf.1⟩
theorem znz (L:LC) {H:AH} (h:HasT H):z2o L H=some true:=by
 unfold z2o;rw [if_pos h]
end Go.Proofs.YtccbilfbhecdaaaGreatDoor
namespace Go.Proofs.YtccbilfbhecdaaaGreatDoor
open Go Go.Abs Go.ChangeShapes Go.WideShapes
set_option maxRecDepth 100000
theorem own:ownKnob Tryz.prog.godebug=none:=by kernel_rfl
theorem laidOut:laidOutB Tryz.prog=true:=by kernel_rfl
theorem zmt:globalsB Tryz.prog=true:=by kernel_rfl
theorem sane:Sane Tryz.prog (NE.plain 1000):=zq5 (fun _ _ _ _=>rfl) (by kernel_rfl) (by kernel_rfl) (by kernel_rfl)
theorem zp8 (os:Os) (args:Array Value):laidMet Tryz.prog Rows.sortCountsUptoRow.laid ((laidW2 Tryz.prog Rows.sortCountsUptoRow.laid os).forCall (fun _ _=>0) ⟨#[],args,[]⟩).memory :=
 laidMet_of_run3 8 (by kernel_rfl) (by kernel_rfl) (by kernel_rfl)
theorem zp9 (W:World) (hL:laidMet Tryz.prog Rows.sortCountsUptoRow.laid W) (hsh:W.ShapedOpen Tryz.prog):∀x∈tabs,∃fr,W.heap[x.1]? = some (.cells x.2.2 x.2.1 fr):=by
 intro x hx;simp only [tabs,List.mem_cons,List.not_mem_nil,or_false] at hx;rcases hx with rfl | rfl | rfl | rfl
 ·exact zdh (name := "strings.asciiSpace") (te:=5) (n:=256) (t:=147) hL (by kernel_rfl) (by kernel_rfl) (by kernel_rfl) (by kernel_rfl) (by kernel_rfl) (by kernel_rfl) (by kernel_rfl) (of_decide_eq_true (by kernel_rfl)) (by kernel_rfl) hsh
 ·exact zdh (name := "internal/strconv.uint64pow10") (te:=133) (n:=20) (t:=141) hL (by kernel_rfl) (by kernel_rfl) (by kernel_rfl) (by kernel_rfl) (by kernel_rfl) (by kernel_rfl) (by kernel_rfl) (of_decide_eq_true (by kernel_rfl)) (by kernel_rfl) hsh
 ·exact zdh (name := "math/bits.deBruijn32tab") (te:=5) (n:=32) (t:=156) hL (by kernel_rfl) (by kernel_rfl) (by kernel_rfl) (by kernel_rfl) (by kernel_rfl) (by kernel_rfl) (by kernel_rfl) (of_decide_eq_true (by kernel_rfl)) (by kernel_rfl) hsh
 ·exact zdh (name := "math/bits.deBruijn64tab") (te:=5) (n:=64) (t:=157) hL (by kernel_rfl) (by kernel_rfl) (by kernel_rfl) (by kernel_rfl) (by kernel_rfl) (by kernel_rfl) (by kernel_rfl) (of_decide_eq_true (by kernel_rfl)) (by kernel_rfl) hsh
theorem zmz:HasT H0:=by
 intro x hx;simp only [tabs,List.mem_cons,List.not_mem_nil,or_false] at hx;rcases hx with rfl | rfl | rfl | rfl <;> exact ⟨by kernel_rfl,by rw [show H0.next=Tryz.prog.globals.size from zef tabs,globals7]; decide⟩
theorem zp2 {W:World} (hg:Tryz.prog.globals.size≤W.heap.size) (hL:laidMet Tryz.prog Rows.sortCountsUptoRow.laid W) (hsh:W.ShapedOpen Tryz.prog):Imp Tryz.prog (φg Tryz.prog) H0 W :=
 Imp.startT hg zlq (zp9 W hL hsh)
namespace bulks
theorem one_le {H:Type} (d:DataW H):1≤Rows.uptoBulk d:=by
 cases d with
 | lit l=>cases l <;> simp [Rows.uptoBulk]
 | nil=>simp [Rows.uptoBulk]
 | ptr d=>simp [Rows.uptoBulk]
 | slice elems spare=>simp [Rows.uptoBulk]
 | agg parts=>simp [Rows.uptoBulk]
 | iface t d=>simp [Rows.uptoBulk]
 | map entries=>simp [Rows.uptoBulk]
 | held h=>simp [Rows.uptoBulk]
theorem zoi {H:Type} (l:List (DataW H)):l.length≤Rows.uptoBulkAll l:=by
 induction l with
 | nil=>simp [Rows.uptoBulkAll]
 | cons x r ih=>have:=one_le x; simp only [Rows.uptoBulkAll,List.length_cons]; omega
theorem zpu {H:Type} {d:DataW H} {l:List (DataW H)} (h:d∈l):Rows.uptoBulk d≤Rows.uptoBulkAll l:=by
 induction l with
 | nil=>cases h
 | cons x r ih =>
  simp only [Rows.uptoBulkAll];cases List.mem_cons.1 h with
  | inl e=>subst e; omega
  | inr e=>have:=ih e; omega
theorem bound {H:Type} {l:List (DataW H)} (hk:Rows.uptoSmall H l=true):Rows.uptoBulkAll l≤1048576:=of_decide_eq_true hk
end bulks
section
variable {H:Type} {enc:TypeId×Value→H} {W:World} {φ:Inj}
theorem ar3 {a a' b b' c c':Value} (h:VR φ a a') (h2:VR φ b b') (h3:VR φ c c'):AR φ #[a,b,c] #[a',b',c']:=by
 refine ⟨rfl,fun i x y hx hy=>?_⟩
 match i,hx,hy with
 | 0,hx,hy=>simp at hx hy; subst hx hy; exact h
 | 1,hx,hy=>simp at hx hy; subst hx hy; exact h2
 | 2,hx,hy=>simp at hx hy; subst hx hy; exact h3
 | i+3,hx,_=>simp at hx
theorem wf_i64 {n:Int} (h:(Lit.int .i64 n).wf=true):-9223372036854775808≤n∧n<9223372036854775808:=by
 have e1:IntKind.i64.min=-9223372036854775808:=by decide
 have e2:IntKind.i64.max=9223372036854775807:=by decide
 simp only [Lit.wf,Bool.and_eq_true,decide_eq_true_eq,e1,e2] at h;omega
end
end Go.Proofs.YtccbilfbhecdaaaGreatDoor
namespace Go.Proofs.YtccbilfbhecdaaaGreatDoor
open Go Go.Abs
set_option maxRecDepth 100000
inductive Fo where
 | nil
 | cons (k w:Int) (n:ByteArray) (a r:Fo)
def Fo.len:Fo→Nat
 | .nil=>0
 | .cons _ _ _ _ r=>r.len+1
def Fo.dep:Fo→Nat
 | .nil=>0
 | .cons _ _ _ a r=>max (a.dep+1) r.dep
def maxS:Nat:=140737488351232
structure SoC (H:AH) (q:Addr) (k w:Int) (n:ByteArray) (s:Sl3):Prop where
 ck:Cel H (q.add 0) (.int .i64 k)
 cw:Cel H (q.add 1) (.int .i64 w)
 cn:Cel H (q.add 2) (.string n)
 cs:Cel H (q.add 3) s.v
 hn:n.size≤maxS
theorem SoC.ext {H H':AH} {q:Addr} {k w:Int} {n:ByteArray} {s:Sl3} (h:SoC H q k w n s) (hf:Ext H H'):SoC H' q k w n s :=
 ⟨h.ck.ext hf,h.cw.ext hf,h.cn.ext hf,h.cs.ext hf,h.hn⟩
def FoA (H:AH):Option Addr→Nat→Fo→Prop
 | _,_,.nil=>True
 | p,i,.cons k w n a r=>(∃q s,p=some q∧SoC H (q.add (i*4)) k w n s∧s.n=a.len∧s.n≤maxN∧FoA H s.p 0 a)∧FoA H p (i+1) r
def SlF (H:AH) (s:Sl3) (f:Fo):Prop:=s.n=f.len∧s.n≤maxN∧FoA H s.p 0 f
theorem FoA.ext {H H':AH} (hf:Ext H H'):∀{f:Fo} {p:Option Addr} {i:Nat},FoA H p i f→FoA H' p i f
 | .nil,_,_,_=>trivial
 | .cons _ _ _ _ _,_,_,h=>by
  obtain ⟨⟨q,s,h1,h2,h3,h4,h5⟩,h6⟩:=h;exact ⟨⟨q,s,h1,h2.ext hf,h3,h4,FoA.ext hf h5⟩,FoA.ext hf h6⟩
theorem SlF.ext {H H':AH} {s:Sl3} {f:Fo} (h:SlF H s f) (hf:Ext H H'):SlF H' s f:=⟨h.1,h.2.1,h.2.2.ext hf⟩
theorem FoA.rd {H:AH} {s:Sl3} {i:Nat} {k w:Int} {n:ByteArray} {a r:Fo} (h:FoA H s.p i (.cons k w n a r)) (hi:i<s.n) :
  ∃q s',idxA 4 s (i:Int)=some q∧rd (deI .i64) H (Addr.add q 0)=some k∧rd (deI .i64) H (Addr.add q 1)=some w∧rd deS H (Addr.add q 2)=some n∧rd deSl H (Addr.add q 3)=some s'∧SlF H s' a∧n.size≤maxS∧FoA H s.p (i+1) r:=by
 obtain ⟨⟨q,s',h1,h2,h3,h4,h5⟩,h6⟩:=h;exact ⟨_,s',J6 h1 rfl hi,by rw [h2.ck.rd]; rfl,by rw [h2.cw.rd]; rfl,by rw [h2.cn.rd]; rfl,by rw [h2.cs.rd]; rfl,⟨h3,h4,h5⟩,h2.hn,h6⟩
def pF (d:Int):Fo→Int→Int×Bool
 | .nil,n=>(n,true)
 | .cons _ _ _ a r,n =>
  let q:=if IntKind.i64.wrap (d+1) > 16 then (0,false) else pF (IntKind.i64.wrap (d+1)) a 1
  let n':=IntKind.i64.wrap (n+q.1)
  if (!q.2||decide (n' > 256))=true then (n',false) else pF d r n'
def pS (d:Int) (a:Fo):Int×Bool:=if d > 16 then (0,false) else pF d a 1
theorem zmm (k:Nat) {H:AH}:∀(f:Fo) (s:Sl3) (i:Nat) (n d:Int) (fuel:Nat) (x0 x1:Int) (x2:ByteArray),FoA H s.p i f→s.n=i+f.len→s.n≤maxN→f.dep≤fuel →
  loopO (Z5 (LCo k) (K4 (LCo k) fuel) H x0 x1 x2 s d) (n,(i:Int))=some (if (pF d f n).2=true then .inl ((pF d f n).1,(s.n:Int)) else .inr ((pF d f n).1,false)):=by
 intro f;induction f with
 | nil =>
  intro s i n d fuel x0 x1 x2 h hn hm hd;refine Y1 ?_;simp only [Fo.len,Nat.add_zero] at hn;unfold Z5;simp only [if_neg (show ¬((i:Int)<(s.n:Int)) by omega),pF];rw [hn]
 | cons k' w' n' a r iha ihr =>
  intro s i n d fuel x0 x1 x2 h hn hm hd;simp only [Fo.len] at hn;simp only [Fo.dep] at hd;obtain ⟨q,s',r1,r2,r3,r4,r5,r6,_,r7⟩:=h.rd (by omega);obtain ⟨g,rfl⟩:∃g,fuel=g+1:=⟨fuel - 1,by omega⟩;have hrec:K4 (LCo k) (g+1) H k' w' n' s' (IntKind.i64.wrap (d+1))=some (pS (IntKind.i64.wrap (d+1)) a):=by
   show V6 (LCo k) (K4 (LCo k) g) H k' w' n' s' (IntKind.i64.wrap (d+1))=_;unfold V6 pS;split
   ·rfl
   ·have:=iha s' 0 1 (IntKind.i64.wrap (d+1)) g k' w' n' r6.2.2 (by rw [r6.1]; omega) r6.2.1 (by omega);show Option.bind (loopO (Z5 (LCo k) (K4 (LCo k) g) H k' w' n' s' (IntKind.i64.wrap (d+1))) (1,((0:Nat):Int))) _=_;rw [this];cases hq:pF (IntKind.i64.wrap (d+1)) a 1 with
    | mk y b=>cases b <;> rfl
  have hb:Z5 (LCo k) (K4 (LCo k) (g+1)) H x0 x1 x2 s d (n,(i:Int)) =
    some (if (!(pS (IntKind.i64.wrap (d+1)) a).2||decide (IntKind.i64.wrap (n+(pS (IntKind.i64.wrap (d+1)) a).1) > 256))=true then .ret (IntKind.i64.wrap (n+(pS (IntKind.i64.wrap (d+1)) a).1),false)
     else .next (IntKind.i64.wrap (n+(pS (IntKind.i64.wrap (d+1)) a).1),IntKind.i64.wrap ((i:Int)+1))):=by
   unfold Z5;simp only [if_pos (show (i:Int)<(s.n:Int) by omega),r1,r2,r3,r4,r5,Option.bind_some,hrec];cases (pS (IntKind.i64.wrap (d+1)) a).2 with
   | false=>rfl
   | true =>
    by_cases hc:IntKind.i64.wrap (n+(pS (IntKind.i64.wrap (d+1)) a).1) > 256
    ·simp [hc]
    ·simp [hc]
  have hp:pF d (.cons k' w' n' a r) n=if (!(pS (IntKind.i64.wrap (d+1)) a).2||decide (IntKind.i64.wrap (n+(pS (IntKind.i64.wrap (d+1)) a).1) > 256))=true then (IntKind.i64.wrap (n+(pS (IntKind.i64.wrap (d+1)) a).1),false) else pF d r (IntKind.i64.wrap (n+(pS (IntKind.i64.wrap (d+1)) a).1)):=rfl
  rw [hp];split at hb
  ·rename_i hc;rw [if_pos hc];exact N3 hb
  ·rename_i hc;rw [if_neg hc,W1 hb,V1 (n:=s.n) (by omega) hm];exact ihr s (i+1) _ d (g+1) x0 x1 x2 r7 (by omega) hm (by omega)
theorem zm3 (k fuel:Nat) {H:AH} {s:Sl3} {a:Fo} (h:SlF H s a) (hd:a.dep≤fuel) (x0 x1:Int) (x2:ByteArray) (d:Int):K4 (LCo k) (fuel+1) H x0 x1 x2 s d=some (pS d a):=by
 show V6 (LCo k) (K4 (LCo k) fuel) H x0 x1 x2 s d=_;unfold V6 pS;split
 ·rfl
 ·have:=zmm k a s 0 1 d fuel x0 x1 x2 h.2.2 (by rw [h.1]; omega) h.2.1 hd;show Option.bind (loopO (Z5 (LCo k) (K4 (LCo k) fuel) H x0 x1 x2 s d) (1,((0:Nat):Int))) _=_;rw [this];cases hq:pF d a 1 with
  | mk y b=>cases b <;> rfl
def qF:Fo→Int→Int
 | .nil,n=>n
 | .cons _ _ _ a r,n=>if n≤256 then qF r (min (IntKind.i64.wrap (n+qF a 1)) 257) else n
theorem zif (k:Nat) {H:AH}:∀(f:Fo) (s:Sl3) (i:Nat) (n:Int) (fuel:Nat) (x0 x1:Int) (x2:ByteArray),FoA H s.p i f→s.n=i+f.len→s.n≤maxN→f.dep≤fuel →
  ∃j,loopO (N4 (LCo k) (A4 (LCo k) fuel) H x0 x1 x2 s) (n,(i:Int))=some (.inl (qF f n,j)):=by
 intro f;induction f with
 | nil =>
  intro s i n fuel x0 x1 x2 h hn hm hd;refine ⟨_,Y1 (s':=(n,(i:Int))) ?_⟩;simp only [Fo.len,Nat.add_zero] at hn;unfold N4;simp only [if_neg (show ¬((i:Int)<(s.n:Int)) by omega)];rfl
 | cons k' w' n' a r iha ihr =>
  intro s i n fuel x0 x1 x2 h hn hm hd;simp only [Fo.len] at hn;simp only [Fo.dep] at hd;obtain ⟨q,s',r1,r2,r3,r4,r5,r6,_,r7⟩:=h.rd (by omega);obtain ⟨g,rfl⟩:∃g,fuel=g+1:=⟨fuel - 1,by omega⟩;by_cases hc:n≤256
  ·have hrec:A4 (LCo k) (g+1) H k' w' n' s'=some (qF a 1):=by
    show i6 (LCo k) (A4 (LCo k) g) H k' w' n' s'=_;unfold i6;obtain ⟨j,hj⟩:=iha s' 0 1 g k' w' n' r6.2.2 (by rw [r6.1]; omega) r6.2.1 (by omega);show Option.bind (loopO (N4 (LCo k) (A4 (LCo k) g) H k' w' n' s') (1,((0:Nat):Int))) _=_;rw [hj];rfl
   have hb:N4 (LCo k) (A4 (LCo k) (g+1)) H x0 x1 x2 s (n,(i:Int))=some (.next (min (IntKind.i64.wrap (n+qF a 1)) 257,IntKind.i64.wrap ((i:Int)+1))):=by
    unfold N4;simp only [if_pos (show (i:Int)<(s.n:Int) by omega),r1,r2,r3,r4,r5,Option.bind_some,hrec,decide_eq_true hc,if_true];rw [min_op];rfl
   obtain ⟨j,hj⟩:=ihr s (i+1) (min (IntKind.i64.wrap (n+qF a 1)) 257) (g+1) x0 x1 x2 r7 (by omega) hm (by omega);refine ⟨j,?_⟩;rw [W1 hb,V1 (n:=s.n) (by omega) hm,hj];simp only [qF,if_pos hc]
  ·refine ⟨(i:Int),Y1 ?_⟩;unfold N4;simp [if_pos (show (i:Int)<(s.n:Int) by omega),hc,qF]
theorem zio (k fuel:Nat) {H:AH} {s:Sl3} {a:Fo} (h:SlF H s a) (hd:a.dep≤fuel) (x0 x1:Int) (x2:ByteArray):A4 (LCo k) (fuel+1) H x0 x1 x2 s=some (qF a 1):=by
 show i6 (LCo k) (A4 (LCo k) fuel) H x0 x1 x2 s=_;unfold i6;obtain ⟨j,hj⟩:=zif k a s 0 1 fuel x0 x1 x2 h.2.2 (by rw [h.1]; omega) h.2.1 hd;show Option.bind (loopO (N4 (LCo k) (A4 (LCo k) fuel) H x0 x1 x2 s) (1,((0:Nat):Int))) _=_;rw [hj];rfl
def dF (most:Int):Fo→Bool
 | .nil=>false
 | .cons _ _ _ a r=>(if IntKind.i64.wrap (most - 1)=0 then true else dF (IntKind.i64.wrap (most - 1)) a)||dF most r
def dS (most:Int) (a:Fo):Bool:=if most=0 then true else dF most a
theorem zof (k:Nat) {H:AH}:∀(f:Fo) (s:Sl3) (i:Nat) (d:Int) (fuel:Nat) (x0 x1:Int) (x2:ByteArray),FoA H s.p i f→s.n=i+f.len→s.n≤maxN→f.dep≤fuel →
  ∃j,loopO (a6 (LCo k) (J4 (LCo k) fuel) H x0 x1 x2 s d) (i:Int)=some (if dF d f=true then .inr true else .inl j):=by
 intro f;induction f with
 | nil =>
  intro s i d fuel x0 x1 x2 h hn hm hd;refine ⟨(i:Int),Y1 ?_⟩;simp only [Fo.len,Nat.add_zero] at hn;unfold a6;rw [if_neg (show ¬((i:Int)<(s.n:Int)) by omega)]
 | cons k' w' n' a r iha ihr =>
  intro s i d fuel x0 x1 x2 h hn hm hd;simp only [Fo.len] at hn;simp only [Fo.dep] at hd;obtain ⟨q,s',r1,r2,r3,r4,r5,r6,_,r7⟩:=h.rd (by omega);obtain ⟨g,rfl⟩:∃g,fuel=g+1:=⟨fuel - 1,by omega⟩;have hrec:J4 (LCo k) (g+1) H k' w' n' s' (IntKind.i64.wrap (d - 1))=some (dS (IntKind.i64.wrap (d - 1)) a):=by
   show S6 (LCo k) (J4 (LCo k) g) H k' w' n' s' (IntKind.i64.wrap (d - 1))=_;unfold S6 dS;split
   ·rfl
   ·obtain ⟨j,hj⟩:=iha s' 0 (IntKind.i64.wrap (d - 1)) g k' w' n' r6.2.2 (by rw [r6.1]; omega) r6.2.1 (by omega);show Option.bind (loopO (a6 (LCo k) (J4 (LCo k) g) H k' w' n' s' (IntKind.i64.wrap (d - 1))) ((0:Nat):Int)) _=_;rw [hj];cases dF (IntKind.i64.wrap (d - 1)) a <;> rfl
  have hb:a6 (LCo k) (J4 (LCo k) (g+1)) H x0 x1 x2 s d (i:Int)=some (if dS (IntKind.i64.wrap (d - 1)) a=true then .ret true else .next (IntKind.i64.wrap ((i:Int)+1))):=by
   unfold a6;simp only [if_pos (show (i:Int)<(s.n:Int) by omega),r1,r2,r3,r4,r5,Option.bind_some,hrec];cases dS (IntKind.i64.wrap (d - 1)) a <;> rfl
  have hp:dF d (.cons k' w' n' a r)=(dS (IntKind.i64.wrap (d - 1)) a||dF d r):=rfl;rw [hp];cases hc:dS (IntKind.i64.wrap (d - 1)) a with
  | true =>
   rw [hc] at hb;exact ⟨0,N3 hb⟩
  | false =>
   rw [hc] at hb;simp only [Bool.false_eq_true,if_false] at hb;rw [W1 hb,V1 (n:=s.n) (by omega) hm];simp only [Bool.false_or];exact ihr s (i+1) d (g+1) x0 x1 x2 r7 (by omega) hm (by omega)
theorem zol (k fuel:Nat) {H:AH} {s:Sl3} {a:Fo} (h:SlF H s a) (hd:a.dep≤fuel) (x0 x1:Int) (x2:ByteArray) (d:Int):J4 (LCo k) (fuel+1) H x0 x1 x2 s d=some (dS d a):=by
 show S6 (LCo k) (J4 (LCo k) fuel) H x0 x1 x2 s d=_;unfold S6 dS;split
 ·rfl
 ·obtain ⟨j,hj⟩:=zof k a s 0 d fuel x0 x1 x2 h.2.2 (by rw [h.1]; omega) h.2.1 hd;show Option.bind (loopO (a6 (LCo k) (J4 (LCo k) fuel) H x0 x1 x2 s d) ((0:Nat):Int)) _=_;rw [hj];cases dF d a <;> rfl
def Fo.size:Fo→Nat
 | .nil=>0
 | .cons _ _ _ a r=>a.size+1+r.size
end Go.Proofs.YtccbilfbhecdaaaGreatDoor
namespace Go.Proofs.YtccbilfbhecdaaaGreatDoor
open Go Go.Abs Go.ChangeShapes Go.WideShapes
set_option maxRecDepth 100000
theorem cells28:Tryz.prog.cellsOf 25=4:=by kernel_rfl
theorem cells25:Tryz.prog.cellsOf 22=1:=by kernel_rfl
theorem cells3:Tryz.prog.cellsOf 3=1:=by kernel_rfl
theorem cells9:Tryz.prog.cellsOf 9=1:=by kernel_rfl
theorem cells26:Tryz.prog.cellsOf 23=1:=by kernel_rfl
structure SortV (H:AH) (cs:List Value) (b:(Int×Int×ByteArray×Fo)):Prop where
 ex:∃s,cs=[.int .i64 b.1,.int .i64 b.2.1,.string b.2.2.1,Sl3.v s]∧b.2.2.1.size≤maxS∧SlF H s b.2.2.2
def foOf:List (Int×Int×ByteArray×Fo)→Fo
 | []=>.nil
 | x :: l=>.cons x.1 x.2.1 x.2.2.1 x.2.2.2 (foOf l)
theorem zj6:∀l,(foOf l).len=l.length
 | []=>rfl
 | x :: l=>by simp [foOf,Fo.len,zj6 l]
theorem SortV.ext (H H':AH) (cs:List Value) (b:(Int×Int×ByteArray×Fo)) (hf:Ext H H') (h:SortV H cs b):SortV H' cs b:=by
 obtain ⟨s,h1,h2,h3⟩:=h.ex;exact ⟨s,h1,h2,h3.ext hf⟩
theorem znc {H:AH} {q:Addr} {b:(Int×Int×ByteArray×Fo)} (h:Stands 4 SortV H q b):∃s,SoC H q b.1 b.2.1 b.2.2.1 s∧SlF H s b.2.2.2:=by
 obtain ⟨cs,h1,h2,h3⟩:=h;obtain ⟨s,rfl,h4,h5⟩:=h3.ex;exact ⟨s,⟨h2 0 _ rfl,h2 1 _ rfl,h2 2 _ rfl,h2 3 _ rfl,h4⟩,h5⟩
theorem slF_of {H:AH} {s:Sl3} {l:List (Int×Int×ByteArray×Fo)} (h:SlL (Stands 4 SortV) 4 H s l):SlF H s (foOf l):=by
 refine ⟨by rw [zj6]; exact h.n,h.top,?_⟩;have key:∀(l:List (Int×Int×ByteArray×Fo)) (p:Option Addr) (i:Nat),LAt (Stands 4 SortV) 4 H p i l→FoA H p i (foOf l):=by
  intro l;induction l with
  | nil=>intro p i _; trivial
  | cons x l ih =>
   intro p i h;obtain ⟨⟨a,h1,h2⟩,h3⟩:=h;obtain ⟨s,h4,h5⟩:=znc h2;exact ⟨⟨a,s,h1,h4,h5.1,h5.2.1,h5.2.2⟩,ih p (i+1) h3⟩
 exact key l s.p 0 h.at_
section
variable {H:Type} {enc:TypeId×Value→H} {W:World}
theorem wt_all {l:List Nat} (h:l.all (·≤reachBytes)=true) {n:Nat} (hn:n∈l):n≤maxS:=by
 rw [List.all_eq_true] at h;have:=h n hn;simp only [decide_eq_true_eq] at this;exact this
theorem z9v {P:Program} {e:TypeId}:∀{l:List (DataW H)} {d:DataW H},d∈l→∀n∈d.weights P e,n∈DataW.weightsAll P e l
 | x :: l,d,hd,n,hn=>by
  simp only [DataW.weightsAll,List.mem_append];rcases List.mem_cons.1 hd with rfl | hd
  ·exact .inl hn
  ·exact .inr (z9v hd n hn)
theorem ze {t e:TypeId} {sz:Nat} (ht:Tryz.prog.underlying t=some (.slice e)) (hc:Tryz.prog.cellsOf e=sz) (hsz:0<sz) {β:Type} {R:AH→List Value→β→Prop} (hR:∀H H' cs b,Ext H H'→R H cs b→R H' cs b)
  {fuel:Nat} {cs:List Value} {x:DataW H×List MemPlace} (elem:∀n,n<fuel→∀cs y,DataW.trod enc Tryz.prog W 0 (fun _=>true) true n e cs=some y→(y.1.weights Tryz.prog e).all (·≤reachBytes)=true→Rows.uptoBulk y.1≤Rows.uptoBulk x.1→ElemIn Tryz.prog W sz R cs)
  (hx:DataW.trod enc Tryz.prog W 0 (fun _=>true) true fuel t cs=some x) (hw:(x.1.weights Tryz.prog t).all (·≤reachBytes)=true) {φ:Inj} {H0:AH} (h:Imp Tryz.prog φ H0 W) :
  ∃v φ' H' s bs,cs=[v]∧Imp Tryz.prog φ' H' W∧φ.le φ'∧Ext H0 H'∧VR φ' (Sl3.v s) v∧SlL (Stands sz R) sz H' s (bs:List β)∧(0<Tryz.prog.bytesOf e→bs.length≤maxS)∧bs.length≤Rows.uptoBulk x.1:=by
 rcases DataW.trod_slice ht hx with ⟨rfl,rfl⟩ | ⟨a,len,cap,elems,rest,n,rfl,rfl,rfl,hb,hl,hm,hlen,hel,hsp,_⟩
 ·obtain ⟨φ',H',s,bs,h1,h2,h3,h4,h5,h6⟩:=Imp.slice (n:=0) (c:=0) (A:=none) hsz hR h z6g (Nat.le_refl _) (Nat.zero_le _) (fun _=>rfl) (C:=fun _=>[]) (fun i hi=>absurd hi (Nat.not_lt_zero _)) (fun a ha=>by cases ha) (fun a ha=>by cases ha);exact ⟨_,φ',H',s,bs,rfl,h1,h2,h3,h4,h5,fun _=>by omega,by omega⟩
 ·have get:∀i,i<len→∃cs' y,W.cells? 0 (a.add (i*sz)) sz=some cs'∧DataW.trod enc Tryz.prog W 0 (fun _=>true) true n e cs'=some y∧y∈elems:=by
   intro i hi;have:=hel i hi;rw [hc,List.getElem?_eq_getElem (by omega)] at this;obtain ⟨cs',h1,h2⟩:=Option.bind_eq_some_iff.1 this;exact ⟨cs',_,h1,h2,List.getElem_mem _⟩
  have hww:∀y∈elems,(y.1.weights Tryz.prog e).all (·≤reachBytes)=true:=by
   intro y hy;rw [List.all_eq_true];intro w hw';rw [List.all_eq_true] at hw;refine hw w ?_;simp only [DataW.weights,ht,List.mem_cons,List.mem_append];exact .inr (.inl (z9v (List.mem_map.2 ⟨y,hy,rfl⟩) w hw'))
  obtain ⟨φ',H',s,bs,h1,h2,h3,h4,h5,h6⟩:=Imp.slice (n:=len) (c:=cap) (A:=some a) hsz hR h z6g hl hm (fun h=>by cases h) (C:=fun i=>(W.cells? 0 (a.add (i*sz)) sz).getD []) (fun i hi=>by
    obtain ⟨cs',y,g1,g2,g3⟩:=get i hi;simp only [g1,Option.getD_some];exact elem n (Nat.lt_succ_self n) cs' y g2 (hww y g3) (by
     have:=bulks.zpu (List.mem_map.2 ⟨y,g3,rfl⟩:y.1∈elems.map (·.1));simp only [Rows.uptoBulk];omega)) (fun a' ha' hpos=>by
    cases ha';by_cases h0:0<len
    ·obtain ⟨cs',y,g1,g2,g3⟩:=get 0 h0;obtain ⟨_,k2,k3⟩:=World.cells?_some g1;have:=k3 0 hsz;rw [Nat.zero_mul,add_zero,add_zero] at this;exact ⟨_,this.trans (List.getElem?_eq_getElem (by omega))⟩
    ·obtain rfl:len=0:=by omega
     obtain ⟨q1,q2⟩:=hsp rfl;have:=q2 0 (by omega);rw [hc,List.getElem?_eq_getElem (by omega)] at this;obtain ⟨cs',g1,g2⟩:=Option.bind_eq_some_iff.1 this;obtain ⟨_,k2,k3⟩:=World.cells?_some g1;have:=k3 0 hsz;rw [Nat.zero_add,Nat.zero_mul,add_zero,add_zero] at this;exact ⟨_,this.trans (List.getElem?_eq_getElem (by omega))⟩) (fun a' ha' i hi j hj=>by
    cases ha';obtain ⟨cs',y,g1,g2,g3⟩:=get i hi;obtain ⟨_,k2,k3⟩:=World.cells?_some g1;have:=k3 j hj;simp only [g1,Option.getD_some];rw [← this];have hsp:a.spot=none:=by
     obtain ⟨cs0,y0,g1,g2,g3⟩:=get 0 (by omega);obtain ⟨_,k2,k3⟩:=World.cells?_some g1;have k0:=k3 0 hsz;rw [Nat.zero_mul,add_zero,add_zero] at k0;obtain ⟨_,_,_,_,hs,_⟩:=z66 (k0.trans (List.getElem?_eq_getElem (by omega)));exact hs
    rw [I5 hsp])
  refine ⟨_,φ',H',s,bs,rfl,h1,h2,h3,h4,h5,fun hbe=>?_,by
   have:=bulks.zoi (elems.map (·.1));rw [List.length_map] at this;simp only [Rows.uptoBulk];omega⟩
  have hm:(elems.length+rest.length)*Tryz.prog.bytesOf e≤maxS:=wt_all hw (by simp [DataW.weights,ht]);have h7:elems.length+rest.length≤(elems.length+rest.length)*Tryz.prog.bytesOf e:=Nat.le_mul_of_pos_right _ hbe;omega
theorem z6x {fuel:Nat} {t:TypeId} (ht:Tryz.prog.underlying t=some .string) {cs:List Value} {x:DataW H×List MemPlace} (h:DataW.trod enc Tryz.prog W 0 (fun _=>true) true fuel t cs=some x) (hw:(x.1.weights Tryz.prog t).all (·≤reachBytes)=true) :
  ∃s,cs=[.string s]∧s.size≤maxS:=by
 obtain ⟨s,rfl,rfl,_⟩:=DataW.trod_string ht h;refine ⟨s,rfl,?_⟩;have:=wt_all hw (n:=s.data.toList.length) (by simp [DataW.weights])
 simpa using this
theorem z3l:∀(fuel:Nat) (cs:List Value) (x:DataW H×List MemPlace),DataW.trod enc Tryz.prog W 0 (fun _=>true) true fuel 25 cs=some x→(x.1.weights Tryz.prog 25).all (·≤reachBytes)=true→ElemIn Tryz.prog W 4 SortV cs:=by
 intro fuel;induction fuel using Nat.strongRecOn with
 | ind fuel ih =>
  intro cs x hx hw φ H0 h;obtain ⟨xs,n,rfl,rfl,hl,hlen,hf⟩:=DataW.trod_struct Tryz.underlying25 hx;rw [cells28] at hl
  match xs,hlen with
  | [y0,y1,y2,y3],_ =>
   match cs,hl with
   | [c0,c1,c2,c3],_ =>
    have f0:DataW.trod enc Tryz.prog W 0 (fun _=>true) true n 22 (([c0,c1,c2,c3].drop 0).take (Tryz.prog.cellsOf 22))=some y0:=hf 0 _ rfl;rw [cells25] at f0;change DataW.trod enc Tryz.prog W 0 (fun _=>true) true n 22 [c0]=some y0 at f0;have f1:DataW.trod enc Tryz.prog W 0 (fun _=>true) true n 3 (([c0,c1,c2,c3].drop 1).take (Tryz.prog.cellsOf 3))=some y1:=hf 1 _ rfl;rw [cells3] at f1;change DataW.trod enc Tryz.prog W 0 (fun _=>true) true n 3 [c1]=some y1 at f1;have f2:DataW.trod enc Tryz.prog W 0 (fun _=>true) true n 9 (([c0,c1,c2,c3].drop 2).take (Tryz.prog.cellsOf 9))=some y2:=hf 2 _ rfl;rw [cells9] at f2;change DataW.trod enc Tryz.prog W 0 (fun _=>true) true n 9 [c2]=some y2 at f2;have f3:DataW.trod enc Tryz.prog W 0 (fun _=>true) true n 23 (([c0,c1,c2,c3].drop 3).take (Tryz.prog.cellsOf 23))=some y3:=hf 3 _ rfl;rw [cells26] at f3;change DataW.trod enc Tryz.prog W 0 (fun _=>true) true n 23 [c3]=some y3 at f3;simp only [DataW.weights,Tryz.underlying25,List.map_cons,List.map_nil,DataW.weightsEach,List.append_nil,List.all_append,Bool.and_eq_true] at hw;obtain ⟨n0,e0,_,_⟩:=DataW.trod_int Tryz.underlying22 f0;obtain ⟨n1,e1,_,_⟩:=DataW.trod_int Tryz.underlying3 f1;obtain ⟨s2,e2,hs2⟩:=z6x Tryz.underlying9 f2 hw.2.2.1;obtain ⟨v,φ',H',s,bs,e3,g1,g2,g3,g4,g5,_⟩:=ze (enc:=enc) Tryz.underlying23 cells28 (by omega) SortV.ext (fun m hm cs x q1 q2 _=>ih m (by omega) cs x q1 q2) f3 hw.2.2.2 h;simp only [List.cons.injEq,and_true] at e0 e1 e2 e3;subst e0 e1 e2 e3;exact ⟨φ',H',[.int .i64 n0,.int .i64 n1,.string s2,Sl3.v s],(n0,n1,s2,foOf bs),g1,g2,g3,rfl,rfl,.cons (.int _ _) (.cons (.int _ _) (.cons (.string _) (.cons g4 .nil))),⟨s,rfl,hs2,slF_of g5⟩⟩
theorem zlc {φ:Inj} {H0:AH} (h:Imp Tryz.prog φ H0 W) {v:Value} {d:DataW H} {ps:List MemPlace} {base:Nat} (hd:DataW.Trod enc Tryz.prog W 0 (fun _=>true) true 25 v d ps) (hv:Value.okWide Tryz.prog W .any base 25 v)
  (hw:(d.weights Tryz.prog 25).all (·≤reachBytes)=true):∃φ' H' k w n s a,Imp Tryz.prog φ' H' W∧φ.le φ'∧Ext H0 H'∧VR φ' (.agg #[.int .i64 k,.int .i64 w,.string n,Sl3.v s]) v∧SlF H' s a∧n.size≤maxS:=by
 obtain ⟨fuel,hf⟩:=hd;have hvv:=hv;simp only [Value.okWide,Tryz.underlying25] at hvv;obtain ⟨cs,rfl,hs,_⟩:=hvv;obtain ⟨φ',H',cs',b,h1,h2,h3,h4,h5,h6,h7⟩:=z3l fuel _ _ hf hw φ H0 h;obtain ⟨s,rfl,h8,h9⟩:=h7.ex;refine ⟨φ',H',b.1,b.2.1,b.2.2.1,s,b.2.2.2,h1,h2,h3,?_,h9,h8⟩;have hg:=b9 h6;exact .agg _ _ (by have:=hg.1; simpa [Value.cells] using this) fun i x y hx hy=>hg.2 i x y (by simpa using hx) (by simpa [Value.cells] using hy)
end
end Go.Proofs.YtccbilfbhecdaaaGreatDoor
namespace Go.Proofs.YtccbilfbhecdaaaGreatDoor
open Go Go.Abs
open Go.Value renaming int → vI, string → vS, pointer → vP, agg → vA, bool → vB
set_option maxRecDepth 100000
theorem z62 {x:Int} (h0:-1000000≤x) (h1:x≤1000000):IntKind.i64.wrap x=x:=U2 (by omega) (by omega)
theorem dF_eq:∀(f:Fo) (m:Nat),1≤m→m≤100→dF (m:Int) f=decide (m≤f.dep):=by
 intro f;induction f with
 | nil=>intro m h1 h2; simp [dF,Fo.dep]; omega
 | cons k w n a r iha ihr =>
  intro m h1 h2;have e:IntKind.i64.wrap ((m:Int) - 1)=((m - 1:Nat):Int):=by rw [z62 (by omega) (by omega)]; omega
  simp only [dF,e,Fo.dep];rw [ihr m h1 h2];by_cases hm:m=1
  ·subst hm;have:1≤max (a.dep+1) r.dep:=by omega
   simp [this]
  ·rw [if_neg (show ¬(((m - 1:Nat):Int)=0) by omega),iha (m - 1) (by omega) (by omega)];by_cases h3:m - 1≤a.dep
   ·have:m≤max (a.dep+1) r.dep:=by omega
    simp [h3,this]
   ·by_cases h4:m≤r.dep
    ·have:m≤max (a.dep+1) r.dep:=by omega
     simp [h4,this]
    ·have:¬m≤max (a.dep+1) r.dep:=by omega
     simp [h3,h4,this]
theorem qF_eq:∀(f:Fo) (n:Nat),n≤257→qF f (n:Int)=((min (n+f.size) 257:Nat):Int):=by
 intro f;induction f with
 | nil=>intro n h; simp only [qF,Fo.size]; omega
 | cons k w nm a r iha ihr =>
  intro n h;simp only [qF,Fo.size];by_cases hn:(n:Int)≤256
  ·rw [if_pos hn];have e1:=iha 1 (by omega);rw [show ((1:Nat):Int)=1 from rfl] at e1;rw [e1,z62 (by omega) (by omega)];have:(min ((n:Int)+((min (1+a.size) 257:Nat):Int)) 257)=((min (n+min (1+a.size) 257) 257:Nat):Int):=by omega
   rw [this,ihr _ (by omega)];omega
  ·rw [if_neg hn]; omega
theorem pF_eq:∀(f:Fo) (d n:Nat),1≤d→d≤16→n≤256 →
  (pF (d:Int) f (n:Int)).2=decide (d+f.dep≤16∧n+f.size≤256)∧((pF (d:Int) f (n:Int)).2=true→(pF (d:Int) f (n:Int)).1=((n+f.size:Nat):Int)):=by
 intro f;induction f with
 | nil =>
  intro d n h1 h2 h3;simp only [pF,Fo.dep,Fo.size];exact ⟨(decide_eq_true (show d+0≤16∧n+0≤256 by omega)).symm,fun _=>by simp⟩
 | cons k w nm a r iha ihr =>
  intro d n h1 h2 h3;have e:IntKind.i64.wrap ((d:Int)+1)=((d+1:Nat):Int):=by rw [z62 (by omega) (by omega)]; omega
  have hp:pF (d:Int) (.cons k w nm a r) (n:Int)=if (!(pS (IntKind.i64.wrap ((d:Int)+1)) a).2||decide (IntKind.i64.wrap ((n:Int)+(pS (IntKind.i64.wrap ((d:Int)+1)) a).1) > 256))=true then (IntKind.i64.wrap ((n:Int)+(pS (IntKind.i64.wrap ((d:Int)+1)) a).1),false) else pF (d:Int) r (IntKind.i64.wrap ((n:Int)+(pS (IntKind.i64.wrap ((d:Int)+1)) a).1)):=rfl
  rw [hp,e];have hq:(pS ((d+1:Nat):Int) a).2=decide (d+1+a.dep≤16∧1+a.size≤256)∧((pS ((d+1:Nat):Int) a).2=true→(pS ((d+1:Nat):Int) a).1=((1+a.size:Nat):Int)):=by
   unfold pS;by_cases hd:d+1≤16
   ·rw [if_neg (show ¬(((d+1:Nat):Int) > 16) by omega)];exact iha (d+1) 1 (by omega) hd (by omega)
   ·rw [if_pos (show (((d+1:Nat):Int) > 16) by omega)];exact ⟨(decide_eq_false (by omega)).symm,fun h=>by cases h⟩
  generalize pS ((d+1:Nat):Int) a=q at hq ⊢;obtain ⟨q1,q2⟩:=hq;simp only [Fo.dep,Fo.size];by_cases hc:d+1+a.dep≤16∧1+a.size≤256
  ·have q1':q.2=true:=by rw [q1]; exact decide_eq_true hc
   have q2':=q2 q1';have e2:IntKind.i64.wrap ((n:Int)+q.1)=((n+(1+a.size):Nat):Int):=by rw [q2',z62 (by omega) (by omega)]; omega
   rw [e2,q1'];by_cases h5:n+(1+a.size)≤256
   ·have:¬(((n+(1+a.size):Nat):Int) > 256):=by omega
    simp only [Bool.not_true,decide_eq_false this,Bool.or_self,Bool.false_eq_true,if_false];obtain ⟨p1,p2⟩:=ihr d (n+(1+a.size)) h1 h2 h5;refine ⟨?_,fun hh=>?_⟩
    ·rw [p1]
     congr 1
     apply propext;constructor <;> intro hh <;> omega
    ·rw [p2 hh]; omega
   ·have:((n+(1+a.size):Nat):Int) > 256:=by omega
    simp only [decide_eq_true this,Bool.or_true,if_true];exact ⟨(decide_eq_false (by omega)).symm,fun h=>by cases h⟩
  ·have q1':q.2=false:=by rw [q1]; exact decide_eq_false hc
   rw [q1'];simp only [Bool.not_false,Bool.true_or,if_true];exact ⟨(decide_eq_false (by omega)).symm,fun h=>by cases h⟩
def fewS (a:Fo):Bool:=decide (1+a.dep≤16∧1+a.size≤256)
theorem pS_few (a:Fo):(pS 1 a).2=fewS a:=by
 unfold pS fewS;rw [if_neg (by omega)];exact (pF_eq a 1 1 (by omega) (by omega) (by omega)).1
def emptyT:ByteArray:=⟨#[]⟩
def headS (k w:Int) (n:ByteArray) (l:Nat):Bool :=
 if k=1∨k=2 then decide (w=0)&&(n.toList == emptyT.toList)&&decide (l=0)
 else if k=3 then decide (w≥1)&&decide (w≤4096)&&(n.toList == emptyT.toList)&&decide (l=0)
 else if k=4 then decide (w=0)&&(n.toList == emptyT.toList)&&decide (l=2)
 else if k=5∨k=6 then decide (w=0)&&nameS n&&decide (l=0)
 else false
def shF:Fo→Bool
 | .nil=>true
 | .cons k w n a r=>headS k w n a.len&&shF a&&shF r
def shS (k w:Int) (n:ByteArray) (a:Fo):Bool:=headS k w n a.len&&shF a
theorem z8b {n:ByteArray} (h:n.size≤maxS):n.size≤maxN:=by rw [B2]; unfold maxS at h; omega
theorem zkh (c:Nat) {H:AH}:∀(f:Fo),(∀(fuel:Nat) (k w:Int) (n:ByteArray) (s:Sl3) (a:Fo),SlF H s a→n.size≤maxS→a.dep≤fuel→a.dep<f.dep→U5 (LCo c) (fuel+1) H k w n s=some (shS k w n a)) →
  ∀(s:Sl3) (i:Nat) (b:Bool) (fuel:Nat) (x0 x1:Int) (x2:ByteArray),FoA H s.p i f→s.n=i+f.len→s.n≤maxN→f.dep≤fuel →
  ∃j,loopO (N6 (LCo c) (U5 (LCo c) fuel) H x0 x1 x2 s) (b,(i:Int))=some (.inl (b&&shF f,j)):=by
 intro f;induction f with
 | nil =>
  intro hrec s i b fuel x0 x1 x2 h hn hm hd;refine ⟨(i:Int),Y1 (s':=(b&&shF .nil,(i:Int))) ?_⟩;simp only [Fo.len,Nat.add_zero] at hn;unfold N6;simp only [if_neg (show ¬((i:Int)<(s.n:Int)) by omega),shF,Bool.and_true]
 | cons k' w' n' a r iha ihr =>
  intro hrec s i b fuel x0 x1 x2 h hn hm hd;simp only [Fo.len] at hn;simp only [Fo.dep] at hd hrec;obtain ⟨q,s',r1,r2,r3,r4,r5,r6,r8,r7⟩:=h.rd (by omega);obtain ⟨g,rfl⟩:∃g,fuel=g+1:=⟨fuel - 1,by omega⟩;have hr:=hrec g k' w' n' s' a r6 r8 (by omega) (by omega);have hb:N6 (LCo c) (U5 (LCo c) (g+1)) H x0 x1 x2 s (b,(i:Int))=some (.next (b&&shS k' w' n' a,IntKind.i64.wrap ((i:Int)+1))):=by
   unfold N6;simp only [if_pos (show (i:Int)<(s.n:Int) by omega),r1,r2,r3,r4,r5,Option.bind_some,hr];cases b <;> rfl
  obtain ⟨j,hj⟩:=ihr (fun fuel k w n s a h1 h2 h3 h4=>hrec fuel k w n s a h1 h2 h3 (by omega)) s (i+1) (b&&shS k' w' n' a) (g+1) x0 x1 x2 r7 (by omega) hm (by omega);refine ⟨j,?_⟩;rw [W1 hb,V1 (n:=s.n) (by omega) hm,hj];simp only [shF,shS,Bool.and_assoc]
theorem zl2 (c:Nat) {k w:Int} {n:ByteArray} {l:Nat} (hn:n.size≤maxS) :
  (Option.bind (α:=Bool) (if k=1 then some true else some (decide (k=2))) fun v8_2 => if v8_2=true then
   if w=0 then if (n.toList == (⟨#[]⟩:ByteArray).toList)=true then some (decide ((l:Int)=0)) else some false else some false
  else
   if k=3 then
    if w≥1 then if w≤4096 then if (n.toList == (⟨#[]⟩:ByteArray).toList)=true then some (decide ((l:Int)=0)) else some false else some false else some false
   else
    if k=4 then
     if w=0 then if (n.toList == (⟨#[]⟩:ByteArray).toList)=true then some (decide ((l:Int)=2)) else some false else some false
    else
     Option.bind (α:=Bool) (if k=5 then some true else some (decide (k=6))) fun v62_3 => if v62_3=true then
      if w=0 then (zm (LCo c) n).bind fun x4=>if x4=true then some (decide ((l:Int)=0)) else some false else some false
     else some false)=some (headS k w n l):=by
 have hN:=zcq c (z8b hn);have e0:decide ((l:Int)=0)=decide (l=0):=by congr 1; apply propext; omega
 have e2:decide ((l:Int)=2)=decide (l=2):=by congr 1; apply propext; omega
 rw [e0,e2];unfold headS emptyT;generalize (n.toList == (⟨#[]⟩:ByteArray).toList)=bn;by_cases h1:k=1
 ·subst h1;by_cases hw:w=0 <;> cases bn <;> simp [hw]
 ·by_cases h2:k=2
  ·subst h2;by_cases hw:w=0 <;> cases bn <;> simp [hw]
  ·by_cases h3:k=3
   ·subst h3;by_cases hw:w≥1 <;> by_cases hw2:w≤4096 <;> cases bn <;> simp [hw,hw2]
   ·by_cases h4:k=4
    ·subst h4;by_cases hw:w=0 <;> cases bn <;> simp [hw]
    ·by_cases h5:k=5
     ·subst h5;by_cases hw:w=0
      ·simp only [hw,hN,Option.bind_some];cases nameS n <;> simp
      ·simp [hw]
     ·by_cases h6:k=6
      ·subst h6;by_cases hw:w=0
       ·simp only [hw,hN,Option.bind_some];cases nameS n <;> simp
       ·simp [hw]
      ·simp [h1,h2,h3,h4,h5,h6]
theorem zkp (c:Nat) {H:AH}:∀(d:Nat) (fuel:Nat) (k w:Int) (n:ByteArray) (s:Sl3) (a:Fo),SlF H s a→n.size≤maxS→a.dep≤fuel→a.dep<d→U5 (LCo c) (fuel+1) H k w n s=some (shS k w n a):=by
 intro d;induction d with
 | zero=>intro fuel k w n s a _ _ _ h; omega
 | succ d ih =>
  intro fuel k w n s a h hn hd hlt;show q9 (LCo c) (U5 (LCo c) fuel) H k w n s=_;unfold q9;have hh:=zl2 c (k:=k) (w:=w) (n:=n) (l:=s.n) hn;obtain ⟨j,hj⟩:=zkh c a (fun fuel k w n s a' h1 h2 h3 h4=>ih fuel k w n s a' h1 h2 h3 (by omega)) s 0 (headS k w n s.n) fuel k w n h.2.2 (by rw [h.1]; omega) h.2.1 hd;rw [hh];simp only [Option.bind_some];show Option.bind (loopO (N6 (LCo c) (U5 (LCo c) fuel) H k w n s) (headS k w n s.n,((0:Nat):Int))) _=_;rw [hj,h.1];rfl
theorem zi8 (c:Nat) {H:AH}:∀(d:Nat) (fuel:Nat) (k w:Int) (n:ByteArray) (s:Sl3) (a:Fo),SlF H s a→n.size≤maxS→a.dep≤fuel→a.dep<d→z1a (LCo c) (fuel+1) H k w n s=some (shS k w n a):=by
 intro d;induction d with
 | zero=>intro fuel k w n s a _ _ _ h; omega
 | succ d ih =>
  intro fuel k w n s a h hn hd hlt;show o9 (LCo c) (z1a (LCo c) fuel) H k w n s=_;unfold o9;have hN:=zd5 c (z8b hn);have e0:decide ((s.n:Int)=0)=decide (s.n=0):=by congr 1; apply propext; omega
  rw [e0];have nil0:s.n=0→shF a=true:=by
   intro h0;have:=h.1;cases a with
   | nil=>rfl
   | cons=>simp only [Fo.len] at this; omega
  have fin:∀b:Bool,(b&&decide (s.n=0))=(b&&decide (a.len=0)&&shF a):=by
   intro b;rw [← h.1];by_cases h0:s.n=0
   ·rw [nil0 h0]; simp
   ·simp [h0]
  unfold shS headS emptyT;generalize hbn:(n.toList == (⟨#[]⟩:ByteArray).toList)=bn;by_cases h1:k=1
  ·subst h1;have:=fin (decide (w=0)&&bn);by_cases hw:w=0 <;> cases bn <;> simp [hw] at this ⊢
   exact this
  ·by_cases h2:k=2
   ·subst h2;have:=fin (decide (w=0)&&bn);by_cases hw:w=0 <;> cases bn <;> simp [hw] at this ⊢
    exact this
   ·by_cases h3:k=3
    ·subst h3;have:=fin (decide (w≥1)&&decide (w≤4096)&&bn);by_cases hw:w≥1 <;> by_cases hw2:w≤4096 <;> cases bn <;> simp [hw,hw2] at this ⊢
     exact this
    ·by_cases h4:k=4
     ·subst h4;by_cases hw:w=0
      ·cases bn with
       | false=>simp [hw]
       | true =>
        by_cases hl:s.n=2
        ·have hl':(s.n:Int)=2:=by omega
         have hal:=h.1;rw [hl] at hal;cases a with
         | nil=>simp [Fo.len] at hal
         | cons k1 w1 n1 a1 r1 =>
          cases r1 with
          | nil=>simp [Fo.len] at hal
          | cons k2 w2 n2 a2 r2 =>
           have hr2:r2=.nil:=by
            cases r2 with
            | nil=>rfl
            | cons=>simp [Fo.len] at hal
           subst hr2;simp only [Fo.dep] at hd hlt;obtain ⟨q1,s1,p1,p2,p3,p4,p5,p6,p7,p8⟩:=h.2.2.rd (by omega);obtain ⟨q2,s2,t1,t2,t3,t4,t5,t6,t7,t8⟩:=p8.rd (by omega);obtain ⟨g,rfl⟩:∃g,fuel=g+1:=⟨fuel - 1,by omega⟩;have c1:=ih g k1 w1 n1 s1 a1 p6 p7 (by omega) (by omega);have c2:=ih g k2 w2 n2 s2 a2 t6 t7 (by omega) (by omega);have z0:idxA 4 s 0=some q1:=p1;have z1:idxA 4 s 1=some q2:=t1;have hF:shF (.cons k1 w1 n1 a1 (.cons k2 w2 n2 a2 .nil))=(shS k1 w1 n1 a1&&shS k2 w2 n2 a2):=by simp only [shF,shS,Bool.and_true]
           rw [hF];simp only [hw,hl',z0,p2,p3,p4,p5,Option.bind_some,c1,z1,t2,t3,t4,t5,c2];cases shS k1 w1 n1 a1 <;> cases shS k2 w2 n2 a2 <;> simp [Fo.len]
        ·have hl':¬((s.n:Int)=2):=by omega
         have:¬(a.len=2):=by rw [← h.1]; exact hl
         simp [hw,hl',this]
      ·simp [hw]
     ·by_cases h56:k=5∨k=6
      ·have e:(if k=5 then some true else some (decide (k=6)))=some true:=by
        rcases h56 with rfl | rfl <;> rfl
       simp only [h1,h2,h3,h4,h56,e,if_false,Option.bind_some,decide_false,Bool.false_eq_true,if_true,or_self];have:=fin (decide (w=0)&&nameS n);by_cases hw:w=0
       ·by_cases h0:s.n=0
        ·have h0':(s.n:Int)=0:=by omega
         simp only [hw,if_true,h0',hN,Option.bind_some] at this ⊢;rw [h0] at this;simp at this ⊢;cases hb:nameS n <;> simp [hb] at this ⊢
         exact this
        ·have h0':¬((s.n:Int)=0):=by omega
         have:¬(a.len=0):=by rw [← h.1]; exact h0
         simp [hw,h0,this]
       ·simp [hw]
      ·have h5:¬k=5:=fun h=>h56 (.inl h);have h6:¬k=6:=fun h=>h56 (.inr h);simp [h1,h2,h3,h4,h5,h6]
def wrongS (k w:Int) (n:ByteArray) (a:Fo):Int:=if fewS a=true then if shS k w n a=true then 0 else 40 else 3
theorem zmv (L0 fuel:Nat) (hF:L0=fuel+1) {H:AH} {k w:Int} {n:ByteArray} {s:Sl3} {a:Fo} (h:SlF H s a) (hn:n.size≤maxS) (hd:a.dep≤fuel):z1v (LCo L0) H k w n s=some (wrongS k w n a):=by
 subst hF;unfold z1v za7 z8w wrongS;have e1:(LCo (fuel+1)).fuel=fuel+1:=rfl;rw [e1,zm3 (fuel+1) fuel h hd k w n 1,zkp (fuel+1) (a.dep+1) fuel k w n s a h hn hd (by omega)];simp only [Option.bind_some];have:=pS_few a;generalize pS 1 a=q at this;obtain ⟨x,b⟩:=q;simp only at this;subst this;simp only;cases fewS a <;> cases shS k w n a <;> rfl
theorem znj (L0 fuel:Nat) (hF:L0=fuel+1) {H:AH} {k w:Int} {n:ByteArray} {s:Sl3} {a:Fo} (h:SlF H s a) (hn:n.size≤maxS) (hd:a.dep≤fuel):z3x (LCo L0) H k w n s=some (wrongS k w n a):=by
 subst hF;unfold z3x zay z8l z8z wrongS;have e1:(LCo (fuel+1)).fuel=fuel+1:=rfl;rw [e1,zol (fuel+1) fuel h hd k w n 16,zio (fuel+1) fuel h hd k w n,zi8 (fuel+1) (a.dep+1) fuel k w n s a h hn hd (by omega)];simp only [Option.bind_some];have d1:dS 16 a=decide (16≤a.dep):=by
  unfold dS;rw [if_neg (by omega)];exact dF_eq a 16 (by omega) (by omega)
 have q1:qF a 1=((min (1+a.size) 257:Nat):Int):=qF_eq a 1 (by omega);rw [d1,q1];unfold fewS;by_cases h1:16≤a.dep
 ·have:¬(1+a.dep≤16∧1+a.size≤256):=by omega
  simp [h1,this]
 ·by_cases h2:1+a.size≤256
  ·have h3:1+a.dep≤16∧1+a.size≤256:=by omega
   have h4:¬(((min (1+a.size) 257:Nat):Int) > 256):=by omega
   simp only [decide_eq_false h1,Bool.false_eq_true,if_false,Option.bind_some,decide_eq_false h4,decide_eq_true h3,if_true];cases shS k w n a <;> rfl
  ·have h3:¬(1+a.dep≤16∧1+a.size≤256):=by omega
   have h4:(((min (1+a.size) 257:Nat):Int) > 256):=by omega
   simp only [decide_eq_false h1,Bool.false_eq_true,if_false,Option.bind_some,decide_eq_true h4,decide_eq_false h3,if_true]
theorem S8 {k w:Int} {n:ByteArray} {a:Fo} (h:shS k w n a=true) :
  (a=.nil∧(k=1∨k=2∨(k=3∧1≤w∧w≤4096)∨((k=5∨k=6)∧nameS n=true))) ∨
  (k=4∧∃k1 w1 n1 a1 k2 w2 n2 a2,a=.cons k1 w1 n1 a1 (.cons k2 w2 n2 a2 .nil)∧shS k1 w1 n1 a1=true∧shS k2 w2 n2 a2=true):=by
 simp only [shS,Bool.and_eq_true] at h;obtain ⟨h1,h2⟩:=h;have nil0:a.len=0→a=.nil:=by
  intro h0;cases a with
  | nil=>rfl
  | cons=>simp [Fo.len] at h0
 unfold headS at h1;split at h1
 ·rename_i hk;simp only [Bool.and_eq_true,decide_eq_true_eq] at h1;refine .inl ⟨nil0 h1.2,?_⟩;omega
 ·split at h1
  ·rename_i hk;simp only [Bool.and_eq_true,decide_eq_true_eq] at h1;refine .inl ⟨nil0 h1.2,?_⟩;omega
  ·split at h1
   ·rename_i hk;simp only [Bool.and_eq_true,decide_eq_true_eq] at h1;refine .inr ⟨hk,?_⟩;have hl:=h1.2;cases a with
    | nil=>simp [Fo.len] at hl
    | cons k1 w1 n1 a1 r1 =>
     cases r1 with
     | nil=>simp [Fo.len] at hl
     | cons k2 w2 n2 a2 r2 =>
      have hr2:r2=.nil:=by
       cases r2 with
       | nil=>rfl
       | cons=>simp [Fo.len] at hl
      subst hr2;simp only [shF,Bool.and_eq_true] at h2;refine ⟨_,_,_,_,_,_,_,_,rfl,?_,?_⟩
      ·simp only [shS,Bool.and_eq_true]; exact h2.1
      ·simp only [shS,Bool.and_eq_true]; exact h2.2.1
   ·split at h1
    ·rename_i hk;simp only [Bool.and_eq_true,decide_eq_true_eq] at h1;refine .inl ⟨nil0 h1.2,?_⟩;have:=h1.1.2;rcases hk with rfl | rfl <;> simp [this]
    ·cases h1
theorem z4k {k w:Int} {n:ByteArray} {a:Fo} (h:shS k w n a=true) (hk:k=5∨k=6):a=.nil:=by
 rcases S8 h with ⟨h1,_⟩ | ⟨h1,_⟩
 ·exact h1
 ·omega
theorem zax {k w:Int} {n:ByteArray} {a:Fo} (h:wrongS k w n a=0):shS k w n a=true∧1+a.dep≤16∧1+a.size≤256:=by
 unfold wrongS fewS at h;split at h
 ·rename_i h1;split at h
  ·rename_i h2;exact ⟨h2,of_decide_eq_true h1⟩
  ·cases h
 ·cases h
theorem pe_int (a b:Int):peval Tryz.prog (Op.equalIn 9999 22 (.int .i64 a) (.int .i64 b))=some (a == b):=by kernel_rfl
theorem pe_str (s t:ByteArray):peval Tryz.prog (Op.equalIn 9999 9 (.string s) (.string t))=some (s == t):=by kernel_rfl
noncomputable def keyFs:Array Field:=match Tryz.prog.underlying 82 with | some (.struct fs)=>fs | _=>#[]
theorem zk8:Tryz.prog.underlying 82=some (.struct keyFs):=by kernel_rfl
theorem zna:keyFs=#[keyFs[0]!,keyFs[1]!]:=by kernel_rfl
theorem zo {P:Program} {α β:Type} (s:Sem α) (k:α→Sem β):peval P (Sem.bind s k)=(peval P s).bind fun a=>peval P (k a):=by
 have:=zmw (P:=P) s k;refine this.trans ?_;cases peval P s <;> rfl
theorem key_eq (a b:Int) (s t:ByteArray):peval Tryz.prog (Op.equal 82 (.agg #[.int .i64 a,.string s]) (.agg #[.int .i64 b,.string t]))=some ((a == b)&&(s == t)):=by
 show peval Tryz.prog (Op.equalIn (9999+1) 82 _ _)=_;rw [Op.equalIn];have hst:Tryz.prog.stoodInHeld 82=false:=by kernel_rfl
 have t0:keyFs[0]!.type=22:=by kernel_rfl
 have t1:keyFs[1]!.type=9:=by kernel_rfl
 have n0:keyFs[0]!.name = "kind":=by kernel_rfl
 have n1:keyFs[1]!.name = "name":=by kernel_rfl
 have p0:∀(v w:Value),peval Tryz.prog (part 22 #[v,w] keyFs[0]!.offset)=some v:=by intro v w; kernel_rfl
 have p1:∀(v w:Value),peval Tryz.prog (part 9 #[v,w] keyFs[1]!.offset)=some w:=by intro v w; kernel_rfl
 simp only [Go.underlying,Go.program,bind,peval,zk8,Pure.pure,Sem.bind,hst,Bool.false_eq_true,if_false];rw [zna];simp [t0,t1,n0,n1,bind,pure];rw [zo,zo,zo,p0];simp only [Option.bind_some];rw [zo,p0];simp only [Option.bind_some];rw [zo,pe_int];simp only [Option.bind_some];cases a == b with
 | false=>rfl
 | true =>
  simp only [Bool.true_eq_false,if_false,peval,Option.bind_some,Bool.true_and];rw [zo,zo,p1];simp only [Option.bind_some];rw [zo,p1];simp only [Option.bind_some];rw [zo,pe_str];simp only [Option.bind_some];cases s == t <;> rfl
def keyV (x:Int×ByteArray):Value:=.agg #[.int .i64 x.1,.string x.2]
theorem keyK:KeyK Tryz.prog 82 keyV:=by
 refine ⟨⟨_,zk8,.inr ⟨fun a b=>rfl,fun a b=>?_⟩⟩,fun a b=>by kernel_rfl,fun a=>?_⟩
 ·refine (key_eq a.1 b.1 a.2 b.2).trans ?_;rw [ba_beq];obtain ⟨a1,a2⟩:=a;obtain ⟨b1,b2⟩:=b
  congr 1
  rw [Bool.eq_iff_iff];simp
 ·obtain ⟨a1,a2⟩:=a;have h:(a2 == a2)=true:=by rw [ba_beq]; simp
  have h1:(a1 == a1)=true:=by simp
  show ((#[vI .i64 a1,.string a2]:Array Value).size == (#[vI .i64 a1,.string a2]:Array Value).size&&(([(vI .i64 a1,vI .i64 a1),(.string a2,.string a2)]).all fun (x,y)=>Instr.sameBits 9999 x y))=true;simp [Instr.sameBits,h]
theorem und94:Tryz.prog.underlying 78=some (.map 82 3):=by kernel_rfl
theorem zero3:(Tryz.prog.info? 3).bind (·.zero)=some (.int .i64 0):=by kernel_rfl
structure Sel where
 n:ByteArray
 k:Int
 w:Int
 sn:ByteArray
 a:Fo
structure Con where
 n:ByteArray
 sels:List Sel
structure Dat where
 n:ByteArray
 cons:List Con
structure Fnc where
 n:ByteArray
 args:Fo
 k:Int
 w:Int
 sn:ByteArray
 a:Fo
structure Sg where
 users:List ByteArray
 datas:List Dat
 funs:List Fnc
structure SgB (g:Sg):Prop where
 u:g.users.length≤maxS
 d:g.datas.length≤maxS
 f:g.funs.length≤maxS
def StrM (H:AH) (q:Addr) (s:ByteArray):Prop:=StrA H q s∧s.size≤maxS
structure SelA (H:AH) (q:Addr) (x:Sel):Prop where
 n:Cel H (q.add 0) (.string x.n)
 nm:x.n.size≤maxS
 ex:∃s,Cel H (q.add 1) (.int .i64 x.k)∧Cel H (q.add 2) (.int .i64 x.w)∧Cel H (q.add 3) (.string x.sn)∧Cel H (q.add 4) (Sl3.v s)∧x.sn.size≤maxS∧SlF H s x.a
structure ConA (H:AH) (q:Addr) (x:Con):Prop where
 n:Cel H (q.add 0) (.string x.n)
 nm:x.n.size≤maxS
 ex:∃s,Cel H (q.add 1) (Sl3.v s)∧SlL SelA 5 H s x.sels
structure DatA (H:AH) (q:Addr) (x:Dat):Prop where
 n:Cel H (q.add 0) (.string x.n)
 nm:x.n.size≤maxS
 ex:∃s,Cel H (q.add 1) (Sl3.v s)∧SlL ConA 2 H s x.cons
structure FncA (H:AH) (q:Addr) (x:Fnc):Prop where
 n:Cel H (q.add 0) (.string x.n)
 nm:x.n.size≤maxS
 ar:∃s,Cel H (q.add 1) (Sl3.v s)∧SlF H s x.args
 ex:∃s,Cel H (q.add 2) (.int .i64 x.k)∧Cel H (q.add 3) (.int .i64 x.w)∧Cel H (q.add 4) (.string x.sn)∧Cel H (q.add 5) (Sl3.v s)∧x.sn.size≤maxS∧SlF H s x.a
structure SigA (H:AH) (s1 s2 s3:Sl3) (g:Sg):Prop where
 u:SlL StrM 1 H s1 g.users
 d:SlL DatA 2 H s2 g.datas
 f:SlL FncA 6 H s3 g.funs
theorem StrM.ext {H H':AH} (hf:Ext H H') {q:Addr} {x:ByteArray} (h:StrM H q x):StrM H' q x:=⟨Cel.ext h.1 hf,h.2⟩
theorem SelA.ext {H H':AH} (hf:Ext H H') {q:Addr} {x:Sel} (h:SelA H q x):SelA H' q x :=
 ⟨h.n.ext hf,h.nm,let ⟨s,a,b,c,d,e,f⟩:=h.ex; ⟨s,a.ext hf,b.ext hf,c.ext hf,d.ext hf,e,f.ext hf⟩⟩
theorem ConA.ext {H H':AH} (hf:Ext H H') {q:Addr} {x:Con} (h:ConA H q x):ConA H' q x :=
 ⟨h.n.ext hf,h.nm,let ⟨s,a,b⟩:=h.ex; ⟨s,a.ext hf,b.ext hf fun _ _ h=>h.ext hf⟩⟩
theorem DatA.ext {H H':AH} (hf:Ext H H') {q:Addr} {x:Dat} (h:DatA H q x):DatA H' q x :=
 ⟨h.n.ext hf,h.nm,let ⟨s,a,b⟩:=h.ex; ⟨s,a.ext hf,b.ext hf fun _ _ h=>h.ext hf⟩⟩
theorem FncA.ext {H H':AH} (hf:Ext H H') {q:Addr} {x:Fnc} (h:FncA H q x):FncA H' q x :=
 ⟨h.n.ext hf,h.nm,let ⟨s,a,b⟩:=h.ar; ⟨s,a.ext hf,b.ext hf⟩,let ⟨s,a,b,c,d,e,f⟩:=h.ex; ⟨s,a.ext hf,b.ext hf,c.ext hf,d.ext hf,e,f.ext hf⟩⟩
theorem SigA.ext {H H':AH} (hf:Ext H H') {s1 s2 s3:Sl3} {g:Sg} (h:SigA H s1 s2 s3 g):SigA H' s1 s2 s3 g :=
 ⟨h.u.ext hf fun _ _ h=>h.ext hf,h.d.ext hf fun _ _ h=>h.ext hf,h.f.ext hf fun _ _ h=>h.ext hf⟩
def dataIx (l:List Dat) (n:ByteArray):Option Nat:=l.findIdx? fun d=>decide (d.n=n)
def hasU (us:List ByteArray) (n:ByteArray):Bool:=us.any fun u=>decide (u=n)
def bookF (us:List ByteArray) (ds:List Dat) (x:Int×ByteArray):Option Value :=
 if x.1=5 then if hasU us x.2=true then some (.int .i64 0) else none
 else if x.1=6 then (dataIx ds x.2).map fun (i:Nat)=>vI .i64 (i:Int)
 else none
structure Book (H:AH) (p:Addr) (s1 s2 s3:Sl3) (g:Sg):Prop where
 c1:Cel H (p.add 0) s1.v
 c2:Cel H (p.add 1) s2.v
 c3:Cel H (p.add 2) s3.v
 ex:∃id,Cel H (p.add 3) (.map (some id))∧id<H.next∧MapA keyV H id (bookF g.users g.datas)
theorem Book.ext {H H':AH} (hf:Ext H H') {p:Addr} {s1 s2 s3:Sl3} {g:Sg} (h:Book H p s1 s2 s3 g):Book H' p s1 s2 s3 g :=
 ⟨h.c1.ext hf,h.c2.ext hf,h.c3.ext hf,let ⟨id,a,b,c⟩:=h.ex; ⟨id,a.ext hf,Nat.lt_of_lt_of_le b hf.1,c.fr hf b fun h=>h⟩⟩
theorem MapA.congr {H:AH} {id:Nat} {f f':Int×ByteArray→Option Value} (h:MapA keyV H id f) (e:∀x,f x=f' x):MapA keyV H id f':=by
 have:f=f':=funext e;rw [← this]; exact h
theorem zhs {us:List ByteArray} {i:Nat} (hi:i<us.length) (n:ByteArray):hasU (us.take (i+1)) n=(hasU (us.take i) n||decide (us[i]=n)):=by
 unfold hasU;rw [List.take_succ_eq_append_getElem hi,List.any_append,List.any_cons,List.any_nil,Bool.or_false]
theorem zqd (c m:Nat) {H4:AH} {s1 s2 s3:Sl3} {us:List ByteArray} {p3:Addr} {id:Nat} (hu:SlL StrM 1 H4 s1 us) (hc:Cel H4 (p3.add 3) (.map (some id))) (hp:p3.block≠id)
  (hub:∀a,s1.p=some a→a.block≠id) (hid:id<H4.next) (hm:m≤id) (hM:MapA keyV H4 id fun _=>none) :
  ∃H5,loopO (Y7 (LCo c) m s1 s2 s3 p3) (H4,0)=some (.inl (H5,(s1.n:Int)))∧Fm (fun i=>i=id) H4 H5∧H5.next=H4.next∧MapA keyV H5 id (bookF us []):=by
 obtain ⟨o,h1,h2⟩:=zab (body:=Y7 (LCo c) m s1 s2 s3 p3) us
  (fun i st=>st.2=(i:Int)∧Fm (fun j=>j=id) H4 st.1∧st.1.next=H4.next∧MapA keyV st.1 id (bookF (us.take i) []))
  (fun o=>∃H5,o=.inl (H5,(s1.n:Int))∧Fm (fun i=>i=id) H4 H5∧H5.next=H4.next∧MapA keyV H5 id (bookF us []))
  (fun i st hi h=>by
   obtain ⟨H5,v⟩:=st;obtain ⟨h1,h2,h3,h4⟩:=h;simp only at h1 h2 h3 h4;subst h1 hi;refine ⟨(H5,(us.length:Int)),?_,H5,by rw [hu.n],h2,h3,by rw [List.take_length] at h4; exact h4⟩;unfold Y7;have:=hu.n;simp only [if_neg (show ¬((us.length:Int)<(s1.n:Int)) by omega)])
  (fun i hi st h=>by
   obtain ⟨H5,v⟩:=st;obtain ⟨h1,h2,h3,h4⟩:=h;simp only at h1 h2 h3 h4;subst h1;have hn:=hu.n;obtain ⟨a,g1,g2⟩:=hu.at_.get i hi;rw [Nat.zero_add] at g2;have hne:(a.add (i*1)).block≠id:=by rw [L3]; exact hub a g1
   have r1:rd deS H5 (a.add (i*1))=some us[i]:=by
    rw [(Cel.fr g2.1 h2 hne).rd]; rfl
   have r2:rd deM H5 (p3.add 3)=some (some id):=by
    rw [(Cel.fr hc h2 (by rw [L3]; exact hp)).rd]; rfl
   obtain ⟨H',u1,u2,u3,u4⟩:=z7h keyK und94 h4 hm (5,us[i]) (.int .i64 0);refine .inr ⟨(H',((i+1:Nat):Int)),?_,rfl,h2.comp u3 fun _ _ h=>h,u4.trans h3,MapA.congr u2 fun x=>?_⟩
   ·unfold Y7;simp only [if_pos (show (i:Int)<(s1.n:Int) by omega),J6 g1 rfl (show i<s1.n by omega),Option.bind_some,r1,r2];have u1':upM Tryz.prog m 78 H5 (some id) (vA #[(vI .i64 5),(vS us[i])]) (vI .i64 0)=some H':=u1;rw [u1',V1 hi hu.len];rfl
   ·obtain ⟨xk,xn⟩:=x;simp only [bookF,zhs hi,Prod.mk.injEq];generalize hasU (us.take i) xn=b;by_cases e1:xk=5
    ·by_cases e2:xn=us[i]
     ·subst e2; cases b <;> simp [e1]
     ·have e2':¬us[i]=xn:=fun h=>e2 h.symm;cases b <;> simp [e1,e2,e2']
    ·simp [e1])
  (s:=(H4,0)) ⟨rfl,Fm.refl _ _,rfl,MapA.congr hM fun x=>by simp [bookF,dataIx,hasU]⟩
 obtain ⟨H5,rfl,h3⟩:=h2;exact ⟨H5,h1,h3⟩
theorem zee {ds:List Dat} {i:Nat} (hi:i<ds.length) (n:ByteArray):dataIx (ds.take (i+1)) n=match dataIx (ds.take i) n with | some j=>some j | none=>if ds[i].n=n then some i else none:=by
 unfold dataIx;rw [List.take_succ_eq_append_getElem hi,List.findIdx?_append];cases (ds.take i).findIdx? fun d=>decide (d.n=n) with
 | some j=>rfl
 | none =>
  have:(ds.take i).length=i:=by simp; omega
  by_cases h:ds[i].n=n <;> simp [h,this]
theorem zqb (c m:Nat) {H4:AH} {s1 s2 s3:Sl3} {us:List ByteArray} {ds:List Dat} {p3:Addr} {id:Nat} (hd:SlL DatA 2 H4 s2 ds) (hc:Cel H4 (p3.add 3) (.map (some id))) (hp:p3.block≠id)
  (hdb:∀a,s2.p=some a→a.block≠id) (hid:id<H4.next) (hm:m≤id) (hM:MapA keyV H4 id (bookF us [])) :
  ∃H5,loopO (U6 (LCo c) m s1 s2 s3 p3) (H4,0)=some (.inl (H5,(s2.n:Int)))∧Fm (fun i=>i=id) H4 H5∧H5.next=H4.next∧MapA keyV H5 id (bookF us ds):=by
 obtain ⟨o,h1,h2⟩:=zab (body:=U6 (LCo c) m s1 s2 s3 p3) ds
  (fun i st=>st.2=(i:Int)∧Fm (fun j=>j=id) H4 st.1∧st.1.next=H4.next∧MapA keyV st.1 id (bookF us (ds.take i)))
  (fun o=>∃H5,o=.inl (H5,(s2.n:Int))∧Fm (fun i=>i=id) H4 H5∧H5.next=H4.next∧MapA keyV H5 id (bookF us ds))
  (fun i st hi h=>by
   obtain ⟨H5,v⟩:=st;obtain ⟨h1,h2,h3,h4⟩:=h;simp only at h1 h2 h3 h4;subst h1 hi;refine ⟨(H5,(ds.length:Int)),?_,H5,by rw [hd.n],h2,h3,by rw [List.take_length] at h4; exact h4⟩;unfold U6;have:=hd.n;simp only [if_neg (show ¬((ds.length:Int)<(s2.n:Int)) by omega)])
  (fun i hi st h=>by
   obtain ⟨H5,v⟩:=st;obtain ⟨h1,h2,h3,h4⟩:=h;simp only at h1 h2 h3 h4;subst h1;have hn:=hd.n;obtain ⟨a,g1,g2⟩:=hd.at_.get i hi;rw [Nat.zero_add] at g2;obtain ⟨sc,g3,_⟩:=g2.ex;have hne:∀j,((a.add (i*2)).add j).block≠id:=fun j=>by rw [L3,L3]; exact hdb a g1
   have r1:rd deS H5 ((a.add (i*2)).add 0)=some ds[i].n:=by
    rw [(Cel.fr g2.n h2 (hne 0)).rd]; rfl
   have r3:rd deSl H5 ((a.add (i*2)).add 1)=some sc:=by
    rw [(Cel.fr g3 h2 (hne 1)).rd]; rfl
   have r2:rd deM H5 (p3.add 3)=some (some id):=by
    rw [(Cel.fr hc h2 (by rw [L3]; exact hp)).rd]; rfl
   have hl:=zal keyK und94 zero3 rfl h4 (6,ds[i].n) (deI .i64);have hl':lkM Tryz.prog 78 (deI .i64) H5 (some id) (vA #[(vI .i64 6),(vS ds[i].n)])=some ((deI .i64 ((bookF us (ds.take i) (6,ds[i].n)).getD (.int .i64 0))).getD 0,(bookF us (ds.take i) (6,ds[i].n)).isSome):=by
    refine hl.trans ?_;simp only [bookF,if_neg (show ¬((6:Int)=5) by omega),if_pos (show (6:Int)=6 from rfl)];cases dataIx (ds.take i) ds[i].n <;> rfl
   cases hq:dataIx (ds.take i) ds[i].n with
   | some j =>
    refine .inr ⟨(H5,((i+1:Nat):Int)),?_,rfl,h2,h3,MapA.congr h4 fun x=>?_⟩
    ·unfold U6;simp only [if_pos (show (i:Int)<(s2.n:Int) by omega),J6 g1 rfl (show i<s2.n by omega),Option.bind_some,r1,r2,r3,hl'];simp only [bookF,if_neg (show ¬((6:Int)=5) by omega),if_pos (show (6:Int)=6 from rfl),hq,Option.map_some,Option.isSome_some,if_true,Option.bind_some];rw [V1 hi hd.len]
    ·obtain ⟨xk,xn⟩:=x;simp only [bookF];by_cases e1:xk=5
     ·simp [e1]
     ·by_cases e2:xk=6
      ·simp only [if_neg e1,if_pos e2,zee hi xn];cases hr:dataIx (ds.take i) xn with
       | some _=>rfl
       | none =>
        by_cases e3:ds[i].n=xn
        ·subst e3; rw [hq] at hr; cases hr
        ·simp [e3]
      ·simp [e1,e2]
   | none =>
    obtain ⟨H',u1,u2,u3,u4⟩:=z7h keyK und94 h4 hm (6,ds[i].n) (.int .i64 (i:Int));refine .inr ⟨(H',((i+1:Nat):Int)),?_,rfl,h2.comp u3 fun _ _ h=>h,u4.trans h3,MapA.congr u2 fun x=>?_⟩
    ·unfold U6;have u1':upM Tryz.prog m 78 H5 (some id) (vA #[(vI .i64 6),(vS ds[i].n)]) (vI .i64 (i:Int))=some H':=u1;simp only [if_pos (show (i:Int)<(s2.n:Int) by omega),J6 g1 rfl (show i<s2.n by omega),Option.bind_some,r1,r2,r3,hl'];simp only [bookF,if_neg (show ¬((6:Int)=5) by omega),if_pos (show (6:Int)=6 from rfl),hq,Option.map_none,Option.isSome_none,Bool.false_eq_true,if_false,Option.bind_some,u1'];rw [V1 hi hd.len];rfl
    ·obtain ⟨xk,xn⟩:=x;simp only [bookF,Prod.mk.injEq];by_cases e1:xk=5
     ·simp [e1]
     ·by_cases e2:xk=6
      ·simp only [if_neg e1,if_pos e2,zee hi xn,e2,true_and];by_cases e3:xn=ds[i].n
       ·subst e3; simp [hq]
       ·have e3':¬ds[i].n=xn:=fun h=>e3 h.symm;simp only [if_neg e3,if_neg e3'];cases dataIx (ds.take i) xn <;> rfl
      ·simp [e1,e2])
  (s:=(H4,0)) ⟨rfl,Fm.refl _ _,rfl,MapA.congr hM fun x=>by simp [bookF,dataIx]⟩
 obtain ⟨H5,rfl,h3⟩:=h2;exact ⟨H5,h1,h3⟩
theorem zce (c m:Nat) {H:AH} {s1 s2 s3:Sl3} {g:Sg} (h:SigA H s1 s2 s3 g) (hm:m≤H.next) :
  ∃p H',z1e (LCo c) m H s1 s2 s3=some (some p,H')∧Ext H H'∧Book H' p s1 s2 s3 g∧p.block<H'.next∧H.next≤p.block:=by
 have x2:Ext H (H.push mapB):=Fm.push _ _ _;have x4:Ext (H.push mapB) ((H.push mapB).push (pubB 80 [Sl3.v s1,Sl3.v s2,Sl3.v s3,.map (some H.next)])):=Fm.push _ _ _;generalize hH4:(H.push mapB).push (pubB 80 [Sl3.v s1,Sl3.v s2,Sl3.v s3,.map (some H.next)])=H4 at x4;have xx:Ext H H4:=x2.trans x4;have n4:H4.next=H.next+2:=by rw [← hH4]; simp
 have cel:∀(i:Nat) (v:Value),[Sl3.v s1,Sl3.v s2,Sl3.v s3,.map (some H.next)][i]? = some v→Cel H4 ((⟨H.next+1,0,none⟩:Addr).add i) v:=by
  intro i v hv;rw [C5,Nat.zero_add,← hH4];have:=Cel.push (H:=H.push mapB) (b:=pubB 80 [Sl3.v s1,Sl3.v s2,Sl3.v s3,.map (some H.next)]) (c:=[Sl3.v s1,Sl3.v s2,Sl3.v s3,.map (some H.next)].toArray) (e:=80) (f:=(0,0)) rfl (i:=i) (v:=v) (by simpa using hv);exact this
 have hM4:MapA keyV H4 H.next fun _=>none:=(MapA.new keyV (H:=H)).fr x4 (by simp) fun h=>h;have sg:=h.ext xx;obtain ⟨H5,l1,f1,n1,M1⟩:=zqd c m (s2:=s2) (s3:=s3) sg.u (cel 3 _ rfl) (by simp) (fun a ha=>by have:=(h.u.low a ha).1; omega) (by omega) hm hM4;have keep:∀{α:Type} {R:AH→Addr→α→Prop} {sz:Nat} {s:Sl3} {xs:List α},SlL R sz H s xs→True:=fun _=>trivial;have x5:Ext H H5:=by
  refine xx.comp f1 fun i hi _=>?_;omega
 obtain ⟨H6,l2,f2,n2,M2⟩:=zqb c m (s1:=s1) (s3:=s3) (us:=g.users) (h.d.ext x5 fun _ _ h=>h.ext x5) (Cel.fr (cel 3 _ rfl) f1 (by rw [L3]; simp)) (by simp) (fun a ha=>by have:=(h.d.low a ha).1; omega) (by omega) hm M1;have x6:Ext H H6:=by
  refine x5.comp f2 fun i hi _=>?_;omega
 have cel6:∀(i:Nat) (v:Value),[Sl3.v s1,Sl3.v s2,Sl3.v s3,.map (some H.next)][i]? = some v→Cel H6 ((⟨H.next+1,0,none⟩:Addr).add i) v:=fun i v hv =>
  Cel.fr (Cel.fr (cel i v hv) f1 (by rw [L3]; simp)) f2 (by rw [L3]; simp)
 refine ⟨⟨H.next+1,0,none⟩,H6,?_,x6,⟨cel6 0 _ rfl,cel6 1 _ rfl,cel6 2 _ rfl,H.next,cel6 3 _ rfl,by omega,M2⟩,by simp; omega,by simp⟩;unfold z1e newM newB;simp only [Option.bind_some,AH.next_push];rw [hH4];show Option.bind (loopO (Y7 (LCo c) m s1 s2 s3 ⟨H.next+1,0,none⟩) (H4,0)) _=_;rw [l1];simp only [Option.bind_some];show Option.bind (loopO (U6 (LCo c) m s1 s2 s3 ⟨H.next+1,0,none⟩) (H5,0)) _=_;rw [l2];rfl
def knF (us:List ByteArray) (ds:List Dat):Fo→Bool
 | .nil=>true
 | .cons k _ n a r=>(if k=5 then hasU us n else if k=6 then (dataIx ds n).isSome else knF us ds a)&&knF us ds r
def knS (us:List ByteArray) (ds:List Dat) (k:Int) (n:ByteArray) (a:Fo):Bool:=if k=5 then hasU us n else if k=6 then (dataIx ds n).isSome else knF us ds a
theorem zp3 {H:AH} {body:Int→Option (Lp Int Bool)} (ok:Int→Int→ByteArray→Fo→Bool) (all:Fo→Bool) (h0:all .nil=true) (h1:∀k w n a r,all (.cons k w n a r)=(ok k w n a&&all r)):∀(f:Fo) (s:Sl3) (i:Nat),FoA H s.p i f→s.n=i+f.len→s.n≤maxN →
  (∀(j:Nat),j<s.n→∀k w n a r,FoA H s.p j (.cons k w n a r)→a.dep<f.dep→body (j:Int)=some (if ok k w n a=true then .next (IntKind.i64.wrap ((j:Int)+1)) else .ret false)) →
  (body (s.n:Int)=some (.brk (s.n:Int)))→loopO body (i:Int)=some (if all f=true then .inl (s.n:Int) else .inr false):=by
 intro f;induction f with
 | nil =>
  intro s i h hn hm hb he;simp only [Fo.len,Nat.add_zero] at hn;subst hn;rw [h0];exact Y1 he
 | cons k w n a r iha ihr =>
  intro s i h hn hm hb he;simp only [Fo.len] at hn;have hbi:=hb i (by omega) k w n a r h (by simp only [Fo.dep]; omega);rw [h1];cases hq:ok k w n a with
  | false=>rw [hq] at hbi; exact N3 hbi
  | true =>
   rw [hq] at hbi;simp only [if_true] at hbi;rw [W1 hbi,V1 (n:=s.n) (by omega) hm,Bool.true_and];exact ihr s (i+1) h.2 (by omega) hm (fun j hj k w n a r2 g1 g2=>hb j hj k w n a r2 g1 (by simp only [Fo.dep]; omega)) he
theorem zmr (c:Nat) {H:AH} {p:Addr} {s1 s2 s3:Sl3} {g:Sg} (hB:Book H p s1 s2 s3 g):∀(d fuel:Nat) (k w:Int) (n:ByteArray) (s:Sl3) (a:Fo),SlF H s a→a.dep≤fuel→a.dep<d →
  G7 (LCo c) (fuel+1) H (some p) k w n s=some (knS g.users g.datas k n a):=by
 intro d;induction d with
 | zero=>intro fuel k w n s a _ _ h; omega
 | succ d ih =>
  intro fuel k w n s a h hf hd;show j7 (LCo c) (G7 (LCo c) fuel) H (some p) k w n s=_;unfold j7 knS;obtain ⟨id,q1,q2,q3⟩:=hB.ex;have r1:rd deM H (p.add 3)=some (some id):=by rw [q1.rd]; rfl
  have hl:=zal keyK und94 zero3 rfl q3 (k,n) (deI .i64);by_cases e5:k=5
  ·subst e5;have hl':lkM Tryz.prog 78 (deI .i64) H (some id) (vA #[(vI .i64 5),(vS n)])=some (0,hasU g.users n):=by
    refine hl.trans ?_;simp only [bookF];cases hasU g.users n <;> rfl
   simp only [if_true,Option.bind_some,r1,hl']
  ·by_cases e6:k=6
   ·subst e6;have hl':lkM Tryz.prog 78 (deI .i64) H (some id) (vA #[(vI .i64 6),(vS n)])=some (((dataIx g.datas n).map fun (i:Nat)=>(i:Int)).getD 0,(dataIx g.datas n).isSome):=by
     refine hl.trans ?_;simp only [bookF];cases dataIx g.datas n <;> rfl
    simp only [if_neg (show ¬((6:Int)=5) by omega),Option.bind_some,decide_true,if_true,r1,hl']
   ·simp only [if_neg e5,if_neg e6,decide_eq_false e6,Option.bind_some,Bool.false_eq_true,if_false];show Option.bind (loopO (K6 (LCo c) (G7 (LCo c) fuel) H (some p) k w n s) ((0:Nat):Int)) _=_;rw [zp3 (fun k w n a=>knS g.users g.datas k n a) (knF g.users g.datas) rfl (fun _ _ _ _ _=>rfl) a s 0 h.2.2 (by rw [h.1]; omega) h.2.1 ?_ ?_]
    ·cases knF g.users g.datas a <;> rfl
    ·intro j hj k1 w1 n1 a1 r f1 f3;unfold K6;obtain ⟨q1,t1,p1,p2,p3,p4,p5,p6,p7,p8⟩:=f1.rd hj;obtain ⟨g',rfl⟩:∃g',fuel=g'+1:=⟨fuel - 1,by omega⟩;have hr:=ih g' k1 w1 n1 t1 a1 p6 (by omega) (by omega);simp only [if_pos (show (j:Int)<(s.n:Int) by omega),p1,p2,p3,p4,p5,Option.bind_some,hr];cases knS g.users g.datas k1 n1 a1 <;> rfl
    ·unfold K6;rw [if_neg (by omega)]
theorem zpl {α R:Type} (l:List α) (bad:α→Bool) (f:Nat→R) (d:α) :
  (List.range l.length).findSome? (fun i=>if bad (l.getD i d)=true then some (f i) else none)=(l.findIdx? bad).map f:=by
 induction l generalizing f with
 | nil=>rfl
 | cons x l ih =>
  rw [List.length_cons,List.range_succ_eq_map,List.findSome?_cons,List.findIdx?_cons];cases hx:bad x with
  | true=>simp [hx]
  | false =>
   simp only [List.getD_cons_zero,hx,Bool.false_eq_true,if_false,List.findSome?_map,Function.comp_def,List.getD_cons_succ];rw [ih (fun i=>f (i+1))];cases l.findIdx? bad <;> rfl
theorem zhp (l:List ByteArray) (s:ByteArray):hasS l s=hasU l s:=by
 unfold hasS hasU
 congr 1
 funext x
 exact zlv x s
theorem SigA.str {H:AH} {s1 s2 s3:Sl3} {g:Sg} (h:SigA H s1 s2 s3 g):SlL StrA 1 H s1 g.users:=h.u.imp (Nat.le_refl _) fun _ _ h=>h.1
theorem z4s (c:Nat) {H:AH} {s1 s2 s3:Sl3} {g:Sg} (h:SigA H s1 s2 s3 g) (n:ByteArray):S3 (LCo c) H s1 s2 s3 n=some (match dataIx g.datas n with | some i=>(i:Int) | none=>-1):=by
 have hd:=h.d;have hl:loopO (A8 (LCo c) H s1 s2 s3 n) 0=some (found g.datas.length ((List.range g.datas.length).findSome? (fun i=>if (fun d:Dat=>decide (d.n=n)) (g.datas.getD i ⟨n,[]⟩)=true then some (i:Int) else none))):=by
  refine V3 g.datas.length hd.len _ (fun i hi=>?_) ?_
  ·unfold A8;have hn:=hd.n;obtain ⟨q,h1,h2⟩:=hd.get hi (v:=(i:Int)) rfl;have r1:rd deS H (q.add 0)=some g.datas[i].n:=by rw [h2.n.rd]; rfl
   have:g.datas.getD i ⟨n,[]⟩=g.datas[i]:=by simp [List.getD,hi]
   simp only [if_pos (show (i:Int)<(s2.n:Int) by omega),h1,Option.bind_some,r1,this,zlv];by_cases e:g.datas[i].n=n <;> simp [e,stepO]
  ·unfold A8;have hn:=hd.n;rw [if_neg (by omega)]
 unfold S3;show Option.bind (loopO (A8 (LCo c) H s1 s2 s3 n) 0) _=_;rw [hl,zpl g.datas (fun d=>decide (d.n=n)) (fun i=>(i:Int)) ⟨n,[]⟩];unfold dataIx;cases g.datas.findIdx? fun d=>decide (d.n=n) <;> rfl
theorem zid (c:Nat) {H:AH} {s1 s2 s3:Sl3} {g:Sg} (hS:SigA H s1 s2 s3 g):∀(d fuel:Nat) (k w:Int) (n:ByteArray) (s:Sl3) (a:Fo),SlF H s a→shS k w n a=true→a.dep≤fuel→a.dep<d →
  R5 (LCo c) (fuel+1) H k w n s s1 s2 s3=some (knS g.users g.datas k n a):=by
 intro d;induction d with
 | zero=>intro fuel k w n s a _ _ _ h; omega
 | succ d ih =>
  intro fuel k w n s a h hsh hf hd;show y9 (LCo c) (R5 (LCo c) fuel) H k w n s s1 s2 s3=_;unfold y9;have hH:=zka c hS.str n;have hD:=z4s c hS n;rw [zhp] at hH;have hshF:shF a=true:=by simp only [shS,Bool.and_eq_true] at hsh; exact hsh.2
  have loop:∀(a':Fo),a'=a→(Option.bind ((LCo c).run (J5 (LCo c) (R5 (LCo c) fuel) H k w n s s1 s2 s3) 0) fun o=>match o with | .inl _=>some true | .inr r=>some r)=some (knF g.users g.datas a):=by
   intro a' _;show Option.bind (loopO (J5 (LCo c) (R5 (LCo c) fuel) H k w n s s1 s2 s3) ((0:Nat):Int)) _=_;have gen:∀(f:Fo) (i:Nat),FoA H s.p i f→s.n=i+f.len→shF f=true→f.dep≤a.dep→loopO (J5 (LCo c) (R5 (LCo c) fuel) H k w n s s1 s2 s3) (i:Int)=some (if knF g.users g.datas f=true then .inl (s.n:Int) else .inr false):=by
    intro f;induction f with
    | nil =>
     intro i f1 hn _ _;simp only [Fo.len,Nat.add_zero] at hn;subst hn;refine Y1 ?_;unfold J5;rw [if_neg (by omega)]
    | cons k1 w1 n1 a1 r iha ihr =>
     intro i f1 hn hs1 hdep;simp only [Fo.len] at hn;simp only [Fo.dep] at hdep;simp only [shF,Bool.and_eq_true] at hs1;obtain ⟨q1,t1,p1,p2,p3,p4,p5,p6,p7,p8⟩:=f1.rd (by omega);obtain ⟨g',rfl⟩:∃g',fuel=g'+1:=⟨fuel - 1,by omega⟩;have hr:=ih g' k1 w1 n1 t1 a1 p6 (by simp only [shS,Bool.and_eq_true]; exact hs1.1) (by omega) (by omega);have hb:J5 (LCo c) (R5 (LCo c) (g'+1)) H k w n s s1 s2 s3 (i:Int)=some (if knS g.users g.datas k1 n1 a1=true then .next (IntKind.i64.wrap ((i:Int)+1)) else .ret false):=by
      unfold J5;simp only [if_pos (show (i:Int)<(s.n:Int) by omega),p1,p2,p3,p4,p5,Option.bind_some,hr];cases knS g.users g.datas k1 n1 a1 <;> rfl
     have hp:knF g.users g.datas (.cons k1 w1 n1 a1 r)=(knS g.users g.datas k1 n1 a1&&knF g.users g.datas r):=rfl;rw [hp];cases hq:knS g.users g.datas k1 n1 a1 with
     | false=>rw [hq] at hb; exact N3 hb
     | true =>
      rw [hq] at hb;simp only [if_true] at hb;rw [W1 hb,V1 (n:=s.n) (by omega) h.2.1,Bool.true_and];exact ihr (i+1) p8 (by omega) hs1.2 (by omega)
   rw [gen a 0 h.2.2 (by rw [h.1]; omega) hshF (Nat.le_refl _)];cases knF g.users g.datas a <;> rfl
  have hlp:=loop a rfl;have nil56:(k=5∨k=6)→knF g.users g.datas a=true:=by
   intro hk;rcases z4k hsh hk with rfl;rfl
  unfold knS;by_cases e5:k=5
  ·subst e5;rw [nil56 (.inl rfl)] at hlp;simp only [if_true,hH,Option.bind_some,if_neg (show ¬((5:Int)=6) by omega)];cases hasU g.users n with
   | false=>rfl
   | true =>
    simp only [if_true,Option.bind_some,Bool.false_eq_true,if_false];exact hlp
  ·by_cases e6:k=6
   ·subst e6;rw [nil56 (.inr rfl)] at hlp;simp only [if_neg (show ¬((6:Int)=5) by omega),if_true,hD,Option.bind_some];cases dataIx g.datas n with
    | none=>rfl
    | some i =>
     have:¬((i:Int)<0):=by omega
     simp only [decide_eq_false this,Bool.false_eq_true,if_false];exact hlp
   ·simp only [if_neg e5,if_neg e6,Option.bind_some,Bool.false_eq_true,if_false];exact hlp
def checkS (g:Sg) (k w:Int) (n:ByteArray) (a:Fo):Int:=if wrongS k w n a=0 then if knS g.users g.datas k n a=true then 0 else 40 else wrongS k w n a
theorem zaj (L0 fuel:Nat) (hF:L0=fuel+1) {H:AH} {p:Addr} {s1 s2 s3:Sl3} {g:Sg} (hB:Book H p s1 s2 s3 g) {k w:Int} {n:ByteArray} {s:Sl3} {a:Fo} (h:SlF H s a) (hn:n.size≤maxS) (hd:a.dep≤fuel) :
  Y6 (LCo L0) H (some p) k w n s=some (checkS g k w n a):=by
 unfold Y6 checkS;rw [zmv L0 fuel hF h hn hd];simp only [Option.bind_some];unfold z41;have e1:(LCo L0).fuel=fuel+1:=hF;rw [e1,zmr L0 hB (a.dep+1) fuel k w n s a h hd (by omega)];simp only [Option.bind_some];by_cases hw:wrongS k w n a=0
 ·rw [if_pos hw,if_pos hw];cases knS g.users g.datas k n a <;> rfl
 ·rw [if_neg hw,if_neg hw]
theorem z5a (L0 fuel:Nat) (hF:L0=fuel+1) {H:AH} {s1 s2 s3:Sl3} {g:Sg} (hS:SigA H s1 s2 s3 g) {k w:Int} {n:ByteArray} {s:Sl3} {a:Fo} (h:SlF H s a) (hn:n.size≤maxS) (hd:a.dep≤fuel) :
  z8 (LCo L0) H k w n s s1 s2 s3=some (checkS g k w n a):=by
 unfold z8 checkS;rw [znj L0 fuel hF h hn hd];simp only [Option.bind_some];by_cases hw:wrongS k w n a=0
 ·rw [if_pos hw,if_pos hw];unfold z8x;have e1:(LCo L0).fuel=fuel+1:=hF;rw [e1,zid L0 hS (a.dep+1) fuel k w n s a h (zax hw).1 hd (by omega)];simp only [Option.bind_some];cases knS g.users g.datas k n a <;> rfl
 ·rw [if_neg hw,if_neg hw]
theorem zfi (L0 fuel:Nat) (hF:L0=fuel+1) {m:Nat} {H:AH} {s1 s2 s3:Sl3} {g:Sg} (hS:SigA H s1 s2 s3 g) (hm:m≤H.next) {k w:Int} {n:ByteArray} {s:Sl3} {a:Fo} (h:SlF H s a) (hn:n.size≤maxS) (hd:a.dep≤fuel) :
  ∃H',z1x (LCo L0) m H k w n s s1 s2 s3=some (checkS g k w n a,H')∧Ext H H':=by
 unfold z1x;obtain ⟨p,H',h1,h2,h3,h4,_⟩:=zce L0 (Nat.max m H.next) hS (Nat.max_le.2 ⟨hm,Nat.le_refl _⟩);rw [h1];simp only [Option.bind_some];rw [zaj L0 fuel hF h3 (h.ext h2) hn hd];exact ⟨H',rfl,h2⟩
end Go.Proofs.YtccbilfbhecdaaaGreatDoor
namespace Go.Proofs.YtccbilfbhecdaaaGreatDoor
open Go Go.Abs Go.ChangeShapes Go.WideShapes
set_option maxRecDepth 100000
theorem cells52:Tryz.prog.cellsOf 105=5:=by kernel_rfl
theorem cells50:Tryz.prog.cellsOf 103=2:=by kernel_rfl
theorem cells46:Tryz.prog.cellsOf 93=2:=by kernel_rfl
theorem cells89:Tryz.prog.cellsOf 108=6:=by kernel_rfl
theorem cells33:Tryz.prog.cellsOf 30=3:=by kernel_rfl
theorem cells48:Tryz.prog.cellsOf 101=1:=by kernel_rfl
theorem cells44:Tryz.prog.cellsOf 91=1:=by kernel_rfl
theorem cells29:Tryz.prog.cellsOf 26=1:=by kernel_rfl
theorem cells30:Tryz.prog.cellsOf 27=1:=by kernel_rfl
theorem cells31:Tryz.prog.cellsOf 28=1:=by kernel_rfl
theorem bytes9:Tryz.prog.bytesOf 9=16:=by kernel_rfl
theorem bytes46:Tryz.prog.bytesOf 93=40:=by kernel_rfl
theorem bytes89:Tryz.prog.bytesOf 108=96:=by kernel_rfl
structure StrV (H:AH) (cs:List Value) (b:ByteArray):Prop where
 ex:cs=[.string b]∧b.size≤maxS
structure SelV (H:AH) (cs:List Value) (b:Sel):Prop where
 ex:∃s,cs=[.string b.n,.int .i64 b.k,.int .i64 b.w,.string b.sn,Sl3.v s]∧b.n.size≤maxS∧b.sn.size≤maxS∧SlF H s b.a
structure ConV (H:AH) (cs:List Value) (b:Con):Prop where
 ex:∃s,cs=[.string b.n,Sl3.v s]∧b.n.size≤maxS∧SlL (Stands 5 SelV) 5 H s b.sels
structure DatV (H:AH) (cs:List Value) (b:Dat):Prop where
 ex:∃s,cs=[.string b.n,Sl3.v s]∧b.n.size≤maxS∧SlL (Stands 2 ConV) 2 H s b.cons
 len:b.cons.length≤1048576
structure SgL (g:Sg):Prop where
 u:g.users.length≤1048576
 d:g.datas.length≤1048576
 f:g.funs.length≤1048576
 c:∀d∈g.datas,d.cons.length≤1048576
structure FncV (H:AH) (cs:List Value) (b:Fnc):Prop where
 ex:∃s s',cs=[.string b.n,Sl3.v s,.int .i64 b.k,.int .i64 b.w,.string b.sn,Sl3.v s']∧b.n.size≤maxS∧SlF H s b.args∧b.sn.size≤maxS∧SlF H s' b.a
theorem Stands.ext {β:Type} {sz:Nat} {R:AH→List Value→β→Prop} (hR:∀H H' cs b,Ext H H'→R H cs b→R H' cs b) {H H':AH} (hf:Ext H H') {q:Addr} {b:β} (h:Stands sz R H q b):Stands sz R H' q b:=by
 obtain ⟨cs,h1,h2,h3⟩:=h;exact ⟨cs,h1,fun j v hv=>(h2 j v hv).ext hf,hR _ _ _ _ hf h3⟩
theorem StrV.ext (H H':AH) (cs:List Value) (b:ByteArray) (hf:Ext H H') (h:StrV H cs b):StrV H' cs b:=⟨h.ex⟩
theorem SelV.ext (H H':AH) (cs:List Value) (b:Sel) (hf:Ext H H') (h:SelV H cs b):SelV H' cs b:=⟨let ⟨s,a,b,c,d⟩:=h.ex; ⟨s,a,b,c,d.ext hf⟩⟩
theorem ConV.ext (H H':AH) (cs:List Value) (b:Con) (hf:Ext H H') (h:ConV H cs b):ConV H' cs b:=⟨let ⟨s,a,b,c⟩:=h.ex; ⟨s,a,b,c.ext hf fun _ _ h=>Stands.ext SelV.ext hf h⟩⟩
theorem DatV.ext (H H':AH) (cs:List Value) (b:Dat) (hf:Ext H H') (h:DatV H cs b):DatV H' cs b:=⟨let ⟨s,a,b,c⟩:=h.ex; ⟨s,a,b,c.ext hf fun _ _ h=>Stands.ext ConV.ext hf h⟩,h.len⟩
theorem FncV.ext (H H':AH) (cs:List Value) (b:Fnc) (hf:Ext H H') (h:FncV H cs b):FncV H' cs b:=⟨let ⟨s,s',a,b,c,d,e⟩:=h.ex; ⟨s,s',a,b,c.ext hf,d,e.ext hf⟩⟩
theorem str_of {H:AH} {q:Addr} {b:ByteArray} (h:Stands 1 StrV H q b):StrM H q b:=by
 obtain ⟨cs,h1,h2,h3⟩:=h;obtain ⟨rfl,h4⟩:=h3.ex;exact ⟨h2 0 _ rfl,h4⟩
theorem sel_of {H:AH} {q:Addr} {b:Sel} (h:Stands 5 SelV H q b):SelA H q b:=by
 obtain ⟨cs,h1,h2,h3⟩:=h;obtain ⟨s,rfl,h4,h5,h6⟩:=h3.ex;exact ⟨h2 0 _ rfl,h4,s,h2 1 _ rfl,h2 2 _ rfl,h2 3 _ rfl,h2 4 _ rfl,h5,h6⟩
theorem con_of {H:AH} {q:Addr} {b:Con} (h:Stands 2 ConV H q b):ConA H q b:=by
 obtain ⟨cs,h1,h2,h3⟩:=h;obtain ⟨s,rfl,h4,h5⟩:=h3.ex;exact ⟨h2 0 _ rfl,h4,s,h2 1 _ rfl,h5.imp (Nat.le_refl _) fun _ _ h=>sel_of h⟩
theorem dat_of {H:AH} {q:Addr} {b:Dat} (h:Stands 2 DatV H q b):DatA H q b:=by
 obtain ⟨cs,h1,h2,h3⟩:=h;obtain ⟨s,rfl,h4,h5⟩:=h3.ex;exact ⟨h2 0 _ rfl,h4,s,h2 1 _ rfl,h5.imp (Nat.le_refl _) fun _ _ h=>con_of h⟩
theorem fnc_of {H:AH} {q:Addr} {b:Fnc} (h:Stands 6 FncV H q b):FncA H q b:=by
 obtain ⟨cs,h1,h2,h3⟩:=h;obtain ⟨s,s',rfl,h4,h5,h6,h7⟩:=h3.ex;exact ⟨h2 0 _ rfl,h4,⟨s,h2 1 _ rfl,h5⟩,s',h2 2 _ rfl,h2 3 _ rfl,h2 4 _ rfl,h2 5 _ rfl,h6,h7⟩
section
variable {H:Type} {enc:TypeId×Value→H} {W:World}
theorem zke (fuel:Nat) (cs:List Value) (x:DataW H×List MemPlace) (hx:DataW.trod enc Tryz.prog W 0 (fun _=>true) true fuel 9 cs=some x) (hw:(x.1.weights Tryz.prog 9).all (·≤reachBytes)=true):ElemIn Tryz.prog W 1 StrV cs:=by
 intro φ H0 h;obtain ⟨s,rfl,hs⟩:=z6x Tryz.underlying9 hx hw;exact ⟨φ,H0,[.string s],s,h,Inj.le_refl _,Fm.refl _ _,rfl,rfl,.cons (.string _) .nil,⟨rfl,hs⟩⟩
theorem zkb (fuel:Nat) (cs:List Value) (x:DataW H×List MemPlace) (hx:DataW.trod enc Tryz.prog W 0 (fun _=>true) true fuel 105 cs=some x) (hw:(x.1.weights Tryz.prog 105).all (·≤reachBytes)=true):ElemIn Tryz.prog W 5 SelV cs:=by
 intro φ H0 h;obtain ⟨xs,n,rfl,rfl,hl,hlen,hf⟩:=DataW.trod_struct Tryz.underlying105 hx;rw [cells52] at hl
 match xs,hlen with
 | [y0,y1],_ =>
  match cs,hl with
  | [c0,c1,c2,c3,c4],_ =>
   have f0:DataW.trod enc Tryz.prog W 0 (fun _=>true) true n 9 (([c0,c1,c2,c3,c4].drop 0).take (Tryz.prog.cellsOf 9))=some y0:=hf 0 _ rfl;rw [cells9] at f0;change DataW.trod enc Tryz.prog W 0 (fun _=>true) true n 9 [c0]=some y0 at f0;have f1:DataW.trod enc Tryz.prog W 0 (fun _=>true) true n 25 (([c0,c1,c2,c3,c4].drop 1).take (Tryz.prog.cellsOf 25))=some y1:=hf 1 _ rfl;rw [cells28] at f1;change DataW.trod enc Tryz.prog W 0 (fun _=>true) true n 25 [c1,c2,c3,c4]=some y1 at f1;simp only [DataW.weights,Tryz.underlying105,List.map_cons,List.map_nil,DataW.weightsEach,List.append_nil,List.all_append,Bool.and_eq_true] at hw;obtain ⟨s0,e0,hs0⟩:=z6x Tryz.underlying9 f0 hw.1;simp only [List.cons.injEq,and_true] at e0;subst e0;obtain ⟨φ',H',cs',b,g1,g2,g3,g4,g5,g6,g7⟩:=z3l n _ _ f1 hw.2 φ H0 h;obtain ⟨s,rfl,h8,h9⟩:=g7.ex;exact ⟨φ',H',[.string s0,.int .i64 b.1,.int .i64 b.2.1,.string b.2.2.1,Sl3.v s],⟨s0,b.1,b.2.1,b.2.2.1,b.2.2.2⟩,g1,g2,g3,rfl,rfl,.cons (.string _) g6,⟨s,rfl,hs0,h8,h9⟩⟩
theorem zca {t u e:TypeId} {f0 f1:Field} (ht:Tryz.prog.underlying t=some (.struct #[f0,f1])) (hf0:f0.type=9∧f0.offset=0) (hf1:f1.type=u∧f1.offset=1) (hc:Tryz.prog.cellsOf t=2) (hu:Tryz.prog.cellsOf u=1) (hus:Tryz.prog.underlying u=some (.slice e))
  {sz:Nat} (hce:Tryz.prog.cellsOf e=sz) (hsz:0<sz) {β:Type} {R:AH→List Value→β→Prop} (hR:∀H H' cs b,Ext H H'→R H cs b→R H' cs b)
  (elem:∀n cs y,DataW.trod enc Tryz.prog W 0 (fun _=>true) true n e cs=some y→(y.1.weights Tryz.prog e).all (·≤reachBytes)=true→ElemIn Tryz.prog W sz R cs)
  {fuel:Nat} {cs:List Value} {x:DataW H×List MemPlace} (hx:DataW.trod enc Tryz.prog W 0 (fun _=>true) true fuel t cs=some x) (hw:(x.1.weights Tryz.prog t).all (·≤reachBytes)=true) {φ:Inj} {H0:AH} (h:Imp Tryz.prog φ H0 W) :
  ∃φ' H' nm s bs,Imp Tryz.prog φ' H' W∧φ.le φ'∧Ext H0 H'∧cs.length=2∧LR φ' [.string nm,Sl3.v s] cs∧nm.size≤maxS∧SlL (Stands sz R) sz H' s (bs:List β)∧bs.length≤Rows.uptoBulk x.1:=by
 obtain ⟨xs,n,rfl,rfl,hl,hlen,hf⟩:=DataW.trod_struct ht hx;rw [hc] at hl
 match xs,hlen with
 | [y0,y1],_ =>
  match cs,hl with
  | [c0,c1],_ =>
   have g0:DataW.trod enc Tryz.prog W 0 (fun _=>true) true n f0.type (([c0,c1].drop f0.offset).take (Tryz.prog.cellsOf f0.type))=some y0:=hf 0 _ rfl;rw [hf0.1,hf0.2,cells9] at g0;change DataW.trod enc Tryz.prog W 0 (fun _=>true) true n 9 [c0]=some y0 at g0;have g1:DataW.trod enc Tryz.prog W 0 (fun _=>true) true n f1.type (([c0,c1].drop f1.offset).take (Tryz.prog.cellsOf f1.type))=some y1:=hf 1 _ rfl;rw [hf1.1,hf1.2,hu] at g1;change DataW.trod enc Tryz.prog W 0 (fun _=>true) true n u [c1]=some y1 at g1;simp only [DataW.weights,ht,List.map_cons,List.map_nil,DataW.weightsEach,List.append_nil,List.all_append,Bool.and_eq_true,hf0.1,hf1.1] at hw;obtain ⟨s0,e0,hs0⟩:=z6x Tryz.underlying9 g0 hw.1;obtain ⟨v,φ',H',s,bs,e3,k1,k2,k3,k4,k5,_,k6⟩:=ze (enc:=enc) hus hce hsz hR (fun m hm cs x q1 q2 _=>elem m cs x q1 q2) g1 hw.2 h;simp only [List.cons.injEq,and_true] at e0 e3;subst e0 e3;exact ⟨φ',H',s0,s,bs,k1,k2,k3,rfl,.cons (.string _) (.cons k4 .nil),hs0,k5,by simp only [List.map_cons,List.map_nil,Rows.uptoBulk,Rows.uptoBulkAll]; omega⟩
theorem zkx (fuel:Nat) (cs:List Value) (x:DataW H×List MemPlace) (hx:DataW.trod enc Tryz.prog W 0 (fun _=>true) true fuel 103 cs=some x) (hw:(x.1.weights Tryz.prog 103).all (·≤reachBytes)=true):ElemIn Tryz.prog W 2 ConV cs:=by
 intro φ H0 h;obtain ⟨φ',H',nm,s,bs,h1,h2,h3,h4,h5,h6,h7,_⟩:=zca Tryz.underlying103 ⟨rfl,rfl⟩ ⟨rfl,rfl⟩ cells50 cells48 Tryz.underlying101 cells52 (by omega) SelV.ext zkb hx hw h;exact ⟨φ',H',_,⟨nm,bs⟩,h1,h2,h3,rfl,h4,h5,⟨s,rfl,h6,h7⟩⟩
theorem zl5 (fuel:Nat) (cs:List Value) (x:DataW H×List MemPlace) (hx:DataW.trod enc Tryz.prog W 0 (fun _=>true) true fuel 93 cs=some x) (hw:(x.1.weights Tryz.prog 93).all (·≤reachBytes)=true) (hK:Rows.uptoBulk x.1≤1048576):ElemIn Tryz.prog W 2 DatV cs:=by
 intro φ H0 h;obtain ⟨φ',H',nm,s,bs,h1,h2,h3,h4,h5,h6,h7,h8⟩:=zca Tryz.underlying93 ⟨rfl,rfl⟩ ⟨rfl,rfl⟩ cells46 cells44 Tryz.underlying91 cells50 (by omega) ConV.ext zkx hx hw h;exact ⟨φ',H',_,⟨nm,bs⟩,h1,h2,h3,rfl,h4,h5,⟨s,rfl,h6,h7⟩,by show bs.length≤_; omega⟩
theorem zky (fuel:Nat) (cs:List Value) (x:DataW H×List MemPlace) (hx:DataW.trod enc Tryz.prog W 0 (fun _=>true) true fuel 108 cs=some x) (hw:(x.1.weights Tryz.prog 108).all (·≤reachBytes)=true):ElemIn Tryz.prog W 6 FncV cs:=by
 intro φ H0 h;obtain ⟨xs,n,rfl,rfl,hl,hlen,hf⟩:=DataW.trod_struct Tryz.underlying108 hx;rw [cells89] at hl
 match xs,hlen with
 | [y0,y1,y2],_ =>
  match cs,hl with
  | [c0,c1,c2,c3,c4,c5],_ =>
   have f0:DataW.trod enc Tryz.prog W 0 (fun _=>true) true n 9 (([c0,c1,c2,c3,c4,c5].drop 0).take (Tryz.prog.cellsOf 9))=some y0:=hf 0 _ rfl;rw [cells9] at f0;change DataW.trod enc Tryz.prog W 0 (fun _=>true) true n 9 [c0]=some y0 at f0;have f1:DataW.trod enc Tryz.prog W 0 (fun _=>true) true n 23 (([c0,c1,c2,c3,c4,c5].drop 1).take (Tryz.prog.cellsOf 23))=some y1:=hf 1 _ rfl;rw [cells26] at f1;change DataW.trod enc Tryz.prog W 0 (fun _=>true) true n 23 [c1]=some y1 at f1;have f2:DataW.trod enc Tryz.prog W 0 (fun _=>true) true n 25 (([c0,c1,c2,c3,c4,c5].drop 2).take (Tryz.prog.cellsOf 25))=some y2:=hf 2 _ rfl;rw [cells28] at f2;change DataW.trod enc Tryz.prog W 0 (fun _=>true) true n 25 [c2,c3,c4,c5]=some y2 at f2;simp only [DataW.weights,Tryz.underlying108,List.map_cons,List.map_nil,DataW.weightsEach,List.append_nil,List.all_append,Bool.and_eq_true] at hw;obtain ⟨s0,e0,hs0⟩:=z6x Tryz.underlying9 f0 hw.1;obtain ⟨v,φ1,H1,s1,bs,e3,k1,k2,k3,k4,k5,_⟩:=ze (enc:=enc) Tryz.underlying23 cells28 (by omega) SortV.ext (fun m hm cs x q1 q2 _=>z3l m cs x q1 q2) f1 hw.2.1 h;simp only [List.cons.injEq,and_true] at e0 e3;subst e0 e3;obtain ⟨φ',H',cs',b,g1,g2,g3,g4,g5,g6,g7⟩:=z3l n _ _ f2 hw.2.2 φ1 H1 k1;obtain ⟨s,rfl,h8,h9⟩:=g7.ex;exact ⟨φ',H',[.string s0,Sl3.v s1,.int .i64 b.1,.int .i64 b.2.1,.string b.2.2.1,Sl3.v s],⟨s0,foOf bs,b.1,b.2.1,b.2.2.1,b.2.2.2⟩,g1,Inj.le_trans k2 g2,k3.trans g3,rfl,rfl,.cons (.string _) (.cons (k4.mono g2) g6),⟨s1,s,rfl,hs0,(slF_of k5).ext g3,h8,h9⟩⟩
theorem zms {φ:Inj} {H0:AH} (h:Imp Tryz.prog φ H0 W) {v:Value} {d:DataW H} {ps:List MemPlace} {base:Nat} (hd:DataW.Trod enc Tryz.prog W 0 (fun _=>true) true 30 v d ps) (hv:Value.okWide Tryz.prog W .any base 30 v)
  (hw:(d.weights Tryz.prog 30).all (·≤reachBytes)=true) (hK:Rows.uptoBulk d≤1048576):∃φ' H' s1 s2 s3 g,Imp Tryz.prog φ' H' W∧φ.le φ'∧Ext H0 H'∧VR φ' (.agg #[Sl3.v s1,Sl3.v s2,Sl3.v s3]) v∧SigA H' s1 s2 s3 g∧SgB g∧SgL g:=by
 obtain ⟨fuel,hx⟩:=hd;have hvv:=hv;simp only [Value.okWide,Tryz.underlying30] at hvv;obtain ⟨cs,rfl,hs,_⟩:=hvv;change DataW.trod enc Tryz.prog W 0 (fun _=>true) true fuel 30 cs.toList=some (d,ps) at hx;obtain ⟨xs,n,rfl,he,hl,hlen,hf⟩:=DataW.trod_struct Tryz.underlying30 hx;simp only [Prod.mk.injEq] at he;obtain ⟨rfl,_⟩:=he;rw [cells33] at hl;obtain ⟨cs⟩:=cs
 match xs,hlen with
 | [y0,y1,y2],_ =>
  match cs,hl with
  | [c0,c1,c2],_ =>
   have f0:DataW.trod enc Tryz.prog W 0 (fun _=>true) true n 26 (([c0,c1,c2].drop 0).take (Tryz.prog.cellsOf 26))=some y0:=hf 0 _ rfl;rw [cells29] at f0;change DataW.trod enc Tryz.prog W 0 (fun _=>true) true n 26 [c0]=some y0 at f0;have f1:DataW.trod enc Tryz.prog W 0 (fun _=>true) true n 27 (([c0,c1,c2].drop 1).take (Tryz.prog.cellsOf 27))=some y1:=hf 1 _ rfl;rw [cells30] at f1;change DataW.trod enc Tryz.prog W 0 (fun _=>true) true n 27 [c1]=some y1 at f1;have f2:DataW.trod enc Tryz.prog W 0 (fun _=>true) true n 28 (([c0,c1,c2].drop 2).take (Tryz.prog.cellsOf 28))=some y2:=hf 2 _ rfl;rw [cells31] at f2;change DataW.trod enc Tryz.prog W 0 (fun _=>true) true n 28 [c2]=some y2 at f2;simp only [DataW.weights,Tryz.underlying30,List.map_cons,List.map_nil,DataW.weightsEach,List.append_nil,List.all_append,Bool.and_eq_true] at hw;simp only [List.map_cons,List.map_nil,Rows.uptoBulk,Rows.uptoBulkAll] at hK;obtain ⟨v0,φ1,H1,s1,us,e0,k1,k2,k3,k4,k5,k6⟩:=ze (enc:=enc) Tryz.underlying26 cells9 (by omega) StrV.ext (fun m hm cs x q1 q2 _=>zke m cs x q1 q2) f0 hw.1 h;obtain ⟨v1,φ2,H2,s2,ds,e1,l1,l2,l3,l4,l5,l6⟩:=ze (enc:=enc) Tryz.underlying27 cells46 (by omega) DatV.ext (fun m hm cs x q1 q2 q3=>zl5 m cs x q1 q2 (by omega)) f1 hw.2.1 k1;obtain ⟨v2,φ3,H3,s3,fs,e2,m1,m2,m3,m4,m5,m6⟩:=ze (enc:=enc) Tryz.underlying28 cells89 (by omega) FncV.ext (fun m hm cs x q1 q2 _=>zky m cs x q1 q2) f2 hw.2.2 l1;simp only [List.cons.injEq,and_true] at e0 e1 e2;subst e0 e1 e2;refine ⟨φ3,H3,s1,s2,s3,⟨us,ds,fs⟩,m1,Inj.le_trans k2 (Inj.le_trans l2 m2),(k3.trans l3).trans m3,?_,⟨?_,?_,?_⟩,⟨k6.1 (by rw [bytes9]; omega),l6.1 (by rw [bytes46]; omega),m6.1 (by rw [bytes89]; omega)⟩,⟨?_,?_,?_,?_⟩⟩
   ·have hg:=b9 (show LR φ3 [Sl3.v s1,Sl3.v s2,Sl3.v s3] [c0,c1,c2] from .cons (k4.mono (Inj.le_trans l2 m2)) (.cons (l4.mono m2) (.cons m4 .nil)));exact .agg _ _ rfl fun i x y hx hy=>hg.2 i x y (by simpa using hx) (by simpa using hy)
   ·exact (k5.imp (Nat.le_refl _) fun _ _ h=>str_of h).ext (l3.trans m3) fun _ _ h=>h.ext (l3.trans m3)
   ·exact (l5.imp (Nat.le_refl _) fun _ _ h=>dat_of h).ext m3 fun _ _ h=>h.ext m3
   ·exact m5.imp (Nat.le_refl _) fun _ _ h=>fnc_of h
   ·have:=k6.2; show us.length≤_; omega
   ·have:=l6.2; show ds.length≤_; omega
   ·have:=m6.2; show fs.length≤_; omega
   ·intro x hx;obtain ⟨i,hi,rfl⟩:=List.getElem_of_mem (show x∈ds from hx);obtain ⟨a,_,q⟩:=l5.at_.get i hi;obtain ⟨cs,_,_,q⟩:=q;exact q.len
end
end Go.Proofs.YtccbilfbhecdaaaGreatDoor
namespace Go.Proofs.YtccbilfbhecdaaaGreatDoor
open Go Go.Abs
set_option maxRecDepth 100000
def badC (c:Con):Bool:=decide (c.sels.length > 64)
def badD (d:Dat):Bool:=decide (d.cons.length<1)||(decide (d.cons.length > 64)||d.cons.any badC)
def badF (f:Fnc):Bool:=decide (f.args.len > 64)
def sumL {α:Type} (f:α→Nat):List α→Nat
 | []=>0
 | x :: l=>f x+sumL f l
def cntD (d:Dat):Nat:=d.cons.length+sumL (fun c=>c.sels.length) d.cons
def cntG (g:Sg):Nat:=g.users.length+g.datas.length+g.funs.length+sumL cntD g.datas
def manyS (g:Sg):Bool:=g.datas.any badD||(g.funs.any badF||decide (cntG g > 4096))
theorem zhf {α:Type} {f:α→Nat} {F:Nat}:∀{l:List α},(∀x∈l,f x≤F)→sumL f l≤l.length*F
 | [],_=>by simp [sumL]
 | x :: l,h=>by
  have h1:=h x (by simp);have h2:=zhf (l:=l) fun y hy=>h y (by simp [hy]);simp only [sumL,List.length_cons,Nat.add_mul,Nat.one_mul];omega
theorem z80 {α R:Type} {xs:List α} {body:Int×Int→Option (Lp (Int×Int) R)} (f:α→Nat) (bad:α→Option R) (F M:Nat) (hF:∀x,bad x=none→f x≤F)
  (hs:∀(i:Nat) (hi:i<xs.length) (n:Nat),n+F≤M→body ((n:Int),(i:Int))=some (match bad xs[i] with | some r=>.ret r | none=>.next (((n+f xs[i]:Nat):Int),((i+1:Nat):Int))))
  (he:∀n:Nat,body ((n:Int),(xs.length:Int))=some (.brk ((n:Int),(xs.length:Int)))) :
  ∀(d i n:Nat),i+d=xs.length→n+d*F≤M→loopO body ((n:Int),(i:Int))=some (match (xs.drop i).findSome? bad with | some r=>.inr r | none=>.inl (((n+sumL f (xs.drop i):Nat):Int),(xs.length:Int))):=by
 intro d;induction d with
 | zero =>
  intro i n hi hn;have:i=xs.length:=by omega
  subst this;rw [List.drop_length];exact Y1 (he n)
 | succ d ih =>
  intro i n hi hn;have hlt:i<xs.length:=by omega
  rw [Nat.add_mul,Nat.one_mul] at hn;have hb:=hs i hlt n (by omega);rw [List.drop_eq_getElem_cons hlt,List.findSome?_cons];cases hq:bad xs[i] with
  | some r=>rw [hq] at hb; exact N3 hb
  | none =>
   rw [hq] at hb;have h1:=hF xs[i] hq;rw [W1 hb,ih (i+1) (n+f xs[i]) (by omega) (by omega)];simp only [sumL];cases (xs.drop (i+1)).findSome? bad with
   | some r=>rfl
   | none=>simp only [Nat.add_assoc]
theorem zi2 {α R:Type} {xs:List α} {body:Int×Int→Option (Lp (Int×Int) R)}
  (hs:∀(i:Nat) (hi:i<xs.length) (n:Int),∃n',body (n,(i:Int))=some (.next (n',((i+1:Nat):Int)))) (he:∀n:Int,body (n,(xs.length:Int))=some (.brk (n,(xs.length:Int)))) :
  ∀(d i:Nat) (n:Int),i+d=xs.length→∃n',loopO body (n,(i:Int))=some (.inl (n',(xs.length:Int))):=by
 intro d;induction d with
 | zero =>
  intro i n hi;have:i=xs.length:=by omega
  subst this;exact ⟨n,Y1 (he n)⟩
 | succ d ih =>
  intro i n hi;obtain ⟨n',hb⟩:=hs i (by omega) n;obtain ⟨n2,h⟩:=ih (i+1) n' (by omega);exact ⟨n2,by rw [W1 hb]; exact h⟩
theorem z90 {α R:Type} (l:List α) (p:α→Bool) (r:R):(l.findSome? fun x=>if p x=true then some r else none)=if l.any p=true then some r else none:=by
 induction l with
 | nil=>rfl
 | cons x l ih =>
  rw [List.findSome?_cons,List.any_cons,ih];cases p x <;> rfl
theorem z34 {α R:Type} (l:List α) (bad:α→Bool) (r:R) (d:α) :
  (List.range l.length).findSome? (fun i=>if bad (l.getD i d)=true then some r else none)=if l.any bad=true then some r else none:=by
 induction l with
 | nil=>simp
 | cons x l ih =>
  rw [List.length_cons,List.range_succ_eq_map,List.findSome?_cons,List.any_cons];cases hx:bad x with
  | true=>simp [hx]
  | false =>
   simp only [List.getD_cons_zero,hx,Bool.false_eq_true,if_false,Bool.false_or,List.findSome?_map,Function.comp_def,List.getD_cons_succ];exact ih
theorem z1s {a b:Nat} (h:a+b≤maxN):IntKind.i64.wrap ((a:Int)+(b:Int))=((a+b:Nat):Int):=zju (by omega) (by rw [B2] at h; omega)
theorem zpv (c:Nat) {H:AH} {s1 s2 s3 sl:Sl3} {v:Int} {x0:ByteArray} {cs:List Con} (h:SlL ConA 2 H sl cs) (hl:cs.length≤64) {n:Nat} (hn:n+4096≤maxN) :
  loopO (a7 (LCo c) H s1 s2 s3 v x0 sl) ((n:Int),0)=some (if cs.any badC=true then .inr true else .inl (((n+sumL (fun c=>c.sels.length) cs:Nat):Int),(cs.length:Int))):=by
 have hs:loopO (a7 (LCo c) H s1 s2 s3 v x0 sl) ((n:Int),((0:Nat):Int))=_:=z80 (xs:=cs) (body:=a7 (LCo c) H s1 s2 s3 v x0 sl) (fun c=>c.sels.length) (fun c=>if badC c=true then some true else none) 64 (n+4096)
  (fun x hx=>by
   unfold badC at hx;by_cases h:x.sels.length > 64
   ·simp [h] at hx
   ·omega)
  (fun i hi n' hn'=>by
   unfold a7;have hln:=h.n;obtain ⟨q,h1,h2⟩:=h.get hi (v:=(i:Int)) rfl;obtain ⟨sx,h3,h4⟩:=h2.ex;have r0:rd deS H (q.add 0)=some cs[i].n:=by rw [h2.n.rd]; rfl
   have r1:rd deSl H (q.add 1)=some sx:=by rw [h3.rd]; rfl
   simp only [if_pos (show (i:Int)<(sl.n:Int) by omega),h1,Option.bind_some,r0,r1,h4.n];unfold badC;by_cases hb:cs[i].sels.length > 64
   ·have:((cs[i].sels.length:Nat):Int) > 64:=by omega
    simp [hb,this]
   ·have:¬(((cs[i].sels.length:Nat):Int) > 64):=by omega
    rw [if_neg this,z1s (by omega),V1 hi h.len];simp [hb])
  (fun n'=>by
   unfold a7;have hln:=h.n;simp only [if_neg (show ¬((cs.length:Int)<(sl.n:Int)) by omega)])
  cs.length 0 n (by omega) (by omega)
 rw [List.drop_zero,z90] at hs;refine hs.trans ?_;cases cs.any badC <;> rfl
theorem zng (c:Nat) {H:AH} {s1 s2 s3:Sl3} {g:Sg} (h:SigA H s1 s2 s3 g) (hB:SgB g):z53 (LCo c) H s1 s2 s3=some (manyS g):=by
 have eS:maxS=140737488351232:=rfl;have eN:=B2;have hu:=h.u.n; have hd:=h.d.n; have hf:=h.f.n;have b1:=hB.u; have b2:=hB.d; have b3:=hB.f;unfold z53;have w0:IntKind.i64.wrap (IntKind.i64.wrap ((s1.n:Int)+(s2.n:Int))+(s3.n:Int))=((s1.n+s2.n+s3.n:Nat):Int):=by
  rw [z1s (by omega),z1s (by omega)]
 rw [w0];have hs:loopO (Z7 (LCo c) H s1 s2 s3) (((s1.n+s2.n+s3.n:Nat):Int),((0:Nat):Int))=_:=z80 (xs:=g.datas) (body:=Z7 (LCo c) H s1 s2 s3) cntD (fun d=>if badD d=true then some true else none) 8256 9000000000000000000
  (fun d hd=>by
   by_cases hb:badD d=true
   ·rw [if_pos hb] at hd; cases hd
   ·simp only [badD,Bool.or_eq_true,decide_eq_true_eq,not_or,List.any_eq_true,not_exists,not_and] at hb;have:sumL (fun c=>c.sels.length) d.cons≤d.cons.length*64:=zhf fun x hx=>by
     have:=hb.2.2 x hx;simp only [badC,decide_eq_true_eq] at this;omega
    unfold cntD;omega)
  (fun i hi n' hn'=>by
   unfold Z7;obtain ⟨q,h1,h2⟩:=h.d.get hi (v:=(i:Int)) rfl;obtain ⟨sx,h3,h4⟩:=h2.ex;have r0:rd deS H (q.add 0)=some g.datas[i].n:=by rw [h2.n.rd]; rfl
   have r1:rd deSl H (q.add 1)=some sx:=by rw [h3.rd]; rfl
   simp only [if_pos (show (i:Int)<(s2.n:Int) by omega),h1,Option.bind_some,r0,r1,h4.n];by_cases c1:g.datas[i].cons.length<1
   ·have:((g.datas[i].cons.length:Nat):Int)<1:=by omega
    simp [badD,c1,this]
   ·have c1':¬(((g.datas[i].cons.length:Nat):Int)<1):=by omega
    rw [if_neg c1'];by_cases c2:g.datas[i].cons.length > 64
    ·have:((g.datas[i].cons.length:Nat):Int) > 64:=by omega
     simp [badD,c2,this]
    ·have c2':¬(((g.datas[i].cons.length:Nat):Int) > 64):=by omega
     simp only [decide_eq_false c2',Option.bind_some,Bool.false_eq_true,if_false];rw [z1s (by omega)];have hb1:=zpv c (s1:=s1) (s2:=s2) (s3:=s3) (v:=(i:Int)) (x0:=g.datas[i].n) h4 (by omega) (n:=n'+g.datas[i].cons.length) (by omega);show Option.bind (loopO (a7 (LCo c) H s1 s2 s3 (i:Int) g.datas[i].n sx) (((n'+g.datas[i].cons.length:Nat):Int),0)) _=_;rw [hb1];have hbd:badD g.datas[i]=g.datas[i].cons.any badC:=by simp [badD,c1,c2]
     rw [hbd];cases g.datas[i].cons.any badC with
     | true=>rfl
     | false =>
      simp only [Bool.false_eq_true,if_false,Option.bind_some];rw [V1 hi h.d.len];simp only [cntD,Nat.add_assoc])
  (fun n'=>by
   unfold Z7;simp only [if_neg (show ¬((g.datas.length:Int)<(s2.n:Int)) by omega)])
  g.datas.length 0 (s1.n+s2.n+s3.n) (by omega) (by omega)
 rw [List.drop_zero,z90] at hs;show Option.bind (loopO (Z7 (LCo c) H s1 s2 s3) (((s1.n+s2.n+s3.n:Nat):Int),((0:Nat):Int))) _=_;rw [hs];unfold manyS;cases g.datas.any badD with
 | true=>rfl
 | false =>
  simp only [Bool.false_eq_true,if_false,Option.bind_some,Bool.false_or];have hl:∀v,loopO (j9 (LCo c) H s1 s2 s3 v) 0=some (found g.funs.length ((List.range g.funs.length).findSome? (fun i=>if badF (g.funs.getD i ⟨emptyT,.nil,0,0,emptyT,.nil⟩)=true then some true else none))):=by
   intro v;refine V3 g.funs.length h.f.len _ (fun i hi=>?_) ?_
   ·unfold j9;obtain ⟨q,h1,h2⟩:=h.f.get hi (v:=(i:Int)) rfl;obtain ⟨sx,h3,h4⟩:=h2.ar;obtain ⟨sy,k2,k3,k4,k5,k6,k7⟩:=h2.ex;have r0:rd deS H (q.add 0)=some g.funs[i].n:=by rw [h2.n.rd]; rfl
    have r1:rd deSl H (q.add 1)=some sx:=by rw [h3.rd]; rfl
    have r2:rd (deI .i64) H (q.add 2)=some g.funs[i].k:=by rw [k2.rd]; rfl
    have r3:rd (deI .i64) H (q.add 3)=some g.funs[i].w:=by rw [k3.rd]; rfl
    have r4:rd deS H (q.add 4)=some g.funs[i].sn:=by rw [k4.rd]; rfl
    have r5:rd deSl H (q.add 5)=some sy:=by rw [k5.rd]; rfl
    have:g.funs.getD i ⟨emptyT,.nil,0,0,emptyT,.nil⟩=g.funs[i]:=by simp [List.getD,hi]
    simp only [if_pos (show (i:Int)<(s3.n:Int) by omega),h1,Option.bind_some,r0,r1,r2,r3,r4,r5,this,badF,h4.1];by_cases hb:g.funs[i].args.len > 64
    ·have:((g.funs[i].args.len:Nat):Int) > 64:=by omega
     simp [hb,this,stepO]
    ·have:¬(((g.funs[i].args.len:Nat):Int) > 64):=by omega
     simp [hb,this,stepO]
   ·unfold j9;rw [if_neg (by omega)]
  show Option.bind (loopO (j9 (LCo c) H s1 s2 s3 _) 0) _=_;rw [hl,z34 g.funs badF true ⟨emptyT,.nil,0,0,emptyT,.nil⟩];cases g.funs.any badF with
  | true=>rfl
  | false =>
   simp only [Bool.false_eq_true,if_false,found,Option.bind_some,Bool.false_or]
   congr 2
   apply propext;unfold cntG;omega
theorem zlw (c:Nat) {H:AH} {s1 s2 s3 sl:Sl3} {v:Int} {x0:ByteArray} {cs:List Con} (h:SlL ConA 2 H sl cs) {i:Nat} (hi:i<cs.length) (n:Int) :
  T3 (LCo c) H s1 s2 s3 v x0 sl (n,(i:Int))=some (.next (IntKind.i64.wrap (n+(cs[i].sels.length:Nat)),((i+1:Nat):Int))):=by
 unfold T3;have hln:=h.n;obtain ⟨q,h1,h2⟩:=h.get hi (v:=(i:Int)) rfl;obtain ⟨sx,h3,h4⟩:=h2.ex;have r1:rd deSl H (q.add 1)=some sx:=by rw [h3.rd]; rfl
 simp only [if_pos (show (i:Int)<(sl.n:Int) by omega),h1,Option.bind_some,r1,h4.n];rw [V1 hi h.len]
theorem zlz (c:Nat) {H:AH} {s1 s2 s3 sl:Sl3} {v:Int} {x0:ByteArray} {cs:List Con} (h:SlL ConA 2 H sl cs) (n:Int) :
  T3 (LCo c) H s1 s2 s3 v x0 sl (n,(cs.length:Int))=some (.brk (n,(cs.length:Int))):=by
 unfold T3;have hln:=h.n;simp only [if_neg (show ¬((cs.length:Int)<(sl.n:Int)) by omega)]
theorem zos (c:Nat) {H:AH} {s1 s2 s3:Sl3} {g:Sg} (h:SigA H s1 s2 s3 g) (hB:SgB g):z3i (LCo c) H s1 s2 s3=some (manyS g):=by
 have eS:maxS=140737488351232:=rfl;have eN:=B2;have hu:=h.u.n; have hd:=h.d.n; have hf:=h.f.n;have b1:=hB.u; have b2:=hB.d; have b3:=hB.f;unfold z3i;have w0:IntKind.i64.wrap (IntKind.i64.wrap ((s1.n:Int)+(s2.n:Int))+(s3.n:Int))=((s1.n+s2.n+s3.n:Nat):Int):=by
  rw [z1s (by omega),z1s (by omega)]
 rw [w0];have hsum:∃v:Int,loopO (U3 (LCo c) H s1 s2 s3) (((s1.n+s2.n+s3.n:Nat):Int),((0:Nat):Int))=some (.inl (v,(g.datas.length:Int)))∧(g.datas.any badD=false→v=(cntG g:Int)):=by
  cases hbad:g.datas.any badD with
  | true =>
   obtain ⟨v,hv⟩:=zi2 (xs:=g.datas) (body:=U3 (LCo c) H s1 s2 s3) (fun i hi n=>by
     obtain ⟨q,h1,h2⟩:=h.d.get hi (v:=(i:Int)) rfl;obtain ⟨sx,h3,h4⟩:=h2.ex;have r0:rd deS H (q.add 0)=some g.datas[i].n:=by rw [h2.n.rd]; rfl
     have r1:rd deSl H (q.add 1)=some sx:=by rw [h3.rd]; rfl
     obtain ⟨n',hn'⟩:=zi2 (xs:=g.datas[i].cons) (body:=T3 (LCo c) H s1 s2 s3 (i:Int) g.datas[i].n sx) (fun j hj n=>⟨_,zlw c h4 hj n⟩) (zlz c h4) g.datas[i].cons.length 0 (IntKind.i64.wrap (n+(g.datas[i].cons.length:Nat))) (by omega);refine ⟨n',?_⟩;unfold U3;simp only [if_pos (show (i:Int)<(s2.n:Int) by omega),h1,Option.bind_some,r0,r1,h4.n];show Option.bind (loopO (T3 (LCo c) H s1 s2 s3 (i:Int) g.datas[i].n sx) (_,((0:Nat):Int))) _=_;rw [hn'];simp only [Option.bind_some];rw [V1 hi h.d.len])
    (fun n=>by
     unfold U3;simp only [if_neg (show ¬((g.datas.length:Int)<(s2.n:Int)) by omega)])
    g.datas.length 0 ((s1.n+s2.n+s3.n:Nat):Int) (by omega)
   exact ⟨v,hv,fun h=>by cases h⟩
  | false =>
   have hok:∀d∈g.datas,badD d=false:=by
    rw [List.any_eq_false] at hbad;intro d hd
    simpa using hbad d hd
   refine ⟨(cntG g:Int),?_,fun _=>rfl⟩;have hs:loopO (U3 (LCo c) H s1 s2 s3) (((s1.n+s2.n+s3.n:Nat):Int),((0:Nat):Int))=_:=z80 (xs:=g.datas) (body:=U3 (LCo c) H s1 s2 s3) (fun d=>if badD d=true then 0 else cntD d) (fun _=>none) 8256 9000000000000000000
    (fun d _=>by
     by_cases hb:badD d=true
     ·rw [if_pos hb]; omega
     ·rw [if_neg hb];simp only [badD,Bool.or_eq_true,decide_eq_true_eq,not_or,List.any_eq_true,not_exists,not_and] at hb;have:sumL (fun c=>c.sels.length) d.cons≤d.cons.length*64:=zhf fun x hx=>by
       have:=hb.2.2 x hx;simp only [badC,decide_eq_true_eq] at this;omega
      unfold cntD;omega)
    (fun i hi n' hn'=>by
     obtain ⟨q,h1,h2⟩:=h.d.get hi (v:=(i:Int)) rfl;obtain ⟨sx,h3,h4⟩:=h2.ex;have r0:rd deS H (q.add 0)=some g.datas[i].n:=by rw [h2.n.rd]; rfl
     have r1:rd deSl H (q.add 1)=some sx:=by rw [h3.rd]; rfl
     have hbd:=hok g.datas[i] (List.getElem_mem hi);have hbd':=hbd;simp only [badD,Bool.or_eq_false_iff,decide_eq_false_iff_not] at hbd';have hsel:∀x∈g.datas[i].cons,x.sels.length≤64:=by
      intro x hx;have:=hbd'.2.2;rw [List.any_eq_false] at this;have:=this x hx;simp only [badC,decide_eq_true_eq] at this;omega
     have hs1:loopO (T3 (LCo c) H s1 s2 s3 (i:Int) g.datas[i].n sx) (((n'+g.datas[i].cons.length:Nat):Int),((0:Nat):Int))=_:=z80 (xs:=g.datas[i].cons) (body:=T3 (LCo c) H s1 s2 s3 (i:Int) g.datas[i].n sx) (fun c=>if badC c=true then 0 else c.sels.length) (fun _=>none) 64 9000000000000000064
      (fun x _=>by
       unfold badC;by_cases h:x.sels.length > 64
       ·simp [h]
       ·simp [h]; omega)
      (fun j hj n2 hn2=>by
       rw [zlw c h4 hj,z1s (by have:=hsel _ (List.getElem_mem hj); omega)];have:badC g.datas[i].cons[j]=false:=by
        have:=hsel _ (List.getElem_mem hj);simp [badC]; omega
       simp [this])
      (fun n2=>zlz c h4 n2)
      g.datas[i].cons.length 0 (n'+g.datas[i].cons.length) (by omega) (by omega)
     rw [List.drop_zero] at hs1;have e1:(g.datas[i].cons.findSome? fun (_:Con)=>(none:Option Bool))=none:=by simp
     rw [e1] at hs1;have e2:sumL (fun c=>if badC c=true then 0 else c.sels.length) g.datas[i].cons=sumL (fun c=>c.sels.length) g.datas[i].cons:=by
      have key:∀l:List Con,(∀x∈l,x.sels.length≤64)→sumL (fun c=>if badC c=true then 0 else c.sels.length) l=sumL (fun c=>c.sels.length) l:=by
       intro l;induction l with
       | nil=>intro _; rfl
       | cons x l ih =>
        intro hx;have:badC x=false:=by have:=hx x (by simp); simp [badC]; omega
        simp only [sumL,this,Bool.false_eq_true,if_false];rw [ih fun y hy=>hx y (by simp [hy])]
      exact key _ hsel
     unfold U3;simp only [if_pos (show (i:Int)<(s2.n:Int) by omega),h1,Option.bind_some,r0,r1,h4.n];rw [z1s (by omega)];show Option.bind (loopO (T3 (LCo c) H s1 s2 s3 (i:Int) g.datas[i].n sx) (((n'+g.datas[i].cons.length:Nat):Int),((0:Nat):Int))) _=_;rw [hs1,e2];simp only [Option.bind_some,hbd,Bool.false_eq_true,if_false];rw [V1 hi h.d.len];simp only [cntD,Nat.add_assoc])
    (fun n'=>by
     unfold U3;simp only [if_neg (show ¬((g.datas.length:Int)<(s2.n:Int)) by omega)])
    g.datas.length 0 (s1.n+s2.n+s3.n) (by omega) (by omega)
   rw [List.drop_zero] at hs;have e1:(g.datas.findSome? fun (_:Dat)=>(none:Option Bool))=none:=by simp
   rw [e1] at hs;have e2:sumL (fun d=>if badD d=true then 0 else cntD d) g.datas=sumL cntD g.datas:=by
    have key:∀l:List Dat,(∀x∈l,badD x=false)→sumL (fun d=>if badD d=true then 0 else cntD d) l=sumL cntD l:=by
     intro l;induction l with
     | nil=>intro _; rfl
     | cons x l ih =>
      intro hx;simp only [sumL,hx x (by simp),Bool.false_eq_true,if_false];rw [ih fun y hy=>hx y (by simp [hy])]
    exact key _ hok
   rw [e2] at hs;refine hs.trans ?_;simp only [cntG,hu,hd,hf]
 obtain ⟨v,hv,hv2⟩:=hsum;show Option.bind (loopO (U3 (LCo c) H s1 s2 s3) (((s1.n+s2.n+s3.n:Nat):Int),((0:Nat):Int))) _=_;rw [hv];simp only [Option.bind_some];have hl2:loopO (D7 (LCo c) H s1 s2 s3) 0=some (found g.datas.length ((List.range g.datas.length).findSome? (fun i=>if badD (g.datas.getD i ⟨emptyT,[]⟩)=true then some true else none))):=by
  refine V3 g.datas.length h.d.len _ (fun i hi=>?_) ?_
  ·unfold D7;obtain ⟨q,h1,h2⟩:=h.d.get hi (v:=(i:Int)) rfl;obtain ⟨sx,h3,h4⟩:=h2.ex;have r0:rd deS H (q.add 0)=some g.datas[i].n:=by rw [h2.n.rd]; rfl
   have r1:rd deSl H (q.add 1)=some sx:=by rw [h3.rd]; rfl
   have eg:g.datas.getD i ⟨emptyT,[]⟩=g.datas[i]:=by simp [List.getD,hi]
   simp only [if_pos (show (i:Int)<(s2.n:Int) by omega),h1,Option.bind_some,r0,r1,h4.n,eg];by_cases c1:g.datas[i].cons.length<1
   ·have:((g.datas[i].cons.length:Nat):Int)<1:=by omega
    simp [badD,c1,this,stepO]
   ·have c1':¬(((g.datas[i].cons.length:Nat):Int)<1):=by omega
    rw [if_neg c1'];by_cases c2:g.datas[i].cons.length > 64
    ·have:((g.datas[i].cons.length:Nat):Int) > 64:=by omega
     simp [badD,c2,this,stepO]
    ·have c2':¬(((g.datas[i].cons.length:Nat):Int) > 64):=by omega
     simp only [decide_eq_false c2',Option.bind_some,Bool.false_eq_true,if_false];have hl3:loopO (C8 (LCo c) H s1 s2 s3 (i:Int) g.datas[i].n sx) 0=some (found g.datas[i].cons.length ((List.range g.datas[i].cons.length).findSome? (fun j=>if badC (g.datas[i].cons.getD j ⟨emptyT,[]⟩)=true then some true else none))):=by
      refine V3 g.datas[i].cons.length h4.len _ (fun j hj=>?_) ?_
      ·unfold C8;have hln:=h4.n;obtain ⟨q',k1,k2⟩:=h4.get hj (v:=(j:Int)) rfl;obtain ⟨sy,k3,k4⟩:=k2.ex;have r1:rd deSl H (q'.add 1)=some sy:=by rw [k3.rd]; rfl
       have eg:g.datas[i].cons.getD j ⟨emptyT,[]⟩=g.datas[i].cons[j]:=by simp [List.getD,hj]
       simp only [if_pos (show (j:Int)<(sx.n:Int) by omega),k1,Option.bind_some,r1,k4.n,eg,badC];by_cases hb:g.datas[i].cons[j].sels.length > 64
       ·have:((g.datas[i].cons[j].sels.length:Nat):Int) > 64:=by omega
        simp [hb,this,stepO]
       ·have:¬(((g.datas[i].cons[j].sels.length:Nat):Int) > 64):=by omega
        simp [hb,this,stepO]
      ·unfold C8;have hln:=h4.n;rw [if_neg (by omega)]
     show Option.bind (loopO (C8 (LCo c) H s1 s2 s3 (i:Int) g.datas[i].n sx) 0) _=_;rw [hl3,z34 g.datas[i].cons badC true ⟨emptyT,[]⟩];have hbd:badD g.datas[i]=g.datas[i].cons.any badC:=by simp [badD,c1,c2]
     rw [hbd];cases g.datas[i].cons.any badC <;> rfl
  ·unfold D7;rw [if_neg (by omega)]
 have hl4:loopO (n7 (LCo c) H s1 s2 s3) 0=some (found g.funs.length ((List.range g.funs.length).findSome? (fun i=>if badF (g.funs.getD i ⟨emptyT,.nil,0,0,emptyT,.nil⟩)=true then some true else none))):=by
  refine V3 g.funs.length h.f.len _ (fun i hi=>?_) ?_
  ·unfold n7;obtain ⟨q,h1,h2⟩:=h.f.get hi (v:=(i:Int)) rfl;obtain ⟨sx,h3,h4⟩:=h2.ar;have r1:rd deSl H (q.add 1)=some sx:=by rw [h3.rd]; rfl
   have:g.funs.getD i ⟨emptyT,.nil,0,0,emptyT,.nil⟩=g.funs[i]:=by simp [List.getD,hi]
   simp only [if_pos (show (i:Int)<(s3.n:Int) by omega),h1,Option.bind_some,r1,this,badF,h4.1];by_cases hb:g.funs[i].args.len > 64
   ·have:((g.funs[i].args.len:Nat):Int) > 64:=by omega
    simp [hb,this,stepO]
   ·have:¬(((g.funs[i].args.len:Nat):Int) > 64):=by omega
    simp [hb,this,stepO]
  ·unfold n7;rw [if_neg (by omega)]
 have tail:(Option.bind ((LCo c).run (D7 (LCo c) H s1 s2 s3) 0) fun o=>match o with
   | .inl _=>Option.bind ((LCo c).run (n7 (LCo c) H s1 s2 s3) 0) fun o=>match o with
    | .inl _=>some false
    | .inr r=>some r
   | .inr r=>some r)=some (g.datas.any badD||g.funs.any badF):=by
  show Option.bind (loopO (D7 (LCo c) H s1 s2 s3) 0) _=_;rw [hl2,z34 g.datas badD true ⟨emptyT,[]⟩];cases g.datas.any badD with
  | true=>rfl
  | false =>
   simp only [Bool.false_eq_true,if_false,found,Option.bind_some,Bool.false_or];show Option.bind (loopO (n7 (LCo c) H s1 s2 s3) 0) _=_;rw [hl4,z34 g.funs badF true ⟨emptyT,.nil,0,0,emptyT,.nil⟩];cases g.funs.any badF <;> rfl
 unfold manyS;by_cases hvv:v > 4096
 ·rw [if_pos hvv];cases hb:g.datas.any badD with
  | true=>rfl
  | false =>
   have:=hv2 hb;have:cntG g > 4096:=by omega
   simp [this]
 ·rw [if_neg hvv];refine tail.trans ?_;cases hb:g.datas.any badD with
  | true=>rfl
  | false =>
   have:=hv2 hb;have:¬cntG g > 4096:=by omega
   simp [this]
def strE:Enc ByteArray:=⟨fun s=>[.string s],1,fun _=>rfl,fun _=>rfl⟩
def selNames (c:Con):List ByteArray:=c.n :: c.sels.map (·.n)
def conNames (d:Dat):List ByteArray:=d.cons.flatMap selNames
def sortNamesS (g:Sg):List ByteArray:=g.users++g.datas.flatMap fun d=>[d.n]
def funNamesS (g:Sg):List ByteArray:=g.datas.flatMap conNames++g.funs.flatMap fun f=>[f.n]
theorem flat_one {α β:Type} (f:α→β) (l:List α):(l.flatMap fun x=>[f x]).length=l.length:=by
 induction l with
 | nil=>rfl
 | cons x l ih=>rw [List.flatMap_cons,List.length_append,ih]; simp; omega
theorem zk9 (d:Dat):(conNames d).length=cntD d:=by
 unfold conNames cntD;generalize d.cons=l;induction l with
 | nil=>rfl
 | cons c l ih =>
  rw [List.flatMap_cons,List.length_append,ih];simp only [selNames,List.length_cons,List.length_map,sumL];omega
theorem zij (l:List Dat):(l.flatMap conNames).length=sumL cntD l:=by
 induction l with
 | nil=>rfl
 | cons c l ih=>rw [List.flatMap_cons,List.length_append,ih,zk9]; rfl
theorem z2e {g:Sg} (h:manyS g=false):(sortNamesS g).length+(funNamesS g).length≤4096:=by
 unfold manyS at h;simp only [Bool.or_eq_false_iff,decide_eq_false_iff_not] at h;have:=h.2.2;unfold cntG at this;unfold sortNamesS funNamesS;rw [List.length_append,List.length_append,flat_one,flat_one,zij];omega
theorem room {n:Nat} (h:n≤100000):(2*n+1000)*16≤281474976710656∧n≤281474976710656:=by omega
theorem own_lt {α:Type} {E:Enc α} {e:TypeId} {m:Nat} {H:AH} {l:List α} {s:Sl3} (h:VecA E e m H l s):∀id,owns s id→id<H.next:=fun id hid=>(VecV.own h id hid).2
theorem z1i {m:Nat} {H:AH} {l:List ByteArray} {s:Sl3} (h:VecA strE 9 m H l s) (x:ByteArray) (hN:l.length+1≤100000) (hm:m≤H.next) :
  ∃z H1 s' H',newR 9 1 #[(Value.string x)] H=some (z,H1)∧appS m 9 1 16 H1 s z=some (s',H')∧VecA strE 9 m H' (l++[x]) s'∧Ch H s H' s' :=
 VecA.push h x (room hN).1 (room hN).2 hm (own_lt h)
theorem zpt {H:AH} {s:Sl3} {l:List ByteArray} (h:SlL StrA 1 H s l):RdV 1 H s l.length (l.flatMap strE.enc):=by
 refine ⟨h.n,fun hp=>?_,fun a ha=>?_,strE.flat_one l⟩
 ·have:l=[]:=by
   cases l with
   | nil=>rfl
   | cons x l =>
    obtain ⟨a,h1,_⟩:=h.at_.get 0 (by simp);rw [hp] at h1; cases h1
  subst this; exact ⟨rfl,rfl⟩
 ·have:=z3o (H:=H) (a:=a) (l.flatMap strE.enc) 0 fun i hi=>by
   rw [strE.flat_len] at hi;have hi':i<l.length:=by
    have:strE.sz=1:=rfl;rw [this] at hi; omega
   obtain ⟨a',h1,h2⟩:=h.at_.get i hi';rw [ha] at h1; cases h1;have e1:(l.flatMap strE.enc)[i]? = some (.string l[i]):=by
    have:=strE.flat_get (l:=l) (i:=i) (j:=0) hi' (by decide);rw [show i*strE.sz+0=i from by show i*1+0=i; omega] at this;rw [this]; rfl
   rw [List.getElem?_eq_getElem (by rw [strE.flat_len]; exact hi)] at e1;rw [Option.some.inj e1,Nat.zero_add];rw [Nat.zero_add,Nat.mul_one] at h2;exact h2.1
  rw [strE.flat_len] at this;exact this
theorem zg7 (c m:Nat) {H:AH} {s:Sl3} {l:List ByteArray} (h:∀H',Ext H H'→RdV 1 H' s l.length (l.flatMap strE.enc)) (hN:l.length≤100000) (hm:m≤H.next) :
  ∃s' H',zj (LCo c) m H s=some (s',H')∧VecA strE 9 m H' l s'∧Ext H H'∧∀id,owns s' id→H.next≤id:=by
 unfold zj;cases hnil:isNilS s with
 | true =>
  have hp:s.p=none:=by
   unfold isNilS at hnil;cases hq:s.p with
   | none=>rfl
   | some a=>rw [hq] at hnil; cases hnil
  have:l=[]:=by
   have:=(h H (Fm.refl _ _)).nil hp;exact List.length_eq_zero_iff.1 this.1
  subst this;exact ⟨Sl3.nil,H,rfl,VecA.nil _ _ _ _,Fm.refl _ _,fun id h=>absurd h E8⟩
 | false =>
  have hp:Ext H (H.push { obj:=.cells #[] 9 (0,0),opn:=false,esz:=0,ro:=false }):=Fm.push _ _ _;obtain ⟨s',H',a1,a2,a3⟩:=VecA.app (E:=strE) (e:=9) (bytes:=16) (l:=[]) (l':=l) (m:=m) (VecA.zero _ _ _ _ ⟨H.next,0,none⟩ ⟨by simp,rfl⟩) (h _ hp) (by simp only [List.length_nil,Nat.zero_add]; exact (room hN).1) (by simp only [List.length_nil,Nat.zero_add]; exact (room hN).2) (by simp; omega);have hx:=a3.ext hp fun id h=>absurd h z8g;refine ⟨s',H',?_,a2,hx.1,hx.2⟩;simp only [Bool.false_eq_true,if_false,newR,Option.bind_some];have a1':appS m 9 1 16 (H.push { obj:=.cells #[] 9 (0,0),opn:=false,esz:=0,ro:=false }) ⟨some ⟨H.next,0,none⟩,0,0⟩ s=some (s',H'):=a1;rw [a1'];rfl
theorem zls {H:AH} {s:Sl3} {l:List ByteArray} (h:SlL StrA 1 H s l):∀H',Ext H H'→RdV 1 H' s l.length (l.flatMap strE.enc):=fun H' hx=>zpt (h.ext hx fun _ _ h=>Cel.ext h hx)
theorem za5 {m:Nat} {H:AH} {s:Sl3} {l:List ByteArray} (h:VecA strE 9 m H l s):∀H',Ext H H'→RdV 1 H' s l.length (l.flatMap strE.enc):=fun H' hx=>(VecV.ext h hx).rdv
theorem z4n {m:Nat} {H:AH} {s:Sl3} {l:List ByteArray} (h:VecA strE 9 m H l s) (hN:l.length≤100000):SlL StrA 1 H s l :=
 VecA.sl h (by rw [B2]; omega) fun x q hc=>hc 0 _ rfl
theorem z4o {α β:Type} (f:α→β) (l:List α):(l.flatMap fun x=>[f x])=l.map f:=by
 induction l with
 | nil=>rfl
 | cons x l ih=>rw [List.flatMap_cons,ih]; rfl
section
variable {m:Nat} {H0 H:AH} {s1 s2 s3:Sl3} {g:Sg} {s:Sl3} {l:List ByteArray}
theorem zot (c:Nat) {v20 v32:Int} {x8_0 x17_0:ByteArray} {x8_1 s11 sl:Sl3} {ss:List Sel} (h:SlL SelA 5 H0 sl ss) (hm:m≤H0.next) (hv:VecA strE 9 m H l s) (hx:Ext H0 H) (ho:∀id,owns s id→H0.next≤id) (hN:l.length+ss.length≤100000) :
  ∃H' s',loopO (l7 (LCo c) m s1 s2 s3 v20 x8_0 x8_1 s11 v32 x17_0 sl) (H,s,0)=some (.inl (H',s',(ss.length:Int)))∧VecA strE 9 m H' (l++ss.map (·.n)) s'∧Ch H s H' s':=by
 have key:=Y9 (E:=strE) (e:=9) (m:=m) (xs:=ss) (body:=l7 (LCo c) m s1 s2 s3 v20 x8_0 x8_1 s11 v32 x17_0 sl) (fun x=>[x.n]) 100000 (H0:=H0)
  (fun i hi G t k hk hG _ hN=>by
   have h':=h.ext hG fun _ _ h=>h.ext hG;have hln:=h'.n;obtain ⟨q,g1,g2⟩:=h'.get hi (v:=(i:Int)) rfl;obtain ⟨z,e1,e2,e3,e4,e5,e6⟩:=g2.ex;have r0:rd deS G (q.add 0)=some ss[i].n:=by rw [g2.n.rd]; rfl
   have r1:rd (deI .i64) G (q.add 1)=some ss[i].k:=by rw [e1.rd]; rfl
   have r2:rd (deI .i64) G (q.add 2)=some ss[i].w:=by rw [e2.rd]; rfl
   have r3:rd deS G (q.add 3)=some ss[i].sn:=by rw [e3.rd]; rfl
   have r4:rd deSl G (q.add 4)=some z:=by rw [e4.rd]; rfl
   obtain ⟨z1,G1,t1,G2,p1,p2,p3,p4⟩:=z1i hk ss[i].n (by simpa using hN) (Nat.le_trans hm hG.1);refine ⟨G2,t1,?_,p3,p4⟩;unfold l7;simp only [if_pos (show (i:Int)<(sl.n:Int) by omega),g1,Option.bind_some,r0,r1,r2,r3,r4,p1,p2];rw [V1 hi h.len])
  (fun G t hG=>by
   unfold l7;have hln:=h.n;simp only [if_neg (show ¬((ss.length:Int)<(sl.n:Int)) by omega)])
  ss.length 0 H s l (by omega) hv hx ho (by rw [List.drop_zero,flat_one]; exact hN)
 rw [List.drop_zero,z4o] at key;exact key
theorem zpb (c:Nat) {v20:Int} {x8_0:ByteArray} {s11 sl:Sl3} {cs:List Con} (h:SlL ConA 2 H0 sl cs) (hm:m≤H0.next) (hv:VecA strE 9 m H l s) (hx:Ext H0 H) (ho:∀id,owns s id→H0.next≤id) (hN:l.length+(cs.flatMap selNames).length≤100000) :
  ∃H' s',loopO (C7 (LCo c) m s1 s2 s3 v20 x8_0 sl s11) (H,s,0)=some (.inl (H',s',(cs.length:Int)))∧VecA strE 9 m H' (l++cs.flatMap selNames) s'∧Ch H s H' s':=by
 have key:=Y9 (E:=strE) (e:=9) (m:=m) (xs:=cs) (body:=C7 (LCo c) m s1 s2 s3 v20 x8_0 sl s11) selNames 100000 (H0:=H0)
  (fun i hi G t k hk hG hO hN=>by
   have h':=h.ext hG fun _ _ h=>h.ext hG;have hln:=h'.n;obtain ⟨q,g1,g2⟩:=h'.get hi (v:=(i:Int)) rfl;obtain ⟨z,e1,e2⟩:=g2.ex;have r0:rd deS G (q.add 0)=some cs[i].n:=by rw [g2.n.rd]; rfl
   have r1:rd deSl G (q.add 1)=some z:=by rw [e1.rd]; rfl
   simp only [selNames,List.length_cons,List.length_map] at hN;obtain ⟨z1,G1,t1,G2,p1,p2,p3,p4⟩:=z1i hk cs[i].n (by omega) (Nat.le_trans hm hG.1);obtain ⟨x2,o2⟩:=p4.ext hG hO;obtain ⟨z',f1,f2⟩:∃z',SlL SelA 5 H0 z' cs[i].sels∧z'=z:=by
    obtain ⟨q',k1,k2⟩:=h.get hi (v:=(i:Int)) rfl;obtain ⟨z',k3,k4⟩:=k2.ex;rw [g1] at k1; cases k1;have:=(k3.ext hG).1;rw [e1.1] at this;have e:Sl3.v z=Sl3.v z':=Option.some.inj this;obtain ⟨a,b,d⟩:=z;obtain ⟨a',b',d'⟩:=z';simp only [Sl3.v,Value.slice.injEq] at e;obtain ⟨rfl,rfl,rfl⟩:=e;exact ⟨_,k4,rfl⟩
   subst f2;obtain ⟨G3,t2,w1,w2,w3⟩:=zot c (s1:=s1) (s2:=s2) (s3:=s3) (v20:=v20) (v32:=(i:Int)) (x8_0:=x8_0) (x17_0:=cs[i].n) (x8_1:=sl) (s11:=s11) f1 hm p3 x2 o2 (by simp; omega);refine ⟨G3,t2,?_,by simpa [selNames,List.append_assoc] using w2,p4.trans w3⟩;unfold C7;simp only [if_pos (show (i:Int)<(sl.n:Int) by omega),g1,Option.bind_some,r0,r1,p1,p2];show Option.bind (loopO (l7 (LCo c) m s1 s2 s3 v20 x8_0 sl s11 (i:Int) cs[i].n z') (G2,t1,0)) _=_;rw [w1];simp only [Option.bind_some];rw [V1 hi h.len])
  (fun G t hG=>by
   unfold C7;have hln:=h.n;simp only [if_neg (show ¬((cs.length:Int)<(sl.n:Int)) by omega)])
  cs.length 0 H s l (by omega) hv hx ho (by rw [List.drop_zero]; exact hN)
 rw [List.drop_zero] at key;exact key
theorem zme {q:Addr} {i:Nat} {z z':Sl3} (h:Cel H0 (q.add i) z'.v) (hx:Ext H0 H) (h':Cel H (q.add i) z.v):z'=z:=by
 have:=(h.ext hx).1;rw [h'.1] at this;have e:Sl3.v z=Sl3.v z':=Option.some.inj this;obtain ⟨a,b,d⟩:=z;obtain ⟨a',b',d'⟩:=z';simp only [Sl3.v,Value.slice.injEq] at e;obtain ⟨rfl,rfl,rfl⟩:=e;rfl
theorem zpc (c:Nat) (h:SigA H0 s1 s2 s3 g) (hm:m≤H0.next):∀(d i:Nat) (H:AH) (s4 s5:Sl3) (l4 l5:List ByteArray),i+d=g.datas.length→VecA strE 9 m H l4 s4→VecA strE 9 m H l5 s5→Ext H0 H →
  (∀id,owns s4 id→H0.next≤id)→(∀id,owns s5 id→H0.next≤id)→(∀id,owns s4 id→¬owns s5 id)→l4.length+d≤100000→l5.length+((g.datas.drop i).flatMap conNames).length≤100000 →
  ∃H' s4' s5',loopO (E7 (LCo c) m s1 s2 s3) (H,s4,s5,(i:Int))=some (.inl (H',s4',s5',(g.datas.length:Int)))∧VecA strE 9 m H' (l4++(g.datas.drop i).map (·.n)) s4'∧VecA strE 9 m H' (l5++(g.datas.drop i).flatMap conNames) s5'∧Ext H0 H' ∧
   (∀id,owns s4' id→H0.next≤id)∧(∀id,owns s5' id→H0.next≤id)∧(∀id,owns s4' id→¬owns s5' id):=by
 have hd:=h.d.n;intro d;induction d with
 | zero =>
  intro i H s4 s5 l4 l5 hi v4 v5 hx o4 o5 dj n4 n5;have:i=g.datas.length:=by omega
  subst this;refine ⟨H,s4,s5,Y1 ?_,by simpa using v4,by simpa using v5,hx,o4,o5,dj⟩;unfold E7;simp only [if_neg (show ¬((g.datas.length:Int)<(s2.n:Int)) by omega)]
 | succ d ih =>
  intro i H s4 s5 l4 l5 hi v4 v5 hx o4 o5 dj n4 n5;have hlt:i<g.datas.length:=by omega
  rw [List.drop_eq_getElem_cons hlt,List.flatMap_cons,List.length_append] at n5;have h':=h.d.ext hx fun _ _ h=>h.ext hx;obtain ⟨q,g1,g2⟩:=h'.get hlt (v:=(i:Int)) rfl;obtain ⟨z,e1,e2⟩:=g2.ex;obtain ⟨q',k1,k2⟩:=h.d.get hlt (v:=(i:Int)) rfl;rw [g1] at k1; cases k1;obtain ⟨z',k3,k4⟩:=k2.ex;obtain rfl:=zme k3 hx e1;have r0:rd deS H (q.add 0)=some g.datas[i].n:=by rw [g2.n.rd]; rfl
  have r1:rd deSl H (q.add 1)=some z':=by rw [e1.rd]; rfl
  obtain ⟨z1,G1,t4,G2,p1,p2,p3,p4⟩:=z1i v4 g.datas[i].n (by omega) (Nat.le_trans hm hx.1);obtain ⟨x2,o42⟩:=p4.ext hx o4;have v52:VecA strE 9 m G2 l5 s5:=v5.other p4 fun id h5 h4=>dj id h4 h5;have dj2:∀id,owns t4 id→¬owns s5 id:=fun id h4 h5=>by
   rcases p4.ow id h4 with h | h
   ·exact dj id h h5
   ·have:=own_lt v5 id h5; omega
  obtain ⟨G3,t5,w1,w2,w3⟩:=zpb c (s1:=s1) (s2:=s2) (s3:=s3) (v20:=(i:Int)) (x8_0:=g.datas[i].n) (s11:=t4) k4 hm v52 x2 o5 (by show l5.length+(conNames g.datas[i]).length≤100000; omega);obtain ⟨x3,o53⟩:=w3.ext x2 o5;have v43:VecA strE 9 m G3 (l4++[g.datas[i].n]) t4:=p3.other w3 dj2;have dj3:∀id,owns t4 id→¬owns t5 id:=fun id h4 h5=>by
   rcases w3.ow id h5 with h | h
   ·exact dj2 id h4 h
   ·have:=own_lt p3 id h4; omega
  obtain ⟨H',s4',s5',y1,y2,y3,y4,y5,y6,y7⟩:=ih (i+1) G3 t4 t5 _ _ (by omega) v43 w2 x3 o42 o53 dj3 (by simp; omega) (by show (l5++conNames g.datas[i]).length+_≤_; rw [List.length_append]; omega);refine ⟨H',s4',s5',?_,?_,?_,y4,y5,y6,y7⟩
  ·have hb:E7 (LCo c) m s1 s2 s3 (H,s4,s5,(i:Int))=some (.next (G3,t4,t5,((i+1:Nat):Int))):=by
    unfold E7;simp only [if_pos (show (i:Int)<(s2.n:Int) by omega),g1,Option.bind_some,r0,r1,p1,p2];show Option.bind (loopO (C7 (LCo c) m s1 s2 s3 (i:Int) g.datas[i].n z' t4) (G2,s5,0)) _=_;rw [w1];simp only [Option.bind_some];rw [V1 hlt h.d.len]
   rw [W1 hb];exact y1
  ·rw [List.drop_eq_getElem_cons hlt,List.map_cons]
   simpa [List.append_assoc] using y2
  ·rw [List.drop_eq_getElem_cons hlt,List.flatMap_cons,← List.append_assoc];exact y3
theorem zpm (c:Nat) {v4:Sl3} (h:SigA H0 s1 s2 s3 g) (hm:m≤H0.next) (hv:VecA strE 9 m H l s) (hx:Ext H0 H) (ho:∀id,owns s id→H0.next≤id) (hN:l.length+g.funs.length≤100000) :
  ∃H' s',loopO (A7 (LCo c) m s1 s2 s3 v4) (H,s,0)=some (.inl (H',s',(g.funs.length:Int)))∧VecA strE 9 m H' (l++g.funs.flatMap fun f=>[f.n]) s'∧Ch H s H' s':=by
 have hf:=h.f.n;have key:=Y9 (E:=strE) (e:=9) (m:=m) (xs:=g.funs) (body:=A7 (LCo c) m s1 s2 s3 v4) (fun f=>[f.n]) 100000 (H0:=H0)
  (fun i hi G t k hk hG _ hN=>by
   have h':=h.f.ext hG fun _ _ h=>h.ext hG;obtain ⟨q,g1,g2⟩:=h'.get hi (v:=(i:Int)) rfl;obtain ⟨y,f1,_⟩:=g2.ar;obtain ⟨z,e1,e2,e3,e4,e5,e6⟩:=g2.ex;have r0:rd deS G (q.add 0)=some g.funs[i].n:=by rw [g2.n.rd]; rfl
   have r1:rd deSl G (q.add 1)=some y:=by rw [f1.rd]; rfl
   have r2:rd (deI .i64) G (q.add 2)=some g.funs[i].k:=by rw [e1.rd]; rfl
   have r3:rd (deI .i64) G (q.add 3)=some g.funs[i].w:=by rw [e2.rd]; rfl
   have r4:rd deS G (q.add 4)=some g.funs[i].sn:=by rw [e3.rd]; rfl
   have r5:rd deSl G (q.add 5)=some z:=by rw [e4.rd]; rfl
   obtain ⟨z1,G1,t1,G2,p1,p2,p3,p4⟩:=z1i hk g.funs[i].n (by simpa using hN) (Nat.le_trans hm hG.1);refine ⟨G2,t1,?_,p3,p4⟩;unfold A7;simp only [if_pos (show (i:Int)<(s3.n:Int) by omega),g1,Option.bind_some,r0,r1,r2,r3,r4,r5,p1,p2];rw [V1 hi h.f.len])
  (fun G t hG=>by
   unfold A7;simp only [if_neg (show ¬((g.funs.length:Int)<(s3.n:Int)) by omega)])
  g.funs.length 0 H s l (by omega) hv hx ho (by rw [List.drop_zero,flat_one]; exact hN)
 rw [List.drop_zero] at key;exact key
theorem zmo (c:Nat) (h:SigA H0 s1 s2 s3 g) (hm:m≤H0.next) (hs:manyS g=false) :
  ∃x2 x3 H',z42 (LCo c) m H0 s1 s2 s3=some (x2,x3,H')∧VecA strE 9 m H' (sortNamesS g) x2∧VecA strE 9 m H' (funNamesS g) x3∧Ext H0 H'∧(∀id,owns x2 id→H0.next≤id)∧(∀id,owns x3 id→H0.next≤id):=by
 have hsm:=z2e hs;unfold sortNamesS funNamesS at hsm;simp only [List.length_append,flat_one] at hsm;obtain ⟨x1,H1,a1,a2,a3,a4⟩:=zg7 c m (zls h.str) (by omega) hm;obtain ⟨H2,s4,s5,b1,b2,b3,b4,b5,b6,b7⟩:=zpc c h hm g.datas.length 0 H1 x1 Sl3.nil g.users [] (by omega) a2 (VecA.nil _ _ _ _) a3 a4 (fun id h=>absurd h E8) (fun id _ h=>absurd h E8) (by omega) (by rw [List.drop_zero,List.length_nil]; omega);rw [List.drop_zero] at b2 b3;obtain ⟨H3,t5,c1,c2,c3⟩:=zpm c (v4:=s4) h hm b3 b4 b6 (by rw [List.nil_append]; omega);obtain ⟨x3,o3⟩:=c3.ext b4 b6;refine ⟨s4,t5,H3,?_,?_,by simpa [funNamesS] using c2,x3,b5,o3⟩
 ·unfold z42;rw [a1];simp only [Option.bind_some];show Option.bind (loopO (E7 (LCo c) m s1 s2 s3) (H1,x1,Sl3.nil,((0:Nat):Int))) _=_;rw [b1];simp only [Option.bind_some];show Option.bind (loopO (A7 (LCo c) m s1 s2 s3 s4) (H2,s5,0)) _=_;rw [c1];rfl
 ·have:=b2.other c3 b7;unfold sortNamesS;rw [z4o];exact this
end
end Go.Proofs.YtccbilfbhecdaaaGreatDoor
namespace Go.Proofs.YtccbilfbhecdaaaGreatDoor
open Go Go.Abs
set_option maxRecDepth 100000
section
variable {m:Nat} {H0 H:AH} {s1 s2 s3:Sl3} {g:Sg} {s:Sl3} {l:List ByteArray}
theorem rSortNames (c:Nat) (h:SigA H s1 s2 s3 g) (hm:m≤H.next) (hs:manyS g=false) :
  ∃x H',U9 (LCo c) m H s1 s2 s3=some (x,H')∧VecA strE 9 m H' (sortNamesS g) x∧Ext H H'∧(∀id,owns x id→H.next≤id):=by
 have hsm:=z2e hs;unfold sortNamesS funNamesS at hsm;simp only [List.length_append,flat_one] at hsm;have hd:=h.d.n;have hp:Ext H (H.push { obj:=.cells #[] 9 (0,0),opn:=false,esz:=0,ro:=false }):=Fm.push _ _ _;obtain ⟨x1,H1,a1,a2,a3⟩:=VecA.app (E:=strE) (e:=9) (bytes:=16) (l:=[]) (l':=g.users) (m:=m) (VecA.zero _ _ _ _ ⟨H.next,0,none⟩ ⟨by simp,rfl⟩) (zls h.str _ hp) (by simp only [List.length_nil,Nat.zero_add]; exact (room (by omega)).1) (by simp only [List.length_nil,Nat.zero_add]; exact (room (by omega)).2) (by simp; omega);obtain ⟨xx,oo⟩:=a3.ext hp fun id h=>absurd h z8g;obtain ⟨H2,s',b1,b2,b3⟩:=Y9 (E:=strE) (e:=9) (m:=m) (xs:=g.datas) (body:=F4 (LCo c) m s1 s2 s3) (fun d=>[d.n]) 100000 (H0:=H)
  (fun i hi G t k hk hG _ hN=>by
   have h':=h.d.ext hG fun _ _ h=>h.ext hG;obtain ⟨q,g1,g2⟩:=h'.get hi (v:=(i:Int)) rfl;have r0:rd deS G (q.add 0)=some g.datas[i].n:=by rw [g2.n.rd]; rfl
   obtain ⟨z1,G1,t1,G2,p1,p2,p3,p4⟩:=z1i hk g.datas[i].n (by simpa using hN) (Nat.le_trans hm hG.1);refine ⟨G2,t1,?_,p3,p4⟩;unfold F4;simp only [if_pos (show (i:Int)<(s2.n:Int) by omega),g1,Option.bind_some,r0,p1,p2];rw [V1 hi h.d.len])
  (fun G t hG=>by
   unfold F4;simp only [if_neg (show ¬((g.datas.length:Int)<(s2.n:Int)) by omega)])
  g.datas.length 0 H1 x1 g.users (by omega) (by simpa using a2) xx oo (by rw [List.drop_zero,flat_one]; omega)
 rw [List.drop_zero] at b2;obtain ⟨x2,o2⟩:=b3.ext xx oo;refine ⟨s',H2,?_,b2,x2,o2⟩;unfold U9;simp only [newR,Option.bind_some];have a1':appS m 9 1 16 (H.push { obj:=.cells #[] 9 (0,0),opn:=false,esz:=0,ro:=false }) ⟨some ⟨H.next,0,none⟩,0,0⟩ s1=some (x1,H1):=a1;rw [a1'];simp only [Option.bind_some];show Option.bind (loopO (F4 (LCo c) m s1 s2 s3) (H1,x1,0)) _=_;have b1':loopO (F4 (LCo c) m s1 s2 s3) (H1,x1,0)=_:=b1;rw [b1'];rfl
theorem zpq (c:Nat) {v4 v5:Int} {x12:ByteArray} {sl:Sl3} {ss:List Sel} (h:SlL SelA 5 H0 sl ss) (hm:m≤H0.next) (hv:VecA strE 9 m H l s) (hx:Ext H0 H) (ho:∀id,owns s id→H0.next≤id) (hN:l.length+ss.length≤100000) :
  ∃H' s',loopO (P4 (LCo c) m s1 s2 s3 v4 v5 x12 sl) (H,s,0)=some (.inl (H',s',(ss.length:Int)))∧VecA strE 9 m H' (l++ss.map (·.n)) s'∧Ch H s H' s':=by
 have key:=Y9 (E:=strE) (e:=9) (m:=m) (xs:=ss) (body:=P4 (LCo c) m s1 s2 s3 v4 v5 x12 sl) (fun x=>[x.n]) 100000 (H0:=H0)
  (fun i hi G t k hk hG _ hN=>by
   have h':=h.ext hG fun _ _ h=>h.ext hG;have hln:=h'.n;obtain ⟨q,g1,g2⟩:=h'.get hi (v:=(i:Int)) rfl;have r0:rd deS G (q.add 0)=some ss[i].n:=by rw [g2.n.rd]; rfl
   obtain ⟨z1,G1,t1,G2,p1,p2,p3,p4⟩:=z1i hk ss[i].n (by simpa using hN) (Nat.le_trans hm hG.1);refine ⟨G2,t1,?_,p3,p4⟩;unfold P4;simp only [if_pos (show (i:Int)<(sl.n:Int) by omega),g1,Option.bind_some,r0,p1,p2];rw [V1 hi h.len])
  (fun G t hG=>by
   unfold P4;have hln:=h.n;simp only [if_neg (show ¬((ss.length:Int)<(sl.n:Int)) by omega)])
  ss.length 0 H s l (by omega) hv hx ho (by rw [List.drop_zero,flat_one]; exact hN)
 rw [List.drop_zero,z4o] at key;exact key
theorem zqq (c:Nat) (h:SigA H0 s1 s2 s3 g) (hm:m≤H0.next) {k:Nat} (hk:k<g.datas.length) (hv:VecA strE 9 m H l s) (hx:Ext H0 H) (ho:∀id,owns s id→H0.next≤id) (hN:l.length+(conNames g.datas[k]).length≤100000) :
  ∃H' s',loopO (S4 (LCo c) m s1 s2 s3 (k:Int)) (H,s,0)=some (.inl (H',s',(g.datas[k].cons.length:Int)))∧VecA strE 9 m H' (l++conNames g.datas[k]) s'∧Ch H s H' s':=by
 obtain ⟨qk,gk1,gk2⟩:=h.d.get hk (v:=(k:Int)) rfl;obtain ⟨sl,gk3,hc⟩:=gk2.ex;have key:=Y9 (E:=strE) (e:=9) (m:=m) (xs:=g.datas[k].cons) (body:=S4 (LCo c) m s1 s2 s3 (k:Int)) selNames 100000 (H0:=H0)
  (fun i hi G t k' hk' hG hO hN=>by
   have h':=hc.ext hG fun _ _ h=>h.ext hG;have hln:=h'.n;have rk:rd deSl G (qk.add 1)=some sl:=by rw [(gk3.ext hG).rd]; rfl
   obtain ⟨q,g1,g2⟩:=h'.get hi (v:=(i:Int)) rfl;obtain ⟨q',k1,k2⟩:=hc.get hi (v:=(i:Int)) rfl;rw [g1] at k1; cases k1;obtain ⟨z,e1,e2⟩:=k2.ex;have r0:rd deS G (q.add 0)=some g.datas[k].cons[i].n:=by rw [g2.n.rd]; rfl
   have r1:rd deSl G (q.add 1)=some z:=by rw [(e1.ext hG).rd]; rfl
   simp only [selNames,List.length_cons,List.length_map] at hN;obtain ⟨z1,G1,t1,G2,p1,p2,p3,p4⟩:=z1i hk' g.datas[k].cons[i].n (by omega) (Nat.le_trans hm hG.1);obtain ⟨x2,o2⟩:=p4.ext hG hO;obtain ⟨G3,t2,w1,w2,w3⟩:=zpq c (s1:=s1) (s2:=s2) (s3:=s3) (v4:=(k:Int)) (v5:=(i:Int)) (x12:=g.datas[k].cons[i].n) e2 hm p3 x2 o2 (by simp; omega);refine ⟨G3,t2,?_,by simpa [selNames,List.append_assoc] using w2,p4.trans w3⟩;unfold S4;simp only [gk1,Option.bind_some,rk,if_pos (show (i:Int)<(sl.n:Int) by omega),g1,r0,r1,p1,p2];show Option.bind (loopO (P4 (LCo c) m s1 s2 s3 (k:Int) (i:Int) g.datas[k].cons[i].n z) (G2,t1,0)) _=_;rw [w1];simp only [Option.bind_some];rw [V1 hi hc.len])
  (fun G t hG=>by
   have rk:rd deSl G (qk.add 1)=some sl:=by rw [(gk3.ext hG).rd]; rfl
   have hln:=hc.n;unfold S4;simp only [gk1,Option.bind_some,rk,if_neg (show ¬((g.datas[k].cons.length:Int)<(sl.n:Int)) by omega)])
  g.datas[k].cons.length 0 H s l (by omega) hv hx ho (by rw [List.drop_zero]; exact hN)
 rw [List.drop_zero] at key;exact key
theorem zqw (c:Nat) (h:SigA H0 s1 s2 s3 g) (hm:m≤H0.next) (hv:VecA strE 9 m H l s) (hx:Ext H0 H) (ho:∀id,owns s id→H0.next≤id) (hN:l.length+(g.datas.flatMap conNames).length≤100000) :
  ∃H' s',loopO (U4 (LCo c) m s1 s2 s3) (H,s,0)=some (.inl (H',s',(g.datas.length:Int)))∧VecA strE 9 m H' (l++g.datas.flatMap conNames) s'∧Ch H s H' s':=by
 have hd:=h.d.n;have key:=Y9 (E:=strE) (e:=9) (m:=m) (xs:=g.datas) (body:=U4 (LCo c) m s1 s2 s3) conNames 100000 (H0:=H0)
  (fun i hi G t k hk hG hO hN=>by
   obtain ⟨G3,t2,w1,w2,w3⟩:=zqq c h hm hi hk hG hO hN;refine ⟨G3,t2,?_,w2,w3⟩;unfold U4;simp only [if_pos (show (i:Int)<(s2.n:Int) by omega)];show Option.bind (loopO (S4 (LCo c) m s1 s2 s3 (i:Int)) (G,t,0)) _=_;rw [w1];simp only [Option.bind_some];rw [V1 hi h.d.len])
  (fun G t hG=>by
   unfold U4;simp only [if_neg (show ¬((g.datas.length:Int)<(s2.n:Int)) by omega)])
  g.datas.length 0 H s l (by omega) hv hx ho (by rw [List.drop_zero]; exact hN)
 rw [List.drop_zero] at key;exact key
theorem zq8 (c:Nat) (h:SigA H0 s1 s2 s3 g) (hm:m≤H0.next) (hv:VecA strE 9 m H l s) (hx:Ext H0 H) (ho:∀id,owns s id→H0.next≤id) (hN:l.length+g.funs.length≤100000) :
  ∃H' s',loopO (Q4 (LCo c) m s1 s2 s3) (H,s,0)=some (.inl (H',s',(g.funs.length:Int)))∧VecA strE 9 m H' (l++g.funs.flatMap fun f=>[f.n]) s'∧Ch H s H' s':=by
 have hf:=h.f.n;have key:=Y9 (E:=strE) (e:=9) (m:=m) (xs:=g.funs) (body:=Q4 (LCo c) m s1 s2 s3) (fun f=>[f.n]) 100000 (H0:=H0)
  (fun i hi G t k hk hG _ hN=>by
   have h':=h.f.ext hG fun _ _ h=>h.ext hG;obtain ⟨q,g1,g2⟩:=h'.get hi (v:=(i:Int)) rfl;have r0:rd deS G (q.add 0)=some g.funs[i].n:=by rw [g2.n.rd]; rfl
   obtain ⟨z1,G1,t1,G2,p1,p2,p3,p4⟩:=z1i hk g.funs[i].n (by simpa using hN) (Nat.le_trans hm hG.1);refine ⟨G2,t1,?_,p3,p4⟩;unfold Q4;simp only [if_pos (show (i:Int)<(s3.n:Int) by omega),g1,Option.bind_some,r0,p1,p2];rw [V1 hi h.f.len])
  (fun G t hG=>by
   unfold Q4;simp only [if_neg (show ¬((g.funs.length:Int)<(s3.n:Int)) by omega)])
  g.funs.length 0 H s l (by omega) hv hx ho (by rw [List.drop_zero,flat_one]; exact hN)
 rw [List.drop_zero] at key;exact key
theorem rFunNames (c:Nat) (h:SigA H s1 s2 s3 g) (hm:m≤H.next) (hs:manyS g=false) :
  ∃x H',zh (LCo c) m H s1 s2 s3=some (x,H')∧VecA strE 9 m H' (funNamesS g) x∧Ext H H'∧(∀id,owns x id→H.next≤id):=by
 have hsm:=z2e hs;unfold sortNamesS funNamesS at hsm;simp only [List.length_append,flat_one] at hsm;obtain ⟨H1,t1,a1,a2,a3⟩:=zqw c h hm (VecA.nil strE 9 m H) (Fm.refl _ _) (fun id h=>absurd h E8) (by rw [List.length_nil]; omega);obtain ⟨x1,o1⟩:=a3.ext (Fm.refl _ _) fun id h=>absurd h E8;obtain ⟨H2,t2,b1,b2,b3⟩:=zq8 c h hm a2 x1 o1 (by rw [List.nil_append]; omega);obtain ⟨x2,o2⟩:=b3.ext x1 o1;refine ⟨t2,H2,?_,by simpa [funNamesS] using b2,x2,o2⟩;unfold zh;show Option.bind (loopO (U4 (LCo c) m s1 s2 s3) (H,Sl3.nil,0)) _=_;rw [a1];simp only [Option.bind_some];show Option.bind (loopO (Q4 (LCo c) m s1 s2 s3) (H1,t1,0)) _=_;rw [b1];rfl
def twS (l:List ByteArray):Bool:=(List.range l.length).any fun i=>hasU (l.take i) (l.getD i emptyT)
theorem zqf (h:VecA strE 9 m H l s) {i:Nat} (hi:i<l.length) (hN:l.length≤100000):∃s',slc 1 H s none (some (i:Int)) none=some s'∧SlL StrA 1 H s' (l.take i):=by
 have hsl:=z4n h hN;have hO:OPEN=9223372036854775808:=rfl;cases h with
 | nil hn hv=>omega
 | zero a ha hn hv=>omega
 | opn id off cs hm hid hg hl ho hx =>
  refine ⟨⟨some ((⟨id,off,none⟩:Addr).add (0*1)),i - 0,OPEN⟩,?_,?_⟩
  ·unfold slc;have hb:slcB l.length l.length none (some (i:Int)) none=some (0,i,l.length):=by
    unfold slcB;have b1:boundI l.length l.length none=some l.length:=rfl;have b2:boundI l.length l.length (some (i:Int))=some i:=by
     unfold boundI;simp only [];rw [if_pos ⟨by omega,by omega⟩];simp
    have b3:boundI i 0 none=some 0:=rfl;simp only [b1,b2,b3];rfl
   simp only [if_true,hb,hg];have e1:strE.sz=1:=rfl;rw [if_pos ⟨trivial,e1,rfl⟩]
  ·refine ⟨by simp; omega,by show i - 0≤OPEN; omega,by show i - 0≤maxN; rw [B2]; omega,fun a ha=>?_,LAt.of fun j hj=>?_⟩
   ·cases ha;exact ⟨hid,rfl⟩
   ·have hj':j<l.length:=by simp at hj; omega
    obtain ⟨a,h1,h2⟩:=hsl.at_.get j hj';cases h1;refine ⟨_,rfl,?_⟩;rw [List.getElem_take];exact h2
theorem rTwice (c:Nat) (h:VecA strE 9 m H l s) (hN:l.length≤100000):z11 (LCo c) H s=some (twS l):=by
 have hsl:=z4n h hN;have hn:=hsl.n;have hl:loopO (P7 (LCo c) H s) 0=some (found l.length ((List.range l.length).findSome? (fun i=>if hasU (l.take i) (l.getD i emptyT)=true then some true else none))):=by
  refine V3 l.length hsl.len _ (fun i hi=>?_) ?_
  ·unfold P7;obtain ⟨q,h1,h2⟩:=hsl.get hi (v:=(i:Int)) rfl;have r0:rd deS H q=some l[i]:=by rw [Cel.rd h2]; rfl
   obtain ⟨s',k1,k2⟩:=zqf h hi hN;have eg:l.getD i emptyT=l[i]:=by simp [List.getD,hi]
   simp only [if_pos (show (i:Int)<(s.n:Int) by omega),h1,Option.bind_some,r0,k1,zka c k2,zhp,eg];cases hasU (l.take i) l[i] <;> rfl
  ·unfold P7;rw [if_neg (by omega)]
 unfold z11;show Option.bind (loopO (P7 (LCo c) H s) 0) _=_;rw [hl];unfold twS;have key:∀(xs:List Nat) (p:Nat→Bool),(xs.findSome? fun i=>if p i=true then some true else none)=if xs.any p=true then some true else none:=fun xs p=>z90 xs p true
 rw [key];cases (List.range l.length).any fun i=>hasU (l.take i) (l.getD i emptyT) <;> rfl
end
end Go.Proofs.YtccbilfbhecdaaaGreatDoor
namespace Go.Proofs.YtccbilfbhecdaaaGreatDoor
open Go Go.Abs
set_option maxRecDepth 100000
theorem strK:KeyK Tryz.prog 9 (fun s:ByteArray=>Value.string s):=by
 refine ⟨⟨.string,by kernel_rfl,.inl fun a b=>?_⟩,fun a b=>by kernel_rfl,fun a=>?_⟩
 ·show some (a == b)=_;rw [ba_beq]
 ·show (a == a)=true;rw [ba_beq]; simp
theorem und102:Tryz.prog.underlying 109=some (.map 9 4):=by kernel_rfl
theorem zero4:(Tryz.prog.info? 4).bind (·.zero)=some (.bool false):=by kernel_rfl
section
variable {m:Nat} {H0 H:AH} {s1 s2 s3:Sl3} {g:Sg} {s:Sl3} {l:List ByteArray}
theorem zlx:twS l=true↔∃i,∃h:i<l.length,hasU (l.take i) l[i]=true:=by
 unfold twS;rw [List.any_eq_true];constructor
 ·rintro ⟨i,hi,h⟩
  have hi:=List.mem_range.1 hi;refine ⟨i,hi,?_⟩;have eg:l.getD i emptyT=l[i]:=by simp [List.getD,hi]
  rw [eg] at h;exact h
 ·rintro ⟨i,hi,h⟩
  refine ⟨i,List.mem_range.2 hi,?_⟩;have eg:l.getD i emptyT=l[i]:=by simp [List.getD,hi]
  rw [eg];exact h
theorem zga (c:Nat) (h:∀H',Ext H H'→SlL StrA 1 H' s l) (hm:m≤H.next):∃H',W9 (LCo c) m H s=some (twS l,H')∧Ext H H':=by
 have hp:Ext H (H.push mapB):=Fm.push _ _ _;have hsl:=h _ hp;have hn:=hsl.n;obtain ⟨o,h1,h2⟩:=zab (body:=m7 (LCo c) m s H.next) l
  (fun i st=>st.2=(i:Int)∧Fm (fun j=>j=H.next) (H.push mapB) st.1∧st.1.next=H.next+1∧MapA (fun s:ByteArray=>Value.string s) st.1 H.next (fun k=>if hasU (l.take i) k=true then some (.bool true) else none)∧∀j (hj:j<l.length),j<i→hasU (l.take j) l[j]=false)
  (fun o=>∃H',(o=.inr (true,H')∧twS l=true∧Ext H H')∨((∃v,o=.inl (H',v))∧twS l=false∧Ext H H'))
  (fun i st hi hst=>by
   obtain ⟨G,v⟩:=st;obtain ⟨q1,q2,q3,q4,q5⟩:=hst;simp only at q1 q2 q3 q4 q5;subst q1 hi;refine ⟨(G,(l.length:Int)),?_,G,.inr ⟨⟨_,rfl⟩,?_,?_⟩⟩
   ·unfold m7;simp only [if_neg (show ¬((l.length:Int)<(s.n:Int)) by omega)]
   ·cases hq:twS l with
    | false=>rfl
    | true =>
     obtain ⟨j,hj,hh⟩:=zlx.1 hq;rw [q5 j hj hj] at hh; cases hh
   ·exact hp.comp q2 fun id hid _ hw=>by omega)
  (fun i hi st hst=>by
   obtain ⟨G,v⟩:=st;obtain ⟨q1,q2,q3,q4,q5⟩:=hst;simp only at q1 q2 q3 q4 q5;subst q1;have hx:Ext H G:=hp.comp q2 fun id hid _ hw=>by omega
   obtain ⟨q,g1,g2⟩:=(h G hx).get hi (v:=(i:Int)) rfl;have r0:rd deS G q=some l[i]:=by rw [Cel.rd g2]; rfl
   have hlk:=zjm strK und102 zero4 rfl q4 l[i] deB;cases hd:hasU (l.take i) l[i] with
   | true =>
    rw [hd] at hlk;refine .inl ⟨(true,G),?_,G,.inl ⟨rfl,zlx.2 ⟨i,hi,hd⟩,hx⟩⟩;unfold m7;simp only [if_pos (show (i:Int)<(s.n:Int) by omega),g1,Option.bind_some,r0,hlk];rfl
   | false =>
    rw [hd] at hlk;obtain ⟨G',u1,u2,u3,u4⟩:=z7h strK und102 q4 hm l[i] (.bool true);refine .inr ⟨(G',((i+1:Nat):Int)),?_,rfl,q2.comp u3 fun _ _ h=>h,u4.trans q3,?_,fun j hj hlt=>?_⟩
    ·unfold m7;simp only [if_pos (show (i:Int)<(s.n:Int) by omega),g1,Option.bind_some,r0,hlk];simp only [Bool.false_eq_true,if_false,Option.getD_none,deB,Option.bind_some,u1];rw [V1 hi hsl.len]
    ·have e:(fun k'=>if k'=l[i] then some (Value.bool true) else if hasU (l.take i) k'=true then some (.bool true) else none)=fun k=>if hasU (l.take (i+1)) k=true then some (Value.bool true) else none:=by
      funext k
      rw [zhs hi];by_cases e:k=l[i]
      ·subst e; simp
      ·have e':¬l[i]=k:=fun h=>e h.symm;rw [if_neg e,decide_eq_false e',Bool.or_false]
     rw [← e]; exact u2
    ·by_cases e:j=i
     ·subst e; exact hd
     ·exact q5 j hj (by omega))
  (s:=(H.push mapB,0)) ⟨rfl,Fm.refl _ _,by simp,by
   have e:(fun k=>if hasU (l.take 0) k=true then some (Value.bool true) else none)=fun _=>none:=by
    funext k; simp [hasU]
   rw [e]; exact MapA.new _,fun j hj h=>absurd h (Nat.not_lt_zero _)⟩
 obtain ⟨H',hh⟩:=h2;refine ⟨H',?_,?_⟩
 ·unfold W9 newM;simp only [Option.bind_some];show Option.bind (loopO (m7 (LCo c) m s H.next) (H.push mapB,0)) _=_;rw [h1];rcases hh with ⟨rfl,ht,_⟩ | ⟨⟨v,rfl⟩,ht,_⟩
  ·rw [ht]; rfl
  ·rw [ht]; rfl
 ·rcases hh with ⟨_,_,hx⟩ | ⟨_,_,hx⟩ <;> exact hx
theorem zfw (h:SigA H s1 s2 s3 g):∀x∈sortNamesS g++funNamesS g,x.size≤maxS:=by
 intro x hx;have hU:∀x∈g.users,x.size≤maxS:=fun x hx=>by
  obtain ⟨i,hi,rfl⟩:=List.getElem_of_mem hx;obtain ⟨q,_,h2⟩:=h.u.get hi (v:=(i:Int)) rfl;exact h2.2
 have hD:∀d∈g.datas,d.n.size≤maxS∧∀c∈d.cons,c.n.size≤maxS∧∀e∈c.sels,e.n.size≤maxS:=fun d hd=>by
  obtain ⟨i,hi,rfl⟩:=List.getElem_of_mem hd;obtain ⟨q,_,h2⟩:=h.d.get hi (v:=(i:Int)) rfl;refine ⟨h2.nm,fun c hc=>?_⟩;obtain ⟨z,_,h3⟩:=h2.ex;obtain ⟨j,hj,rfl⟩:=List.getElem_of_mem hc;obtain ⟨q,_,h4⟩:=h3.get hj (v:=(j:Int)) rfl;refine ⟨h4.nm,fun e he=>?_⟩;obtain ⟨z,_,h5⟩:=h4.ex;obtain ⟨k,hk,rfl⟩:=List.getElem_of_mem he;obtain ⟨q,_,h6⟩:=h5.get hk (v:=(k:Int)) rfl;exact h6.nm
 have hF:∀f∈g.funs,f.n.size≤maxS:=fun f hf=>by
  obtain ⟨i,hi,rfl⟩:=List.getElem_of_mem hf;obtain ⟨q,_,h2⟩:=h.f.get hi (v:=(i:Int)) rfl;exact h2.nm
 unfold sortNamesS funNamesS conNames selNames at hx;simp only [List.mem_append,List.mem_flatMap,List.mem_cons,List.not_mem_nil,or_false,List.mem_map] at hx;rcases hx with (hx | ⟨d,hd,rfl⟩) | ⟨d,hd,c,hc,rfl | ⟨e,he,rfl⟩⟩ | ⟨f,hf,rfl⟩
 ·exact hU x hx
 ·exact (hD d hd).1
 ·exact ((hD d hd).2 c hc).1
 ·exact ((hD d hd).2 c hc).2 e he
 ·exact hF f hf
def namesS (g:Sg):Int:=if (sortNamesS g++funNamesS g).any (fun x=>!nameS x)=true then 42 else if (twS (sortNamesS g)||twS (funNamesS g))=true then 41 else 0
theorem zko (c:Nat) (h:SigA H s1 s2 s3 g) (hm:m≤H.next) (hs:manyS g=false):∃H',z2d (LCo c) m H s1 s2 s3=some (namesS g,H')∧Ext H H':=by
 have hsm:=z2e hs;obtain ⟨x1,H2,a1,a2,a3,a4⟩:=rSortNames c h hm hs;obtain ⟨x3,H4,b1,b2,b3,b4⟩:=rFunNames c (h.ext a3) (Nat.le_trans hm a3.1) hs;have a2':=VecV.ext a2 b3;have hp:Ext H4 (H4.push { obj:=.cells #[] 9 (0,0),opn:=false,esz:=0,ro:=false }):=Fm.push _ _ _;have hm4:m≤H4.next:=Nat.le_trans hm (Nat.le_trans a3.1 b3.1);obtain ⟨x7,H8,c1,c2,c3⟩:=VecA.app (E:=strE) (e:=9) (bytes:=16) (l:=[]) (l':=sortNamesS g) (m:=m) (VecA.zero _ _ _ _ ⟨H4.next,0,none⟩ ⟨by simp,rfl⟩) (za5 a2' _ hp) (by simp only [List.length_nil,Nat.zero_add]; exact (room (by omega)).1) (by simp only [List.length_nil,Nat.zero_add]; exact (room (by omega)).2) (by simp; omega);obtain ⟨x8,o8⟩:=c3.ext hp fun id h=>absurd h z8g;obtain ⟨x9,H10,d1,d2,d3⟩:=VecA.app (E:=strE) (e:=9) (bytes:=16) (l:=[]++sortNamesS g) (l':=funNamesS g) (m:=m) c2 (za5 b2 _ x8) (by simp only [List.nil_append]; exact (room (by omega)).1) (by simp only [List.nil_append]; exact (room (by omega)).2) (Nat.le_trans hm4 x8.1);obtain ⟨x10,o10⟩:=d3.ext x8 o8;have hx:Ext H H10:=(a3.trans b3).trans x10;have d2':VecA strE 9 m H10 (sortNamesS g++funNamesS g) x9:=by simpa using d2
 have hsl:=z4n d2' (by rw [List.length_append]; omega);have hn:=hsl.n;have hsz:=zfw h;generalize hall:sortNamesS g++funNamesS g=all at hsl hn hsz;have hl:loopO (L7 (LCo c) s1 s2 s3 x1 x3 x9 H10) 0=some (found all.length ((List.range all.length).findSome? (fun i=>if (fun x=>!nameS x) (all.getD i emptyT)=true then some ((42:Int),H10) else none))):=by
  refine V3 all.length hsl.len _ (fun i hi=>?_) ?_
  ·unfold L7;obtain ⟨q,h1,h2⟩:=hsl.get hi (v:=(i:Int)) rfl;have r0:rd deS H10 q=some all[i]:=by rw [Cel.rd h2]; rfl
   have eg:all.getD i emptyT=all[i]:=by simp [List.getD,hi]
   simp only [if_pos (show (i:Int)<(x9.n:Int) by omega),h1,Option.bind_some,r0,zd5 c (z8b (hsz _ (List.getElem_mem hi))),eg];cases nameS all[i] <;> rfl
  ·unfold L7;rw [if_neg (by omega)]
 refine ⟨H10,?_,hx⟩;unfold z2d;rw [a1];simp only [Option.bind_some];rw [b1];simp only [Option.bind_some,newR];have c1':appS m 9 1 16 (H4.push { obj:=.cells #[] 9 (0,0),opn:=false,esz:=0,ro:=false }) ⟨some ⟨H4.next,0,none⟩,0,0⟩ x1=some (x7,H8):=c1;rw [c1'];simp only [Option.bind_some];have d1':appS m 9 1 16 H8 x7 x3=some (x9,H10):=d1;rw [d1'];simp only [Option.bind_some];show Option.bind (loopO (L7 (LCo c) s1 s2 s3 x1 x3 x9 H10) 0) _=_;rw [hl,z34 all (fun x=>!nameS x) ((42:Int),H10) emptyT];unfold namesS;rw [hall];cases all.any fun x=>!nameS x with
 | true=>rfl
 | false =>
  simp only [Bool.false_eq_true,if_false,found,Option.bind_some];rw [rTwice c (VecV.ext a2' x10) (by omega)];simp only [Option.bind_some];cases twS (sortNamesS g) with
  | true=>rfl
  | false =>
   simp only [Bool.false_eq_true,if_false];rw [rTwice c (VecV.ext b2 x10) (by omega)];cases twS (funNamesS g) <;> rfl
end
end Go.Proofs.YtccbilfbhecdaaaGreatDoor
namespace Go.Proofs.YtccbilfbhecdaaaGreatDoor
open Go Go.Abs
set_option maxRecDepth 100000
structure SrtA where
 k:Int
 w:Int
 n:ByteArray
 s:Sl3
 a:Fo
def srtE:Enc SrtA:=⟨fun x=>[.int .i64 x.k,.int .i64 x.w,.string x.n,Sl3.v x.s],4,fun _=>rfl,fun _=>rfl⟩
def SrtOk (H:AH) (x:SrtA):Prop:=SlF H x.s x.a∧x.n.size≤maxS
theorem SrtOk.ext {H H':AH} {x:SrtA} (h:SrtOk H x) (hf:Ext H H'):SrtOk H' x:=⟨h.1.ext hf,h.2⟩
def Fo.list:Fo→List (Int×Int×ByteArray×Fo)
 | .nil=>[]
 | .cons k w n a r=>(k,w,n,a) :: r.list
def SrtA.er (x:SrtA):Int×Int×ByteArray×Fo:=(x.k,x.w,x.n,x.a)
theorem zle {H:AH} {p:Option Addr}:∀{f:Fo} {i:Nat},FoA H p i f→∃l:List SrtA,l.map SrtA.er=f.list∧l.length=f.len∧(∀x∈l,SrtOk H x)∧∀(j:Nat) (hj:j<l.length),∃a,p=some a∧∀t v,(srtE.enc l[j])[t]? = some v→Cel H ((a.add ((i+j)*4)).add t) v
 | .nil,_,_=>⟨[],rfl,rfl,fun x hx=>(by cases hx),fun j hj=>absurd hj (Nat.not_lt_zero _)⟩
 | .cons k w n a r,i,h=>by
  obtain ⟨⟨q,s,h1,h2,h3,h4,h5⟩,h6⟩:=h;obtain ⟨l,e1,e2,e3,e4⟩:=zle h6;refine ⟨⟨k,w,n,s,a⟩ :: l,by simp [Fo.list,SrtA.er,e1],by simp [Fo.len,e2],fun x hx=>?_,fun j hj=>?_⟩
  ·rcases List.mem_cons.1 hx with rfl | hx
   ·exact ⟨⟨h3,h4,h5⟩,h2.hn⟩
   ·exact e3 x hx
  ·cases j with
   | zero =>
    refine ⟨q,h1,fun t v hv=>?_⟩
    match t,hv with
    | 0,hv=>cases hv; exact h2.ck
    | 1,hv=>cases hv; exact h2.cw
    | 2,hv=>cases hv; exact h2.cn
    | 3,hv=>cases hv; exact h2.cs
   | succ j =>
    obtain ⟨b,k1,k2⟩:=e4 j (by simpa using hj);exact ⟨b,k1,by rw [show i+(j+1)=i+1+j by omega]; exact k2⟩
theorem zjh {H:AH} {s:Sl3} {f:Fo} (h:SlF H s f):∃l:List SrtA,l.map SrtA.er=f.list∧l.length=f.len∧(∀x∈l,SrtOk H x)∧∀H',Ext H H'→RdV 4 H' s l.length (l.flatMap srtE.enc):=by
 obtain ⟨l,e1,e2,e3,e4⟩:=zle h.2.2;refine ⟨l,e1,e2,e3,fun H' hx=>⟨by rw [h.1,e2],fun hp=>?_,fun a ha=>?_,srtE.flat_one l⟩⟩
 ·have:l=[]:=by
   cases l with
   | nil=>rfl
   | cons x l =>
    obtain ⟨a,h1,_⟩:=e4 0 (by simp);rw [hp] at h1; cases h1
  subst this; exact ⟨rfl,rfl⟩
 ·have:=z3o (H:=H') (a:=a) (l.flatMap srtE.enc) 0 fun i hi=>by
   rw [srtE.flat_len] at hi;have e4':srtE.sz=4:=rfl;rw [e4'] at hi;have hj:i / 4<l.length:=by omega
   obtain ⟨a',h1,h2⟩:=e4 (i / 4) hj;rw [ha] at h1; cases h1;have hg:=srtE.flat_get (l:=l) (i:=i / 4) (j:=i % 4) hj (by rw [e4']; omega);rw [e4',show i / 4*4+i % 4=i by omega] at hg;have hi':i<(l.flatMap srtE.enc).length:=by rw [srtE.flat_len,e4']; exact hi
   rw [List.getElem?_eq_getElem hi'] at hg;have hc:=h2 (i % 4) _ hg.symm;have hs:a.spot=none:=by
    obtain ⟨a0,z1,z2⟩:=e4 0 (by omega);rw [ha] at z1; cases z1;have hc0:=z2 0 _ rfl;rw [Nat.zero_add,Nat.zero_mul,add_zero,add_zero] at hc0;obtain ⟨_,_,_,_,_,_,hs,_⟩:=zfc hc0.1;exact hs
   rw [I5 hs,Nat.zero_add,show i / 4*4+i % 4=i by omega] at hc;rw [Nat.zero_add];exact (hc.ext hx).1
  rw [srtE.flat_len] at this;exact this
def sortsE (g:Sg):List (Int×Int×ByteArray×Fo):=(g.datas.flatMap fun d=>d.cons.flatMap fun c=>c.sels.map fun x=>(x.k,x.w,x.sn,x.a))++g.funs.flatMap fun f=>f.args.list++[(f.k,f.w,f.sn,f.a)]
def errS (g:Sg) (x:Int×Int×ByteArray×Fo):Option Int:=if checkS g x.1 x.2.1 x.2.2.1 x.2.2.2=0 then none else some (checkS g x.1 x.2.1 x.2.2.1 x.2.2.2)
def allS (g:Sg):Int:=((sortsE g).findSome? (errS g)).getD 0
def Fnc.dep (f:Fnc):Nat:=max f.args.dep f.a.dep
def Sel.dep (x:Sel):Nat:=x.a.dep
def maxL {α:Type} (f:α→Nat):List α→Nat
 | []=>0
 | x :: l=>max (f x) (maxL f l)
theorem z9r {α:Type} {f:α→Nat}:∀{l:List α} {x:α},x∈l→f x≤maxL f l
 | y :: l,x,h=>by
  simp only [maxL];rcases List.mem_cons.1 h with rfl | h
  ·omega
  ·have:=z9r (f:=f) h; omega
def Sg.dep (g:Sg):Nat:=max (maxL (fun d:Dat=>maxL (fun c:Con=>maxL Sel.dep c.sels) d.cons) g.datas) (maxL Fnc.dep g.funs)
theorem zlm {g:Sg} {d:Dat} {c:Con} {x:Sel} (hd:d∈g.datas) (hc:c∈d.cons) (hx:x∈c.sels):x.a.dep≤g.dep:=by
 have h1:=z9r (f:=Sel.dep) hx;have h2:maxL Sel.dep c.sels≤maxL (fun c:Con=>maxL Sel.dep c.sels) d.cons:=z9r (f:=fun c:Con=>maxL Sel.dep c.sels) hc;have h3:maxL (fun c:Con=>maxL Sel.dep c.sels) d.cons≤_:=z9r (f:=fun d:Dat=>maxL (fun c:Con=>maxL Sel.dep c.sels) d.cons) hd;unfold Sg.dep;have:x.a.dep≤maxL Sel.dep c.sels:=h1;omega
theorem zdn {g:Sg} {f:Fnc} (hf:f∈g.funs):f.args.dep≤g.dep∧f.a.dep≤g.dep:=by
 have h1:=z9r (f:=Fnc.dep) hf;unfold Fnc.dep at h1;unfold Sg.dep;constructor
 ·have:max f.args.dep f.a.dep≤maxL Fnc.dep g.funs:=h1;omega
 ·have:max f.args.dep f.a.dep≤maxL Fnc.dep g.funs:=h1;omega
theorem zf3:∀{f:Fo} {x:Int×Int×ByteArray×Fo},x∈f.list→x.2.2.2.dep≤f.dep
 | .cons k w n a r,x,h=>by
  simp only [Fo.list] at h;simp only [Fo.dep];rcases List.mem_cons.1 h with rfl | h
  ·show a.dep≤_; omega
  ·have:=zf3 h; omega
theorem z5b {α β R:Type} (f:α→List β) (p:β→Option R):∀l:List α,(l.flatMap f).findSome? p=l.findSome? fun x=>(f x).findSome? p
 | []=>rfl
 | x :: l=>by
  rw [List.flatMap_cons,List.findSome?_append,List.findSome?_cons,z5b f p l];cases (f x).findSome? p <;> rfl
theorem z4l {α R:Type} (l:List α) (p:α→Option R) (d:α):(List.range l.length).findSome? (fun i=>p (l.getD i d))=l.findSome? p:=by
 induction l with
 | nil=>rfl
 | cons x l ih =>
  rw [List.length_cons,List.range_succ_eq_map,List.findSome?_cons,List.findSome?_cons];simp only [List.getD_cons_zero,List.findSome?_map,Function.comp_def,List.getD_cons_succ];rw [ih]
theorem err_ok {g:Sg} {x:Int×Int×ByteArray×Fo} {e:Int} (h:errS g x=some e):e=checkS g x.1 x.2.1 x.2.2.1 x.2.2.2∧e≠0:=by
 unfold errS at h;split at h
 ·cases h
 ·cases h; exact ⟨rfl,by assumption⟩
theorem zks (L0 fuel:Nat) (hF:L0=fuel+1) {m:Nat} {H:AH} {s1 s2 s3 sl:Sl3} {g:Sg} {l:List SrtA} (hS:SigA H s1 s2 s3 g) (hv:VecA srtE 25 m H l sl) (hN:l.length≤1000000) (hok:∀x∈l,SrtOk H x) (hd:∀x∈l,x.a.dep≤fuel) :
  loopO (O4 (LCo L0) s1 s2 s3 sl H) 0=some (found l.length (((l.map SrtA.er).findSome? (errS g)).map fun e=>(e,H))):=by
 have hsl:SlL (fun H q (x:SrtA)=>SoC H q x.k x.w x.n x.s∧x∈l) 4 H sl l:=by
  have h1:=VecA.sl (R:=fun H q (x:SrtA)=>Cel H (q.add 0) (.int .i64 x.k)∧Cel H (q.add 1) (.int .i64 x.w)∧Cel H (q.add 2) (.string x.n)∧Cel H (q.add 3) (Sl3.v x.s)) hv (by rw [B2]; omega) fun x q hc=>⟨hc 0 _ rfl,hc 1 _ rfl,hc 2 _ rfl,hc 3 _ rfl⟩;refine ⟨h1.n,h1.cap,h1.top,h1.low,LAt.of fun j hj=>?_⟩;obtain ⟨a,k1,k2⟩:=h1.at_.get j hj;have hm:=List.getElem_mem hj;exact ⟨a,k1,⟨k2.1,k2.2.1,k2.2.2.1,k2.2.2.2,(hok _ hm).2⟩,hm⟩
 have hn:=hsl.n;have hl:=V3 (body:=O4 (LCo L0) s1 s2 s3 sl H) l.length hsl.len (fun i=>(errS g (l.getD i ⟨0,0,emptyT,Sl3.nil,.nil⟩).er).map fun e=>(e,H)) (fun i hi=>by
   obtain ⟨q,h1,h2,hm⟩:=hsl.get hi (v:=(i:Int)) rfl;have r0:rd (deI .i64) H (q.add 0)=some l[i].k:=by rw [h2.ck.rd]; rfl
   have r1:rd (deI .i64) H (q.add 1)=some l[i].w:=by rw [h2.cw.rd]; rfl
   have r2:rd deS H (q.add 2)=some l[i].n:=by rw [h2.cn.rd]; rfl
   have r3:rd deSl H (q.add 3)=some l[i].s:=by rw [h2.cs.rd]; rfl
   have eg:l.getD i ⟨0,0,emptyT,Sl3.nil,.nil⟩=l[i]:=by simp [List.getD,hi]
   rw [eg];unfold O4;simp only [if_pos (show (i:Int)<(sl.n:Int) by omega),h1,Option.bind_some,r0,r1,r2,r3,z5a L0 fuel hF hS (hok _ hm).1 (hok _ hm).2 (hd _ hm)];simp only [errS,SrtA.er];by_cases hz:checkS g l[i].k l[i].w l[i].n l[i].a=0
   ·simp [hz,stepO]
   ·simp [hz,stepO]) (by
   unfold O4;rw [if_neg (by omega)])
 rw [hl,z4l l (fun x=>(errS g x.er).map fun e=>(e,H)) ⟨0,0,emptyT,Sl3.nil,.nil⟩]
 congr 2
 rw [List.findSome?_map];induction l with
 | nil=>rfl
 | cons x l ih =>
  rw [List.findSome?_cons,List.findSome?_cons];simp only [Function.comp_apply];cases hq:errS g x.er with
  | some e=>rfl
  | none =>
   simp only [Option.map_none];have key:∀(l:List SrtA),(l.findSome? fun x=>(errS g x.er).map fun e=>(e,H))=(l.findSome? (errS g ∘ SrtA.er)).map fun e=>(e,H):=by
    intro l;induction l with
    | nil=>rfl
    | cons y l ih =>
     rw [List.findSome?_cons,List.findSome?_cons];simp only [Function.comp_apply];cases errS g y.er with
     | some e=>rfl
     | none=>exact ih
   exact key l
theorem room4 {n:Nat} (h:n≤1000000):(2*n+1000)*56≤281474976710656∧n≤281474976710656:=by omega
def selE (x:Sel):Int×Int×ByteArray×Fo:=(x.k,x.w,x.sn,x.a)
def conE (c:Con):List (Int×Int×ByteArray×Fo):=c.sels.map selE
def datE (d:Dat):List (Int×Int×ByteArray×Fo):=d.cons.flatMap conE
def fncE (f:Fnc):List (Int×Int×ByteArray×Fo):=f.args.list++[(f.k,f.w,f.sn,f.a)]
theorem zcy (g:Sg):sortsE g=g.datas.flatMap datE++g.funs.flatMap fncE:=rfl
theorem fo_len:∀f:Fo,f.list.length=f.len
 | .nil=>rfl
 | .cons k w n a r=>by simp [Fo.list,Fo.len,fo_len r]
theorem zeo {α β:Type} (f:α→List β) (F:Nat):∀{l:List α},(∀x∈l,(f x).length≤F)→(l.flatMap f).length≤l.length*F
 | [],_=>by simp
 | x :: l,h=>by
  have h1:=h x (by simp);have h2:=zeo f F (l:=l) fun y hy=>h y (by simp [hy]);rw [List.flatMap_cons,List.length_append,List.length_cons,Nat.add_mul,Nat.one_mul];omega
theorem zkf {g:Sg} (h:manyS g=false):(g.datas.flatMap datE).length+(g.funs.flatMap fncE).length≤900000:=by
 unfold manyS at h;simp only [Bool.or_eq_false_iff,decide_eq_false_iff_not] at h;obtain ⟨h1,h2,h3⟩:=h;unfold cntG at h3;have e1:(g.datas.flatMap datE).length≤sumL cntD g.datas:=by
  have:∀l:List Dat,(l.flatMap datE).length≤sumL cntD l:=by
   intro l;induction l with
   | nil=>simp [sumL]
   | cons d l ih =>
    rw [List.flatMap_cons,List.length_append];have:(datE d).length≤cntD d:=by
     unfold datE cntD;have key:∀l:List Con,(l.flatMap conE).length≤sumL (fun c=>c.sels.length) l:=by
      intro l;induction l with
      | nil=>simp [sumL]
      | cons c l ih =>
       rw [List.flatMap_cons,List.length_append];simp only [conE,List.length_map,sumL];have ih':(l.flatMap fun c=>List.map selE c.sels).length≤sumL (fun c=>c.sels.length) l:=ih;have e:(l.flatMap conE)=l.flatMap fun c=>List.map selE c.sels:=rfl;rw [e];omega
     have:=key d.cons;omega
    simp only [sumL];omega
  exact this _
 have e2:(g.funs.flatMap fncE).length≤g.funs.length*65:=zeo _ _ fun f hf=>by
  rw [List.any_eq_false] at h2;have:=h2 f hf;simp only [badF,decide_eq_true_eq] at this;unfold fncE;rw [List.length_append,fo_len];simp;omega
 omega
section
variable {m:Nat} {H0 H:AH} {s1 s2 s3:Sl3} {g:Sg} {s:Sl3} {l:List SrtA}
theorem zeq (h:VecA srtE 25 m H l s) (x:SrtA) (hN:l.length+1≤1000000) (hm:m≤H.next) :
  ∃z H1 s' H',newR 25 1 #[(Value.int .i64 x.k),(Value.int .i64 x.w),(Value.string x.n),(Sl3.v x.s)] H=some (z,H1)∧appS m 25 4 56 H1 s z=some (s',H')∧VecA srtE 25 m H' (l++[x]) s'∧Ch H s H' s' :=
 VecA.push h x (room4 hN).1 (room4 hN).2 hm (own_lt h)
theorem add2 {q:Addr} {v:Value} (h:Cel H (q.add 0) v) (i j:Nat):(q.add i).add j=q.add (i+j):=by
 obtain ⟨_,_,_,_,_,_,hs,_⟩:=zfc h.1;rw [add_zero] at hs;exact I5 hs i j
theorem zo8 (c:Nat) {v4 v5:Int} {x12:ByteArray} {sl:Sl3} {ss:List Sel} (h:SlL SelA 5 H0 sl ss) (hm:m≤H0.next) (hv:VecA srtE 25 m H l s) (hx:Ext H0 H) (ho:∀id,owns s id→H0.next≤id) (hN:l.length+ss.length≤1000000) :
  ∃H' s' l2,loopO (R6 (LCo c) m s1 s2 s3 v4 v5 x12 sl) (H,s,0)=some (.inl (H',s',(ss.length:Int)))∧VecA srtE 25 m H' (l++l2) s'∧Ch H s H' s'∧l2.map SrtA.er=ss.map selE∧∀y∈l2,SrtOk H0 y:=by
 have key:=z84 (E:=srtE) (e:=25) (m:=m) (xs:=ss) (body:=R6 (LCo c) m s1 s2 s3 v4 v5 x12 sl) SrtA.er (SrtOk H0) (fun x=>[selE x]) 1000000 (H0:=H0)
  (fun i hi G t k hk hG _ hN=>by
   have hln:=h.n;obtain ⟨q,g1,g2⟩:=h.get hi (v:=(i:Int)) rfl;obtain ⟨z,e1,e2,e3,e4,e5,e6⟩:=g2.ex;have hadd:∀j,(q.add 1).add j=q.add (1+j):=fun j=>add2 g2.n 1 j;have r1:rd (deI .i64) G ((q.add 1).add 0)=some ss[i].k:=by rw [hadd,(e1.ext hG).rd]; rfl
   have r2:rd (deI .i64) G ((q.add 1).add 1)=some ss[i].w:=by rw [hadd,(e2.ext hG).rd]; rfl
   have r3:rd deS G ((q.add 1).add 2)=some ss[i].sn:=by rw [hadd,(e3.ext hG).rd]; rfl
   have r4:rd deSl G ((q.add 1).add 3)=some z:=by rw [hadd,(e4.ext hG).rd]; rfl
   obtain ⟨z1,G1,t1,G2,p1,p2,p3,p4⟩:=zeq hk ⟨ss[i].k,ss[i].w,ss[i].sn,z,ss[i].a⟩ (by simpa using hN) (Nat.le_trans hm hG.1);refine ⟨G2,t1,_,?_,p3,p4,rfl,fun y hy=>by obtain rfl:=List.mem_singleton.1 hy; exact ⟨e6,e5⟩⟩;unfold R6;simp only [if_pos (show (i:Int)<(sl.n:Int) by omega),g1,Option.bind_some,r1,r2,r3,r4];simp only at p1;rw [p1];simp only [Option.bind_some];rw [p2];simp only [Option.bind_some];rw [V1 hi h.len])
  (fun G t hG=>by
   unfold R6;have hln:=h.n;simp only [if_neg (show ¬((ss.length:Int)<(sl.n:Int)) by omega)])
  ss.length 0 H s l (by omega) hv hx ho (by rw [List.drop_zero,flat_one]; exact hN)
 rw [List.drop_zero,z4o] at key;exact key
theorem zno (c:Nat) (h:SigA H0 s1 s2 s3 g) (hm:m≤H0.next) {k:Nat} (hk:k<g.datas.length) (hv:VecA srtE 25 m H l s) (hx:Ext H0 H) (ho:∀id,owns s id→H0.next≤id) (hN:l.length+(datE g.datas[k]).length≤1000000) :
  ∃H' s' l2,loopO (O6 (LCo c) m s1 s2 s3 (k:Int)) (H,s,0)=some (.inl (H',s',(g.datas[k].cons.length:Int)))∧VecA srtE 25 m H' (l++l2) s'∧Ch H s H' s'∧l2.map SrtA.er=datE g.datas[k]∧∀y∈l2,SrtOk H0 y:=by
 obtain ⟨qk,gk1,gk2⟩:=h.d.get hk (v:=(k:Int)) rfl;obtain ⟨sl,gk3,hc⟩:=gk2.ex;have key:=z84 (E:=srtE) (e:=25) (m:=m) (xs:=g.datas[k].cons) (body:=O6 (LCo c) m s1 s2 s3 (k:Int)) SrtA.er (SrtOk H0) conE 1000000 (H0:=H0)
  (fun i hi G t k' hk' hG hO hN=>by
   have hln:=hc.n;have rk:rd deSl G (qk.add 1)=some sl:=by rw [(gk3.ext hG).rd]; rfl
   obtain ⟨q,g1,g2⟩:=hc.get hi (v:=(i:Int)) rfl;obtain ⟨z,e1,e2⟩:=g2.ex;have r0:rd deS G (q.add 0)=some g.datas[k].cons[i].n:=by rw [(g2.n.ext hG).rd]; rfl
   have r1:rd deSl G (q.add 1)=some z:=by rw [(e1.ext hG).rd]; rfl
   simp only [conE,List.length_map] at hN;obtain ⟨G3,t2,l2,w1,w2,w3,w4,w5⟩:=zo8 c (s1:=s1) (s2:=s2) (s3:=s3) (v4:=(k:Int)) (v5:=(i:Int)) (x12:=g.datas[k].cons[i].n) e2 hm hk' hG hO hN;refine ⟨G3,t2,l2,?_,w2,w3,w4,w5⟩;unfold O6;simp only [gk1,Option.bind_some,rk,if_pos (show (i:Int)<(sl.n:Int) by omega),g1,r0,r1];show Option.bind (loopO (R6 (LCo c) m s1 s2 s3 (k:Int) (i:Int) g.datas[k].cons[i].n z) (G,t,0)) _=_;rw [w1];simp only [Option.bind_some];rw [V1 hi hc.len])
  (fun G t hG=>by
   have rk:rd deSl G (qk.add 1)=some sl:=by rw [(gk3.ext hG).rd]; rfl
   have hln:=hc.n;unfold O6;simp only [gk1,Option.bind_some,rk,if_neg (show ¬((g.datas[k].cons.length:Int)<(sl.n:Int)) by omega)])
  g.datas[k].cons.length 0 H s l (by omega) hv hx ho (by rw [List.drop_zero]; exact hN)
 rw [List.drop_zero] at key;exact key
theorem zo9 (c:Nat) (h:SigA H0 s1 s2 s3 g) (hm:m≤H0.next) (hv:VecA srtE 25 m H l s) (hx:Ext H0 H) (ho:∀id,owns s id→H0.next≤id) (hN:l.length+(g.datas.flatMap datE).length≤1000000) :
  ∃H' s' l2,loopO (C6 (LCo c) m s1 s2 s3) (H,s,0)=some (.inl (H',s',(g.datas.length:Int)))∧VecA srtE 25 m H' (l++l2) s'∧Ch H s H' s'∧l2.map SrtA.er=g.datas.flatMap datE∧∀y∈l2,SrtOk H0 y:=by
 have hd:=h.d.n;have key:=z84 (E:=srtE) (e:=25) (m:=m) (xs:=g.datas) (body:=C6 (LCo c) m s1 s2 s3) SrtA.er (SrtOk H0) datE 1000000 (H0:=H0)
  (fun i hi G t k hk hG hO hN=>by
   obtain ⟨G3,t2,l2,w1,w2,w3,w4,w5⟩:=zno c h hm hi hk hG hO hN;refine ⟨G3,t2,l2,?_,w2,w3,w4,w5⟩;unfold C6;simp only [if_pos (show (i:Int)<(s2.n:Int) by omega)];show Option.bind (loopO (O6 (LCo c) m s1 s2 s3 (i:Int)) (G,t,0)) _=_;rw [w1];simp only [Option.bind_some];rw [V1 hi h.d.len])
  (fun G t hG=>by
   unfold C6;simp only [if_neg (show ¬((g.datas.length:Int)<(s2.n:Int)) by omega)])
  g.datas.length 0 H s l (by omega) hv hx ho (by rw [List.drop_zero]; exact hN)
 rw [List.drop_zero] at key;exact key
theorem znx (c:Nat) (h:SigA H0 s1 s2 s3 g) (hm:m≤H0.next) (hv:VecA srtE 25 m H l s) (hx:Ext H0 H) (ho:∀id,owns s id→H0.next≤id) (hN:l.length+(g.funs.flatMap fncE).length≤1000000) :
  ∃H' s' l2,loopO (L6 (LCo c) m s1 s2 s3) (H,s,0)=some (.inl (H',s',(g.funs.length:Int)))∧VecA srtE 25 m H' (l++l2) s'∧Ch H s H' s'∧l2.map SrtA.er=g.funs.flatMap fncE∧∀y∈l2,SrtOk H0 y:=by
 have hf:=h.f.n;have key:=z84 (E:=srtE) (e:=25) (m:=m) (xs:=g.funs) (body:=L6 (LCo c) m s1 s2 s3) SrtA.er (SrtOk H0) fncE 1000000 (H0:=H0)
  (fun i hi G t k hk hG hO hN=>by
   obtain ⟨q,g1,g2⟩:=h.f.get hi (v:=(i:Int)) rfl;obtain ⟨y,f1,f2⟩:=g2.ar;obtain ⟨z,e1,e2,e3,e4,e5,e6⟩:=g2.ex;have hadd:∀j,(q.add 2).add j=q.add (2+j):=fun j=>add2 g2.n 2 j;have r0:rd deSl G (q.add 1)=some y:=by rw [(f1.ext hG).rd]; rfl
   obtain ⟨la,a1,a2,a3,a4⟩:=zjh f2;simp only [fncE,List.length_append,fo_len,List.length_cons,List.length_nil] at hN;obtain ⟨t1,G1,b1,b2,b3⟩:=VecA.app (E:=srtE) (e:=25) (bytes:=56) (l':=la) hk (a4 G hG) (room4 (by omega)).1 (room4 (by omega)).2 (Nat.le_trans hm hG.1);obtain ⟨x1,o1⟩:=b3.ext hG hO;have r1:rd (deI .i64) G1 ((q.add 2).add 0)=some g.funs[i].k:=by rw [hadd,(e1.ext x1).rd]; rfl
   have r2:rd (deI .i64) G1 ((q.add 2).add 1)=some g.funs[i].w:=by rw [hadd,(e2.ext x1).rd]; rfl
   have r3:rd deS G1 ((q.add 2).add 2)=some g.funs[i].sn:=by rw [hadd,(e3.ext x1).rd]; rfl
   have r4:rd deSl G1 ((q.add 2).add 3)=some z:=by rw [hadd,(e4.ext x1).rd]; rfl
   obtain ⟨z1,G2,t2,G3,p1,p2,p3,p4⟩:=zeq b2 ⟨g.funs[i].k,g.funs[i].w,g.funs[i].sn,z,g.funs[i].a⟩ (by rw [List.length_append]; omega) (Nat.le_trans hm x1.1);refine ⟨G3,t2,la++[_],?_,by rw [← List.append_assoc]; exact p3,b3.trans p4,by rw [List.map_append,a1]; rfl,fun w hw=>?_⟩
   ·unfold L6;have b1':appS m 25 4 56 G t y=some (t1,G1):=b1;simp only [if_pos (show (i:Int)<(s3.n:Int) by omega),g1,Option.bind_some,r0,b1',r1,r2,r3,r4];simp only at p1;rw [p1];simp only [Option.bind_some];rw [p2];simp only [Option.bind_some];rw [V1 hi h.f.len]
   ·rcases List.mem_append.1 hw with hw | hw
    ·exact a3 w hw
    ·obtain rfl:=List.mem_singleton.1 hw; exact ⟨e6,e5⟩)
  (fun G t hG=>by
   unfold L6;simp only [if_neg (show ¬((g.funs.length:Int)<(s3.n:Int)) by omega)])
  g.funs.length 0 H s l (by omega) hv hx ho (by rw [List.drop_zero]; exact hN)
 rw [List.drop_zero] at key;exact key
theorem rSorts (c:Nat) (h:SigA H s1 s2 s3 g) (hm:m≤H.next) (hs:manyS g=false) :
  ∃x H' l,z2s (LCo c) m H s1 s2 s3=some (x,H')∧VecA srtE 25 m H' l x∧Ext H H'∧l.map SrtA.er=sortsE g∧l.length≤1000000∧∀y∈l,SrtOk H' y:=by
 have hsm:=zkf hs;obtain ⟨H1,t1,l1,a1,a2,a3,a4,a5⟩:=zo9 c h hm (VecA.nil srtE 25 m H) (Fm.refl _ _) (fun id h=>absurd h E8) (by rw [List.length_nil]; omega);obtain ⟨x1,o1⟩:=a3.ext (Fm.refl _ _) fun id h=>absurd h E8;have hl1:l1.length=(g.datas.flatMap datE).length:=by rw [← a4,List.length_map]
 obtain ⟨H2,t2,l2,b1,b2,b3,b4,b5⟩:=znx c h hm a2 x1 o1 (by rw [List.nil_append]; omega);obtain ⟨x2,o2⟩:=b3.ext x1 o1;have hl2:l2.length=(g.funs.flatMap fncE).length:=by rw [← b4,List.length_map]
 refine ⟨t2,H2,l1++l2,?_,by simpa using b2,x2,by rw [List.map_append,a4,b4,zcy],by rw [List.length_append]; omega,fun y hy=>?_⟩
 ·unfold z2s;show Option.bind (loopO (C6 (LCo c) m s1 s2 s3) (H,Sl3.nil,0)) _=_;rw [a1];simp only [Option.bind_some];show Option.bind (loopO (L6 (LCo c) m s1 s2 s3) (H1,t1,0)) _=_;rw [b1];rfl
 ·rcases List.mem_append.1 hy with hy | hy
  ·exact (a5 y hy).ext x2
  ·exact (b5 y hy).ext x2
end
end Go.Proofs.YtccbilfbhecdaaaGreatDoor
namespace Go.Proofs.YtccbilfbhecdaaaGreatDoor
open Go Go.Abs
set_option maxRecDepth 100000
theorem z3b {α R S:Type} (l:List α) (p:α→Option R) (f:R→S):(l.findSome? fun x=>(p x).map f)=(l.findSome? p).map f:=by
 induction l with
 | nil=>rfl
 | cons x l ih =>
  rw [List.findSome?_cons,List.findSome?_cons,ih];cases p x <;> rfl
section
variable {m:Nat} {H0 H:AH} {s1 s2 s3:Sl3} {g:Sg} {p:Addr} {L0 fuel:Nat}
theorem zqy (hF:L0=fuel+1) (hB:Book H p s1 s2 s3 g) {x2 x5 sl:Sl3} {v v':Int} {n5 n8:ByteArray} {ss:List Sel} (h:SlL SelA 5 H sl ss) (hd:∀x∈ss,x.a.dep≤fuel) :
  loopO (j3 (LCo L0) H p x2 v n5 x5 v' n8 sl) 0=some (found ss.length (((ss.map selE).findSome? (errS g)).map fun e=>(e,H))):=by
 have hn:=h.n;have hl:=V3 (body:=j3 (LCo L0) H p x2 v n5 x5 v' n8 sl) ss.length h.len (fun i=>(errS g (selE (ss.getD i ⟨emptyT,0,0,emptyT,.nil⟩))).map fun e=>(e,H)) (fun i hi=>by
   obtain ⟨q,h1,h2⟩:=h.get hi (v:=(i:Int)) rfl;obtain ⟨z,e1,e2,e3,e4,e5,e6⟩:=h2.ex;have r0:rd deS H (q.add 0)=some ss[i].n:=by rw [h2.n.rd]; rfl
   have r1:rd (deI .i64) H (q.add 1)=some ss[i].k:=by rw [e1.rd]; rfl
   have r2:rd (deI .i64) H (q.add 2)=some ss[i].w:=by rw [e2.rd]; rfl
   have r3:rd deS H (q.add 3)=some ss[i].sn:=by rw [e3.rd]; rfl
   have r4:rd deSl H (q.add 4)=some z:=by rw [e4.rd]; rfl
   have eg:ss.getD i ⟨emptyT,0,0,emptyT,.nil⟩=ss[i]:=by simp [List.getD,hi]
   rw [eg];unfold j3;simp only [if_pos (show (i:Int)<(sl.n:Int) by omega),h1,Option.bind_some,r0,r1,r2,r3,r4,zaj L0 fuel hF hB e6 e5 (hd _ (List.getElem_mem hi))];simp only [errS,selE];by_cases hz:checkS g ss[i].k ss[i].w ss[i].sn ss[i].a=0
   ·simp [hz,stepO]
   ·simp [hz,stepO]) (by
   unfold j3;rw [if_neg (by omega)])
 rw [hl,z4l ss (fun x=>(errS g (selE x)).map fun e=>(e,H)) ⟨emptyT,0,0,emptyT,.nil⟩,z3b,List.findSome?_map];rfl
theorem zqc (hF:L0=fuel+1) (hB:Book H p s1 s2 s3 g) {x2 sl:Sl3} {v:Int} {n5:ByteArray} {cs:List Con} (h:SlL ConA 2 H sl cs) (hd:∀c∈cs,∀x∈c.sels,x.a.dep≤fuel) :
  loopO (C3 (LCo L0) H p x2 v n5 sl) 0=some (found cs.length (((cs.flatMap conE).findSome? (errS g)).map fun e=>(e,H))):=by
 have hn:=h.n;have hl:=V3 (body:=C3 (LCo L0) H p x2 v n5 sl) cs.length h.len (fun i=>((conE (cs.getD i ⟨emptyT,[]⟩)).findSome? (errS g)).map fun e=>(e,H)) (fun i hi=>by
   obtain ⟨q,h1,h2⟩:=h.get hi (v:=(i:Int)) rfl;obtain ⟨z,e1,e2⟩:=h2.ex;have r0:rd deS H (q.add 0)=some cs[i].n:=by rw [h2.n.rd]; rfl
   have r1:rd deSl H (q.add 1)=some z:=by rw [e1.rd]; rfl
   have eg:cs.getD i ⟨emptyT,[]⟩=cs[i]:=by simp [List.getD,hi]
   rw [eg];unfold C3;simp only [if_pos (show (i:Int)<(sl.n:Int) by omega),h1,Option.bind_some,r0,r1];show Option.bind (loopO (j3 (LCo L0) H p x2 v n5 sl (i:Int) cs[i].n z) 0) _=_;rw [zqy hF hB e2 (hd _ (List.getElem_mem hi))];show _=some (stepO i (((cs[i].sels.map selE).findSome? (errS g)).map fun e=>(e,H)));cases (cs[i].sels.map selE).findSome? (errS g) <;> rfl) (by
   unfold C3;rw [if_neg (by omega)])
 rw [hl,z4l cs (fun c=>((conE c).findSome? (errS g)).map fun e=>(e,H)) ⟨emptyT,[]⟩,z3b,z5b]
theorem zpw (hF:L0=fuel+1) (hB:Book H p s1 s2 s3 g) {sl:Sl3} {ds:List Dat} (h:SlL DatA 2 H sl ds) (hd:∀d∈ds,∀c∈d.cons,∀x∈c.sels,x.a.dep≤fuel) :
  loopO (A3 (LCo L0) H p sl) 0=some (found ds.length (((ds.flatMap datE).findSome? (errS g)).map fun e=>(e,H))):=by
 have hn:=h.n;have hl:=V3 (body:=A3 (LCo L0) H p sl) ds.length h.len (fun i=>((datE (ds.getD i ⟨emptyT,[]⟩)).findSome? (errS g)).map fun e=>(e,H)) (fun i hi=>by
   obtain ⟨q,h1,h2⟩:=h.get hi (v:=(i:Int)) rfl;obtain ⟨z,e1,e2⟩:=h2.ex;have r0:rd deS H (q.add 0)=some ds[i].n:=by rw [h2.n.rd]; rfl
   have r1:rd deSl H (q.add 1)=some z:=by rw [e1.rd]; rfl
   have eg:ds.getD i ⟨emptyT,[]⟩=ds[i]:=by simp [List.getD,hi]
   rw [eg];unfold A3;simp only [if_pos (show (i:Int)<(sl.n:Int) by omega),h1,Option.bind_some,r0,r1];show Option.bind (loopO (C3 (LCo L0) H p sl (i:Int) ds[i].n z) 0) _=_;rw [zqc hF hB e2 (hd _ (List.getElem_mem hi))];show _=some (stepO i (((ds[i].cons.flatMap conE).findSome? (errS g)).map fun e=>(e,H)));cases (ds[i].cons.flatMap conE).findSome? (errS g) <;> rfl) (by
   unfold A3;rw [if_neg (by omega)])
 rw [hl,z4l ds (fun d=>((datE d).findSome? (errS g)).map fun e=>(e,H)) ⟨emptyT,[]⟩,z3b,z5b]
theorem clone73 (c m:Nat) {H:AH} {s:Sl3} {l:List SrtA} (h:∀H',Ext H H'→RdV 4 H' s l.length (l.flatMap srtE.enc)) (hN:l.length≤1000000) (hm:m≤H.next) :
  ∃s' H',O9 (LCo c) m H s=some (s',H')∧VecA srtE 25 m H' l s'∧Ext H H'∧∀id,owns s' id→H.next≤id:=by
 unfold O9;cases hnil:isNilS s with
 | true =>
  have hp:s.p=none:=by
   unfold isNilS at hnil;cases hq:s.p with
   | none=>rfl
   | some a=>rw [hq] at hnil; cases hnil
  have:l=[]:=by
   have:=(h H (Fm.refl _ _)).nil hp;exact List.length_eq_zero_iff.1 this.1
  subst this;exact ⟨Sl3.nil,H,rfl,VecA.nil _ _ _ _,Fm.refl _ _,fun id h=>absurd h E8⟩
 | false =>
  have hp:Ext H (H.push { obj:=.cells #[] 25 (0,0),opn:=false,esz:=0,ro:=false }):=Fm.push _ _ _;obtain ⟨s',H',a1,a2,a3⟩:=VecA.app (E:=srtE) (e:=25) (bytes:=56) (l:=[]) (l':=l) (m:=m) (VecA.zero _ _ _ _ ⟨H.next,0,none⟩ ⟨by simp,rfl⟩) (h _ hp) (by simp only [List.length_nil,Nat.zero_add]; exact (room4 hN).1) (by simp only [List.length_nil,Nat.zero_add]; exact (room4 hN).2) (by simp; omega);have hx:=a3.ext hp fun id h=>absurd h z8g;refine ⟨s',H',?_,a2,hx.1,hx.2⟩;simp only [Bool.false_eq_true,if_false,newR,Option.bind_some];have a1':appS m 25 4 56 (H.push { obj:=.cells #[] 25 (0,0),opn:=false,esz:=0,ro:=false }) ⟨some ⟨H.next,0,none⟩,0,0⟩ s=some (s',H'):=a1;rw [a1'];rfl
theorem zq2 (hF:L0=fuel+1) (hB:Book H p s1 s2 s3 g) {x16 y z sl:Sl3} {v:Int} {n n':ByteArray} {k w:Int} {l:List SrtA} (hv:VecA srtE 25 m H l sl) (hN:l.length≤1000000) (hok:∀x∈l,SrtOk H x) (hd:∀x∈l,x.a.dep≤fuel) :
  loopO (D3 (LCo L0) p x16 v n y k w n' z sl H) 0=some (found l.length (((l.map SrtA.er).findSome? (errS g)).map fun e=>(e,H))):=by
 have hsl:SlL (fun H q (x:SrtA)=>SoC H q x.k x.w x.n x.s∧x∈l) 4 H sl l:=by
  have h1:=VecA.sl (R:=fun H q (x:SrtA)=>Cel H (q.add 0) (.int .i64 x.k)∧Cel H (q.add 1) (.int .i64 x.w)∧Cel H (q.add 2) (.string x.n)∧Cel H (q.add 3) (Sl3.v x.s)) hv (by rw [B2]; omega) fun x q hc=>⟨hc 0 _ rfl,hc 1 _ rfl,hc 2 _ rfl,hc 3 _ rfl⟩;refine ⟨h1.n,h1.cap,h1.top,h1.low,LAt.of fun j hj=>?_⟩;obtain ⟨a,k1,k2⟩:=h1.at_.get j hj;have hm:=List.getElem_mem hj;exact ⟨a,k1,⟨k2.1,k2.2.1,k2.2.2.1,k2.2.2.2,(hok _ hm).2⟩,hm⟩
 have hn:=hsl.n;have hl:=V3 (body:=D3 (LCo L0) p x16 v n y k w n' z sl H) l.length hsl.len (fun i=>(errS g (l.getD i ⟨0,0,emptyT,Sl3.nil,.nil⟩).er).map fun e=>(e,H)) (fun i hi=>by
   obtain ⟨q,h1,h2,hm⟩:=hsl.get hi (v:=(i:Int)) rfl;have r0:rd (deI .i64) H (q.add 0)=some l[i].k:=by rw [h2.ck.rd]; rfl
   have r1:rd (deI .i64) H (q.add 1)=some l[i].w:=by rw [h2.cw.rd]; rfl
   have r2:rd deS H (q.add 2)=some l[i].n:=by rw [h2.cn.rd]; rfl
   have r3:rd deSl H (q.add 3)=some l[i].s:=by rw [h2.cs.rd]; rfl
   have eg:l.getD i ⟨0,0,emptyT,Sl3.nil,.nil⟩=l[i]:=by simp [List.getD,hi]
   rw [eg];unfold D3;simp only [if_pos (show (i:Int)<(sl.n:Int) by omega),h1,Option.bind_some,r0,r1,r2,r3,zaj L0 fuel hF hB (hok _ hm).1 (hok _ hm).2 (hd _ hm)];simp only [errS,SrtA.er];by_cases hz:checkS g l[i].k l[i].w l[i].n l[i].a=0
   ·simp [hz,stepO]
   ·simp [hz,stepO]) (by
   unfold D3;rw [if_neg (by omega)])
 rw [hl,z4l l (fun x=>(errS g x.er).map fun e=>(e,H)) ⟨0,0,emptyT,Sl3.nil,.nil⟩,z3b,List.findSome?_map];rfl
theorem zq9 (hF:L0=fuel+1) (hB:Book H0 p s1 s2 s3 g) {sl:Sl3} {fs:List Fnc} (h:SlL FncA 6 H0 sl fs) (hm:m≤H0.next) (hsz:∀f∈fs,f.args.len≤64) (hd:∀f∈fs,f.args.dep≤fuel∧f.a.dep≤fuel):∀(d i:Nat) (H:AH),i+d=fs.length→Ext H0 H →
  ∃H',loopO (Y2 (LCo L0) m p sl) (H,(i:Int))=some (match ((fs.drop i).flatMap fncE).findSome? (errS g) with | some e=>.inr (e,H') | none=>.inl (H',(fs.length:Int)))∧Ext H0 H':=by
 have hn:=h.n;intro d;induction d with
 | zero =>
  intro i H hi hx;have:i=fs.length:=by omega
  subst this;refine ⟨H,?_,hx⟩;rw [List.drop_length];refine Y1 ?_;unfold Y2;simp only [if_neg (show ¬((fs.length:Int)<(sl.n:Int)) by omega)]
 | succ d ih =>
  intro i H hi hx;have hlt:i<fs.length:=by omega
  obtain ⟨q,g1,g2⟩:=h.get hlt (v:=(i:Int)) rfl;obtain ⟨y,f1,f2⟩:=g2.ar;obtain ⟨z,e1,e2,e3,e4,e5,e6⟩:=g2.ex;have r0:rd deS H (q.add 0)=some fs[i].n:=by rw [(g2.n.ext hx).rd]; rfl
  have r1:rd deSl H (q.add 1)=some y:=by rw [(f1.ext hx).rd]; rfl
  have r2:rd (deI .i64) H (q.add 2)=some fs[i].k:=by rw [(e1.ext hx).rd]; rfl
  have r3:rd (deI .i64) H (q.add 3)=some fs[i].w:=by rw [(e2.ext hx).rd]; rfl
  have r4:rd deS H (q.add 4)=some fs[i].sn:=by rw [(e3.ext hx).rd]; rfl
  have r5:rd deSl H (q.add 5)=some z:=by rw [(e4.ext hx).rd]; rfl
  obtain ⟨la,a1,a2,a3,a4⟩:=zjh f2;have hla:la.length≤64:=by rw [a2]; exact hsz _ (List.getElem_mem hlt)
  have hmH:m≤H.next:=Nat.le_trans hm hx.1;obtain ⟨x21,H22,b1,b2,b3,b4⟩:=clone73 L0 (Nat.max m H.next) (fun H' hx'=>a4 H' (hx.trans hx')) (by omega) (Nat.max_le.2 ⟨hmH,Nat.le_refl _⟩);have b2':VecA srtE 25 m H22 la x21:=by
   unfold VecA at b2 ⊢;cases b2 with
   | nil hn hv=>exact .nil hn hv
   | zero a ha hn hv=>exact .zero a ha hn hv
   | opn id off cs hm' hid hg hl ho hx=>exact .opn id off cs (Nat.le_trans (Nat.le_max_left _ _) hm') hid hg hl ho hx
  have hx22:=hx.trans b3;have hm22:m≤H22.next:=Nat.le_trans hm hx22.1;obtain ⟨z1,G2,t2,G3,p1,p2,p3,p4⟩:=zeq b2' ⟨fs[i].k,fs[i].w,fs[i].sn,z,fs[i].a⟩ (by omega) hm22;have hx3:=p4.ext hx22 fun id hid=>Nat.le_trans hx.1 (b4 id hid);have hok:∀w∈la++[⟨fs[i].k,fs[i].w,fs[i].sn,z,fs[i].a⟩],SrtOk G3 w:=fun w hw=>by
   rcases List.mem_append.1 hw with hw | hw
   ·exact (a3 w hw).ext hx3.1
   ·obtain rfl:=List.mem_singleton.1 hw;exact SrtOk.ext (H:=H0) ⟨e6,e5⟩ hx3.1
  have hdd:∀w∈la++[⟨fs[i].k,fs[i].w,fs[i].sn,z,fs[i].a⟩],w.a.dep≤fuel:=fun w hw=>by
   have hdi:=hd _ (List.getElem_mem hlt);rcases List.mem_append.1 hw with hw | hw
   ·have hmm:w.er∈fs[i].args.list:=by rw [← a1]; exact List.mem_map.2 ⟨w,hw,rfl⟩
    have:=zf3 hmm;exact Nat.le_trans this hdi.1
   ·obtain rfl:=List.mem_singleton.1 hw;exact hdi.2
  have hb4:=zq2 (m:=m) hF (hB.ext hx3.1) (x16:=sl) (y:=y) (z:=z) (v:=(i:Int)) (n:=fs[i].n) (n':=fs[i].sn) (k:=fs[i].k) (w:=fs[i].w) p3 (by rw [List.length_append]; simp; omega) hok hdd;have her:(la++[(⟨fs[i].k,fs[i].w,fs[i].sn,z,fs[i].a⟩:SrtA)]).map SrtA.er=fncE fs[i]:=by rw [List.map_append,a1]; rfl
  rw [her] at hb4;obtain ⟨H',i1,i2⟩:=ih (i+1) G3 (by omega) hx3.1;have hbody:Y2 (LCo L0) m p sl (H,(i:Int))=some (match (fncE fs[i]).findSome? (errS g) with | some e=>.ret (e,G3) | none=>.next (G3,((i+1:Nat):Int))):=by
   unfold Y2;simp only [if_pos (show (i:Int)<(sl.n:Int) by omega),g1,Option.bind_some,r0,r1,r2,r3,r4,r5,b1];have p1':newS 25 [(Value.int .i64 fs[i].k),(Value.int .i64 fs[i].w),(Value.string fs[i].sn),(Sl3.v z)] H22=some (H22.next,G2):=by
    unfold newR at p1;simp only [Option.some.injEq,Prod.mk.injEq] at p1;unfold newS pubB;rw [← p1.2]
   have hz1:z1=⟨some ⟨H22.next,0,none⟩,1,1⟩:=by
    unfold newR at p1;simp only [Option.some.injEq,Prod.mk.injEq] at p1;exact p1.1.symm
   rw [p1'];simp only [Option.bind_some];rw [hz1] at p2;rw [p2];simp only [Option.bind_some];show Option.bind (loopO (D3 (LCo L0) p sl (i:Int) fs[i].n y fs[i].k fs[i].w fs[i].sn z t2 G3) 0) _=_;rw [hb4];cases (fncE fs[i]).findSome? (errS g) with
   | some e=>rfl
   | none =>
    simp only [Option.map_none,found,Option.bind_some];rw [V1 hlt h.len]
  rw [List.drop_eq_getElem_cons hlt,List.flatMap_cons,List.findSome?_append];cases hq:(fncE fs[i]).findSome? (errS g) with
  | some e =>
   rw [hq] at hbody;exact ⟨G3,N3 hbody,hx3.1⟩
  | none =>
   rw [hq] at hbody;exact ⟨H',by rw [W1 hbody]; exact i1,i2⟩
theorem zih (hF:L0=fuel+1) (hm:m≤H.next) (hB:Book H p s1 s2 s3 g) (hS:SigA H s1 s2 s3 g) (hs:manyS g=false) (hd:g.dep≤fuel) :
  ∃H',X7 (LCo L0) m H (some p)=some (allS g,H')∧Ext H H':=by
 have hfb:∀f∈g.funs,f.args.len≤64:=by
  unfold manyS at hs;simp only [Bool.or_eq_false_iff] at hs;have h2:=hs.2.1;rw [List.any_eq_false] at h2;intro f hf;have:=h2 f hf;simp only [badF,decide_eq_true_eq] at this;omega
 have hadd:∀j,(p.add 0).add j=p.add (0+j):=fun j=>add2 hB.c1 0 j;have r1:rd deSl H ((p.add 0).add 1)=some s2:=by rw [hadd,hB.c2.rd]; rfl
 have r2:rd deSl H ((p.add 0).add 2)=some s3:=by rw [hadd,hB.c3.rd]; rfl
 have h0:=zpw hF hB hS.d fun d hd' c hc x hx=>Nat.le_trans (zlm hd' hc hx) hd;obtain ⟨H',h3,h4⟩:=zq9 hF hB hS.f hm hfb (fun f hf=>⟨Nat.le_trans (zdn hf).1 hd,Nat.le_trans (zdn hf).2 hd⟩) g.funs.length 0 H (by omega) (Fm.refl _ _);rw [List.drop_zero] at h3;unfold X7 allS;rw [zcy,List.findSome?_append];simp only [Option.bind_some,r1];show ∃H',Option.bind (loopO (A3 (LCo L0) H p s2) 0) _=_∧_;rw [h0];cases (g.datas.flatMap datE).findSome? (errS g) with
 | some e=>exact ⟨H,rfl,Fm.refl _ _⟩
 | none =>
  refine ⟨H',?_,h4⟩;simp only [Option.map_none,found,Option.bind_some,r2];show Option.bind (loopO (Y2 (LCo L0) m p s3) (H,((0:Nat):Int))) _=_;rw [h3];cases (g.funs.flatMap fncE).findSome? (errS g) <;> rfl
end
end Go.Proofs.YtccbilfbhecdaaaGreatDoor
namespace Go.Proofs.YtccbilfbhecdaaaGreatDoor
open Go Go.Abs
set_option maxRecDepth 100000
def natE:Enc Nat:=⟨fun x=>[.int .i64 (x:Int)],1,fun _=>rfl,fun _=>rfl⟩
def IntA (H:AH) (q:Addr) (x:Nat):Prop:=Cel H q (.int .i64 (x:Int))
theorem room8 {n:Nat} (h:n≤10000000000):(2*n+1000)*8≤281474976710656∧n≤281474976710656:=by omega
def ixS (ds:List Dat) (n:ByteArray):Nat:=(dataIx ds n).getD 0
def dtF (ds:List Dat):Fo→List Nat
 | .nil=>[]
 | .cons k _ n a r=>(if k=6 then [ixS ds n] else dtF ds a)++dtF ds r
def dtS (ds:List Dat) (k:Int) (n:ByteArray) (a:Fo):List Nat:=if k=6 then [ixS ds n] else dtF ds a
def dtI (ds:List Dat) (inside:Bool) (k:Int) (n:ByteArray) (a:Fo):List Nat:=if k=6∧inside=false then [ixS ds n] else dtF ds a
theorem za4 (ds:List Dat):∀a:Fo,(dtF ds a).length≤a.size
 | .nil=>by simp [dtF,Fo.size]
 | .cons k w n a r=>by
  have h1:=za4 ds a;have h2:=za4 ds r;simp only [dtF,Fo.size,List.length_append];split
  ·simp; omega
  ·omega
def stC (ds:List Dat) (c:Con):List Nat:=c.sels.flatMap fun x=>dtS ds x.k x.sn x.a
def stD (ds:List Dat) (d:Dat):List Nat:=d.cons.flatMap (stC ds)
section
variable {m:Nat} {H0 H:AH} {s1 s2 s3:Sl3} {g:Sg} {p:Addr} {L0 fuel:Nat}
theorem nat_sl {l:List Nat} {s:Sl3} (h:VecA natE 3 m H l s) (hN:l.length≤10000000000):SlL IntA 1 H s l:=VecA.sl h (by rw [B2]; omega) fun x q hc=>hc 0 _ rfl
theorem zhc {s:Sl3} {l:List Nat} (h:SlL IntA 1 H s l):RdV 1 H s l.length (l.flatMap natE.enc):=by
 refine ⟨h.n,fun hp=>?_,fun a ha=>?_,natE.flat_one l⟩
 ·have:l=[]:=by
   cases l with
   | nil=>rfl
   | cons x l =>
    obtain ⟨a,h1,_⟩:=h.at_.get 0 (by simp);rw [hp] at h1; cases h1
  subst this; exact ⟨rfl,rfl⟩
 ·have:=z3o (H:=H) (a:=a) (l.flatMap natE.enc) 0 fun i hi=>by
   rw [natE.flat_len] at hi;have hi':i<l.length:=by
    have:natE.sz=1:=rfl;rw [this] at hi; omega
   obtain ⟨a',h1,h2⟩:=h.at_.get i hi';rw [ha] at h1; cases h1;have e1:(l.flatMap natE.enc)[i]? = some (.int .i64 (l[i]:Int)):=by
    have:=natE.flat_get (l:=l) (i:=i) (j:=0) hi' (by decide);rw [show i*natE.sz+0=i from by show i*1+0=i; omega] at this;rw [this]; rfl
   rw [List.getElem?_eq_getElem (by rw [natE.flat_len]; exact hi)] at e1;rw [Option.some.inj e1,Nat.zero_add];rw [Nat.zero_add,Nat.mul_one] at h2;exact h2.1
  rw [natE.flat_len] at this;exact this
theorem zqr (x:Nat) (H:AH):∃s H',newR 3 1 #[(Value.int .i64 (x:Int))] H=some (s,H')∧SlL IntA 1 H' s [x]∧Ext H H':=by
 refine ⟨_,_,rfl,SlL.push (xs:=[x]) rfl (by rw [B2]; simp) fun i hi=>?_,Fm.push _ _ _⟩;obtain rfl:i=0:=by simpa using hi
 exact Cel.push rfl rfl
theorem zdj (hB:Book H p s1 s2 s3 g) (n:ByteArray):∃id,rd deM H (p.add 3)=some (some id)∧lk1 Tryz.prog 78 (deI .i64) H (some id) (Value.agg #[(Value.int .i64 6),(Value.string n)])=some ((ixS g.datas n:Nat):Int):=by
 obtain ⟨id,q1,q2,q3⟩:=hB.ex;refine ⟨id,by rw [q1.rd]; rfl,?_⟩;have hl:=zjm keyK und94 zero3 rfl q3 (6,n) (deI .i64);refine hl.trans ?_;simp only [bookF,if_neg (show ¬((6:Int)=5) by omega),ixS];cases dataIx g.datas n <;> rfl
theorem zft (c:Nat):∀(d fuel:Nat) (H:AH) (k w:Int) (n:ByteArray) (s:Sl3) (a:Fo) (inside:Bool),Book H p s1 s2 s3 g→m≤H.next→SlF H s a→a.size≤1000→a.dep≤fuel→a.dep<d →
  ∃s' H',V4 (LCo c) (fuel+1) m H (some p) k w n s inside=some (s',H')∧SlL IntA 1 H' s' (dtI g.datas inside k n a)∧Ext H H':=by
 intro d;induction d with
 | zero=>intro fuel H k w n s a inside _ _ _ _ _ h; omega
 | succ d ih =>
  intro fuel H k w n s a inside hB hm h hsz hf hd;show ∃s' H',W6 (LCo c) (V4 (LCo c) fuel) m H (some p) k w n s inside=_∧_;unfold W6 dtI;by_cases hk:k=6∧inside=false
  ·obtain ⟨rfl,rfl⟩:=hk;obtain ⟨id,r1,r2⟩:=zdj hB n;obtain ⟨s',H',t1,t2,t3⟩:=zqr (ixS g.datas n) H;refine ⟨s',H',?_,t2,t3⟩;simp only [if_true,Bool.not_false,Option.bind_some,r1,r2,t1]
  ·have hc:(if k=6 then some (!inside) else some false)=some false:=by
    by_cases h6:k=6
    ·rw [if_pos h6];cases inside with
     | true=>rfl
     | false=>exact absurd ⟨h6,rfl⟩ hk
    ·rw [if_neg h6]
   rw [hc,if_neg hk];simp only [Option.bind_some,Bool.false_eq_true,if_false];have loop:∀(f:Fo) (i:Nat) (G:AH) (v:Sl3) (l:List Nat),FoA H s.p i f→s.n=i+f.len→f.dep≤a.dep→f.size≤1000→VecA natE 3 m G l v→Ext H G→(∀id,owns v id→H.next≤id)→l.length+f.size≤10000 →
     ∃G' v',loopO (D4 (LCo c) (V4 (LCo c) fuel) m (some p) k w n s) (G,v,(i:Int))=some (.inl (G',v',(s.n:Int)))∧VecA natE 3 m G' (l++dtF g.datas f) v'∧Ch G v G' v':=by
    intro f;induction f with
    | nil =>
     intro i G v l hA hn _ _ hv hx ho _;simp only [Fo.len,Nat.add_zero] at hn;subst hn;refine ⟨G,v,Y1 ?_,by simpa [dtF] using hv,Ch.refl _ _⟩;unfold D4;simp only [if_neg (show ¬((s.n:Int)<(s.n:Int)) by omega)]
    | cons k1 w1 n1 a1 r iha ihr =>
     intro i G v l hA hn hdep hfs hv hx ho hN;simp only [Fo.len] at hn;simp only [Fo.dep] at hdep;simp only [Fo.size] at hfs hN;obtain ⟨q,t1,q1,q2,q3,q4,q5,q6,q7,q8⟩:=(hA.ext hx).rd (s:=s) (by omega);obtain ⟨g',rfl⟩:∃g',fuel=g'+1:=⟨fuel - 1,by omega⟩;obtain ⟨s',G1,y1,y2,y3⟩:=ih g' G k1 w1 n1 t1 a1 false (hB.ext hx) (Nat.le_trans hm hx.1) q6 (by omega) (by omega) (by omega);have hv1:VecA natE 3 m G1 l v:=VecV.ext hv y3;have hlen:(dtI g.datas false k1 n1 a1).length≤a1.size+1:=by
      unfold dtI;split
      ·simp
      ·have:=za4 g.datas a1; omega
     obtain ⟨v2,G2,z1,z2,z3⟩:=VecA.app (E:=natE) (e:=3) (bytes:=8) (l':=dtI g.datas false k1 n1 a1) hv1 (zhc y2) (room8 (by omega)).1 (room8 (by omega)).2 (Nat.le_trans hm (Nat.le_trans hx.1 y3.1));have c1:Ch G v G2 v2:=by
      refine ⟨(y3.weak (W':=owns v) fun _ _ h=>h.elim).comp z3.fm fun id _ hn=>hn,fun id hid=>?_⟩;rcases z3.ow id hid with h | h
      ·exact .inl h
      ·exact .inr (Nat.le_trans y3.1 h)
     obtain ⟨x2,o2⟩:=c1.ext hx ho;obtain ⟨G3,v3,w1',w2,w3⟩:=ihr (i+1) G2 v2 (l++dtI g.datas false k1 n1 a1) hA.2 (by omega) (by omega) (by omega) z2 x2 o2 (by rw [List.length_append]; omega);refine ⟨G3,v3,?_,?_,c1.trans w3⟩
     ·have hb:D4 (LCo c) (V4 (LCo c) (g'+1)) m (some p) k w n s (G,v,(i:Int))=some (.next (G2,v2,((i+1:Nat):Int))):=by
       unfold D4;have z1':appS m 3 1 8 G1 v s'=some (v2,G2):=z1;simp only [if_pos (show (i:Int)<(s.n:Int) by omega),q1,q2,q3,q4,q5,Option.bind_some,y1,z1'];rw [V1 (n:=s.n) (by omega) h.2.1]
      rw [W1 hb];exact w1'
     ·have e:dtF g.datas (.cons k1 w1 n1 a1 r)=dtI g.datas false k1 n1 a1++dtF g.datas r:=by
       simp [dtF,dtI]
      rw [e,← List.append_assoc];exact w2
   obtain ⟨G',v',t1,t2,t3⟩:=loop a 0 H Sl3.nil [] h.2.2 (by rw [h.1]; omega) (Nat.le_refl _) hsz (VecA.nil _ _ _ _) (Fm.refl _ _) (fun id h=>absurd h E8) (by simp; omega);obtain ⟨x2,_⟩:=t3.ext (Fm.refl _ _) fun id h=>absurd h E8;refine ⟨v',G',?_,nat_sl (by simpa using t2) (by have:=za4 g.datas a; omega),x2⟩;show Option.bind (loopO (D4 (LCo c) (V4 (LCo c) fuel) m (some p) k w n s) (H,Sl3.nil,((0:Nat):Int))) _=_;rw [t1];rfl
end
end Go.Proofs.YtccbilfbhecdaaaGreatDoor
namespace Go.Proofs.YtccbilfbhecdaaaGreatDoor
open Go Go.Abs
set_option maxRecDepth 100000
structure SelG (g:Sg) (x:Sel):Prop where
 sh:shS x.k x.w x.sn x.a=true
 sz:x.a.size≤255
 dp:x.a.dep≤15
 kn:knS g.users g.datas x.k x.sn x.a=true
structure GoodG (g:Sg):Prop where
 many:manyS g=false
 sel:∀d∈g.datas,∀c∈d.cons,∀x∈c.sels,SelG g x
theorem zhn {g:Sg} (hm:manyS g=false) (ha:allS g=0):GoodG g:=by
 refine ⟨hm,fun d hd c hc x hx=>?_⟩;have hmem:selE x∈sortsE g:=by
  rw [zcy];refine List.mem_append.2 (.inl ?_);rw [List.mem_flatMap];refine ⟨d,hd,?_⟩;unfold datE;rw [List.mem_flatMap];exact ⟨c,hc,List.mem_map.2 ⟨x,hx,rfl⟩⟩
 have h0:errS g (selE x)=none:=by
  unfold allS at ha;cases hq:(sortsE g).findSome? (errS g) with
  | some e =>
   rw [hq] at ha;obtain ⟨y,hy,hye⟩:=List.exists_of_findSome?_eq_some hq;have:=(err_ok hye).2;exact absurd ha this
  | none=>exact List.findSome?_eq_none_iff.1 hq _ hmem
 have hc0:checkS g x.k x.w x.sn x.a=0:=by
  unfold errS at h0;split at h0
  ·assumption
  ·cases h0
 unfold checkS at hc0;split at hc0
 ·rename_i hw;obtain ⟨z1,z2,z3⟩:=zax hw;split at hc0
  ·rename_i hk;exact ⟨z1,by omega,by omega,hk⟩
  ·cases hc0
 ·rename_i hw;exact absurd hc0 hw
theorem zqu (ds:List Dat) (k:Int) (n:ByteArray) (a:Fo):(dtS ds k n a).length≤a.size+1:=by
 unfold dtS;split
 ·simp
 ·have:=za4 ds a; omega
theorem zjs {α:Type} {f:α→Nat}:∀{l:List α} {x:α},x∈l→f x≤sumL f l
 | y :: l,x,h=>by
  simp only [sumL];rcases List.mem_cons.1 h with rfl | h
  ·omega
  ·have:=zjs (f:=f) h; omega
theorem zqa {g:Sg} (hG:GoodG g) {d:Dat} (hd:d∈g.datas) {c:Con} (hc:c∈d.cons):(stC g.datas c).length≤c.sels.length*256 :=
 zeo _ _ fun x hx=>by
  have:=zqu g.datas x.k x.sn x.a;have:=(hG.sel d hd c hc x hx).sz;omega
theorem zpi {g:Sg} (hG:GoodG g) {d:Dat} (hd:d∈g.datas):(stD g.datas d).length≤cntD d*256:=by
 unfold stD cntD;have key:∀l:List Con,(∀c∈l,c∈d.cons)→(l.flatMap (stC g.datas)).length≤sumL (fun c=>c.sels.length) l*256:=by
  intro l;induction l with
  | nil=>intro _; simp [sumL]
  | cons c l ih =>
   intro h;rw [List.flatMap_cons,List.length_append];have h1:=zqa hG hd (h c (by simp));have h2:=ih fun c hc=>h c (by simp [hc]);simp only [sumL,Nat.add_mul];omega
 have:=key d.cons fun c hc=>hc;rw [Nat.add_mul];omega
theorem zoj {g:Sg} (hG:GoodG g):sumL cntD g.datas≤4096:=by
 have:=hG.many;unfold manyS at this;simp only [Bool.or_eq_false_iff,decide_eq_false_iff_not] at this;have:=this.2.2;unfold cntG at this;omega
theorem zhm {g:Sg} (hG:GoodG g) {d:Dat} (hd:d∈g.datas):(stD g.datas d).length≤1048576:=by
 have h1:=zpi hG hd;have h2:=zjs (f:=cntD) hd;have h3:=zoj hG;have:cntD d*256≤4096*256:=Nat.mul_le_mul_right _ (by omega);omega
section
variable {m:Nat} {H0 H:AH} {s1 s2 s3:Sl3} {g:Sg} {p:Addr} {L0 fuel:Nat} {s:Sl3} {l:List Nat}
theorem zl8 (hF:L0=fuel+1) (hfu:15≤fuel) (hG:GoodG g) (hB:Book H0 p s1 s2 s3 g) (hm:m≤H0.next) {d:Dat} (hd:d∈g.datas) {c:Con} (hc:c∈d.cons) {x4 sl:Sl3} {v20:Int} {n9:ByteArray} (h:SlL SelA 5 H0 sl c.sels) (hv:VecA natE 3 m H l s) (hx:Ext H0 H) (ho:∀id,owns s id→H0.next≤id) (hN:l.length+(stC g.datas c).length≤2000000) :
  ∃H' s',loopO (Z2 (LCo L0) m p x4 v20 n9 sl) (H,s,0)=some (.inl (H',s',(c.sels.length:Int)))∧VecA natE 3 m H' (l++stC g.datas c) s'∧Ch H s H' s':=by
 have key:=Y9 (E:=natE) (e:=3) (m:=m) (xs:=c.sels) (body:=Z2 (LCo L0) m p x4 v20 n9 sl) (fun x=>dtS g.datas x.k x.sn x.a) 2000000 (H0:=H0)
  (fun i hi G t k hk hx1 hO hN=>by
   have hln:=h.n;obtain ⟨q,g1,g2⟩:=h.get hi (v:=(i:Int)) rfl;obtain ⟨z,e1,e2,e3,e4,e5,e6⟩:=g2.ex;have r0:rd deS G (q.add 0)=some c.sels[i].n:=by rw [(g2.n.ext hx1).rd]; rfl
   have r1:rd (deI .i64) G (q.add 1)=some c.sels[i].k:=by rw [(e1.ext hx1).rd]; rfl
   have r2:rd (deI .i64) G (q.add 2)=some c.sels[i].w:=by rw [(e2.ext hx1).rd]; rfl
   have r3:rd deS G (q.add 3)=some c.sels[i].sn:=by rw [(e3.ext hx1).rd]; rfl
   have r4:rd deSl G (q.add 4)=some z:=by rw [(e4.ext hx1).rd]; rfl
   have hs:=hG.sel d hd c hc _ (List.getElem_mem hi);obtain ⟨s',G1,y1,y2,y3⟩:=zft (m:=m) L0 (c.sels[i].a.dep+1) fuel G c.sels[i].k c.sels[i].w c.sels[i].sn z c.sels[i].a false (hB.ext hx1) (Nat.le_trans hm hx1.1) (e6.ext hx1) (by have:=hs.sz; omega) (by have:=hs.dp; omega) (by omega);have e:dtI g.datas false c.sels[i].k c.sels[i].sn c.sels[i].a=dtS g.datas c.sels[i].k c.sels[i].sn c.sels[i].a:=by simp [dtI,dtS]
   rw [e] at y2;obtain ⟨v2,G2,z1,z2,z3⟩:=VecA.app (E:=natE) (e:=3) (bytes:=8) (l':=dtS g.datas c.sels[i].k c.sels[i].sn c.sels[i].a) (VecV.ext hk y3) (zhc y2) (room8 (by omega)).1 (room8 (by omega)).2 (Nat.le_trans hm (Nat.le_trans hx1.1 y3.1));refine ⟨G2,v2,?_,z2,?_⟩
   ·unfold Z2 R9;have e1:(LCo L0).fuel=fuel+1:=hF;have z1':appS m 3 1 8 G1 t s'=some (v2,G2):=z1;rw [e1];simp only [if_pos (show (i:Int)<(sl.n:Int) by omega),g1,Option.bind_some,r0,r1,r2,r3,r4,y1,z1'];rw [V1 hi h.len]
   ·refine ⟨(y3.weak (W':=owns t) fun _ _ h=>h.elim).comp z3.fm fun id _ hn=>hn,fun id hid=>?_⟩;rcases z3.ow id hid with h | h
    ·exact .inl h
    ·exact .inr (Nat.le_trans y3.1 h))
  (fun G t hx1=>by
   unfold Z2;have hln:=h.n;simp only [if_neg (show ¬((c.sels.length:Int)<(sl.n:Int)) by omega)])
  c.sels.length 0 H s l (by omega) hv hx ho (by rw [List.drop_zero]; exact hN)
 rw [List.drop_zero] at key;exact key
theorem zb4 (hF:L0=fuel+1) (hfu:15≤fuel) (hG:GoodG g) (hS:SigA H s1 s2 s3 g) (hB:Book H p s1 s2 s3 g) (hm:m≤H.next) {i:Nat} (hi:i<g.datas.length) :
  ∃s' H',E6 (LCo L0) m H (some p) (i:Int)=some (s',H')∧VecA natE 3 m H' (stD g.datas g.datas[i]) s'∧Ext H H'∧∀id,owns s' id→H.next≤id:=by
 have hd:=List.getElem_mem hi;have hadd:∀j,(p.add 0).add j=p.add (0+j):=fun j=>add2 hB.c1 0 j;have r1:rd deSl H ((p.add 0).add 1)=some s2:=by rw [hadd,hB.c2.rd]; rfl
 obtain ⟨q,g1,g2⟩:=hS.d.get hi (v:=(i:Int)) rfl;obtain ⟨z,e1,hc⟩:=g2.ex;have r2:rd deSl H (q.add 1)=some z:=by rw [e1.rd]; rfl
 have key:=Y9 (E:=natE) (e:=3) (m:=m) (xs:=g.datas[i].cons) (body:=E3 (LCo L0) m p z) (stC g.datas) 2000000 (H0:=H)
  (fun j hj G t k hk hx1 hO hN=>by
   have hln:=hc.n;obtain ⟨q',k1,k2⟩:=hc.get hj (v:=(j:Int)) rfl;obtain ⟨z',f1,f2⟩:=k2.ex;have r0:rd deS G (q'.add 0)=some g.datas[i].cons[j].n:=by rw [(k2.n.ext hx1).rd]; rfl
   have r3:rd deSl G (q'.add 1)=some z':=by rw [(f1.ext hx1).rd]; rfl
   obtain ⟨G2,t2,w1,w2,w3⟩:=zl8 hF hfu hG hB hm hd (List.getElem_mem hj) (x4:=z) (v20:=(j:Int)) (n9:=g.datas[i].cons[j].n) f2 hk hx1 hO hN;refine ⟨G2,t2,?_,w2,w3⟩;unfold E3;simp only [if_pos (show (j:Int)<(z.n:Int) by omega),k1,Option.bind_some,r0,r3];show Option.bind (loopO (Z2 (LCo L0) m p z (j:Int) g.datas[i].cons[j].n z') (G,t,0)) _=_;rw [w1];simp only [Option.bind_some];rw [V1 hj hc.len])
  (fun G t hx1=>by
   unfold E3;have hln:=hc.n;simp only [if_neg (show ¬((g.datas[i].cons.length:Int)<(z.n:Int)) by omega)])
  g.datas[i].cons.length 0 H Sl3.nil [] (by omega) (VecA.nil _ _ _ _) (Fm.refl _ _) (fun id h=>absurd h E8) (by rw [List.drop_zero]; have:=zhm hG hd; show 0+(stD g.datas g.datas[i]).length≤_; omega)
 rw [List.drop_zero] at key;obtain ⟨H',s',t1,t2,t3⟩:=key;obtain ⟨x2,o2⟩:=t3.ext (Fm.refl _ _) fun id h=>absurd h E8;refine ⟨s',H',?_,by simpa [stD] using t2,x2,o2⟩;unfold E6;simp only [Option.bind_some,r1,g1,r2];show Option.bind (loopO (E3 (LCo L0) m p z) (H,Sl3.nil,0)) _=_;have t1':loopO (E3 (LCo L0) m p z) (H,Sl3.nil,0)=_:=t1;rw [t1'];rfl
end
def EdgS (g:Sg) (i k:Nat):Prop:=∃h:i<g.datas.length,k∈stD g.datas g.datas[i]
inductive Lean1 (g:Sg) (i:Nat):Nat→Prop
 | one {k:Nat} (h:EdgS g i k):Lean1 g i k
 | more {j k:Nat} (h:Lean1 g i j) (h':EdgS g j k):Lean1 g i k
theorem ix_lt {g:Sg} {n:ByteArray} (h:(dataIx g.datas n).isSome=true):ixS g.datas n<g.datas.length:=by
 unfold ixS;obtain ⟨i,hi⟩:=Option.isSome_iff_exists.1 h;rw [hi];unfold dataIx at hi;exact (List.findIdx?_eq_some_iff_getElem.1 hi).1
theorem dtF_lt {g:Sg}:∀{a:Fo},shF a=true→knF g.users g.datas a=true→∀k∈dtF g.datas a,k<g.datas.length
 | .nil,_,_,k,hk=>by simp [dtF] at hk
 | .cons k w n a r,hs,h,j,hj=>by
  simp only [knF,Bool.and_eq_true] at h;simp only [shF,Bool.and_eq_true] at hs;simp only [dtF,List.mem_append] at hj;rcases hj with hj | hj
  ·by_cases h6:k=6
   ·subst h6;simp only [if_true,List.mem_singleton,if_neg (show ¬((6:Int)=5) by omega)] at hj h;subst hj;exact ix_lt h.1
   ·rw [if_neg h6] at hj;by_cases h5:k=5
    ·have:=z4k (k:=k) (w:=w) (n:=n) (a:=a) (by simp only [shS,Bool.and_eq_true]; exact hs.1) (.inl h5);subst this;simp [dtF] at hj
    ·rw [if_neg h5,if_neg h6] at h;exact dtF_lt hs.1.2 h.1 j hj
  ·exact dtF_lt hs.2 h.2 j hj
theorem dtS_lt {g:Sg} {x:Sel} (h:SelG g x):∀k∈dtS g.datas x.k x.sn x.a,k<g.datas.length:=by
 intro k hk;have hs:=h.sh;have hkn:=h.kn;unfold dtS at hk;unfold knS at hkn;by_cases h6:x.k=6
 ·rw [if_pos h6] at hk;rw [if_neg (by omega),if_pos h6] at hkn;simp only [List.mem_singleton] at hk;subst hk;exact ix_lt hkn
 ·rw [if_neg h6] at hk;by_cases h5:x.k=5
  ·have:=z4k hs (.inl h5);rw [this] at hk;simp [dtF] at hk
  ·rw [if_neg h5,if_neg h6] at hkn;simp only [shS,Bool.and_eq_true] at hs;exact dtF_lt hs.2 hkn k hk
theorem stD_lt {g:Sg} (hG:GoodG g) {d:Dat} (hd:d∈g.datas):∀k∈stD g.datas d,k<g.datas.length:=by
 intro k hk;unfold stD stC at hk;simp only [List.mem_flatMap] at hk;obtain ⟨c,hc,x,hx,hk⟩:=hk;exact dtS_lt (hG.sel d hd c hc x hx) k hk
theorem edg_lt {g:Sg} (hG:GoodG g) {i k:Nat} (h:EdgS g i k):k<g.datas.length:=by
 obtain ⟨hi,h⟩:=h;exact stD_lt hG (List.getElem_mem hi) k h
theorem zqz {g:Sg} (hG:GoodG g) {i k:Nat} (h:Lean1 g i k):k<g.datas.length:=by
 cases h with
 | one h=>exact edg_lt hG h
 | more _ h=>exact edg_lt hG h
end Go.Proofs.YtccbilfbhecdaaaGreatDoor
namespace Go.Proofs.YtccbilfbhecdaaaGreatDoor
open Go Go.Abs
set_option maxRecDepth 100000
def bV (bl:List Bool):List Value:=bl.map Value.bool
theorem bV_set (bl:List Bool) (i:Nat) (b:Bool):(bV bl).set i (.bool b)=bV (bl.set i b):=by
 unfold bV; rw [List.map_set]
def freeN (bl:List Bool):Nat:=bl.countP fun b=>!b
theorem zd0 {bl:List Bool} {i:Nat} (hi:i<bl.length) (hb:bl[i]=false):freeN (bl.set i true)+1=freeN bl:=by
 unfold freeN;rw [List.countP_set (h:=hi)];have hpos:0<bl.countP fun b=>!b:=List.countP_pos_iff.2 ⟨bl[i],List.getElem_mem hi,by simp [hb]⟩;simp [hb];omega
section
variable {m:Nat} {H0 H:AH} {s1 s2 s3:Sl3} {g:Sg} {p:Addr} {L0 fuel:Nat} {s:Sl3} {l:List Nat}
structure Work (g:Sg) (i:Nat) (bl:List Bool) (ql:List Nat):Prop where
 len:bl.length=g.datas.length
 sound:∀k (h:k<bl.length),bl[k]=true→Lean1 g i k
 wait:∀k∈ql,Lean1 g i k
 first:∀k,EdgS g i k→(∃h:k<bl.length,bl[k]=true)∨k∈ql
 next:∀j k,(∃h:j<bl.length,bl[j]=true)→EdgS g j k→(∃h:k<bl.length,bl[k]=true)∨k∈ql
theorem Work.done {i:Nat} {bl:List Bool} (h:Work g i bl []):∀k (hk:k<bl.length),bl[k]=true↔Lean1 g i k:=by
 have key:∀k,Lean1 g i k→∃h:k<bl.length,bl[k]=true:=by
  intro k hk;induction hk with
  | one h1=>exact (h.first _ h1).resolve_right (by simp)
  | more h1 h2 ih=>exact (h.next _ _ ih h2).resolve_right (by simp)
 exact fun k hk=>⟨h.sound k hk,fun hl=>(key k hl).2⟩
theorem z9 {bl:List Bool} {x k:Nat}:(∃h:k<(bl.set x true).length,(bl.set x true)[k]=true)↔(∃h:k<bl.length,bl[k]=true)∨(k=x∧x<bl.length):=by
 constructor
 ·rintro ⟨h,hb⟩
  have hk:k<bl.length:=by simpa using h
  rw [List.getElem_set] at hb;split at hb
  ·rename_i e; exact .inr ⟨e.symm,by omega⟩
  ·exact .inl ⟨hk,hb⟩
 ·rintro (⟨h,hb⟩ | ⟨rfl,hx⟩)
  ·refine ⟨by simpa using h,?_⟩;rw [List.getElem_set];split
   ·rfl
   ·exact hb
  ·exact ⟨by simpa using hx,by simp⟩
theorem Work.pop {i x:Nat} {bl:List Bool} {t:List Nat} (h:Work g i bl (x :: t)) (hx:∃h:x<bl.length,bl[x]=true):Work g i bl t:=by
 refine ⟨h.len,h.sound,fun k hk=>h.wait k (by simp [hk]),fun k hk=>?_,fun j k hj hk=>?_⟩
 ·rcases h.first k hk with h1 | h1
  ·exact .inl h1
  ·rcases List.mem_cons.1 h1 with rfl | h1
   ·exact .inl hx
   ·exact .inr h1
 ·rcases h.next j k hj hk with h1 | h1
  ·exact .inl h1
  ·rcases List.mem_cons.1 h1 with rfl | h1
   ·exact .inl hx
   ·exact .inr h1
theorem Work.mark {i x:Nat} {bl:List Bool} {t:List Nat} (h:Work g i bl (x :: t)) (hx:x<g.datas.length):Work g i (bl.set x true) (t++stD g.datas g.datas[x]):=by
 have hlx:Lean1 g i x:=h.wait x (by simp);have hxl:x<bl.length:=by rw [h.len]; exact hx
 refine ⟨by simp [h.len],fun k hk hb=>?_,fun k hk=>?_,fun k hk=>?_,fun j k hj hk=>?_⟩
 ·rcases z9.1 ⟨hk,hb⟩ with ⟨h1,h2⟩ | ⟨rfl,_⟩
  ·exact h.sound k h1 h2
  ·exact hlx
 ·rcases List.mem_append.1 hk with hk | hk
  ·exact h.wait k (by simp [hk])
  ·exact .more hlx ⟨hx,hk⟩
 ·rcases h.first k hk with h1 | h1
  ·exact .inl (z9.2 (.inl h1))
  ·rcases List.mem_cons.1 h1 with rfl | h1
   ·exact .inl (z9.2 (.inr ⟨rfl,hxl⟩))
   ·exact .inr (List.mem_append.2 (.inl h1))
 ·rcases z9.1 hj with h1 | ⟨rfl,_⟩
  ·rcases h.next j k h1 hk with h2 | h2
   ·exact .inl (z9.2 (.inl h2))
   ·rcases List.mem_cons.1 h2 with rfl | h2
    ·exact .inl (z9.2 (.inr ⟨rfl,hxl⟩))
    ·exact .inr (List.mem_append.2 (.inl h2))
  ·obtain ⟨_,hk⟩:=hk;exact .inr (List.mem_append.2 (.inr hk))
theorem zp4 (hF:L0=fuel+1) (hfu:15≤fuel) (hG:GoodG g) (hS:SigA H0 s1 s2 s3 g) (hB:Book H0 p s1 s2 s3 g) (hm:m≤H0.next) {id3 idr n:Nat} {x2:Sl3} {rows:List Value} {i:Nat} (hn:n=g.datas.length) (hi:i<n)
  (hrow:rows[i]? = some (Sl3.v ⟨some ⟨idr,0,none⟩,n,n⟩)) (hne:id3≠idr) (h3:H0.next≤id3) (hr:H0.next≤idr):∀(u q:Nat) (bl:List Bool) (ql:List Nat) (H:AH) (v:Sl3),freeN bl=u→ql.length=q→Work g i bl ql→Ext H0 H →
   ArrV 70 m H id3 rows→ArrV 4 m H idr (bV bl)→VecA natE 3 m H ql v→(∀id,owns v id→H0.next≤id∧id≠id3∧id≠idr)→ql.length+u*1048576≤5000000000 →
   ∃H' v' bl',loopO (V2 (LCo L0) m p x2 ⟨some ⟨id3,0,none⟩,n,n⟩ (i:Int)) (H,v)=some (.inl (H',v'))∧Work g i bl' []∧ArrV 70 m H' id3 rows∧ArrV 4 m H' idr (bV bl')∧Ext H0 H'∧Fm (fun id=>id=idr∨owns v id) H H':=by
 intro u;induction u using Nat.strongRecOn with
 | ind u ihu =>
  intro q;induction q with
  | zero =>
   intro bl ql H v hu hq hW hx ha3 har hv ho hN;obtain rfl:ql=[]:=List.length_eq_zero_iff.1 hq;refine ⟨H,v,bl,Y1 ?_,hW,ha3,har,hx,Fm.refl _ _⟩;unfold V2;have:v.n=0:=hv.n;simp only [this];rw [if_neg (by omega)]
  | succ q ihq =>
   intro bl ql H v hu hq hW hx ha3 har hv ho hN;cases ql with
   | nil=>simp at hq
   | cons x t =>
    have hxn:x<g.datas.length:=zqz hG (hW.wait x (by simp));have hxb:x<bl.length:=by rw [hW.len]; exact hxn
    have hvn:v.n=t.length+1:=hv.n;have hsl:=nat_sl hv (by omega);obtain ⟨qa,k1,k2⟩:=hsl.get (i:=0) (by simp) (v:=(0:Int)) rfl;have r0:rd (deI .i64) H qa=some (x:Int):=by rw [Cel.rd k2]; rfl
    obtain ⟨v1,t1,t2,t3⟩:=hv.tail rfl (by unfold OPEN; simp at hN; omega);have r1:rd deSl H ((⟨id3,0,none⟩:Addr).add (i*1))=some ⟨some ⟨idr,0,none⟩,n,n⟩:=by rw [(ha3.cel hrow).rd]; rfl
    have hbx:(bV bl)[x]? = some (.bool bl[x]):=by simp [bV,hxb]
    have r2:rd deB H ((⟨idr,0,none⟩:Addr).add (x*1))=some bl[x]:=by rw [(har.cel hbx).rd]; rfl
    have i3:idxA 1 (⟨some ⟨id3,0,none⟩,n,n⟩:Sl3) (i:Int)=some ((⟨id3,0,none⟩:Addr).add (i*1)):=X3 hi rfl;have ir:idxA 1 (⟨some ⟨idr,0,none⟩,n,n⟩:Sl3) (x:Int)=some ((⟨idr,0,none⟩:Addr).add (x*1)):=X3 (by omega) rfl;have o1:∀id,owns v1 id→H0.next≤id∧id≠id3∧id≠idr:=fun id hid=>ho id (t3 id hid);simp only [List.length_cons] at hq hN;cases hb:bl[x] with
    | true =>
     obtain ⟨H',v',bl',w1,w2,w3,w4,w5,w6⟩:=ihq bl t H v1 hu (by omega) (hW.pop ⟨hxb,hb⟩) hx ha3 har t2 o1 (by omega);refine ⟨H',v',bl',?_,w2,w3,w4,w5,w6.weak fun id _ h=>?_⟩
     ·have hbody:V2 (LCo L0) m p x2 ⟨some ⟨id3,0,none⟩,n,n⟩ (i:Int) (H,v)=some (.next (H,v1)):=by
       unfold V2;rw [hb] at r2;simp only [if_pos (show (v.n:Int) > 0 by omega),k1,Option.bind_some,r0,t1,i3,r1,ir,r2,if_true]
      rw [W1 hbody];exact w1
     ·rcases h with h | h
      ·exact .inl h
      ·exact .inr (t3 id h)
    | false =>
     obtain ⟨H25,c1,c2,c3,c4⟩:=har.set (i:=x) (by simp [bV]; exact hxb) (.bool true);rw [bV_set] at c2;have xx:Ext H0 H25:=hx.comp c3 fun id hid _ h=>by omega
     have a3':ArrV 70 m H25 id3 rows:=ha3.fr c3 hne;have v1':VecA natE 3 m H25 t v1:=VecV.fr t2 c3 fun id hid h=>(o1 id hid).2.2 h;have hmH:m≤H25.next:=Nat.le_trans hm xx.1;obtain ⟨s',H27,d1,d2,d3,d4⟩:=zb4 hF hfu hG (hS.ext xx) (hB.ext xx) hmH hxn;have hst:=zhm hG (List.getElem_mem hxn);obtain ⟨v2,H29,e1,e2,e3⟩:=VecA.app (E:=natE) (e:=3) (bytes:=8) (l':=stD g.datas g.datas[x]) (VecV.ext v1' d3) (zhc (nat_sl d2 (by omega))) (room8 (by omega)).1 (room8 (by omega)).2 (Nat.le_trans hmH d3.1);have f29:Fm (fun id=>id=idr∨owns v id) H H29:=by
      refine (c3.weak (W':=fun id=>id=idr∨owns v id) fun id _ h=>.inl h).comp ((d3.weak (W':=owns v1) fun _ _ h=>h.elim).comp e3.fm fun id _ hn=>hn) fun id hid hn h=>?_;exact hn (.inr (t3 id h))
     have own2:∀id,owns v2 id→owns v1 id∨H27.next≤id:=e3.ow;have lt3:=ha3.low;have ltr:=har.low;have hge:H.next≤H27.next:=by rw [← c4]; exact d3.1
     have o2:∀id,owns v2 id→H0.next≤id∧id≠id3∧id≠idr:=fun id hid=>by
      rcases own2 id hid with h | h
      ·exact o1 id h
      ·have:=hx.1; omega
     have a329:ArrV 70 m H29 id3 rows:=(a3'.ext d3).fr e3.fm fun h=>(o1 id3 h).2.1 rfl;have ar29:ArrV 4 m H29 idr (bV (bl.set x true)):=(c2.ext d3).fr e3.fm fun h=>(o1 idr h).2.2 rfl;have x29:Ext H0 H29:=(xx.trans d3).comp e3.fm fun id hid _ h=>by have:=(o1 id h).1; omega
     have hfree:=zd0 hxb hb;obtain ⟨H',v',bl',w1,w2,w3,w4,w5,w6⟩:=ihu (freeN (bl.set x true)) (by omega) _ (bl.set x true) (t++stD g.datas g.datas[x]) H29 v2 rfl rfl (hW.mark hxn) x29 a329 ar29 e2 o2 (by
      rw [List.length_append];have:u=freeN (bl.set x true)+1:=by omega
      rw [this,Nat.add_mul] at hN;omega)
     refine ⟨H',v',bl',?_,w2,w3,w4,w5,f29.comp w6 fun id hid hn h=>?_⟩
     ·have hbody:V2 (LCo L0) m p x2 ⟨some ⟨id3,0,none⟩,n,n⟩ (i:Int) (H,v)=some (.next (H29,v2)):=by
       unfold V2;rw [hb] at r2;have e1':appS m 3 1 8 H27 v1 s'=some (v2,H29):=e1;simp only [if_pos (show (v.n:Int) > 0 by omega),k1,Option.bind_some,r0,t1,i3,r1,ir,r2,Bool.false_eq_true,if_false,c1,d1,e1']
      rw [W1 hbody];exact w1
     ·rcases h with h | h
      ·exact hn (.inl h)
      ·rcases own2 id h with h | h
       ·exact hn (.inr (t3 id h))
       ·omega
end
end Go.Proofs.YtccbilfbhecdaaaGreatDoor
