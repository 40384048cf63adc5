/- Parts of the proof: an abstract interpreter of the loaded program and its soundness, printed functions, the law's own texts; part 3. No condition. -/
import Derived.Test.YtccbilfbhecdaaaGreatDoorCv2
namespace Go.Proofs.YtccbilfbhecdaaaGreatDoor
open Go Go.Abs
open Go.Value renaming int → vI, string → vS, pointer → vP, agg → vA, bool → vB
set_option maxRecDepth 100000
def z2y:(ByteArray×AH)→Value
 | (r0,_)=>(vS r0)
def z3g (_:AH):(ByteArray×AH)→AH:=fun r=>r.2
noncomputable def B50:Code:=(Tryz.f50.body).getD .skip
noncomputable def z26 (L:LC) (m:Nat) (H:AH) (a0_0 a0_1:Int) (_a0_2:ByteArray) (_a0_3:Sl3):Option (ByteArray×AH) :=
 if a0_0=1 then
  none
 else
  if a0_0=2 then
   none
  else
   if a0_0=3 then
    (z6p L m H a0_1).bind fun (x1,H2) => (strcat (⟨#[40,95,32,66,105,116,86,101,99,32]⟩:ByteArray) x1).bind fun s3 => (strcat s3 (⟨#[41]⟩:ByteArray)).bind fun s4 => some (s4,H2)
   else
    none
noncomputable def z7k (L:LC) (n:Nat):(Nat→AH→Int→Int→ByteArray→Sl3→Option (ByteArray×AH)):=Nat.rec (motive:=fun _=>(Nat→AH→Int→Int→ByteArray→Sl3→Option (ByteArray×AH))) (fun _ _ _ _ _ _=>none) (fun _ _=>z26 L) n
noncomputable def zcm (L:LC) (m:Nat) (H:AH) (a0_0 a0_1:Int) (a0_2:ByteArray) (a0_3:Sl3):Option (ByteArray×AH):=(z7k L L.fuel) m H a0_0 a0_1 a0_2 a0_3
theorem zaz {L:LC} {m:Nat} {H:AH} {a0_0 a0_1:Int} {a0_2:ByteArray} {a0_3:Sl3} {r:(ByteArray×AH)} (h:z26 L m H a0_0 a0_1 a0_2 a0_3=some r) :
  CallS Tryz.prog (NE.plain 1000) m 50 #[(vA #[(vI .i64 a0_0),(vI .i64 a0_1),(vS a0_2),(Sl3.v a0_3)])] H (z2y r) (z3g H r):=by
 refine CallS.mk (args:=[(vA #[(vI .i64 a0_0),(vI .i64 a0_1),(vS a0_2),(Sl3.v a0_3)])]) Tryz.func50 (B:=B50) (by kernel_rfl) (fun E _=>?_);unfold z26 at h;refine A0 (C0 (Q0 2 [kT 2 (⟨#[]⟩:ByteArray),kL 1 0 0] ([some (25,[(vI .i64 a0_0),(vI .i64 a0_1),(vS a0_2),(Sl3.v a0_3)])]) (B0 (o0 (A0 (A0 (C0 (m0 2 [kI 4 a0_0,kL 3 0 0] (B0 ?_)))))))));refine o0 (J0 0 (A0 (C0 (m0 2 [kB 5 (decide (a0_0=1)),kB 6 (decide (a0_0=1))] (B0 (o0 ?_))))));rcases Q1 h with ⟨hp,h⟩ | ⟨hp,h⟩
 ·refine D0 5 true (decide_eq_true hp) (E0 ?_);cases h
 ·refine D0 5 false (decide_eq_false hp) (F0 (A0 (C0 (m0 2 [kB 7 (decide (a0_0=2)),kB 8 (decide (a0_0=2))] (B0 (o0 ?_))))));rcases Q1 h with ⟨hp,h⟩ | ⟨hp,h⟩
  ·refine D0 7 true (decide_eq_true hp) (E0 ?_);cases h
  ·refine D0 7 false (decide_eq_false hp) (F0 (A0 (C0 (m0 2 [kB 9 (decide (a0_0=3)),kB 10 (decide (a0_0=3))] (B0 (o0 ?_))))));rcases Q1 h with ⟨hp,h⟩ | ⟨hp,h⟩
   ·refine D0 9 true (decide_eq_true hp) (E0 (A0 (C0 (m0 2 [kI 12 a0_1,kL 11 0 1] ?_))));obtain ⟨⟨x1,H2⟩,hx,h⟩:=bind_some h;try dsimp only at h
    refine N0 (some 13) (v:=(vS x1)) 72 _ (zg9 hx) ?_;obtain ⟨s3,hx,h⟩:=bind_some h;refine P0 (H':=H2) (some 14) (vS s3) (Abs.run_strcat (t:=9) (u:=9) (x:=.const (vS (⟨#[40,95,32,66,105,116,86,101,99,32]⟩:ByteArray))) (y:=.tmp 13) (a:=(⟨#[40,95,32,66,105,116,86,101,99,32]⟩:ByteArray)) (b:=x1) (by kernel_rfl) (by kernel_rfl) (by kernel_rfl) hx) ?_;obtain ⟨s4,hx,h⟩:=bind_some h;refine P0 (H':=H2) (some 15) (vS s4) (Abs.run_strcat (t:=9) (u:=9) (x:=.tmp 14) (y:=.const (vS (⟨#[41]⟩:ByteArray))) (a:=s3) (b:=(⟨#[41]⟩:ByteArray)) (by kernel_rfl) (by kernel_rfl) (by kernel_rfl) hx) (m0 1 [kT 2 s4] (B0 (o0 (I0 ?_))));cases h;exact fun a w hs=>bkR (sqR (rtR (rS hs)))
   ·refine D0 9 false (decide_eq_false hp) (F0 ?_);cases h
theorem zbz {L:LC}:∀n,(∀(m:Nat) (H:AH) (a0_0 a0_1:Int) (a0_2:ByteArray) (a0_3:Sl3) (r:(ByteArray×AH)),((z7k L n)) m H a0_0 a0_1 a0_2 a0_3=some r→CallS Tryz.prog (NE.plain 1000) m 50 #[(vA #[(vI .i64 a0_0),(vI .i64 a0_1),(vS a0_2),(Sl3.v a0_3)])] H (z2y r) (z3g H r)):=by
 intro n;induction n with
 | zero=>exact (fun _ _ _ _ _ _ _ h=>(Option.some_ne_none _ h.symm).elim)
 | succ n ih=>exact (fun _ _ _ _ _ _ _ h=>zaz (L:=L)  h)
theorem zfr {L:LC} {m:Nat} {H:AH} {a0_0 a0_1:Int} {a0_2:ByteArray} {a0_3:Sl3} {r:(ByteArray×AH)} (h:zcm L m H a0_0 a0_1 a0_2 a0_3=some r) :
  CallS Tryz.prog (NE.plain 1000) m 50 #[(vA #[(vI .i64 a0_0),(vI .i64 a0_1),(vS a0_2),(Sl3.v a0_3)])] H (z2y r) (z3g H r) :=
 (zbz _) _ _ _ _ _ _ _ h
def zin:(ByteArray×Int×AH)→Value
 | (r0,r1,_)=>(Value.tuple #[(vS r0),(vI .i64 r1)])
def zjn (_:AH):(ByteArray×Int×AH)→AH:=fun r=>r.2.2
noncomputable def B21:Code:=(Tryz.f21.body).getD .skip
noncomputable def zcc (L:LC) (m:Nat) (H:AH) (a0_0 a0_1:Int) (a0_2:ByteArray) (a0_3:Sl3):Option (ByteArray×Int×AH) :=
 (z1v L H a0_0 a0_1 a0_2 a0_3).bind fun x1 => if x1=0 then
  (zcm L m H a0_0 a0_1 a0_2 a0_3).bind fun (x2,H3) => some (x2,0,H3)
 else
  none
theorem zje {L:LC} {m:Nat} {H:AH} {a0_0 a0_1:Int} {a0_2:ByteArray} {a0_3:Sl3} {r:(ByteArray×Int×AH)} (h:zcc L m H a0_0 a0_1 a0_2 a0_3=some r) :
  CallS Tryz.prog (NE.plain 1000) m 21 #[(vA #[(vI .i64 a0_0),(vI .i64 a0_1),(vS a0_2),(Sl3.v a0_3)])] H (zin r) (zjn H r):=by
 refine CallS.mk (args:=[(vA #[(vI .i64 a0_0),(vI .i64 a0_1),(vS a0_2),(Sl3.v a0_3)])]) Tryz.func21 (B:=B21) (by kernel_rfl) (fun E _=>?_);unfold zcc at h;refine A0 (C0 (Q0 3 [kI 3 0,kT 2 (⟨#[]⟩:ByteArray),kL 1 0 0] ([some (25,[(vI .i64 a0_0),(vI .i64 a0_1),(vS a0_2),(Sl3.v a0_3)])]) (B0 (o0 (A0 (A0 (C0 (m0 1 [kA 5 #[(vI .i64 a0_0),(vI .i64 a0_1),(vS a0_2),(Sl3.v a0_3)]] ?_))))))));obtain ⟨x1,hx,h⟩:=bind_some h;refine N0 (some 6) (v:=(vI .i64 x1)) 49 _ (zb8 hx) (m0 1 [kI 4 x1] (B0 (o0 (A0 (C0 (m0 2 [kB 8 (!decide (x1=0)),kI 7 x1] (B0 (o0 ?_))))))));rcases Q1 h with ⟨hp,h⟩ | ⟨hp,h⟩
 ·refine D0 8 false (e9 hp) (F0 (G0 (o0 (A0 (C0 (m0 1 [kA 10 #[(vI .i64 a0_0),(vI .i64 a0_1),(vS a0_2),(Sl3.v a0_3)]] ?_))))));obtain ⟨⟨x2,H3⟩,hx,h⟩:=bind_some h;try dsimp only at h
  refine N0 (some 11) (v:=(vS x2)) 50 _ (zfr hx) (m0 2 [kI 3 0,kT 2 x2] (B0 (o0 (I0 ?_))));cases h;exact fun a w hs=>rtR (rS hs)
 ·refine D0 8 true (N7 hp) (E0 ?_);cases h
def z58:((Option Addr)×AH)→Value
 | (r0,_)=>(vP r0)
def z6v (_:AH):((Option Addr)×AH)→AH:=fun r=>r.2
noncomputable def B27:Code:=(Tryz.f27.body).getD .skip
noncomputable def Y7 (_L:LC) (m:Nat) (a0_0 _a0_1 _a0_2:Sl3) (p3:Addr):(AH×Int)→Option (Lp (AH×Int) ((Option Addr)×AH)):=fun (H5,v17_6) =>
 if v17_6<(a0_0.n:Int) then
  (idxA 1 a0_0 v17_6).bind fun p7 => (rd deS H5 p7).bind fun x8 => (rd deM H5 (Addr.add p3 3)).bind fun x9 => (upM Tryz.prog m 78 H5 x9 (vA #[(vI .i64 5),(vS x8)]) (vI .i64 0)).bind fun H10 => some (.next (H10,(IntKind.i64.wrap (v17_6+1))))
 else
  some (.brk (H5,v17_6))
def zg2 (_L:LC) (_m:Nat) (a0_0 a0_1 a0_2:Sl3) (p3:Addr):(AH×Int)→KN×Lcs:=fun (_,v17_6)=>([kI 17 v17_6,kL 1 0 0,kP 3 p3,kS 15 a0_0,kI 16 (a0_0.n:Int)],[some (30,[(Sl3.v a0_0),(Sl3.v a0_1),(Sl3.v a0_2)])])
noncomputable def U6 (_L:LC) (m:Nat) (_a0_0 a0_1 _a0_2:Sl3) (p3:Addr):(AH×Int)→Option (Lp (AH×Int) ((Option Addr)×AH)):=fun (H13,v31_14) =>
 if v31_14<(a0_1.n:Int) then
  Option.bind (α:=AH) (
   (idxA 2 a0_1 v31_14).bind fun p16 => (rd deS H13 (Addr.add p16 0)).bind fun x17_0 => (rd deSl H13 (Addr.add p16 1)).bind fun _ => (rd deM H13 (Addr.add p3 3)).bind fun x18 => (lkM Tryz.prog 78 (deI .i64) H13 x18 (vA #[(vI .i64 6),(vS x17_0)])).bind fun (_,b20) => if b20=true then
    some H13
   else
    (rd deM H13 (Addr.add p3 3)).bind fun x21 => (upM Tryz.prog m 78 H13 x21 (vA #[(vI .i64 6),(vS x17_0)]) (vI .i64 v31_14)).bind fun H22 => some H22) fun H15 =>
  some (.next (H15,(IntKind.i64.wrap (v31_14+1))))
 else
  some (.brk (H13,v31_14))
def zgl (_L:LC) (_m:Nat) (a0_0 a0_1 a0_2:Sl3) (p3:Addr):(AH×Int)→KN×Lcs:=fun (_,v31_14)=>([kI 31 v31_14,kP 3 p3,kS 29 a0_1,kI 30 (a0_1.n:Int)],[some (30,[(Sl3.v a0_0),(Sl3.v a0_1),(Sl3.v a0_2)])])
noncomputable def z1e (L:LC) (m:Nat) (H:AH) (a0_0 a0_1 a0_2:Sl3):Option ((Option Addr)×AH) :=
 (newM H).bind fun (p1,H2) => (newB 80 [(Sl3.v a0_0),(Sl3.v a0_1),(Sl3.v a0_2),(Value.map (some p1))] H2).bind fun (p3,H4) => (L.run (Y7 L m a0_0 a0_1 a0_2 p3) (H4,0)).bind fun o=>match o with
 | .inl (H11,_) =>
  (L.run (U6 L m a0_0 a0_1 a0_2 p3) (H11,0)).bind fun o=>match o with
  | .inl (H23,_) =>
   some ((some p3),H23)
  | .inr r=>some r
 | .inr r=>some r
theorem z7z {E H L m a0_0 a0_1 a0_2 p3} :LoopF Tryz.prog (NE.plain 1000) m E Tryz.f27 ((cfst (csnd (cfst (csnd (csnd B27)))))) (zg2 L m a0_0 a0_1 a0_2 p3) (fun s=>s.1) 0 z58 (z6v H) (Y7 L m a0_0 a0_1 a0_2 p3):=by
 rintro ⟨H5,v17_6⟩ o h
 unfold Y7 at h;try dsimp only at h
 refine A0 (C0 (m0 1 [kB 18 (decide (v17_6<(a0_0.n:Int)))] (B0 (o0 (A0 ?_)))));rcases Q1 h with ⟨hp,h⟩ | ⟨hp,h⟩
 ·refine D0 18 true (decide_eq_true hp) (E0 (G0 (o0 (A0 (J0 1 (A0 (C0 ?_)))))));obtain ⟨p7,hx,h⟩:=bind_some h;refine O0 19 26 9 (.tmp 15) (.tmp 17) hx ?_;obtain ⟨x8,hx,h⟩:=bind_some h;refine T0 20 9 (.tmp 19) (O1 hx T1) (m0 1 [kT 5 x8] (B0 (o0 (C0 (m0 3 [(23,.val (vP (some (Addr.add p3 3)))),kP 22 p3,kP 21 p3] ?_)))));obtain ⟨x9,hx,h⟩:=bind_some h;refine T0 24 78 (.tmp 23) (O1 hx O7) (m0 2 [kA 26 #[(vI .i64 5),(vS x8)],kT 25 x8] ?_);obtain ⟨H10,hx,h⟩:=bind_some h;refine P0 (H':=H10) none undef (Abs.run_upM (t:=78) (x:=.tmp 24) (y:=.tmp 26) (z:=.const (vI .i64 0)) (mm:=x9) (k:=(vA #[(vI .i64 5),(vS x8)])) (v:=(vI .i64 0)) (by kernel_rfl) (by kernel_rfl) (by kernel_rfl) (by kernel_rfl) (by kernel_rfl) hx) (B0 ?_);refine fun a w hs=>bkN ((o0 ?_ a w hs));refine C0 (m0 2 [kI 17 (IntKind.i64.wrap (v17_6+1)),kI 27 (IntKind.i64.wrap (v17_6+1))] (B0 ?_));cases h;exact fun a w hs=>lsN rfl (hs.sb 1)
 ·refine D0 18 false (decide_eq_false hp) (F0 (WS.ex 0 ?_));cases h;exact fun a w hs=>sqE (lsB rfl (hs.sb 1))
theorem z88 {E H L m a0_0 a0_1 a0_2 p3} :LoopF Tryz.prog (NE.plain 1000) m E Tryz.f27 ((cfst (csnd (cfst (csnd (csnd (csnd B27))))))) (zgl L m a0_0 a0_1 a0_2 p3) (fun s=>s.1) 2 z58 (z6v H) (U6 L m a0_0 a0_1 a0_2 p3):=by
 rintro ⟨H13,v31_14⟩ o h
 unfold U6 at h;try dsimp only at h
 refine A0 (C0 (m0 1 [kB 32 (decide (v31_14<(a0_1.n:Int)))] (B0 (o0 (A0 ?_)))));rcases Q1 h with ⟨hp,h⟩ | ⟨hp,h⟩
 ·refine D0 32 true (decide_eq_true hp) (E0 (G0 (o0 ?_)));obtain ⟨H15,hx,h⟩:=bind_some h;refine A0 ?_;refine A1 ([kP 3 p3,kS 29 a0_1,kI 30 (a0_1.n:Int),kI 31 v31_14]) ([some (30,[(Sl3.v a0_0),(Sl3.v a0_1),(Sl3.v a0_2)])]) H15 ?_ (fun a w hs=>o0 ?_ a w hs)
  ·clear h; rename _=>h;refine J0 3 (A0 (C0 (m0 1 [kI 33 v31_14] ?_)));obtain ⟨p16,hx,h⟩:=bind_some h;refine O0 34 27 93 (.tmp 29) (.tmp 31) hx ?_;obtain ⟨x17_0,hx0,h⟩:=bind_some h;obtain ⟨x17_1,hx1,h⟩:=bind_some h;refine RS.la 35 93 (.tmp 34) 2 (P1 (O1 hx0 T1) (P1 (O1 hx1 R1) U1)) (Q0 3 [kI 6 v31_14,kL 7 1 0] ([some (30,[(Sl3.v a0_0),(Sl3.v a0_1),(Sl3.v a0_2)]),some (93,[(vS x17_0),(Sl3.v x17_1)])]) (B0 (o0 (A0 ?_))));refine D1 [0,1,2,3,4,5,6,7] [0,1,3,7,0,16,48,127,255,511,511,1023,4095] 13 (fun hcl=>?_);refine U0 0 (some 37) (vP (some p3)) (U0 1 (some 38) (vP (some p3)) (U0 2 (some 39) (vP (some (Addr.add p3 3))) ?_));obtain ⟨x18,hx,h⟩:=bind_some h;refine Z0 3 (some 40) (Value.map x18) (Abs.det_load (t:=78) (x:=.tmp 39) (a:=(Addr.add p3 3)) (by kernel_rfl) (by kernel_rfl) (by kernel_rfl) (by kernel_rfl) (O1 hx O7)) (V0 4 (some 41) (.loc 1 0) (V0 5 (some 42) (.val (vS x17_0)) (U0 6 (some 43) (vA #[(vI .i64 6),(vS x17_0)]) ?_)));obtain ⟨⟨x19,b20⟩,hx,h⟩:=bind_some h;try dsimp only at h
   refine Z0 7 (some 44) (Value.tuple #[(vI .i64 x19),(vB b20)]) (Abs.det_look (t:=78) (x:=.tmp 40) (y:=.tmp 43) (mm:=x18) (k:=(vA #[(vI .i64 6),(vS x17_0)])) (by kernel_rfl) (by kernel_rfl) (by kernel_rfl) (by kernel_rfl) (lkM_eq hx S1)) (M0 8 (some 36) (Value.tuple #[(vI .i64 x19),(vB b20)]) (M0 9 (some 45) (vI .i64 x19) (M0 10 (some 46) (vB b20) (M0 11 (some 8) (vI .i64 x19) (M0 12 (some 9) (vB b20) (W0 (o0 (A0 (C0 ?_)))))))));refine m0 2 [kB 48 (!b20),kB 47 b20] (B0 (o0 ?_));rcases Q1 h with ⟨hp,h⟩ | ⟨hp,h⟩
   ·refine D0 48 false (nb_not hp) (F0 (G0 ?_));cases h;exact fun a w hs=>bkN ((jsN (hs.sb 1)))
   ·refine D0 48 true (W2 hp) (E0 ?_);refine D1 [0,1,2,3,4,5] [0,1,3,7,0,16,48,0,255] 9 (fun hcl=>?_);refine U0 0 (some 49) (vP (some p3)) (U0 1 (some 50) (vP (some p3)) (U0 2 (some 51) (vP (some (Addr.add p3 3))) ?_));obtain ⟨x21,hx,h⟩:=bind_some h;refine Z0 3 (some 52) (Value.map x21) (Abs.det_load (t:=78) (x:=.tmp 51) (a:=(Addr.add p3 3)) (by kernel_rfl) (by kernel_rfl) (by kernel_rfl) (by kernel_rfl) (O1 hx O7)) (V0 4 (some 53) (.loc 1 0) (V0 5 (some 54) (.val (vS x17_0)) (M0 7 (some 56) (vI .i64 v31_14) (DA.on 6 (DA.aHk (H':=H13) 6 (some 55) false (vA #[(vI .i64 6),(vS x17_0)]) (by kernel_rfl) ?_)))));obtain ⟨H22,hx,h⟩:=bind_some h;refine DA.on 8 (Y0 (H':=H22) 8 none undef (Abs.run_upM (t:=78) (x:=.tmp 52) (y:=.tmp 55) (z:=.tmp 56) (mm:=x21) (k:=(vA #[(vI .i64 6),(vS x17_0)])) (v:=(vI .i64 v31_14)) (by kernel_rfl) (by kernel_rfl) (by kernel_rfl) (by kernel_rfl) (by kernel_rfl) hx) (W0 ?_));cases h;exact fun a w hs=>bkN ((jsN (hs.sb 1)))
  ·clear hx;refine C0 (m0 2 [kI 31 (IntKind.i64.wrap (v31_14+1)),kI 57 (IntKind.i64.wrap (v31_14+1))] (B0 ?_));cases h;exact fun a w hs=>lsN rfl (hs.sb 1)
 ·refine D0 32 false (decide_eq_false hp) (F0 (WS.ex 2 ?_));cases h;exact fun a w hs=>sqE (lsB rfl (hs.sb 1))
theorem z73 {L:LC} {m:Nat} {H:AH} {a0_0 a0_1 a0_2:Sl3} {r:((Option Addr)×AH)} (h:z1e L m H a0_0 a0_1 a0_2=some r) :
  CallS Tryz.prog (NE.plain 1000) m 27 #[(vA #[(Sl3.v a0_0),(Sl3.v a0_1),(Sl3.v a0_2)])] H (z58 r) (z6v H r):=by
 refine CallS.mk (args:=[(vA #[(Sl3.v a0_0),(Sl3.v a0_1),(Sl3.v a0_2)])]) Tryz.func27 (B:=B27) (by kernel_rfl) (fun E _=>?_);unfold z1e at h;refine A0 (C0 (Q0 2 [(2,.val (vP none)),kL 1 0 0] ([some (30,[(Sl3.v a0_0),(Sl3.v a0_1),(Sl3.v a0_2)])]) (B0 (o0 (A0 (C0 (m0 1 [kA 10 #[(Sl3.v a0_0),(Sl3.v a0_1),(Sl3.v a0_2)]] ?_)))))));obtain ⟨⟨p1,H2⟩,hx,h⟩:=bind_some h;try dsimp only at h
 refine P0 (H':=H2) (some 11) (Value.map (some p1)) (Abs.run_newM (by kernel_rfl) hx) (m0 1 [kA 12 #[(Sl3.v a0_0),(Sl3.v a0_1),(Sl3.v a0_2),(Value.map (some p1))]] ?_);obtain ⟨⟨p3,H4⟩,hx,h⟩:=bind_some h;try dsimp only at h
 refine P0 (H':=H4) (some 13) (vP (some p3)) (Abs.run_newB (by kernel_rfl) hx) (m0 1 [kP 3 p3] (B0 (o0 (A0 (A0 (C0 (m0 4 [kI 17 0,kI 16 (a0_0.n:Int),kS 15 a0_0,kL 14 0 0] (B0 (o0 ?_)))))))));refine J0 0 ?_;obtain ⟨o,hl,h⟩:=bind_some h;rcases o with ⟨H11,v17_12⟩ | r
 ·try dsimp only at h
  refine S0 (z7z (L:=L) (E:=E) (m:=m) (H:=H)) (L.ok hl) 1 ?_;clear hl;refine fun a w hs=>bkE ((o0 ?_ a w hs));refine A0 (A0 (C0 (m0 4 [kI 31 0,kI 30 (a0_1.n:Int),kS 29 a0_1,kL 28 0 1] (B0 (o0 (J0 2 ?_))))));obtain ⟨o,hl,h⟩:=bind_some h;rcases o with ⟨H23,v31_24⟩ | r
  ·try dsimp only at h
   refine S0 (z88 (L:=L) (E:=E) (m:=m) (H:=H)) (L.ok hl) 1 ?_;clear hl;refine fun a w hs=>bkE ((o0 ?_ a w hs));refine A0 (C0 (m0 2 [kP 2 p3,kP 58 p3] (B0 (o0 (I0 ?_)))));cases h;exact fun a w hs=>rtR (rS hs)
  ·try dsimp only at h
   refine R0 (z88 (L:=L) (E:=E) (m:=m) (H:=H)) (L.ok hl) 1 ?_;cases h;exact fun a w hq=>bkR (sqR (rtR hq))
 ·try dsimp only at h
  refine R0 (z7z (L:=L) (E:=E) (m:=m) (H:=H)) (L.ok hl) 1 ?_;cases h;exact fun a w hq=>bkR (sqR (rtR hq))
def V5:Bool→Value
 | r0=>(vB r0)
def G6 (H:AH):Bool→AH:=fun _=>H
noncomputable def B58:Code:=(Tryz.f58.body).getD .skip
noncomputable def K6 (_L:LC) (rec_sort_book_known:AH→(Option Addr)→Int→Int→ByteArray→Sl3→Option Bool) (H:AH) (a0:Option Addr) (_a1_0 _a1_1:Int) (_a1_2:ByteArray) (a1_3:Sl3):Int→Option (Lp Int Bool):=fun v34_6 =>
 if v34_6<(a1_3.n:Int) then
  (idxA 4 a1_3 v34_6).bind fun p7 => (rd (deI .i64) H (Addr.add p7 0)).bind fun x8_0 => (rd (deI .i64) H (Addr.add p7 1)).bind fun x8_1 => (rd deS H (Addr.add p7 2)).bind fun x8_2 => (rd deSl H (Addr.add p7 3)).bind fun x8_3 => (rec_sort_book_known H a0 x8_0 x8_1 x8_2 x8_3).bind fun x9 => if x9=true then
   some (.next (IntKind.i64.wrap (v34_6+1)))
  else
   some (.ret false)
 else
  some (.brk v34_6)
def z9b (_L:LC) (_rec_sort_book_known:AH→(Option Addr)→Int→Int→ByteArray→Sl3→Option Bool) (_H:AH) (a0:Option Addr) (a1_0 a1_1:Int) (a1_2:ByteArray) (a1_3:Sl3):Int→KN×Lcs:=fun v34_6=>([kI 34 v34_6,(0,.val (vP a0)),kS 32 a1_3,kI 33 (a1_3.n:Int)],[some (25,[(vI .i64 a1_0),(vI .i64 a1_1),(vS a1_2),(Sl3.v a1_3)])])
noncomputable def j7 (L:LC) (rec_sort_book_known:AH→(Option Addr)→Int→Int→ByteArray→Sl3→Option Bool) (H:AH) (a0:Option Addr) (a1_0 a1_1:Int) (a1_2:ByteArray) (a1_3:Sl3):Option Bool :=
 Option.bind (α:=Bool) (
  if a1_0=5 then
   some true
  else
   some (decide (a1_0=6))) fun v16_1 =>
 if v16_1=true then
  a0.bind fun q2 => (rd deM H (Addr.add q2 3)).bind fun x3 => (lkM Tryz.prog 78 (deI .i64) H x3 (vA #[(vI .i64 a1_0),(vS a1_2)])).bind fun (_,b5) => some b5
 else
  (L.run (K6 L rec_sort_book_known H a0 a1_0 a1_1 a1_2 a1_3) 0).bind fun o=>match o with
  | .inl _ =>
   some true
  | .inr r=>some r
noncomputable def G7 (L:LC) (n:Nat):(AH→(Option Addr)→Int→Int→ByteArray→Sl3→Option Bool):=Nat.rec (motive:=fun _=>(AH→(Option Addr)→Int→Int→ByteArray→Sl3→Option Bool)) (fun _ _ _ _ _ _=>none) (fun _ p=>j7 L p) n
noncomputable def z41 (L:LC) (H:AH) (a0:Option Addr) (a1_0 a1_1:Int) (a1_2:ByteArray) (a1_3:Sl3):Option Bool:=(G7 L L.fuel) H a0 a1_0 a1_1 a1_2 a1_3
theorem z39 {E m L rec_sort_book_known H a0 a1_0 a1_1 a1_2 a1_3} (hrec_sort_book_known:∀(m:Nat) (H:AH) (a0:Option Addr) (a1_0 a1_1:Int) (a1_2:ByteArray) (a1_3:Sl3) (r:Bool),rec_sort_book_known H a0 a1_0 a1_1 a1_2 a1_3=some r→CallS Tryz.prog (NE.plain 1000) m 58 #[(vP a0),(vA #[(vI .i64 a1_0),(vI .i64 a1_1),(vS a1_2),(Sl3.v a1_3)])] H (V5 r) (G6 H r)):LoopF Tryz.prog (NE.plain 1000) m E Tryz.f58 ((cfst (csnd (cfst (csnd (csnd B58)))))) (z9b L rec_sort_book_known H a0 a1_0 a1_1 a1_2 a1_3) (fun _=>H) 0 V5 (G6 H) (K6 L rec_sort_book_known H a0 a1_0 a1_1 a1_2 a1_3):=by
 rintro v34_6 o h
 unfold K6 at h;try dsimp only at h
 refine A0 (C0 (m0 1 [kB 35 (decide (v34_6<(a1_3.n:Int)))] (B0 (o0 (A0 ?_)))));rcases Q1 h with ⟨hp,h⟩ | ⟨hp,h⟩
 ·refine D0 35 true (decide_eq_true hp) (E0 (G0 (o0 (A0 (J0 1 (A0 (C0 ?_)))))));obtain ⟨p7,hx,h⟩:=bind_some h;refine O0 36 23 25 (.tmp 32) (.tmp 34) hx ?_;obtain ⟨x8_0,hx0,h⟩:=bind_some h;obtain ⟨x8_1,hx1,h⟩:=bind_some h;obtain ⟨x8_2,hx2,h⟩:=bind_some h;obtain ⟨x8_3,hx3,h⟩:=bind_some h;refine RS.la 37 25 (.tmp 36) 4 (P1 (O1 hx0 S1) (P1 (O1 hx1 S1) (P1 (O1 hx2 T1) (P1 (O1 hx3 R1) U1)))) (Q0 2 [kL 8 1 0] ([some (25,[(vI .i64 a1_0),(vI .i64 a1_1),(vS a1_2),(Sl3.v a1_3)]),some (25,[(vI .i64 x8_0),(vI .i64 x8_1),(vS x8_2),(Sl3.v x8_3)])]) (B0 (o0 (A0 (C0 (m0 2 [kA 39 #[(vI .i64 x8_0),(vI .i64 x8_1),(vS x8_2),(Sl3.v x8_3)],(38,.val (vP a0))] ?_))))));obtain ⟨x9,hx,h⟩:=bind_some h;refine N0 (some 40) (v:=(vB x9)) 58 _ (hrec_sort_book_known _ _ _ _ _ _ _ _ hx) (m0 1 [kB 41 (!x9)] (B0 (o0 ?_)));rcases Q1 h with ⟨hp,h⟩ | ⟨hp,h⟩
  ·refine D0 41 false (nb_not hp) (F0 (G0 ?_));refine fun a w hs=>bkN ((o0 ?_ a w hs));refine C0 (m0 2 [kI 34 (IntKind.i64.wrap (v34_6+1)),kI 42 (IntKind.i64.wrap (v34_6+1))] (B0 ?_));cases h;exact fun a w hs=>lsN rfl (hs.sb 1)
  ·refine D0 41 true (W2 hp) (E0 (A0 (C0 (m0 1 [kB 4 false] (B0 (o0 (I0 ?_)))))));cases h;exact fun a w hs=>bkR (sqR (lsR rfl (rS hs)))
 ·refine D0 35 false (decide_eq_false hp) (F0 (WS.ex 0 ?_));cases h;exact fun a w hs=>sqE (lsB rfl (hs.sb 1))
theorem z7m {L:LC} {rec_sort_book_known:AH→(Option Addr)→Int→Int→ByteArray→Sl3→Option Bool} (hrec_sort_book_known:∀(m:Nat) (H:AH) (a0:Option Addr) (a1_0 a1_1:Int) (a1_2:ByteArray) (a1_3:Sl3) (r:Bool),rec_sort_book_known H a0 a1_0 a1_1 a1_2 a1_3=some r→CallS Tryz.prog (NE.plain 1000) m 58 #[(vP a0),(vA #[(vI .i64 a1_0),(vI .i64 a1_1),(vS a1_2),(Sl3.v a1_3)])] H (V5 r) (G6 H r)) {m:Nat} {H:AH} {a0:Option Addr} {a1_0 a1_1:Int} {a1_2:ByteArray} {a1_3:Sl3} {r:Bool} (h:j7 L rec_sort_book_known H a0 a1_0 a1_1 a1_2 a1_3=some r) :
  CallS Tryz.prog (NE.plain 1000) m 58 #[(vP a0),(vA #[(vI .i64 a1_0),(vI .i64 a1_1),(vS a1_2),(Sl3.v a1_3)])] H (V5 r) (G6 H r):=by
 refine CallS.mk (args:=[(vP a0),(vA #[(vI .i64 a1_0),(vI .i64 a1_1),(vS a1_2),(Sl3.v a1_3)])]) Tryz.func58 (B:=B58) (by kernel_rfl) (fun E _=>?_);unfold j7 at h;refine A0 (C0 (Q0 2 [kB 4 false,kL 3 0 0] ([some (25,[(vI .i64 a1_0),(vI .i64 a1_1),(vS a1_2),(Sl3.v a1_3)])]) (B0 (o0 (A0 ?_)))));obtain ⟨v16_1,hx,h⟩:=bind_some h;refine A0 ?_;refine A1 ([kB 16 v16_1,(0,.val (vP a0)),kL 3 0 0]) ([some (25,[(vI .i64 a1_0),(vI .i64 a1_1),(vS a1_2),(Sl3.v a1_3)])]) H ?_ (fun a w hs=>o0 ?_ a w hs)
 ·clear h; rename _=>h;refine C0 (m0 4 [kB 12 (decide (a1_0=5)),kB 11 (decide (a1_0=5)),kI 10 a1_0,kL 9 0 0] ?_);rcases Q1 h with ⟨hp,h⟩ | ⟨hp,h⟩
  ·refine K0 12 true (decide_eq_true hp) (m0 4 [kB 16 true,kU 15,kU 14,kU 13] (B0 ?_));cases h;exact fun a w hs=>(jsN (hs.sb 1))
  ·refine K0 12 false (decide_eq_false hp) (m0 4 [kB 16 (decide (a1_0=6)),kB 15 (decide (a1_0=6)),kI 14 a1_0,kL 13 0 0] (B0 ?_));cases h;exact fun a w hs=>(jsN (hs.sb 1))
 ·clear hx;rcases Q1 h with ⟨hp,h⟩ | ⟨hp,h⟩
  ·refine D0 16 true hp (E0 (A0 ?_));refine D1 [0,1,2,3,4,5,6,7,8,9] [0,1,3,7,0,16,0,64,240,511,1023,2047,2047,4095,16383] 15 (fun hcl=>?_);refine U0 0 (some 18) (vP a0) ?_;obtain ⟨q2,hx,hq2⟩:=bind_some h;subst hx;have h:=hq2;refine U0 1 (some 19) (vP (some q2)) (U0 2 (some 20) (vP (some (Addr.add q2 3))) ?_);obtain ⟨x3,hx,h⟩:=bind_some h;refine Z0 3 (some 21) (Value.map x3) (Abs.det_load (t:=78) (x:=.tmp 20) (a:=(Addr.add q2 3)) (by kernel_rfl) (by kernel_rfl) (by kernel_rfl) (by kernel_rfl) (O1 hx O7)) (V0 4 (some 22) (.loc 0 0) (V0 5 (some 23) (.val (vI .i64 a1_0)) (V0 6 (some 24) (.loc 0 2) (V0 7 (some 25) (.val (vS a1_2)) (U0 8 (some 26) (vA #[(vI .i64 a1_0),(vS a1_2)]) ?_)))));obtain ⟨⟨x4,b5⟩,hx,h⟩:=bind_some h;try dsimp only at h
   refine Z0 9 (some 27) (Value.tuple #[(vI .i64 x4),(vB b5)]) (Abs.det_look (t:=78) (x:=.tmp 21) (y:=.tmp 26) (mm:=x3) (k:=(vA #[(vI .i64 a1_0),(vS a1_2)])) (by kernel_rfl) (by kernel_rfl) (by kernel_rfl) (by kernel_rfl) (lkM_eq hx S1)) (M0 10 (some 17) (Value.tuple #[(vI .i64 x4),(vB b5)]) (M0 11 (some 28) (vI .i64 x4) (M0 12 (some 29) (vB b5) (M0 13 (some 5) (vI .i64 x4) (M0 14 (some 6) (vB b5) (W0 (o0 (A0 (C0 ?_)))))))));refine m0 2 [kB 4 b5,kB 30 b5] (B0 (o0 (I0 ?_)));cases h;exact fun a w hs=>sqR (rtR (rS hs))
  ·refine D0 16 false (b_not hp) (F0 (G0 (o0 (A0 (A0 (C0 (m0 4 [kI 34 0,kI 33 (a1_3.n:Int),kS 32 a1_3,kL 31 0 3] (B0 (o0 ?_)))))))));refine J0 0 ?_;obtain ⟨o,hl,h⟩:=bind_some h;rcases o with v34_10 | r
   ·try dsimp only at h
    refine S0 (z39 (L:=L) (E:=E) (m:=m) (H:=H) hrec_sort_book_known) (L.ok hl) 1 ?_;clear hl;refine fun a w hs=>bkE ((o0 ?_ a w hs));refine A0 (C0 (m0 1 [kB 4 true] (B0 (o0 (I0 ?_)))));cases h;exact fun a w hs=>rtR (rS hs)
   ·try dsimp only at h
    refine R0 (z39 (L:=L) (E:=E) (m:=m) (H:=H) hrec_sort_book_known) (L.ok hl) 1 ?_;cases h;exact fun a w hq=>bkR (sqR (rtR hq))
theorem z8y {L:LC}:∀n,(∀(m:Nat) (H:AH) (a0:Option Addr) (a1_0 a1_1:Int) (a1_2:ByteArray) (a1_3:Sl3) (r:Bool),((G7 L n)) H a0 a1_0 a1_1 a1_2 a1_3=some r→CallS Tryz.prog (NE.plain 1000) m 58 #[(vP a0),(vA #[(vI .i64 a1_0),(vI .i64 a1_1),(vS a1_2),(Sl3.v a1_3)])] H (V5 r) (G6 H r)):=by
 intro n;induction n with
 | zero=>exact (fun _ _ _ _ _ _ _ _ h=>(Option.some_ne_none _ h.symm).elim)
 | succ n ih=>exact (fun _ _ _ _ _ _ _ _ h=>z7m (L:=L) ih h)
theorem zc8 {L:LC} {m:Nat} {H:AH} {a0:Option Addr} {a1_0 a1_1:Int} {a1_2:ByteArray} {a1_3:Sl3} {r:Bool} (h:z41 L H a0 a1_0 a1_1 a1_2 a1_3=some r) :
  CallS Tryz.prog (NE.plain 1000) m 58 #[(vP a0),(vA #[(vI .i64 a1_0),(vI .i64 a1_1),(vS a1_2),(Sl3.v a1_3)])] H (V5 r) (G6 H r) :=
 (z8y _) _ _ _ _ _ _ _ _ h
def zc4:Int→Value
 | r0=>(vI .i64 r0)
def zcx (H:AH):Int→AH:=fun _=>H
noncomputable def B33:Code:=(Tryz.f33.body).getD .skip
noncomputable def Y6 (L:LC) (H:AH) (a0:Option Addr) (a1_0 a1_1:Int) (a1_2:ByteArray) (a1_3:Sl3):Option Int :=
 (z1v L H a1_0 a1_1 a1_2 a1_3).bind fun x1 => if x1=0 then
  (z41 L H a0 a1_0 a1_1 a1_2 a1_3).bind fun x2 => if x2=true then
   some 0
  else
   some 40
 else
  some x1
theorem z1j {L:LC} {m:Nat} {H:AH} {a0:Option Addr} {a1_0 a1_1:Int} {a1_2:ByteArray} {a1_3:Sl3} {r:Int} (h:Y6 L H a0 a1_0 a1_1 a1_2 a1_3=some r) :
  CallS Tryz.prog (NE.plain 1000) m 33 #[(vP a0),(vA #[(vI .i64 a1_0),(vI .i64 a1_1),(vS a1_2),(Sl3.v a1_3)])] H (zc4 r) (zcx H r):=by
 refine CallS.mk (args:=[(vP a0),(vA #[(vI .i64 a1_0),(vI .i64 a1_1),(vS a1_2),(Sl3.v a1_3)])]) Tryz.func33 (B:=B33) (by kernel_rfl) (fun E _=>?_);unfold Y6 at h;refine A0 (C0 (Q0 2 [kI 4 0,kL 3 0 0] ([some (25,[(vI .i64 a1_0),(vI .i64 a1_1),(vS a1_2),(Sl3.v a1_3)])]) (B0 (o0 (A0 (A0 (C0 (m0 1 [kA 6 #[(vI .i64 a1_0),(vI .i64 a1_1),(vS a1_2),(Sl3.v a1_3)]] ?_))))))));obtain ⟨x1,hx,h⟩:=bind_some h;refine N0 (some 7) (v:=(vI .i64 x1)) 49 _ (zb8 hx) (m0 1 [kI 5 x1] (B0 (o0 (A0 (C0 (m0 2 [kB 9 (!decide (x1=0)),kI 8 x1] (B0 (o0 ?_))))))));rcases Q1 h with ⟨hp,h⟩ | ⟨hp,h⟩
 ·refine D0 9 false (e9 hp) (F0 (G0 (o0 (A0 (A0 (C0 (m0 2 [kA 12 #[(vI .i64 a1_0),(vI .i64 a1_1),(vS a1_2),(Sl3.v a1_3)],(11,.val (vP a0))] ?_)))))));obtain ⟨x2,hx,h⟩:=bind_some h;refine N0 (some 13) (v:=(vB x2)) 58 _ (zc8 hx) (m0 1 [kB 14 (!x2)] (B0 (o0 ?_)));rcases Q1 h with ⟨hp,h⟩ | ⟨hp,h⟩
  ·refine D0 14 false (nb_not hp) (F0 (G0 (o0 (A0 (C0 (m0 1 [kI 4 0] (B0 (o0 (I0 ?_)))))))));cases h;exact fun a w hs=>rtR (rS hs)
  ·refine D0 14 true (W2 hp) (E0 (A0 (C0 (m0 1 [kI 4 40] (B0 (o0 (I0 ?_)))))));cases h;exact fun a w hs=>sqR (rtR (rS hs))
 ·refine D0 9 true (N7 hp) (E0 (A0 (C0 (m0 2 [kI 4 x1,kI 10 x1] (B0 (o0 (I0 ?_)))))));cases h;exact fun a w hs=>sqR (rtR (rS hs))
def zgw:(Int×AH)→Value
 | (r0,_)=>(vI .i64 r0)
def zit (_:AH):(Int×AH)→AH:=fun r=>r.2
noncomputable def B10:Code:=(Tryz.f10.body).getD .skip
noncomputable def z1x (L:LC) (m:Nat) (H:AH) (a0_0 a0_1:Int) (a0_2:ByteArray) (a0_3 a1_0:Sl3) (a1_1 a1_2:Sl3):Option (Int×AH) :=
 (z1e L (Nat.max m H.next) H a1_0 a1_1 a1_2).bind fun (x1,H2) => (Y6 L H2 x1 a0_0 a0_1 a0_2 a0_3).bind fun x3 => some (x3,H2)
theorem zb3 {L:LC} {m:Nat} {H:AH} {a0_0 a0_1:Int} {a0_2:ByteArray} {a0_3 a1_0:Sl3} {a1_1 a1_2:Sl3} {r:(Int×AH)} (h:z1x L m H a0_0 a0_1 a0_2 a0_3 a1_0 a1_1 a1_2=some r) :
  CallS Tryz.prog (NE.plain 1000) m 10 #[(vA #[(vI .i64 a0_0),(vI .i64 a0_1),(vS a0_2),(Sl3.v a0_3)]),(vA #[(Sl3.v a1_0),(Sl3.v a1_1),(Sl3.v a1_2)])] H (zgw r) (zit H r):=by
 refine CallS.mk (args:=[(vA #[(vI .i64 a0_0),(vI .i64 a0_1),(vS a0_2),(Sl3.v a0_3)]),(vA #[(Sl3.v a1_0),(Sl3.v a1_1),(Sl3.v a1_2)])]) Tryz.func10 (B:=B10) (by kernel_rfl) (fun E _=>?_);unfold z1x at h;refine A0 (C0 (Q0 3 [kI 4 0,kL 3 1 0,kL 2 0 0] ([some (25,[(vI .i64 a0_0),(vI .i64 a0_1),(vS a0_2),(Sl3.v a0_3)]),some (30,[(Sl3.v a1_0),(Sl3.v a1_1),(Sl3.v a1_2)])]) (B0 (o0 (A0 ?_)))));refine D1 [0,2] [0,1,0,7,15] 5 (fun hcl=>?_);refine V0 0 (some 5) (.val (vA #[(Sl3.v a1_0),(Sl3.v a1_1),(Sl3.v a1_2)])) (V0 2 (some 7) (.val (vA #[(vI .i64 a0_0),(vI .i64 a0_1),(vS a0_2),(Sl3.v a0_3)])) ?_);obtain ⟨⟨x1,H2⟩,hx,h⟩:=bind_some h;try dsimp only at h
 refine DA.on 1 (I1 1 (some 6) false (v:=(vP x1)) 27 _ (z73 hx) ?_);obtain ⟨x3,hx,h⟩:=bind_some h;refine DA.on 3 (X0 3 (some 8) (v:=(vI .i64 x3)) 33 _ (z1j hx) (M0 4 (some 4) (vI .i64 x3) (W0 (o0 (I0 ?_)))));cases h;exact fun a w hs=>rtR (rS hs)
def W5:(Sl3×AH)→Value
 | (r0,_)=>(Sl3.v r0)
def Q6 (_:AH):(Sl3×AH)→AH:=fun r=>r.2
noncomputable def B52:Code:=(Tryz.f52.body).getD .skip
noncomputable def D4 (_L:LC) (rec_sort_book_datas:Nat→AH→(Option Addr)→Int→Int→ByteArray→Sl3→Bool→Option (Sl3×AH)) (m:Nat) (a0:Option Addr) (_a1_0 _a1_1:Int) (_a1_2:ByteArray) (a1_3:Sl3):(AH×Sl3×Int)→Option (Lp (AH×Sl3×Int) (Sl3×AH)):=fun (H7,v7_8,v31_9) =>
 if v31_9<(a1_3.n:Int) then
  (idxA 4 a1_3 v31_9).bind fun p10 => (rd (deI .i64) H7 (Addr.add p10 0)).bind fun x11_0 => (rd (deI .i64) H7 (Addr.add p10 1)).bind fun x11_1 => (rd deS H7 (Addr.add p10 2)).bind fun x11_2 => (rd deSl H7 (Addr.add p10 3)).bind fun x11_3 => (rec_sort_book_datas m H7 a0 x11_0 x11_1 x11_2 x11_3 false).bind fun (x12,H13) => (appS m 3 1 8 H13 v7_8 x12).bind fun (s14,H15) => some (.next (H15,s14,(IntKind.i64.wrap (v31_9+1))))
 else
  some (.brk (H7,v7_8,v31_9))
def za1 (_L:LC) (_rec_sort_book_datas:Nat→AH→(Option Addr)→Int→Int→ByteArray→Sl3→Bool→Option (Sl3×AH)) (_m:Nat) (a0:Option Addr) (a1_0 a1_1:Int) (a1_2:ByteArray) (a1_3:Sl3):(AH×Sl3×Int)→KN×Lcs:=fun (_,v7_8,v31_9)=>([kS 7 v7_8,kI 31 v31_9,(0,.val (vP a0)),kS 29 a1_3,kI 30 (a1_3.n:Int)],[some (25,[(vI .i64 a1_0),(vI .i64 a1_1),(vS a1_2),(Sl3.v a1_3)])])
noncomputable def W6 (L:LC) (rec_sort_book_datas:Nat→AH→(Option Addr)→Int→Int→ByteArray→Sl3→Bool→Option (Sl3×AH)) (m:Nat) (H:AH) (a0:Option Addr) (a1_0 a1_1:Int) (a1_2:ByteArray) (a1_3:Sl3) (a2:Bool):Option (Sl3×AH) :=
 Option.bind (α:=Bool) (
  if a1_0=6 then
   some (!a2)
  else
   some false) fun v16_1 =>
 if v16_1=true then
  a0.bind fun q2 => (rd deM H (Addr.add q2 3)).bind fun x3 => (lk1 Tryz.prog 78 (deI .i64) H x3 (vA #[(vI .i64 a1_0),(vS a1_2)])).bind fun x4 => (newR 3 1 #[(vI .i64 x4)] H).bind fun (s5,H6) => some (s5,H6)
 else
  (L.run (D4 L rec_sort_book_datas m a0 a1_0 a1_1 a1_2 a1_3) (H,Sl3.nil,0)).bind fun o=>match o with
  | .inl (H16,v7_17,_) =>
   some (v7_17,H16)
  | .inr r=>some r
noncomputable def V4 (L:LC) (n:Nat):(Nat→AH→(Option Addr)→Int→Int→ByteArray→Sl3→Bool→Option (Sl3×AH)):=Nat.rec (motive:=fun _=>(Nat→AH→(Option Addr)→Int→Int→ByteArray→Sl3→Bool→Option (Sl3×AH))) (fun _ _ _ _ _ _ _ _=>none) (fun _ p=>W6 L p) n
noncomputable def R9 (L:LC) (m:Nat) (H:AH) (a0:Option Addr) (a1_0 a1_1:Int) (a1_2:ByteArray) (a1_3:Sl3) (a2:Bool):Option (Sl3×AH):=(V4 L L.fuel) m H a0 a1_0 a1_1 a1_2 a1_3 a2
theorem z32 {E H L rec_sort_book_datas m a0 a1_0 a1_1 a1_2 a1_3} (hrec_sort_book_datas:∀(m:Nat) (H:AH) (a0:Option Addr) (a1_0 a1_1:Int) (a1_2:ByteArray) (a1_3:Sl3) (a2:Bool) (r:(Sl3×AH)),rec_sort_book_datas m H a0 a1_0 a1_1 a1_2 a1_3 a2=some r→CallS Tryz.prog (NE.plain 1000) m 52 #[(vP a0),(vA #[(vI .i64 a1_0),(vI .i64 a1_1),(vS a1_2),(Sl3.v a1_3)]),(vB a2)] H (W5 r) (Q6 H r)):LoopF Tryz.prog (NE.plain 1000) m E Tryz.f52 ((cfst (csnd (cfst (csnd (csnd (csnd B52))))))) (za1 L rec_sort_book_datas m a0 a1_0 a1_1 a1_2 a1_3) (fun s=>s.1) 0 W5 (Q6 H) (D4 L rec_sort_book_datas m a0 a1_0 a1_1 a1_2 a1_3):=by
 rintro ⟨H7,v7_8,v31_9⟩ o h
 unfold D4 at h;try dsimp only at h
 refine A0 (C0 (m0 1 [kB 32 (decide (v31_9<(a1_3.n:Int)))] (B0 (o0 (A0 ?_)))));rcases Q1 h with ⟨hp,h⟩ | ⟨hp,h⟩
 ·refine D0 32 true (decide_eq_true hp) (E0 (G0 (o0 (A0 (J0 1 (A0 (C0 ?_)))))));obtain ⟨p10,hx,h⟩:=bind_some h;refine O0 33 23 25 (.tmp 29) (.tmp 31) hx ?_;obtain ⟨x11_0,hx0,h⟩:=bind_some h;obtain ⟨x11_1,hx1,h⟩:=bind_some h;obtain ⟨x11_2,hx2,h⟩:=bind_some h;obtain ⟨x11_3,hx3,h⟩:=bind_some h;refine RS.la 34 25 (.tmp 33) 4 (P1 (O1 hx0 S1) (P1 (O1 hx1 S1) (P1 (O1 hx2 T1) (P1 (O1 hx3 R1) U1)))) (Q0 2 [kL 9 1 0] ([some (25,[(vI .i64 a1_0),(vI .i64 a1_1),(vS a1_2),(Sl3.v a1_3)]),some (25,[(vI .i64 x11_0),(vI .i64 x11_1),(vS x11_2),(Sl3.v x11_3)])]) (B0 (o0 (C0 (m0 3 [kA 37 #[(vI .i64 x11_0),(vI .i64 x11_1),(vS x11_2),(Sl3.v x11_3)],(36,.val (vP a0)),kS 35 v7_8] ?_)))));obtain ⟨⟨x12,H13⟩,hx,h⟩:=bind_some h;try dsimp only at h
  refine N0 (some 38) (v:=(Sl3.v x12)) 52 _ (hrec_sort_book_datas _ _ _ _ _ _ _ _ _ hx) ?_;obtain ⟨⟨s14,H15⟩,hx,h⟩:=bind_some h;try dsimp only at h
  refine P0 (H':=H15) (some 39) (Sl3.v s14) (Abs.run_app (x:=.tmp 35) (y:=.tmp 38) (ts:=#[87,87]) (s:=v7_8) (z:=x12) (by kernel_rfl) (by kernel_rfl) (by kernel_rfl) (by kernel_rfl) hx) (m0 1 [kS 7 s14] (B0 ?_));refine fun a w hs=>bkN ((o0 ?_ a w hs));refine C0 (m0 2 [kI 31 (IntKind.i64.wrap (v31_9+1)),kI 40 (IntKind.i64.wrap (v31_9+1))] (B0 ?_));cases h;exact fun a w hs=>lsN rfl (hs.sb 1)
 ·refine D0 32 false (decide_eq_false hp) (F0 (WS.ex 0 ?_));cases h;exact fun a w hs=>sqE (lsB rfl (hs.sb 1))
theorem z7q {L:LC} {rec_sort_book_datas:Nat→AH→(Option Addr)→Int→Int→ByteArray→Sl3→Bool→Option (Sl3×AH)} (hrec_sort_book_datas:∀(m:Nat) (H:AH) (a0:Option Addr) (a1_0 a1_1:Int) (a1_2:ByteArray) (a1_3:Sl3) (a2:Bool) (r:(Sl3×AH)),rec_sort_book_datas m H a0 a1_0 a1_1 a1_2 a1_3 a2=some r→CallS Tryz.prog (NE.plain 1000) m 52 #[(vP a0),(vA #[(vI .i64 a1_0),(vI .i64 a1_1),(vS a1_2),(Sl3.v a1_3)]),(vB a2)] H (W5 r) (Q6 H r)) {m:Nat} {H:AH} {a0:Option Addr} {a1_0 a1_1:Int} {a1_2:ByteArray} {a1_3:Sl3} {a2:Bool} {r:(Sl3×AH)} (h:W6 L rec_sort_book_datas m H a0 a1_0 a1_1 a1_2 a1_3 a2=some r) :
  CallS Tryz.prog (NE.plain 1000) m 52 #[(vP a0),(vA #[(vI .i64 a1_0),(vI .i64 a1_1),(vS a1_2),(Sl3.v a1_3)]),(vB a2)] H (W5 r) (Q6 H r):=by
 refine CallS.mk (args:=[(vP a0),(vA #[(vI .i64 a1_0),(vI .i64 a1_1),(vS a1_2),(Sl3.v a1_3)]),(vB a2)]) Tryz.func52 (B:=B52) (by kernel_rfl) (fun E _=>?_);unfold W6 at h;refine A0 (C0 (Q0 2 [kS 6 Sl3.nil,kL 4 0 0] ([some (25,[(vI .i64 a1_0),(vI .i64 a1_1),(vS a1_2),(Sl3.v a1_3)])]) (B0 (o0 (A0 ?_)))));obtain ⟨v16_1,hx,h⟩:=bind_some h;refine A0 ?_;refine A1 ([kB 16 v16_1,(0,.val (vP a0)),kL 4 0 0]) ([some (25,[(vI .i64 a1_0),(vI .i64 a1_1),(vS a1_2),(Sl3.v a1_3)])]) H ?_ (fun a w hs=>o0 ?_ a w hs)
 ·clear h; rename _=>h;refine C0 (m0 4 [kB 13 (decide (a1_0=6)),kB 12 (decide (a1_0=6)),kI 11 a1_0,kL 10 0 0] ?_);rcases Q1 h with ⟨hp,h⟩ | ⟨hp,h⟩
  ·refine K0 13 true (decide_eq_true hp) (m0 3 [kB 16 (!a2),kB 15 (!a2),kB 14 a2] (B0 ?_));cases h;exact fun a w hs=>(jsN (hs.sb 1))
  ·refine K0 13 false (decide_eq_false hp) (m0 3 [kB 16 false,kU 15,kU 14] (B0 ?_));cases h;exact fun a w hs=>(jsN (hs.sb 1))
 ·clear hx;rcases Q1 h with ⟨hp,h⟩ | ⟨hp,h⟩
  ·refine D0 16 true hp (E0 (A0 ?_));refine D1 [0,1,2,3,4,5,6,7,8,9] [0,1,3,7,0,16,0,64,240,511,1023,2047] 12 (fun hcl=>?_);refine U0 0 (some 17) (vP a0) ?_;obtain ⟨q2,hx,hq2⟩:=bind_some h;subst hx;have h:=hq2;refine U0 1 (some 18) (vP (some q2)) (U0 2 (some 19) (vP (some (Addr.add q2 3))) ?_);obtain ⟨x3,hx,h⟩:=bind_some h;refine Z0 3 (some 20) (Value.map x3) (Abs.det_load (t:=78) (x:=.tmp 19) (a:=(Addr.add q2 3)) (by kernel_rfl) (by kernel_rfl) (by kernel_rfl) (by kernel_rfl) (O1 hx O7)) (V0 4 (some 21) (.loc 0 0) (V0 5 (some 22) (.val (vI .i64 a1_0)) (V0 6 (some 23) (.loc 0 2) (V0 7 (some 24) (.val (vS a1_2)) (U0 8 (some 25) (vA #[(vI .i64 a1_0),(vS a1_2)]) ?_)))));obtain ⟨x4,hx,h⟩:=bind_some h;refine Z0 9 (some 26) (vI .i64 x4) (Abs.det_look (t:=78) (x:=.tmp 20) (y:=.tmp 25) (mm:=x3) (k:=(vA #[(vI .i64 a1_0),(vS a1_2)])) (by kernel_rfl) (by kernel_rfl) (by kernel_rfl) (by kernel_rfl) (lk1_eq hx S1)) ?_;obtain ⟨⟨s5,H6⟩,hx,h⟩:=bind_some h;try dsimp only at h
   refine DA.on 10 (Y0 (H':=H6) 10 (some 27) (Sl3.v s5) (Abs.run_newR (by kernel_rfl) (by kernel_rfl) hx) (M0 11 (some 6) (Sl3.v s5) (W0 (o0 (I0 ?_)))));cases h;exact fun a w hs=>sqR (rtR (rS hs))
  ·refine D0 16 false (b_not hp) (F0 (G0 (o0 (A0 (C0 (m0 1 [kS 7 Sl3.nil] (B0 (o0 (A0 ?_)))))))));refine A0 (C0 (m0 4 [kI 31 0,kI 30 (a1_3.n:Int),kS 29 a1_3,kL 28 0 3] (B0 (o0 (J0 0 ?_)))));obtain ⟨o,hl,h⟩:=bind_some h;rcases o with ⟨H16,v7_17,v31_18⟩ | r
   ·try dsimp only at h
    refine S0 (z32 (L:=L) (E:=E) (m:=m) (H:=H) hrec_sort_book_datas) (L.ok hl) 1 ?_;clear hl;refine fun a w hs=>bkE ((o0 ?_ a w hs));refine A0 (C0 (m0 2 [kS 6 v7_17,kS 41 v7_17] (B0 (o0 (I0 ?_)))));cases h;exact fun a w hs=>rtR (rS hs)
   ·try dsimp only at h
    refine R0 (z32 (L:=L) (E:=E) (m:=m) (H:=H) hrec_sort_book_datas) (L.ok hl) 1 ?_;cases h;exact fun a w hq=>bkR (sqR (rtR hq))
theorem z8n {L:LC}:∀n,(∀(m:Nat) (H:AH) (a0:Option Addr) (a1_0 a1_1:Int) (a1_2:ByteArray) (a1_3:Sl3) (a2:Bool) (r:(Sl3×AH)),((V4 L n)) m H a0 a1_0 a1_1 a1_2 a1_3 a2=some r→CallS Tryz.prog (NE.plain 1000) m 52 #[(vP a0),(vA #[(vI .i64 a1_0),(vI .i64 a1_1),(vS a1_2),(Sl3.v a1_3)]),(vB a2)] H (W5 r) (Q6 H r)):=by
 intro n;induction n with
 | zero=>exact (fun _ _ _ _ _ _ _ _ _ h=>(Option.some_ne_none _ h.symm).elim)
 | succ n ih=>exact (fun _ _ _ _ _ _ _ _ _ h=>z7q (L:=L) ih h)
theorem z4t {L:LC} {m:Nat} {H:AH} {a0:Option Addr} {a1_0 a1_1:Int} {a1_2:ByteArray} {a1_3:Sl3} {a2:Bool} {r:(Sl3×AH)} (h:R9 L m H a0 a1_0 a1_1 a1_2 a1_3 a2=some r) :
  CallS Tryz.prog (NE.plain 1000) m 52 #[(vP a0),(vA #[(vI .i64 a1_0),(vI .i64 a1_1),(vS a1_2),(Sl3.v a1_3)]),(vB a2)] H (W5 r) (Q6 H r) :=
 (z8n _) _ _ _ _ _ _ _ _ _ h
def Z9:(Sl3×AH)→Value
 | (r0,_)=>(Sl3.v r0)
def zi (_:AH):(Sl3×AH)→AH:=fun r=>r.2
noncomputable def B53:Code:=(Tryz.f53.body).getD .skip
noncomputable def Z2 (L:LC) (m:Nat) (q1:Addr) (_x4:Sl3) (_v20_7:Int) (_x9_0:ByteArray) (x9_1:Sl3):(AH×Sl3×Int)→Option (Lp (AH×Sl3×Int) (Sl3×AH)):=fun (H10,v5_11,v27_12) =>
 if v27_12<(x9_1.n:Int) then
  (idxA 5 x9_1 v27_12).bind fun p13 => (rd deS H10 (Addr.add p13 0)).bind fun _ => (rd (deI .i64) H10 (Addr.add p13 1)).bind fun x14_1 => (rd (deI .i64) H10 (Addr.add p13 2)).bind fun x14_2 => (rd deS H10 (Addr.add p13 3)).bind fun x14_3 => (rd deSl H10 (Addr.add p13 4)).bind fun x14_4 => (R9 L m H10 (some q1) x14_1 x14_2 x14_3 x14_4 false).bind fun (x15,H16) => (appS m 3 1 8 H16 v5_11 x15).bind fun (s17,H18) => some (.next (H18,s17,(IntKind.i64.wrap (v27_12+1))))
 else
  some (.brk (H10,v5_11,v27_12))
def z6r (_L:LC) (_m:Nat) (q1:Addr) (x4:Sl3) (v20_7:Int) (x9_0:ByteArray) (x9_1:Sl3):(AH×Sl3×Int)→KN×Lcs:=fun (_,v5_11,v27_12)=>([kS 5 v5_11,kI 27 v27_12,kP 0 q1,kS 18 x4,kI 19 (x4.n:Int),kI 20 v20_7,kS 25 x9_1,kI 26 (x9_1.n:Int)],[some (103,[(vS x9_0),(Sl3.v x9_1)])])
noncomputable def E3 (L:LC) (m:Nat) (q1:Addr) (x4:Sl3):(AH×Sl3×Int)→Option (Lp (AH×Sl3×Int) (Sl3×AH)):=fun (H5,v5_6,v20_7) =>
 if v20_7<(x4.n:Int) then
  (idxA 2 x4 v20_7).bind fun p8 => (rd deS H5 (Addr.add p8 0)).bind fun x9_0 => (rd deSl H5 (Addr.add p8 1)).bind fun x9_1 => (L.run (Z2 L m q1 x4 v20_7 x9_0 x9_1) (H5,v5_6,0)).bind fun o=>match o with
  | .inl (H19,v5_20,_) =>
   some (.next (H19,v5_20,(IntKind.i64.wrap (v20_7+1))))
  | .inr r=>some (.ret r)
 else
  some (.brk (H5,v5_6,v20_7))
def z7d (_L:LC) (_m:Nat) (q1:Addr) (x4:Sl3):(AH×Sl3×Int)→KN×Lcs:=fun (_,v5_6,v20_7)=>([kS 5 v5_6,kI 20 v20_7,kP 0 q1,kS 18 x4,kI 19 (x4.n:Int)],[])
noncomputable def E6 (L:LC) (m:Nat) (H:AH) (a0:Option Addr) (a1:Int):Option (Sl3×AH) :=
 a0.bind fun q1 => (rd deSl H (Addr.add (Addr.add q1 0) 1)).bind fun x2 => (idxA 2 x2 a1).bind fun p3 => (rd deSl H (Addr.add p3 1)).bind fun x4 => (L.run (E3 L m q1 x4) (H,Sl3.nil,0)).bind fun o=>match o with
 | .inl (H22,v5_23,_) =>
  some (v5_23,H22)
 | .inr r=>some r
theorem z1b {E H L m q1 x4 v20_7 x9_0 x9_1} :LoopF Tryz.prog (NE.plain 1000) m E Tryz.f53 ((cfst (csnd (csnd (cfst (cfst (csnd (csnd (cfst (cfst (csnd (cfst (csnd (csnd B53)))))))))))))) (z6r L m q1 x4 v20_7 x9_0 x9_1) (fun s=>s.1) 2 Z9 (zi H) (Z2 L m q1 x4 v20_7 x9_0 x9_1):=by
 rintro ⟨H10,v5_11,v27_12⟩ o h
 unfold Z2 at h;try dsimp only at h
 refine A0 (C0 (m0 1 [kB 28 (decide (v27_12<(x9_1.n:Int)))] (B0 (o0 (A0 ?_)))));rcases Q1 h with ⟨hp,h⟩ | ⟨hp,h⟩
 ·refine D0 28 true (decide_eq_true hp) (E0 (G0 (o0 (A0 (J0 3 (A0 (C0 ?_)))))));obtain ⟨p13,hx,h⟩:=bind_some h;refine O0 29 101 105 (.tmp 25) (.tmp 27) hx ?_;obtain ⟨x14_0,hx0,h⟩:=bind_some h;obtain ⟨x14_1,hx1,h⟩:=bind_some h;obtain ⟨x14_2,hx2,h⟩:=bind_some h;obtain ⟨x14_3,hx3,h⟩:=bind_some h;obtain ⟨x14_4,hx4,h⟩:=bind_some h;refine RS.la 30 105 (.tmp 29) 5 (P1 (O1 hx0 T1) (P1 (O1 hx1 S1) (P1 (O1 hx2 S1) (P1 (O1 hx3 T1) (P1 (O1 hx4 R1) U1))))) (Q0 2 [kL 9 1 0] ([some (103,[(vS x9_0),(Sl3.v x9_1)]),some (105,[(vS x14_0),(vI .i64 x14_1),(vI .i64 x14_2),(vS x14_3),(Sl3.v x14_4)])]) (B0 (o0 (C0 (m0 4 [kA 34 #[(vI .i64 x14_1),(vI .i64 x14_2),(vS x14_3),(Sl3.v x14_4)],kL 33 1 1,kP 32 q1,kS 31 v5_11] ?_)))));obtain ⟨⟨x15,H16⟩,hx,h⟩:=bind_some h;try dsimp only at h
  refine N0 (some 35) (v:=(Sl3.v x15)) 52 _ (z4t hx) ?_;obtain ⟨⟨s17,H18⟩,hx,h⟩:=bind_some h;try dsimp only at h
  refine P0 (H':=H18) (some 36) (Sl3.v s17) (Abs.run_app (x:=.tmp 31) (y:=.tmp 35) (ts:=#[87,87]) (s:=v5_11) (z:=x15) (by kernel_rfl) (by kernel_rfl) (by kernel_rfl) (by kernel_rfl) hx) (m0 1 [kS 5 s17] (B0 ?_));refine fun a w hs=>bkN ((o0 ?_ a w hs));refine C0 (m0 2 [kI 27 (IntKind.i64.wrap (v27_12+1)),kI 37 (IntKind.i64.wrap (v27_12+1))] (B0 ?_));cases h;exact fun a w hs=>lsN rfl (hs.sb 1)
 ·refine D0 28 false (decide_eq_false hp) (F0 (WS.ex 2 ?_));cases h;exact fun a w hs=>sqE (lsB rfl (hs.sb 1))
theorem z1d {E H L m q1 x4} :LoopF Tryz.prog (NE.plain 1000) m E Tryz.f53 ((cfst (csnd (cfst (csnd (csnd B53)))))) (z7d L m q1 x4) (fun s=>s.1) 0 Z9 (zi H) (E3 L m q1 x4):=by
 rintro ⟨H5,v5_6,v20_7⟩ o h
 unfold E3 at h;try dsimp only at h
 refine A0 (C0 (m0 1 [kB 21 (decide (v20_7<(x4.n:Int)))] (B0 (o0 (A0 ?_)))));rcases Q1 h with ⟨hp,h⟩ | ⟨hp,h⟩
 ·refine D0 21 true (decide_eq_true hp) (E0 (G0 (o0 (A0 (J0 1 (A0 (C0 ?_)))))));obtain ⟨p8,hx,h⟩:=bind_some h;refine O0 22 91 103 (.tmp 18) (.tmp 20) hx ?_;obtain ⟨x9_0,hx0,h⟩:=bind_some h;obtain ⟨x9_1,hx1,h⟩:=bind_some h;refine RS.la 23 103 (.tmp 22) 2 (P1 (O1 hx0 T1) (P1 (O1 hx1 R1) U1)) (Q0 2 [kL 7 0 0] ([some (103,[(vS x9_0),(Sl3.v x9_1)])]) (B0 (o0 (A0 (C0 (m0 4 [kI 27 0,kI 26 (x9_1.n:Int),kS 25 x9_1,kL 24 0 1] (B0 (o0 (J0 2 ?_)))))))));obtain ⟨o,hl,h⟩:=bind_some h;rcases o with ⟨H19,v5_20,v27_21⟩ | r
  ·try dsimp only at h
   refine S0 (z1b (L:=L) (E:=E) (m:=m) (H:=H)) (L.ok hl) 1 ?_;clear hl;refine fun a w hs=>bkE (bkN ((o0 ?_ a w hs)));refine C0 (m0 2 [kI 20 (IntKind.i64.wrap (v20_7+1)),kI 38 (IntKind.i64.wrap (v20_7+1))] (B0 ?_));cases h;exact fun a w hs=>lsN rfl (hs.sb 0)
  ·try dsimp only at h
   refine R0 (z1b (L:=L) (E:=E) (m:=m) (H:=H)) (L.ok hl) 1 ?_;cases h;exact fun a w hq=>bkR (bkR (sqR (lsR rfl hq)))
 ·refine D0 21 false (decide_eq_false hp) (F0 (WS.ex 0 ?_));cases h;exact fun a w hs=>sqE (lsB rfl (hs.sb 0))
theorem z33 {L:LC} {m:Nat} {H:AH} {a0:Option Addr} {a1:Int} {r:(Sl3×AH)} (h:E6 L m H a0 a1=some r) :
  CallS Tryz.prog (NE.plain 1000) m 53 #[(vP a0),(vI .i64 a1)] H (Z9 r) (zi H r):=by
 refine CallS.mk (args:=[(vP a0),(vI .i64 a1)]) Tryz.func53 (B:=B53) (by kernel_rfl) (fun E _=>?_);unfold E6 at h;refine A0 (C0 (m0 1 [kS 4 Sl3.nil] (B0 (o0 (A0 (C0 (m0 1 [kS 5 Sl3.nil] (B0 (o0 ?_)))))))));refine A0 (A0 (C0 (m0 1 [(10,.val (vP a0))] ?_)));obtain ⟨q1,hx,hq1⟩:=bind_some h;subst hx;have h:=hq1;refine m0 3 [(13,.val (vP (some (Addr.add (Addr.add q1 0) 1)))),(12,.val (vP (some (Addr.add q1 0)))),kP 11 q1] ?_;obtain ⟨x2,hx,h⟩:=bind_some h;refine T0 14 27 (.tmp 13) (O1 hx R1) (m0 1 [kI 15 a1] ?_);obtain ⟨p3,hx,h⟩:=bind_some h;refine O0 16 27 93 (.tmp 14) (.tmp 15) hx (m0 1 [(17,.val (vP (some (Addr.add p3 1))))] ?_);obtain ⟨x4,hx,h⟩:=bind_some h;refine T0 18 91 (.tmp 17) (O1 hx R1) (m0 2 [kI 20 0,kI 19 (x4.n:Int)] (B0 (o0 (J0 0 ?_))));obtain ⟨o,hl,h⟩:=bind_some h;rcases o with ⟨H22,v5_23,v20_24⟩ | r
 ·try dsimp only at h
  refine S0 (z1d (L:=L) (E:=E) (m:=m) (H:=H)) (L.ok hl) 0 ?_;clear hl;refine fun a w hs=>bkE ((o0 ?_ a w hs));refine A0 (C0 (m0 2 [kS 4 v5_23,kS 39 v5_23] (B0 (o0 (I0 ?_)))));cases h;exact fun a w hs=>rtR (rS hs)
 ·try dsimp only at h
  refine R0 (z1d (L:=L) (E:=E) (m:=m) (H:=H)) (L.ok hl) 0 ?_;cases h;exact fun a w hq=>bkR (sqR (rtR hq))
def z14:(Sl3×AH)→Value
 | (r0,_)=>(Sl3.v r0)
def z1k (_:AH):(Sl3×AH)→AH:=fun r=>r.2
noncomputable def B30:Code:=(Tryz.f30.body).getD .skip
noncomputable def V2 (L:LC) (m:Nat) (q1:Addr) (_x2 s3:Sl3) (v17_6:Int):(AH×Sl3)→Option (Lp (AH×Sl3) (Sl3×AH)):=fun (H13,v6_14) =>
 if (v6_14.n:Int) > 0 then
  (idxA 1 v6_14 0).bind fun p15 => (rd (deI .i64) H13 p15).bind fun x16 => (slc 1 H13 v6_14 (some 1) none none).bind fun s17 => (idxA 1 s3 v17_6).bind fun p18 => (rd deSl H13 p18).bind fun x19 => (idxA 1 x19 x16).bind fun p20 => (rd deB H13 p20).bind fun x21 => if x21=true then
   some (.next (H13,s17))
  else
   (idxA 1 s3 v17_6).bind fun p22 => (rd deSl H13 p22).bind fun x23 => (idxA 1 x23 x16).bind fun p24 => (H13.setCell m p24 (vB true)).bind fun H25 => (E6 L m H25 (some q1) x16).bind fun (x26,H27) => (appS m 3 1 8 H27 s17 x26).bind fun (s28,H29) => some (.next (H29,s28))
 else
  some (.brk (H13,v6_14))
def za3 (_L:LC) (_m:Nat) (q1:Addr) (x2 s3:Sl3) (v17_6:Int):(AH×Sl3)→KN×Lcs:=fun (_,v6_14)=>([kS 6 v6_14,kP 0 q1,kI 3 (x2.n:Int),kS 4 s3,kI 5 v17_6,kI 16 (x2.n:Int),kI 17 v17_6],[])
noncomputable def G4 (L:LC) (m:Nat) (q1:Addr) (x2 s3:Sl3):(AH×Int)→Option (Lp (AH×Int) (Sl3×AH)):=fun (H5,v17_6) =>
 if v17_6<(x2.n:Int) then
  (mkS 4 1 1 #[(vB false)] H5 (x2.n:Int) (x2.n:Int)).bind fun (s7,H8) => (idxA 1 s3 v17_6).bind fun p9 => (H8.setCell m p9 (Sl3.v s7)).bind fun H10 => (E6 L m H10 (some q1) v17_6).bind fun (x11,H12) => (L.run (V2 L m q1 x2 s3 v17_6) (H12,x11)).bind fun o=>match o with
  | .inl (H30,_) =>
   some (.next (H30,(IntKind.i64.wrap (v17_6+1))))
  | .inr r=>some (.ret r)
 else
  some (.brk (H5,v17_6))
def z9n (_L:LC) (_m:Nat) (q1:Addr) (x2 s3:Sl3):(AH×Int)→KN×Lcs:=fun (_,v17_6)=>([kI 17 v17_6,kP 0 q1,kI 3 (x2.n:Int),kS 4 s3,kI 16 (x2.n:Int)],[])
noncomputable def s8 (L:LC) (m:Nat) (H:AH) (a0:Option Addr):Option (Sl3×AH) :=
 a0.bind fun q1 => (rd deSl H (Addr.add (Addr.add q1 0) 1)).bind fun x2 => (mkS 70 1 24 #[(Sl3.v Sl3.nil)] H (x2.n:Int) (x2.n:Int)).bind fun (s3,H4) => (L.run (G4 L m q1 x2 s3) (H4,0)).bind fun o=>match o with
 | .inl (H32,_) =>
  some (s3,H32)
 | .inr r=>some r
theorem z35 {E H L m q1 x2 s3 v17_6} :LoopF Tryz.prog (NE.plain 1000) m E Tryz.f30 ((cfst (csnd (csnd (csnd (cfst (cfst (csnd (csnd (cfst (cfst (csnd (cfst (csnd (csnd (csnd B30)))))))))))))))) (za3 L m q1 x2 s3 v17_6) (fun s=>s.1) 2 z14 (z1k H) (V2 L m q1 x2 s3 v17_6):=by
 rintro ⟨H13,v6_14⟩ o h
 unfold V2 at h;try dsimp only at h
 refine A0 (A0 (C0 (m0 3 [kB 30 (decide ((v6_14.n:Int) > 0)),kI 29 (v6_14.n:Int),kS 28 v6_14] (B0 (o0 ?_)))));rcases Q1 h with ⟨hp,h⟩ | ⟨hp,h⟩
 ·refine D0 30 true (decide_eq_true hp) (E0 (G0 (o0 (J0 3 (A0 (C0 (m0 1 [kS 31 v6_14] ?_)))))));obtain ⟨p15,hx,h⟩:=bind_some h;refine O0 32 87 3 (.tmp 31) (.const (vI .i64 0)) hx ?_;obtain ⟨x16,hx,h⟩:=bind_some h;refine T0 33 3 (.tmp 32) (O1 hx S1) (m0 1 [kI 7 x16] (B0 (o0 (A0 (C0 (m0 1 [kS 34 v6_14] ?_))))));obtain ⟨s17,hx,h⟩:=bind_some h;refine P0 (H':=H13) (some 35) (Sl3.v s17) (Abs.run_slice (t:=87) (e:=3) (x:=.tmp 34) (lo:=(some (.const (vI .i64 1)))) (hi:=none) (mx:=none) (s:=v6_14) (k1:=.i64) (k2:=.i64) (k3:=.i64) (by kernel_rfl) (by kernel_rfl) (by kernel_rfl) (by kernel_rfl) (by kernel_rfl) (by kernel_rfl) (by kernel_rfl) hx) (m0 1 [kS 6 s17] (B0 (o0 (A0 (C0 (m0 2 [kI 37 v17_6,kS 36 s3] ?_))))));obtain ⟨p18,hx,h⟩:=bind_some h;refine O0 38 67 70 (.tmp 36) (.tmp 37) hx ?_;obtain ⟨x19,hx,h⟩:=bind_some h;refine T0 39 70 (.tmp 38) (O1 hx R1) (m0 1 [kI 40 x16] ?_);obtain ⟨p20,hx,h⟩:=bind_some h;refine O0 41 70 4 (.tmp 39) (.tmp 40) hx ?_;obtain ⟨x21,hx,h⟩:=bind_some h;refine T0 42 4 (.tmp 41) (O1 hx F6) (m0 1 [kB 43 (!x21)] (B0 (o0 ?_)));rcases Q1 h with ⟨hp,h⟩ | ⟨hp,h⟩
  ·refine D0 43 false (nb_not hp) (F0 (G0 ?_));cases h;exact fun a w hs=>bkN (lsN rfl (hs.sb 0))
  ·refine D0 43 true (W2 hp) (E0 (A0 (C0 (m0 2 [kI 45 v17_6,kS 44 s3] ?_))));obtain ⟨p22,hx,h⟩:=bind_some h;refine O0 46 67 70 (.tmp 44) (.tmp 45) hx ?_;obtain ⟨x23,hx,h⟩:=bind_some h;refine T0 47 70 (.tmp 46) (O1 hx R1) (m0 1 [kI 48 x16] ?_);obtain ⟨p24,hx,h⟩:=bind_some h;refine O0 49 70 4 (.tmp 47) (.tmp 48) hx ?_;obtain ⟨H25,hx,h⟩:=bind_some h;refine P0 (H':=H25) none undef (Abs.run_store1 (t:=4) (x:=.tmp 49) (y:=.const (vB true)) (a:=p24) (v:=(vB true)) (by kernel_rfl) (by kernel_rfl) (by kernel_rfl) (by kernel_rfl) (by kernel_rfl) hx) (B0 (o0 (C0 (m0 3 [kI 52 x16,kP 51 q1,kS 50 s17] ?_))));obtain ⟨⟨x26,H27⟩,hx,h⟩:=bind_some h;try dsimp only at h
   refine N0 (some 53) (v:=(Sl3.v x26)) 53 _ (z33 hx) ?_;obtain ⟨⟨s28,H29⟩,hx,h⟩:=bind_some h;try dsimp only at h
   refine P0 (H':=H29) (some 54) (Sl3.v s28) (Abs.run_app (x:=.tmp 50) (y:=.tmp 53) (ts:=#[87,87]) (s:=s17) (z:=x26) (by kernel_rfl) (by kernel_rfl) (by kernel_rfl) (by kernel_rfl) hx) (m0 1 [kS 6 s28] (B0 ?_));cases h;exact fun a w hs=>bkN (lsN rfl (hs.sb 0))
 ·refine D0 30 false (decide_eq_false hp) (F0 (WS.ex 2 ?_));cases h;exact fun a w hs=>sqE (lsB rfl (hs.sb 0))
theorem z38 {E H L m q1 x2 s3} :LoopF Tryz.prog (NE.plain 1000) m E Tryz.f30 ((cfst (csnd (cfst (csnd (csnd (csnd B30))))))) (z9n L m q1 x2 s3) (fun s=>s.1) 0 z14 (z1k H) (G4 L m q1 x2 s3):=by
 rintro ⟨H5,v17_6⟩ o h
 unfold G4 at h;try dsimp only at h
 refine A0 (C0 (m0 1 [kB 18 (decide (v17_6<(x2.n:Int)))] (B0 (o0 (A0 ?_)))));rcases Q1 h with ⟨hp,h⟩ | ⟨hp,h⟩
 ·refine D0 18 true (decide_eq_true hp) (E0 (G0 (o0 (A0 (J0 1 (A0 (C0 (m0 2 [kI 5 v17_6,kI 19 v17_6] (B0 ?_)))))))));refine o0 (A0 (C0 (m0 3 [kI 22 (x2.n:Int),kI 21 v17_6,kS 20 s3] ?_)));obtain ⟨⟨s7,H8⟩,hx,h⟩:=bind_some h;try dsimp only at h
  refine P0 (H':=H8) (some 23) (Sl3.v s7) (Abs.run_mk (t:=70) (x:=.tmp 22) (y:=.tmp 22) (k1:=.i64) (k2:=.i64) (by kernel_rfl) (by kernel_rfl) (by kernel_rfl) (by kernel_rfl) hx) ?_;obtain ⟨p9,hx,h⟩:=bind_some h;refine O0 24 67 70 (.tmp 20) (.tmp 21) hx ?_;obtain ⟨H10,hx,h⟩:=bind_some h;refine P0 (H':=H10) none undef (Abs.run_store1 (t:=70) (x:=.tmp 24) (y:=.tmp 23) (a:=p9) (v:=(Sl3.v s7)) (by kernel_rfl) (by kernel_rfl) (by kernel_rfl) (by kernel_rfl) (by kernel_rfl) hx) (B0 (o0 (A0 (C0 (m0 2 [kI 26 v17_6,kP 25 q1] ?_)))));obtain ⟨⟨x11,H12⟩,hx,h⟩:=bind_some h;try dsimp only at h
  refine N0 (some 27) (v:=(Sl3.v x11)) 53 _ (z33 hx) (m0 1 [kS 6 x11] (B0 (o0 (J0 2 ?_))));obtain ⟨o,hl,h⟩:=bind_some h;rcases o with ⟨H30,v6_31⟩ | r
  ·try dsimp only at h
   refine S0 (z35 (L:=L) (E:=E) (m:=m) (H:=H)) (L.ok hl) 0 ?_;clear hl;refine fun a w hs=>bkE (bkN ((o0 ?_ a w hs)));refine C0 (m0 2 [kI 17 (IntKind.i64.wrap (v17_6+1)),kI 55 (IntKind.i64.wrap (v17_6+1))] (B0 ?_));cases h;exact fun a w hs=>lsN rfl (hs.sb 0)
  ·try dsimp only at h
   refine R0 (z35 (L:=L) (E:=E) (m:=m) (H:=H)) (L.ok hl) 0 ?_;cases h;exact fun a w hq=>bkR (bkR (sqR (lsR rfl hq)))
 ·refine D0 18 false (decide_eq_false hp) (F0 (WS.ex 0 ?_));cases h;exact fun a w hs=>sqE (lsB rfl (hs.sb 0))
theorem z4r {L:LC} {m:Nat} {H:AH} {a0:Option Addr} {r:(Sl3×AH)} (h:s8 L m H a0=some r) :
  CallS Tryz.prog (NE.plain 1000) m 30 #[(vP a0)] H (z14 r) (z1k H r):=by
 refine CallS.mk (args:=[(vP a0)]) Tryz.func30 (B:=B30) (by kernel_rfl) (fun E _=>?_);unfold s8 at h;refine A0 (C0 (m0 1 [kS 2 Sl3.nil] (B0 (o0 (A0 (C0 (m0 1 [(8,.val (vP a0))] ?_)))))));obtain ⟨q1,hx,hq1⟩:=bind_some h;subst hx;have h:=hq1;refine m0 3 [(11,.val (vP (some (Addr.add (Addr.add q1 0) 1)))),(10,.val (vP (some (Addr.add q1 0)))),kP 9 q1] ?_;obtain ⟨x2,hx,h⟩:=bind_some h;refine T0 12 27 (.tmp 11) (O1 hx R1) (m0 2 [kI 3 (x2.n:Int),kI 13 (x2.n:Int)] (B0 (o0 (A0 (C0 (m0 1 [kI 14 (x2.n:Int)] ?_))))));obtain ⟨⟨s3,H4⟩,hx,h⟩:=bind_some h;try dsimp only at h
 refine P0 (H':=H4) (some 15) (Sl3.v s3) (Abs.run_mk (t:=67) (x:=.tmp 14) (y:=.tmp 14) (k1:=.i64) (k2:=.i64) (by kernel_rfl) (by kernel_rfl) (by kernel_rfl) (by kernel_rfl) hx) (m0 1 [kS 4 s3] (B0 (o0 (A0 (A0 (C0 (m0 2 [kI 17 0,kI 16 (x2.n:Int)] (B0 (o0 ?_)))))))));refine J0 0 ?_;obtain ⟨o,hl,h⟩:=bind_some h;rcases o with ⟨H32,v17_33⟩ | r
 ·try dsimp only at h
  refine S0 (z38 (L:=L) (E:=E) (m:=m) (H:=H)) (L.ok hl) 0 ?_;clear hl;refine fun a w hs=>bkE ((o0 ?_ a w hs));refine A0 (C0 (m0 2 [kS 2 s3,kS 56 s3] (B0 (o0 (I0 ?_)))));cases h;exact fun a w hs=>rtR (rS hs)
 ·try dsimp only at h
  refine R0 (z38 (L:=L) (E:=E) (m:=m) (H:=H)) (L.ok hl) 0 ?_;cases h;exact fun a w hq=>bkR (sqR (rtR hq))
def ze1:((Option Addr)×AH)→Value
 | (r0,_)=>(vP r0)
def zek (_:AH):((Option Addr)×AH)→AH:=fun r=>r.2
noncomputable def B11:Code:=(Tryz.f11.body).getD .skip
noncomputable def J8 (L:LC) (m:Nat) (H:AH) (a0_0 a0_1 a0_2:Sl3) (a1:Int):Option ((Option Addr)×AH) :=
 (z1e L m H a0_0 a0_1 a0_2).bind fun (x1,H2) => (s8 L m H2 x1).bind fun (x3,H4) => (newM H4).bind fun (p5,H6) => (newB 75 [(vP x1),(vI .i64 a1),(Sl3.v x3),(Value.map (some p5))] H6).bind fun (p7,H8) => some ((some p7),H8)
theorem z6m {L:LC} {m:Nat} {H:AH} {a0_0 a0_1 a0_2:Sl3} {a1:Int} {r:((Option Addr)×AH)} (h:J8 L m H a0_0 a0_1 a0_2 a1=some r) :
  CallS Tryz.prog (NE.plain 1000) m 11 #[(vA #[(Sl3.v a0_0),(Sl3.v a0_1),(Sl3.v a0_2)]),(vI .i64 a1)] H (ze1 r) (zek H r):=by
 refine CallS.mk (args:=[(vA #[(Sl3.v a0_0),(Sl3.v a0_1),(Sl3.v a0_2)]),(vI .i64 a1)]) Tryz.func11 (B:=B11) (by kernel_rfl) (fun E _=>?_);unfold J8 at h;refine A0 (C0 (Q0 2 [(4,.val (vP none)),kL 2 0 0] ([some (30,[(Sl3.v a0_0),(Sl3.v a0_1),(Sl3.v a0_2)])]) (B0 (o0 (A0 (C0 (m0 1 [kA 6 #[(Sl3.v a0_0),(Sl3.v a0_1),(Sl3.v a0_2)]] ?_)))))));obtain ⟨⟨x1,H2⟩,hx,h⟩:=bind_some h;try dsimp only at h
 refine N0 (some 7) (v:=(vP x1)) 27 _ (z73 hx) (m0 1 [(5,.val (vP x1))] (B0 (o0 (A0 (C0 (m0 3 [(10,.val (vP x1)),kI 9 a1,(8,.val (vP x1))] ?_))))));obtain ⟨⟨x3,H4⟩,hx,h⟩:=bind_some h;try dsimp only at h
 refine N0 (some 11) (v:=(Sl3.v x3)) 30 _ (z4r hx) ?_;obtain ⟨⟨p5,H6⟩,hx,h⟩:=bind_some h;try dsimp only at h
 refine P0 (H':=H6) (some 12) (Value.map (some p5)) (Abs.run_newM (by kernel_rfl) hx) (m0 1 [kA 13 #[(vP x1),(vI .i64 a1),(Sl3.v x3),(Value.map (some p5))]] ?_);obtain ⟨⟨p7,H8⟩,hx,h⟩:=bind_some h;try dsimp only at h
 refine P0 (H':=H8) (some 14) (vP (some p7)) (Abs.run_newB (by kernel_rfl) hx) (m0 1 [kP 4 p7] (B0 (o0 (I0 ?_))));cases h;exact fun a w hs=>rtR (rS hs)
def z91:Int→Value
 | r0=>(vI .i64 r0)
def z9c (H:AH):Int→AH:=fun _=>H
noncomputable def B34:Code:=(Tryz.f34.body).getD .skip
noncomputable def Y4 (_L:LC) (H:AH) (a0:Option Addr) (a1 a2:Int):Option Int :=
 Option.bind (α:=Bool) (
  if a1=0 then
   some true
  else
   if a2=0 then
    some true
   else
    a0.bind fun q2 => (rd (deI .i64) H (Addr.add q2 1)).bind fun x3 => if a2=0 then none else
    some (decide (a1 > (IntKind.i64.wrap (Int.tdiv x3 a2))))) fun v22_1 =>
 if v22_1=true then
  some 0
 else
  some (IntKind.i64.wrap (a1*a2))
theorem zd {L:LC} {m:Nat} {H:AH} {a0:Option Addr} {a1 a2 r:Int} (h:Y4 L H a0 a1 a2=some r) :
  CallS Tryz.prog (NE.plain 1000) m 34 #[(vP a0),(vI .i64 a1),(vI .i64 a2)] H (z91 r) (z9c H r):=by
 refine CallS.mk (args:=[(vP a0),(vI .i64 a1),(vI .i64 a2)]) Tryz.func34 (B:=B34) (by kernel_rfl) (fun E _=>?_);unfold Y4 at h;refine A0 (C0 (m0 1 [kI 6 0] (B0 (o0 (A0 ?_)))));obtain ⟨v22_1,hx,h⟩:=bind_some h;refine A0 ?_;refine A1 ([kB 22 v22_1,kI 1 a1,kI 2 a2]) ([]) H ?_ (fun a w hs=>o0 ?_ a w hs)
 ·clear h; rename _=>h;refine C0 (m0 3 [kB 9 (decide (a1=0)),kB 8 (decide (a1=0)),kI 7 a1] ?_);rcases Q1 h with ⟨hp,h⟩ | ⟨hp,h⟩
  ·refine K0 9 true (decide_eq_true hp) (m0 13 [kB 22 true,kU 21,kU 20,kU 19,kU 18,kU 17,kU 16,kU 15,kU 14,kB 13 true,kB 12 true,kU 11,kU 10] (B0 ?_));cases h;exact fun a w hs=>(jsN (hs.sb 0))
  ·refine K0 9 false (decide_eq_false hp) (m0 4 [kB 13 (decide (a2=0)),kB 12 (decide (a2=0)),kB 11 (decide (a2=0)),kI 10 a2] ?_);rcases Q1 h with ⟨hp,h⟩ | ⟨hp,h⟩
   ·refine K0 13 true (decide_eq_true hp) (m0 9 [kB 22 true,kU 21,kU 20,kU 19,kU 18,kU 17,kU 16,kU 15,kU 14] (B0 ?_));cases h;exact fun a w hs=>(jsN (hs.sb 0))
   ·refine K0 13 false (decide_eq_false hp) (m0 2 [(15,.val (vP a0)),kI 14 a1] ?_);obtain ⟨q2,hx,hq2⟩:=bind_some h;subst hx;have h:=hq2;refine m0 2 [(17,.val (vP (some (Addr.add q2 1)))),kP 16 q2] ?_;obtain ⟨x3,hx,h⟩:=bind_some h;refine T0 18 3 (.tmp 17) (O1 hx S1) (m0 1 [kI 19 a2] ?_);rcases Q1 h with ⟨_,h⟩ | ⟨hx,h⟩
    ·cases h
    ·refine P0 (H':=H) (some 20) (vI .i64 (IntKind.i64.wrap (Int.tdiv x3 a2))) (Abs.run_quo (t:=3) (u:=3) (x:=.tmp 18) (y:=.tmp 19) (by kernel_rfl) (by kernel_rfl) (by kernel_rfl) hx) (m0 2 [kB 22 (decide (a1 > (IntKind.i64.wrap (Int.tdiv x3 a2)))),kB 21 (decide (a1 > (IntKind.i64.wrap (Int.tdiv x3 a2))))] (B0 ?_));cases h;exact fun a w hs=>(jsN (hs.sb 0))
 ·clear hx;rcases Q1 h with ⟨hp,h⟩ | ⟨hp,h⟩
  ·refine D0 22 true hp (E0 (A0 (C0 (m0 1 [kI 6 0] (B0 (o0 (I0 ?_)))))));cases h;exact fun a w hs=>sqR (rtR (rS hs))
  ·refine D0 22 false (b_not hp) (F0 (G0 (o0 (A0 (C0 (m0 4 [kI 6 (IntKind.i64.wrap (a1*a2)),kI 25 (IntKind.i64.wrap (a1*a2)),kI 24 a2,kI 23 a1] (B0 (o0 (I0 ?_)))))))));cases h;exact fun a w hs=>rtR (rS hs)
def O2:(Int×AH)→Value
 | (r0,_)=>(vI .i64 r0)
def T2 (_:AH):(Int×AH)→AH:=fun r=>r.2
def Q7:(Int×AH)→Value
 | (r0,_)=>(vI .i64 r0)
def k8 (_:AH):(Int×AH)→AH:=fun r=>r.2
def P6:(Int×AH)→Value
 | (r0,_)=>(vI .i64 r0)
def Z6 (_:AH):(Int×AH)→AH:=fun r=>r.2
noncomputable def B12:Code:=(Tryz.f12.body).getD .skip
noncomputable def M3 (L:LC) (H:AH) (a0:Option Addr) (_a1_0 a1_1:Int) (_a1_2:ByteArray) (_a1_3:Sl3):(Int×Int)→Option (Lp (Int×Int) (Int×AH)):=fun (v5_3,v17_4) =>
 if v17_4<a1_1 then
  (Y4 L H a0 v5_3 2).bind fun x5 => some (.next (x5,(IntKind.i64.wrap (v17_4+1))))
 else
  some (.brk (v5_3,v17_4))
def z7t (_L:LC) (_H:AH) (a0:Option Addr) (a1_0 a1_1:Int) (a1_2:ByteArray) (a1_3:Sl3):(Int×Int)→KN×Lcs:=fun (v5_3,v17_4)=>([kI 5 v5_3,kI 17 v17_4,(0,.val (vP a0)),kI 16 a1_1],[some (25,[(vI .i64 a1_0),(vI .i64 a1_1),(vS a1_2),(Sl3.v a1_3)])])
noncomputable def Y5 (L:LC) (rec_sort_counter_sort:Nat→AH→(Option Addr)→Int→Int→ByteArray→Sl3→Option (Int×AH)) (rec_sort_counter_array:Nat→AH→(Option Addr)→Int→Int→Int→ByteArray→Sl3→Option (Int×AH)) (rec_sort_counter_data:Nat→AH→(Option Addr)→Int→Option (Int×AH)) (m:Nat) (H:AH) (a0:Option Addr) (a1_0 a1_1:Int) (a1_2:ByteArray) (a1_3:Sl3):Option (Int×AH) :=
 Option.bind (α:=(AH×Int)⊕(Int×AH)) (
  if a1_0=1 then
   some (.inl (H,2))
  else
   if a1_0=3 then
    (L.run (M3 L H a0 a1_0 a1_1 a1_2 a1_3) (1,0)).bind fun o=>match o with
    | .inl (v5_6,_) =>
     some (.inl (H,v5_6))
    | .inr r=>((some r).map .inr)
   else
    if a1_0=4 then
     (idxA 4 a1_3 0).bind fun p8 => (rd (deI .i64) H (Addr.add p8 0)).bind fun x9_0 => (rd (deI .i64) H (Addr.add p8 1)).bind fun x9_1 => (rd deS H (Addr.add p8 2)).bind fun x9_2 => (rd deSl H (Addr.add p8 3)).bind fun x9_3 => (rec_sort_counter_sort m H a0 x9_0 x9_1 x9_2 x9_3).bind fun (x10,H11) => (idxA 4 a1_3 1).bind fun p12 => (rd (deI .i64) H11 (Addr.add p12 0)).bind fun x13_0 => (rd (deI .i64) H11 (Addr.add p12 1)).bind fun x13_1 => (rd deS H11 (Addr.add p12 2)).bind fun x13_2 => (rd deSl H11 (Addr.add p12 3)).bind fun x13_3 => (rec_sort_counter_array m H11 a0 x10 x13_0 x13_1 x13_2 x13_3).bind fun (x14,H15) => (rd (deI .i64) H (Addr.add p12 0)).bind fun x16_0 => (rd (deI .i64) H (Addr.add p12 1)).bind fun x16_1 => (rd deS H (Addr.add p12 2)).bind fun x16_2 => (rd deSl H (Addr.add p12 3)).bind fun x16_3 => if x13_0=x16_0 then
      if x13_1=x16_1 then
       if x13_2=x16_2 then
        if x13_3=x16_3 then
         ((some (x14,H15)).map .inr)
        else none
       else none
      else none
     else none
    else
     if a1_0=6 then
      a0.bind fun q17 => (rd deP H (Addr.add q17 0)).bind fun x18 => x18.bind fun q19 => (rd deM H (Addr.add q19 3)).bind fun x20 => (lk1 Tryz.prog 78 (deI .i64) H x20 (vA #[(vI .i64 a1_0),(vS a1_2)])).bind fun x21 => (rd deM H (Addr.add q17 3)).bind fun x22 => (lkM Tryz.prog 73 (deI .i64) H x22 (vI .i64 x21)).bind fun (x23,b24) => Option.bind (α:=(AH×Int)) (
       if b24=true then
        some (H,x23)
       else
        (rec_sort_counter_data m H (some q17) x21).bind fun (x27,H28) => (rd deM H28 (Addr.add q17 3)).bind fun x29 => (upM Tryz.prog m 73 H28 x29 (vI .i64 x21) (vI .i64 x27)).bind fun H30 => some (H30,x27)) fun (H25,v7_26) =>
      some (.inl (H25,v7_26))
     else
      some (.inl (H,0))) fun o=>match o with
 | .inl (H1,v5_2) =>
  a0.bind fun q31 => (rd (deI .i64) H1 (Addr.add q31 1)).bind fun x32 => if v5_2 > x32 then
   some (0,H1)
  else
   some (v5_2,H1)
 | .inr r=>some r
noncomputable def B35:Code:=(Tryz.f35.body).getD .skip
noncomputable def P2 (L:LC) (a0:Option Addr) (a1 _a2_0 _a2_1:Int) (_a2_2:ByteArray) (_a2_3:Sl3) (x1:Int) (H2:AH):(Int×Int)→Option (Lp (Int×Int) (Int×AH)):=fun (v8_3,v17_4) =>
 if v17_4<a1 then
  (Y4 L H2 a0 v8_3 x1).bind fun x5 => if x5=0 then
   some (.brk (x5,v17_4))
  else
   some (.next (x5,(IntKind.i64.wrap (v17_4+1))))
 else
  some (.brk (v8_3,v17_4))
def z6z (_L:LC) (a0:Option Addr) (a1 a2_0 a2_1:Int) (a2_2:ByteArray) (a2_3:Sl3) (x1:Int) (_H2:AH):(Int×Int)→KN×Lcs:=fun (v8_3,v17_4)=>([kI 8 v8_3,kI 17 v17_4,(0,.val (vP a0)),kI 7 x1,kI 16 a1],[some (25,[(vI .i64 a2_0),(vI .i64 a2_1),(vS a2_2),(Sl3.v a2_3)])])
noncomputable def K5 (L:LC) (rec_sort_counter_sort:Nat→AH→(Option Addr)→Int→Int→ByteArray→Sl3→Option (Int×AH)) (m:Nat) (H:AH) (a0:Option Addr) (a1 a2_0 a2_1:Int) (a2_2:ByteArray) (a2_3:Sl3):Option (Int×AH) :=
 (rec_sort_counter_sort m H a0 a2_0 a2_1 a2_2 a2_3).bind fun (x1,H2) => if x1=1 then
  some (1,H2)
 else
  if a1=0 then
   some (0,H2)
  else
   (L.run (P2 L a0 a1 a2_0 a2_1 a2_2 a2_3 x1 H2) (1,0)).bind fun o=>match o with
   | .inl (v8_6,_) =>
    some (v8_6,H2)
   | .inr r=>some r
noncomputable def B36:Code:=(Tryz.f36.body).getD .skip
noncomputable def K3 (L:LC) (rec_sort_counter_sort:Nat→AH→(Option Addr)→Int→Int→ByteArray→Sl3→Option (Int×AH)) (m:Nat) (q1:Addr) (_x11:Sl3) (_v5_13 _v34_14:Int) (_x16_0:ByteArray) (x16_1:Sl3):(AH×Int×Int)→Option (Lp (AH×Int×Int) (Int×AH)):=fun (H17,v8_18,v41_19) =>
 if v41_19<(x16_1.n:Int) then
  (idxA 5 x16_1 v41_19).bind fun p20 => (rd deS H17 (Addr.add p20 0)).bind fun _ => (rd (deI .i64) H17 (Addr.add p20 1)).bind fun x21_1 => (rd (deI .i64) H17 (Addr.add p20 2)).bind fun x21_2 => (rd deS H17 (Addr.add p20 3)).bind fun x21_3 => (rd deSl H17 (Addr.add p20 4)).bind fun x21_4 => (rec_sort_counter_sort m H17 (some q1) x21_1 x21_2 x21_3 x21_4).bind fun (x22,H23) => (Y4 L H23 (some q1) v8_18 x22).bind fun x24 => some (.next (H23,x24,(IntKind.i64.wrap (v41_19+1))))
 else
  some (.brk (H17,v8_18,v41_19))
def z7w (_L:LC) (_rec_sort_counter_sort:Nat→AH→(Option Addr)→Int→Int→ByteArray→Sl3→Option (Int×AH)) (_m:Nat) (q1:Addr) (x11:Sl3) (v5_13 v34_14:Int) (x16_0:ByteArray) (x16_1:Sl3):(AH×Int×Int)→KN×Lcs:=fun (_,v8_18,v41_19)=>([kI 8 v8_18,kI 41 v41_19,kP 0 q1,kI 5 v5_13,kS 32 x11,kI 33 (x11.n:Int),kI 34 v34_14,kS 39 x16_1,kI 40 (x16_1.n:Int)],[some (103,[(vS x16_0),(Sl3.v x16_1)])])
noncomputable def J2 (L:LC) (rec_sort_counter_sort:Nat→AH→(Option Addr)→Int→Int→ByteArray→Sl3→Option (Int×AH)) (m:Nat) (q1:Addr) (x11:Sl3):(AH×Int×Int)→Option (Lp (AH×Int×Int) (Int×AH)):=fun (H12,v5_13,v34_14) =>
 if v34_14<(x11.n:Int) then
  (idxA 2 x11 v34_14).bind fun p15 => (rd deS H12 (Addr.add p15 0)).bind fun x16_0 => (rd deSl H12 (Addr.add p15 1)).bind fun x16_1 => (L.run (K3 L rec_sort_counter_sort m q1 x11 v5_13 v34_14 x16_0 x16_1) (H12,1,0)).bind fun o=>match o with
  | .inl (H25,v8_26,_) =>
   Option.bind (α:=Bool) (
    if v8_26=0 then
     some true
    else
     (rd (deI .i64) H25 (Addr.add q1 1)).bind fun x29 => some (decide (v5_13 > (IntKind.i64.wrap (x29 - v8_26))))) fun v64_28 =>
   if v64_28=true then
    some (.ret (0,H25))
   else
    some (.next (H25,(IntKind.i64.wrap (v5_13+v8_26)),(IntKind.i64.wrap (v34_14+1))))
  | .inr r=>some (.ret r)
 else
  some (.brk (H12,v5_13,v34_14))
def z7v (_L:LC) (_rec_sort_counter_sort:Nat→AH→(Option Addr)→Int→Int→ByteArray→Sl3→Option (Int×AH)) (_m:Nat) (q1:Addr) (x11:Sl3):(AH×Int×Int)→KN×Lcs:=fun (_,v5_13,v34_14)=>([kI 5 v5_13,kI 34 v34_14,kP 0 q1,kS 32 x11,kI 33 (x11.n:Int)],[])
noncomputable def X5 (L:LC) (rec_sort_counter_sort:Nat→AH→(Option Addr)→Int→Int→ByteArray→Sl3→Option (Int×AH)) (m:Nat) (H:AH) (a0:Option Addr) (a1:Int):Option (Int×AH) :=
 a0.bind fun q1 => (rd deSl H (Addr.add q1 2)).bind fun x2 => (idxA 1 x2 a1).bind fun p3 => (rd deSl H p3).bind fun x4 => (idxA 1 x4 a1).bind fun p5 => (rd deB H p5).bind fun x6 => if x6=true then
  some (0,H)
 else
  (rd deP H (Addr.add q1 0)).bind fun x7 => x7.bind fun q8 => (rd deSl H (Addr.add (Addr.add q8 0) 1)).bind fun x9 => (idxA 2 x9 a1).bind fun p10 => (rd deSl H (Addr.add p10 1)).bind fun x11 => (L.run (J2 L rec_sort_counter_sort m q1 x11) (H,0,0)).bind fun o=>match o with
  | .inl (H30,v5_31,_) =>
   some (v5_31,H30)
  | .inr r=>some r
noncomputable def A2 (L:LC) (n:Nat):(Nat→AH→(Option Addr)→Int→Int→ByteArray→Sl3→Option (Int×AH))×(Nat→AH→(Option Addr)→Int→Int→Int→ByteArray→Sl3→Option (Int×AH))×(Nat→AH→(Option Addr)→Int→Option (Int×AH)):=Nat.rec (motive:=fun _=>(Nat→AH→(Option Addr)→Int→Int→ByteArray→Sl3→Option (Int×AH))×(Nat→AH→(Option Addr)→Int→Int→Int→ByteArray→Sl3→Option (Int×AH))×(Nat→AH→(Option Addr)→Int→Option (Int×AH))) ((fun _ _ _ _ _ _ _=>none),(fun _ _ _ _ _ _ _ _=>none),(fun _ _ _ _=>none)) (fun _ p=>(Y5 L p.1 p.2.1 p.2.2,K5 L p.1,X5 L p.1)) n
noncomputable def M8 (L:LC) (m:Nat) (H:AH) (a0:Option Addr) (a1_0 a1_1:Int) (a1_2:ByteArray) (a1_3:Sl3):Option (Int×AH):=((A2 L L.fuel).1) m H a0 a1_0 a1_1 a1_2 a1_3
theorem F7 {E m L H a0 a1_0 a1_1 a1_2 a1_3} :LoopF Tryz.prog (NE.plain 1000) m E Tryz.f12 ((cfst (csnd (csnd (cfst (csnd (csnd (csnd (cfst (csnd (cfst (csnd (csnd B12))))))))))))) (z7t L H a0 a1_0 a1_1 a1_2 a1_3) (fun _=>H) 1 O2 (T2 H) (M3 L H a0 a1_0 a1_1 a1_2 a1_3):=by
 rintro ⟨v5_3,v17_4⟩ o h
 unfold M3 at h;try dsimp only at h
 refine A0 (C0 (m0 1 [kB 18 (decide (v17_4<a1_1))] (B0 (o0 (A0 ?_)))));rcases Q1 h with ⟨hp,h⟩ | ⟨hp,h⟩
 ·refine D0 18 true (decide_eq_true hp) (E0 (G0 (o0 (A0 (J0 2 (C0 (m0 2 [kI 20 v5_3,(19,.val (vP a0))] ?_)))))));obtain ⟨x5,hx,h⟩:=bind_some h;refine N0 (some 21) (v:=(vI .i64 x5)) 34 _ (zd hx) (m0 1 [kI 5 x5] (B0 ?_));refine fun a w hs=>bkN ((o0 ?_ a w hs));refine C0 (m0 2 [kI 17 (IntKind.i64.wrap (v17_4+1)),kI 22 (IntKind.i64.wrap (v17_4+1))] (B0 ?_));cases h;exact fun a w hs=>lsN rfl (hs.sb 1)
 ·refine D0 18 false (decide_eq_false hp) (F0 (WS.ex 1 ?_));cases h;exact fun a w hs=>sqE (lsB rfl (hs.sb 1))
theorem z68 {L:LC} {rec_sort_counter_sort:Nat→AH→(Option Addr)→Int→Int→ByteArray→Sl3→Option (Int×AH)} {rec_sort_counter_array:Nat→AH→(Option Addr)→Int→Int→Int→ByteArray→Sl3→Option (Int×AH)} {rec_sort_counter_data:Nat→AH→(Option Addr)→Int→Option (Int×AH)} (hrec_sort_counter_sort:∀(m:Nat) (H:AH) (a0:Option Addr) (a1_0 a1_1:Int) (a1_2:ByteArray) (a1_3:Sl3) (r:(Int×AH)),rec_sort_counter_sort m H a0 a1_0 a1_1 a1_2 a1_3=some r→CallS Tryz.prog (NE.plain 1000) m 12 #[(vP a0),(vA #[(vI .i64 a1_0),(vI .i64 a1_1),(vS a1_2),(Sl3.v a1_3)])] H (O2 r) (T2 H r)) (hrec_sort_counter_array:∀(m:Nat) (H:AH) (a0:Option Addr) (a1 a2_0 a2_1:Int) (a2_2:ByteArray) (a2_3:Sl3) (r:(Int×AH)),rec_sort_counter_array m H a0 a1 a2_0 a2_1 a2_2 a2_3=some r→CallS Tryz.prog (NE.plain 1000) m 35 #[(vP a0),(vI .i64 a1),(vA #[(vI .i64 a2_0),(vI .i64 a2_1),(vS a2_2),(Sl3.v a2_3)])] H (Q7 r) (k8 H r)) (hrec_sort_counter_data:∀(m:Nat) (H:AH) (a0:Option Addr) (a1:Int) (r:(Int×AH)),rec_sort_counter_data m H a0 a1=some r→CallS Tryz.prog (NE.plain 1000) m 36 #[(vP a0),(vI .i64 a1)] H (P6 r) (Z6 H r)) {m:Nat} {H:AH} {a0:Option Addr} {a1_0 a1_1:Int} {a1_2:ByteArray} {a1_3:Sl3} {r:(Int×AH)} (h:Y5 L rec_sort_counter_sort rec_sort_counter_array rec_sort_counter_data m H a0 a1_0 a1_1 a1_2 a1_3=some r) :
  CallS Tryz.prog (NE.plain 1000) m 12 #[(vP a0),(vA #[(vI .i64 a1_0),(vI .i64 a1_1),(vS a1_2),(Sl3.v a1_3)])] H (O2 r) (T2 H r):=by
 refine CallS.mk (args:=[(vP a0),(vA #[(vI .i64 a1_0),(vI .i64 a1_1),(vS a1_2),(Sl3.v a1_3)])]) Tryz.func12 (B:=B12) (by kernel_rfl) (fun E _=>?_);unfold Y5 at h;refine A0 (C0 (Q0 2 [kI 4 0,kL 3 0 0] ([some (25,[(vI .i64 a1_0),(vI .i64 a1_1),(vS a1_2),(Sl3.v a1_3)])]) (B0 (o0 (A0 (C0 (m0 1 [kI 5 0] (B0 (o0 ?_)))))))));obtain ⟨o,hx,h⟩:=bind_some h;rcases o with ⟨H1,v5_2⟩ | ro
 ·try dsimp only at h
  refine A0 ?_;refine A1 ([kI 5 v5_2,(0,.val (vP a0))]) ([some (25,[(vI .i64 a1_0),(vI .i64 a1_1),(vS a1_2),(Sl3.v a1_3)])]) H1 ?_ (fun a w hs=>o0 ?_ a w hs)
  ·clear h; rename _=>h;refine A0 (C0 (m0 2 [kI 10 a1_0,kL 9 0 0] (B0 (o0 (J0 0 (A0 (C0 (m0 2 [kB 11 (decide (a1_0=1)),kB 12 (decide (a1_0=1))] (B0 ?_)))))))));refine o0 ?_;rcases Q1 h with ⟨hp,h⟩ | ⟨hp,h⟩
   ·refine D0 11 true (decide_eq_true hp) (E0 (C0 (m0 1 [kI 5 2] (B0 ?_))));cases h;exact fun a w hs=>bkN ((jsN (hs.sb 1)))
   ·refine D0 11 false (decide_eq_false hp) (F0 (A0 (C0 (m0 2 [kB 13 (decide (a1_0=3)),kB 14 (decide (a1_0=3))] (B0 (o0 ?_))))));rcases Q1 h with ⟨hp,h⟩ | ⟨hp,h⟩
    ·refine D0 13 true (decide_eq_true hp) (E0 (A0 (C0 (m0 1 [kI 5 1] (B0 (o0 (A0 (C0 (m0 3 [kI 17 0,kI 16 a1_1,kL 15 0 1] ?_)))))))));refine B0 (o0 (J0 1 ?_));obtain ⟨o,hl,h⟩:=bind_some h;rcases o with ⟨v5_6,v17_7⟩ | r
     ·try dsimp only at h
      refine S0 (F7 (L:=L) (E:=E) (m:=m) (H:=H)) (L.ok hl) 1 ?_;clear hl;cases h;exact fun a w hs=>bkE (bkN ((jsN (hs.sb 1))))
     ·try dsimp only at h
      refine R0 (F7 (L:=L) (E:=E) (m:=m) (H:=H)) (L.ok hl) 1 ?_;exact (zln h).elim
    ·refine D0 13 false (decide_eq_false hp) (F0 (A0 (C0 (m0 2 [kB 23 (decide (a1_0=4)),kB 24 (decide (a1_0=4))] (B0 (o0 ?_))))));rcases Q1 h with ⟨hp,h⟩ | ⟨hp,h⟩
     ·refine D0 23 true (decide_eq_true hp) (E0 (A0 ?_));obtain ⟨p8,hx_4,h⟩:=bind_some h;obtain ⟨x9_0,hx0_5,h⟩:=bind_some h;obtain ⟨x9_1,hx1_5,h⟩:=bind_some h;obtain ⟨x9_2,hx2_5,h⟩:=bind_some h;obtain ⟨x9_3,hx3_5,h⟩:=bind_some h;obtain ⟨⟨x10,H11⟩,hx_6,h⟩:=bind_some h;try dsimp only at h
      obtain ⟨p12,hx_9,h⟩:=bind_some h;obtain ⟨x13_0,hx0_10,h⟩:=bind_some h;obtain ⟨x13_1,hx1_10,h⟩:=bind_some h;obtain ⟨x13_2,hx2_10,h⟩:=bind_some h;obtain ⟨x13_3,hx3_10,h⟩:=bind_some h;obtain ⟨⟨x14,H15⟩,hx_11,h⟩:=bind_some h;try dsimp only at h
      obtain ⟨x16_0,hx0_10_1,h⟩:=bind_some h;obtain ⟨x16_1,hx1_10_1,h⟩:=bind_some h;obtain ⟨x16_2,hx2_10_1,h⟩:=bind_some h;obtain ⟨x16_3,hx3_10_1,h⟩:=bind_some h;rcases Q1 h with ⟨he,h⟩ | ⟨_,h⟩; rotate_left; cases h;rw [← he] at hx0_10_1;clear he;rcases Q1 h with ⟨he,h⟩ | ⟨_,h⟩; rotate_left; cases h;rw [← he] at hx1_10_1;clear he;rcases Q1 h with ⟨he,h⟩ | ⟨_,h⟩; rotate_left; cases h;rw [← he] at hx2_10_1;clear he;rcases Q1 h with ⟨he,h⟩ | ⟨_,h⟩; rotate_left; cases h;rw [← he] at hx3_10_1;clear he;refine WS.toone ([kI 4 x14]) ([some (25,[(vI .i64 a1_0),(vI .i64 a1_1),(vS a1_2),(Sl3.v a1_3)])]) H15 ?_ ?_
      ·clear h;refine D1 [] [0,0,0,4,12,28,62,0,128,384,896,2047,4095] 13 (fun hcl=>?_);refine M0 0 (some 25) (vP a0) (M0 1 (some 26) (vP a0) (F1 2 (some 27) (.loc 0 3) (F1 7 (some 32) (.loc 0 3) ?_)));refine E1 3 8 (by kernel_rfl) ?_ ?_
       ·refine B1 3 (some 28) (.val (Sl3.v a1_3)) ([some (25,[(vI .i64 a1_0),(vI .i64 a1_1),(vS a1_2),(Sl3.v a1_3)])]) false (J1 4 (some 29) (vP (some p8)) (Abs.det_idx (s:=a1_3) (k:=.i64) (t:=23) (e:=25) (x:=.tmp 28) (y:=.const (vI .i64 0)) (by kernel_rfl) (by kernel_rfl) (by kernel_rfl) (by kernel_rfl) (by kernel_rfl) hx_4) ?_);refine E1 5 8 (by kernel_rfl) ?_ ?_
        ·refine Y0 (H':=H) 5 (some 30) (vA #[(vI .i64 x9_0),(vI .i64 x9_1),(vS x9_2),(Sl3.v x9_3)]) (Abs.run_loadAg (t:=25) (x:=.tmp 29) (a:=p8) (k:=4) (by kernel_rfl) (by kernel_rfl) (by kernel_rfl) (by kernel_rfl) (P1 (O1 hx0_5 S1) (P1 (O1 hx1_5 S1) (P1 (O1 hx2_5 T1) (P1 (O1 hx3_5 R1) U1))))) ?_;refine E1 6 8 (by kernel_rfl) ?_ ?_
         ·refine X0 6 (some 31) (v:=(vI .i64 x10)) 12 _ (hrec_sort_counter_sort _ _ _ _ _ _ _ _ hx_6) (DA.on 8 (B1 8 (some 33) (.val (Sl3.v a1_3)) ([some (25,[(vI .i64 a1_0),(vI .i64 a1_1),(vS a1_2),(Sl3.v a1_3)])]) false (J1 9 (some 34) (vP (some p12)) (Abs.det_idx (s:=a1_3) (k:=.i64) (t:=23) (e:=25) (x:=.tmp 33) (y:=.const (vI .i64 1)) (by kernel_rfl) (by kernel_rfl) (by kernel_rfl) (by kernel_rfl) (by kernel_rfl) hx_9) (DA.on 10 (Y0 (H':=H11) 10 (some 35) (vA #[(vI .i64 x13_0),(vI .i64 x13_1),(vS x13_2),(Sl3.v x13_3)]) (Abs.run_loadAg (t:=25) (x:=.tmp 34) (a:=p12) (k:=4) (by kernel_rfl) (by kernel_rfl) (by kernel_rfl) (by kernel_rfl) (P1 (O1 hx0_10 S1) (P1 (O1 hx1_10 S1) (P1 (O1 hx2_10 T1) (P1 (O1 hx3_10 R1) U1))))) (DA.on 11 (X0 11 (some 36) (v:=(vI .i64 x14)) 35 _ (hrec_sort_counter_array _ _ _ _ _ _ _ _ _ hx_11) (M0 12 (some 4) (vI .i64 x14) (W0 ?_)))))))));exact fun a w hs=>jsN (hs.sb 1)
         ·refine B1 8 (some 33) (.val (Sl3.v a1_3)) ([some (25,[(vI .i64 a1_0),(vI .i64 a1_1),(vS a1_2),(Sl3.v a1_3)])]) false (J1 9 (some 34) (vP (some p12)) (Abs.det_idx (s:=a1_3) (k:=.i64) (t:=23) (e:=25) (x:=.tmp 33) (y:=.const (vI .i64 1)) (by kernel_rfl) (by kernel_rfl) (by kernel_rfl) (by kernel_rfl) (by kernel_rfl) hx_9) ?_);refine E1 6 10 (by kernel_rfl) ?_ ?_
          ·refine X0 6 (some 31) (v:=(vI .i64 x10)) 12 _ (hrec_sort_counter_sort _ _ _ _ _ _ _ _ hx_6) (DA.on 10 (Y0 (H':=H11) 10 (some 35) (vA #[(vI .i64 x13_0),(vI .i64 x13_1),(vS x13_2),(Sl3.v x13_3)]) (Abs.run_loadAg (t:=25) (x:=.tmp 34) (a:=p12) (k:=4) (by kernel_rfl) (by kernel_rfl) (by kernel_rfl) (by kernel_rfl) (P1 (O1 hx0_10 S1) (P1 (O1 hx1_10 S1) (P1 (O1 hx2_10 T1) (P1 (O1 hx3_10 R1) U1))))) (DA.on 11 (X0 11 (some 36) (v:=(vI .i64 x14)) 35 _ (hrec_sort_counter_array _ _ _ _ _ _ _ _ _ hx_11) (M0 12 (some 4) (vI .i64 x14) (W0 ?_))))));exact fun a w hs=>jsN (hs.sb 1)
          ·refine Y0 (H':=H) 10 (some 35) (vA #[(vI .i64 x13_0),(vI .i64 x13_1),(vS x13_2),(Sl3.v x13_3)]) (Abs.run_loadAg (t:=25) (x:=.tmp 34) (a:=p12) (k:=4) (by kernel_rfl) (by kernel_rfl) (by kernel_rfl) (by kernel_rfl) (P1 (O1 hx0_10_1 S1) (P1 (O1 hx1_10_1 S1) (P1 (O1 hx2_10_1 T1) (P1 (O1 hx3_10_1 R1) U1))))) (DA.on 6 (X0 6 (some 31) (v:=(vI .i64 x10)) 12 _ (hrec_sort_counter_sort _ _ _ _ _ _ _ _ hx_6) (DA.on 11 (X0 11 (some 36) (v:=(vI .i64 x14)) 35 _ (hrec_sort_counter_array _ _ _ _ _ _ _ _ _ hx_11) (M0 12 (some 4) (vI .i64 x14) (W0 ?_))))));exact fun a w hs=>jsN (hs.sb 1)
        ·refine B1 8 (some 33) (.val (Sl3.v a1_3)) ([some (25,[(vI .i64 a1_0),(vI .i64 a1_1),(vS a1_2),(Sl3.v a1_3)])]) false (J1 9 (some 34) (vP (some p12)) (Abs.det_idx (s:=a1_3) (k:=.i64) (t:=23) (e:=25) (x:=.tmp 33) (y:=.const (vI .i64 1)) (by kernel_rfl) (by kernel_rfl) (by kernel_rfl) (by kernel_rfl) (by kernel_rfl) hx_9) ?_);refine E1 5 10 (by kernel_rfl) ?_ ?_
         ·refine Y0 (H':=H) 5 (some 30) (vA #[(vI .i64 x9_0),(vI .i64 x9_1),(vS x9_2),(Sl3.v x9_3)]) (Abs.run_loadAg (t:=25) (x:=.tmp 29) (a:=p8) (k:=4) (by kernel_rfl) (by kernel_rfl) (by kernel_rfl) (by kernel_rfl) (P1 (O1 hx0_5 S1) (P1 (O1 hx1_5 S1) (P1 (O1 hx2_5 T1) (P1 (O1 hx3_5 R1) U1))))) ?_;refine E1 6 10 (by kernel_rfl) ?_ ?_
          ·refine X0 6 (some 31) (v:=(vI .i64 x10)) 12 _ (hrec_sort_counter_sort _ _ _ _ _ _ _ _ hx_6) (DA.on 10 (Y0 (H':=H11) 10 (some 35) (vA #[(vI .i64 x13_0),(vI .i64 x13_1),(vS x13_2),(Sl3.v x13_3)]) (Abs.run_loadAg (t:=25) (x:=.tmp 34) (a:=p12) (k:=4) (by kernel_rfl) (by kernel_rfl) (by kernel_rfl) (by kernel_rfl) (P1 (O1 hx0_10 S1) (P1 (O1 hx1_10 S1) (P1 (O1 hx2_10 T1) (P1 (O1 hx3_10 R1) U1))))) (DA.on 11 (X0 11 (some 36) (v:=(vI .i64 x14)) 35 _ (hrec_sort_counter_array _ _ _ _ _ _ _ _ _ hx_11) (M0 12 (some 4) (vI .i64 x14) (W0 ?_))))));exact fun a w hs=>jsN (hs.sb 1)
          ·refine Y0 (H':=H) 10 (some 35) (vA #[(vI .i64 x13_0),(vI .i64 x13_1),(vS x13_2),(Sl3.v x13_3)]) (Abs.run_loadAg (t:=25) (x:=.tmp 34) (a:=p12) (k:=4) (by kernel_rfl) (by kernel_rfl) (by kernel_rfl) (by kernel_rfl) (P1 (O1 hx0_10_1 S1) (P1 (O1 hx1_10_1 S1) (P1 (O1 hx2_10_1 T1) (P1 (O1 hx3_10_1 R1) U1))))) (DA.on 6 (X0 6 (some 31) (v:=(vI .i64 x10)) 12 _ (hrec_sort_counter_sort _ _ _ _ _ _ _ _ hx_6) (DA.on 11 (X0 11 (some 36) (v:=(vI .i64 x14)) 35 _ (hrec_sort_counter_array _ _ _ _ _ _ _ _ _ hx_11) (M0 12 (some 4) (vI .i64 x14) (W0 ?_))))));exact fun a w hs=>jsN (hs.sb 1)
         ·refine Y0 (H':=H) 10 (some 35) (vA #[(vI .i64 x13_0),(vI .i64 x13_1),(vS x13_2),(Sl3.v x13_3)]) (Abs.run_loadAg (t:=25) (x:=.tmp 34) (a:=p12) (k:=4) (by kernel_rfl) (by kernel_rfl) (by kernel_rfl) (by kernel_rfl) (P1 (O1 hx0_10_1 S1) (P1 (O1 hx1_10_1 S1) (P1 (O1 hx2_10_1 T1) (P1 (O1 hx3_10_1 R1) U1))))) (DA.on 5 (Y0 (H':=H) 5 (some 30) (vA #[(vI .i64 x9_0),(vI .i64 x9_1),(vS x9_2),(Sl3.v x9_3)]) (Abs.run_loadAg (t:=25) (x:=.tmp 29) (a:=p8) (k:=4) (by kernel_rfl) (by kernel_rfl) (by kernel_rfl) (by kernel_rfl) (P1 (O1 hx0_5 S1) (P1 (O1 hx1_5 S1) (P1 (O1 hx2_5 T1) (P1 (O1 hx3_5 R1) U1))))) (DA.on 6 (X0 6 (some 31) (v:=(vI .i64 x10)) 12 _ (hrec_sort_counter_sort _ _ _ _ _ _ _ _ hx_6) (DA.on 11 (X0 11 (some 36) (v:=(vI .i64 x14)) 35 _ (hrec_sort_counter_array _ _ _ _ _ _ _ _ _ hx_11) (M0 12 (some 4) (vI .i64 x14) (W0 ?_))))))));exact fun a w hs=>jsN (hs.sb 1)
       ·refine B1 8 (some 33) (.val (Sl3.v a1_3)) ([some (25,[(vI .i64 a1_0),(vI .i64 a1_1),(vS a1_2),(Sl3.v a1_3)])]) false (J1 9 (some 34) (vP (some p12)) (Abs.det_idx (s:=a1_3) (k:=.i64) (t:=23) (e:=25) (x:=.tmp 33) (y:=.const (vI .i64 1)) (by kernel_rfl) (by kernel_rfl) (by kernel_rfl) (by kernel_rfl) (by kernel_rfl) hx_9) ?_);refine E1 3 10 (by kernel_rfl) ?_ ?_
        ·refine B1 3 (some 28) (.val (Sl3.v a1_3)) ([some (25,[(vI .i64 a1_0),(vI .i64 a1_1),(vS a1_2),(Sl3.v a1_3)])]) false (J1 4 (some 29) (vP (some p8)) (Abs.det_idx (s:=a1_3) (k:=.i64) (t:=23) (e:=25) (x:=.tmp 28) (y:=.const (vI .i64 0)) (by kernel_rfl) (by kernel_rfl) (by kernel_rfl) (by kernel_rfl) (by kernel_rfl) hx_4) ?_);refine E1 5 10 (by kernel_rfl) ?_ ?_
         ·refine Y0 (H':=H) 5 (some 30) (vA #[(vI .i64 x9_0),(vI .i64 x9_1),(vS x9_2),(Sl3.v x9_3)]) (Abs.run_loadAg (t:=25) (x:=.tmp 29) (a:=p8) (k:=4) (by kernel_rfl) (by kernel_rfl) (by kernel_rfl) (by kernel_rfl) (P1 (O1 hx0_5 S1) (P1 (O1 hx1_5 S1) (P1 (O1 hx2_5 T1) (P1 (O1 hx3_5 R1) U1))))) ?_;refine E1 6 10 (by kernel_rfl) ?_ ?_
          ·refine X0 6 (some 31) (v:=(vI .i64 x10)) 12 _ (hrec_sort_counter_sort _ _ _ _ _ _ _ _ hx_6) (DA.on 10 (Y0 (H':=H11) 10 (some 35) (vA #[(vI .i64 x13_0),(vI .i64 x13_1),(vS x13_2),(Sl3.v x13_3)]) (Abs.run_loadAg (t:=25) (x:=.tmp 34) (a:=p12) (k:=4) (by kernel_rfl) (by kernel_rfl) (by kernel_rfl) (by kernel_rfl) (P1 (O1 hx0_10 S1) (P1 (O1 hx1_10 S1) (P1 (O1 hx2_10 T1) (P1 (O1 hx3_10 R1) U1))))) (DA.on 11 (X0 11 (some 36) (v:=(vI .i64 x14)) 35 _ (hrec_sort_counter_array _ _ _ _ _ _ _ _ _ hx_11) (M0 12 (some 4) (vI .i64 x14) (W0 ?_))))));exact fun a w hs=>jsN (hs.sb 1)
          ·refine Y0 (H':=H) 10 (some 35) (vA #[(vI .i64 x13_0),(vI .i64 x13_1),(vS x13_2),(Sl3.v x13_3)]) (Abs.run_loadAg (t:=25) (x:=.tmp 34) (a:=p12) (k:=4) (by kernel_rfl) (by kernel_rfl) (by kernel_rfl) (by kernel_rfl) (P1 (O1 hx0_10_1 S1) (P1 (O1 hx1_10_1 S1) (P1 (O1 hx2_10_1 T1) (P1 (O1 hx3_10_1 R1) U1))))) (DA.on 6 (X0 6 (some 31) (v:=(vI .i64 x10)) 12 _ (hrec_sort_counter_sort _ _ _ _ _ _ _ _ hx_6) (DA.on 11 (X0 11 (some 36) (v:=(vI .i64 x14)) 35 _ (hrec_sort_counter_array _ _ _ _ _ _ _ _ _ hx_11) (M0 12 (some 4) (vI .i64 x14) (W0 ?_))))));exact fun a w hs=>jsN (hs.sb 1)
         ·refine Y0 (H':=H) 10 (some 35) (vA #[(vI .i64 x13_0),(vI .i64 x13_1),(vS x13_2),(Sl3.v x13_3)]) (Abs.run_loadAg (t:=25) (x:=.tmp 34) (a:=p12) (k:=4) (by kernel_rfl) (by kernel_rfl) (by kernel_rfl) (by kernel_rfl) (P1 (O1 hx0_10_1 S1) (P1 (O1 hx1_10_1 S1) (P1 (O1 hx2_10_1 T1) (P1 (O1 hx3_10_1 R1) U1))))) (DA.on 5 (Y0 (H':=H) 5 (some 30) (vA #[(vI .i64 x9_0),(vI .i64 x9_1),(vS x9_2),(Sl3.v x9_3)]) (Abs.run_loadAg (t:=25) (x:=.tmp 29) (a:=p8) (k:=4) (by kernel_rfl) (by kernel_rfl) (by kernel_rfl) (by kernel_rfl) (P1 (O1 hx0_5 S1) (P1 (O1 hx1_5 S1) (P1 (O1 hx2_5 T1) (P1 (O1 hx3_5 R1) U1))))) (DA.on 6 (X0 6 (some 31) (v:=(vI .i64 x10)) 12 _ (hrec_sort_counter_sort _ _ _ _ _ _ _ _ hx_6) (DA.on 11 (X0 11 (some 36) (v:=(vI .i64 x14)) 35 _ (hrec_sort_counter_array _ _ _ _ _ _ _ _ _ hx_11) (M0 12 (some 4) (vI .i64 x14) (W0 ?_))))))));exact fun a w hs=>jsN (hs.sb 1)
        ·refine Y0 (H':=H) 10 (some 35) (vA #[(vI .i64 x13_0),(vI .i64 x13_1),(vS x13_2),(Sl3.v x13_3)]) (Abs.run_loadAg (t:=25) (x:=.tmp 34) (a:=p12) (k:=4) (by kernel_rfl) (by kernel_rfl) (by kernel_rfl) (by kernel_rfl) (P1 (O1 hx0_10_1 S1) (P1 (O1 hx1_10_1 S1) (P1 (O1 hx2_10_1 T1) (P1 (O1 hx3_10_1 R1) U1))))) (DA.on 3 (B1 3 (some 28) (.val (Sl3.v a1_3)) ([some (25,[(vI .i64 a1_0),(vI .i64 a1_1),(vS a1_2),(Sl3.v a1_3)])]) false (J1 4 (some 29) (vP (some p8)) (Abs.det_idx (s:=a1_3) (k:=.i64) (t:=23) (e:=25) (x:=.tmp 28) (y:=.const (vI .i64 0)) (by kernel_rfl) (by kernel_rfl) (by kernel_rfl) (by kernel_rfl) (by kernel_rfl) hx_4) (DA.on 5 (Y0 (H':=H) 5 (some 30) (vA #[(vI .i64 x9_0),(vI .i64 x9_1),(vS x9_2),(Sl3.v x9_3)]) (Abs.run_loadAg (t:=25) (x:=.tmp 29) (a:=p8) (k:=4) (by kernel_rfl) (by kernel_rfl) (by kernel_rfl) (by kernel_rfl) (P1 (O1 hx0_5 S1) (P1 (O1 hx1_5 S1) (P1 (O1 hx2_5 T1) (P1 (O1 hx3_5 R1) U1))))) (DA.on 6 (X0 6 (some 31) (v:=(vI .i64 x10)) 12 _ (hrec_sort_counter_sort _ _ _ _ _ _ _ _ hx_6) (DA.on 11 (X0 11 (some 36) (v:=(vI .i64 x14)) 35 _ (hrec_sort_counter_array _ _ _ _ _ _ _ _ _ hx_11) ?_)))))))));refine M0 12 (some 4) (vI .i64 x14) (W0 ?_);exact fun a w hs=>jsN (hs.sb 1)
      ·refine o0 (I0 ?_);exact (zln h).elim
     ·refine D0 23 false (decide_eq_false hp) (F0 (A0 (C0 (m0 2 [kB 37 (decide (a1_0=6)),kB 38 (decide (a1_0=6))] (B0 (o0 ?_))))));rcases Q1 h with ⟨hp,h⟩ | ⟨hp,h⟩
      ·refine D0 37 true (decide_eq_true hp) (E0 (A0 ?_));refine D1 [0,1,2,3,4,5,6,7,8,9,10,11,12] [0,1,3,7,15,31,63,0,128,0,512,1920,4095,8191] 14 (fun hcl=>?_);refine U0 0 (some 39) (vP a0) ?_;obtain ⟨q17,hx,hq17⟩:=bind_some h;subst hx;have h:=hq17;refine U0 1 (some 40) (vP (some q17)) (U0 2 (some 41) (vP (some (Addr.add q17 0))) ?_);obtain ⟨x18,hx,h⟩:=bind_some h;refine Z0 3 (some 42) (vP x18) (Abs.det_load (t:=63) (x:=.tmp 41) (a:=(Addr.add q17 0)) (by kernel_rfl) (by kernel_rfl) (by kernel_rfl) (by kernel_rfl) (O1 hx U8)) ?_;obtain ⟨q19,hx,hq19⟩:=bind_some h;subst hx;have h:=hq19;refine U0 4 (some 43) (vP (some q19)) (U0 5 (some 44) (vP (some (Addr.add q19 3))) ?_);obtain ⟨x20,hx,h⟩:=bind_some h;refine Z0 6 (some 45) (Value.map x20) (Abs.det_load (t:=78) (x:=.tmp 44) (a:=(Addr.add q19 3)) (by kernel_rfl) (by kernel_rfl) (by kernel_rfl) (by kernel_rfl) (O1 hx O7)) (V0 7 (some 46) (.loc 0 0) (V0 8 (some 47) (.val (vI .i64 a1_0)) (V0 9 (some 48) (.loc 0 2) (V0 10 (some 49) (.val (vS a1_2)) (U0 11 (some 50) (vA #[(vI .i64 a1_0),(vS a1_2)]) ?_)))));obtain ⟨x21,hx,h⟩:=bind_some h;refine Z0 12 (some 51) (vI .i64 x21) (Abs.det_look (t:=78) (x:=.tmp 45) (y:=.tmp 50) (mm:=x20) (k:=(vA #[(vI .i64 a1_0),(vS a1_2)])) (by kernel_rfl) (by kernel_rfl) (by kernel_rfl) (by kernel_rfl) (lk1_eq hx S1)) (M0 13 (some 6) (vI .i64 x21) (W0 (o0 (A0 (C0 (m0 3 [(55,.val (vP (some (Addr.add q17 3)))),kP 54 q17,kP 53 q17] ?_))))));obtain ⟨x22,hx,h⟩:=bind_some h;refine T0 56 73 (.tmp 55) (O1 hx O7) (m0 1 [kI 57 x21] ?_);obtain ⟨⟨x23,b24⟩,hx,h⟩:=bind_some h;try dsimp only at h
       refine P0 (H':=H) (some 58) (Value.tuple #[(vI .i64 x23),(vB b24)]) (Abs.run_look (t:=73) (x:=.tmp 56) (y:=.tmp 57) (mm:=x22) (k:=(vI .i64 x21)) (by kernel_rfl) (by kernel_rfl) (by kernel_rfl) (by kernel_rfl) (lkM_eq hx S1)) (m0 5 [kB 8 b24,kI 7 x23,kB 60 b24,kI 59 x23,(52,.val (Value.tuple #[(vI .i64 x23),(vB b24)]))] (B0 (o0 ?_)));obtain ⟨⟨H25,v7_26⟩,hx,h⟩:=bind_some h;try dsimp only at h
       refine A0 ?_;refine A1 ([kI 7 v7_26,kP 0 q17]) ([some (25,[(vI .i64 a1_0),(vI .i64 a1_1),(vS a1_2),(Sl3.v a1_3)])]) H25 ?_ (fun a w hs=>o0 ?_ a w hs)
       ·clear h; rename _=>h;refine A0 (C0 (m0 2 [kB 62 (!b24),kB 61 b24] (B0 (o0 ?_))));rcases Q1 h with ⟨hp,h⟩ | ⟨hp,h⟩
        ·refine D0 62 false (nb_not hp) (F0 (G0 ?_));cases h;exact fun a w hs=>(jsN (hs.sb 1))
        ·refine D0 62 true (W2 hp) (E0 (A0 (C0 (m0 2 [kI 64 x21,kP 63 q17] ?_))));obtain ⟨⟨x27,H28⟩,hx,h⟩:=bind_some h;try dsimp only at h
         refine N0 (some 65) (v:=(vI .i64 x27)) 36 _ (hrec_sort_counter_data _ _ _ _ _ hx) (m0 1 [kI 7 x27] (B0 (o0 (C0 (m0 3 [(68,.val (vP (some (Addr.add q17 3)))),kP 67 q17,kP 66 q17] ?_)))));obtain ⟨x29,hx,h⟩:=bind_some h;refine T0 69 73 (.tmp 68) (O1 hx O7) (m0 2 [kI 71 x27,kI 70 x21] ?_);obtain ⟨H30,hx,h⟩:=bind_some h;refine P0 (H':=H30) none undef (Abs.run_upM (t:=73) (x:=.tmp 69) (y:=.tmp 70) (z:=.tmp 71) (mm:=x29) (k:=(vI .i64 x21)) (v:=(vI .i64 x27)) (by kernel_rfl) (by kernel_rfl) (by kernel_rfl) (by kernel_rfl) (by kernel_rfl) hx) (B0 ?_);cases h;exact fun a w hs=>(jsN (hs.sb 1))
       ·clear hx;refine C0 (m0 2 [kI 5 v7_26,kI 72 v7_26] (B0 ?_));cases h;exact fun a w hs=>bkN ((jsN (hs.sb 1)))
      ·refine D0 37 false (decide_eq_false hp) (F0 (G0 ?_));cases h;exact fun a w hs=>bkN ((jsN (hs.sb 1)))
  ·clear hx;refine A0 (A0 (C0 (m0 2 [(74,.val (vP a0)),kI 73 v5_2] ?_)));obtain ⟨q31,hx,hq31⟩:=bind_some h;subst hx;have h:=hq31;refine m0 2 [(76,.val (vP (some (Addr.add q31 1)))),kP 75 q31] ?_;obtain ⟨x32,hx,h⟩:=bind_some h;refine T0 77 3 (.tmp 76) (O1 hx S1) (m0 1 [kB 78 (decide (v5_2 > x32))] (B0 (o0 ?_)));rcases Q1 h with ⟨hp,h⟩ | ⟨hp,h⟩
   ·refine D0 78 true (decide_eq_true hp) (E0 (A0 (C0 (m0 1 [kI 4 0] (B0 (o0 (I0 ?_)))))));cases h;exact fun a w hs=>sqR (rtR (rS hs))
   ·refine D0 78 false (decide_eq_false hp) (F0 (G0 (o0 (A0 (C0 (m0 2 [kI 4 v5_2,kI 79 v5_2] (B0 (o0 (I0 ?_)))))))));cases h;exact fun a w hs=>rtR (rS hs)
 ·cases h; rename _=>h;refine A0 (A0 (C0 (m0 2 [kI 10 a1_0,kL 9 0 0] (B0 (o0 (J0 0 (A0 (C0 (m0 2 [kB 11 (decide (a1_0=1)),kB 12 (decide (a1_0=1))] ?_)))))))));refine B0 (o0 ?_);rcases Q1 h with ⟨hp,h⟩ | ⟨hp,h⟩
  ·refine D0 11 true (decide_eq_true hp) (E0 (C0 (m0 1 [kI 5 2] (B0 ?_))));cases h
  ·refine D0 11 false (decide_eq_false hp) (F0 (A0 (C0 (m0 2 [kB 13 (decide (a1_0=3)),kB 14 (decide (a1_0=3))] (B0 (o0 ?_))))));rcases Q1 h with ⟨hp,h⟩ | ⟨hp,h⟩
   ·refine D0 13 true (decide_eq_true hp) (E0 (A0 (C0 (m0 1 [kI 5 1] (B0 (o0 (A0 (C0 (m0 3 [kI 17 0,kI 16 a1_1,kL 15 0 1] ?_)))))))));refine B0 (o0 (J0 1 ?_));obtain ⟨o,hl,h⟩:=bind_some h;rcases o with ⟨v5_6,v17_7⟩ | r
    ·try dsimp only at h
     refine S0 (F7 (L:=L) (E:=E) (m:=m) (H:=H)) (L.ok hl) 1 ?_;clear hl;cases h
    ·try dsimp only at h
     refine R0 (F7 (L:=L) (E:=E) (m:=m) (H:=H)) (L.ok hl) 1 ?_
     replace h:=zll h
     cases h;exact fun a w hq=>bkR (bkR (sqR (rtR hq)))
   ·refine D0 13 false (decide_eq_false hp) (F0 (A0 (C0 (m0 2 [kB 23 (decide (a1_0=4)),kB 24 (decide (a1_0=4))] (B0 (o0 ?_))))));rcases Q1 h with ⟨hp,h⟩ | ⟨hp,h⟩
    ·refine D0 23 true (decide_eq_true hp) (E0 (A0 ?_));obtain ⟨p8,hx_4,h⟩:=bind_some h;obtain ⟨x9_0,hx0_5,h⟩:=bind_some h;obtain ⟨x9_1,hx1_5,h⟩:=bind_some h;obtain ⟨x9_2,hx2_5,h⟩:=bind_some h;obtain ⟨x9_3,hx3_5,h⟩:=bind_some h;obtain ⟨⟨x10,H11⟩,hx_6,h⟩:=bind_some h;try dsimp only at h
     obtain ⟨p12,hx_9,h⟩:=bind_some h;obtain ⟨x13_0,hx0_10,h⟩:=bind_some h;obtain ⟨x13_1,hx1_10,h⟩:=bind_some h;obtain ⟨x13_2,hx2_10,h⟩:=bind_some h;obtain ⟨x13_3,hx3_10,h⟩:=bind_some h;obtain ⟨⟨x14,H15⟩,hx_11,h⟩:=bind_some h;try dsimp only at h
     obtain ⟨x16_0,hx0_10_1,h⟩:=bind_some h;obtain ⟨x16_1,hx1_10_1,h⟩:=bind_some h;obtain ⟨x16_2,hx2_10_1,h⟩:=bind_some h;obtain ⟨x16_3,hx3_10_1,h⟩:=bind_some h;rcases Q1 h with ⟨he,h⟩ | ⟨_,h⟩; rotate_left; cases h;rw [← he] at hx0_10_1;clear he;rcases Q1 h with ⟨he,h⟩ | ⟨_,h⟩; rotate_left; cases h;rw [← he] at hx1_10_1;clear he;rcases Q1 h with ⟨he,h⟩ | ⟨_,h⟩; rotate_left; cases h;rw [← he] at hx2_10_1;clear he;rcases Q1 h with ⟨he,h⟩ | ⟨_,h⟩; rotate_left; cases h;rw [← he] at hx3_10_1;clear he;refine WS.toone ([kI 4 x14]) ([some (25,[(vI .i64 a1_0),(vI .i64 a1_1),(vS a1_2),(Sl3.v a1_3)])]) H15 ?_ ?_
     ·clear h;refine D1 [] [0,0,0,4,12,28,62,0,128,384,896,2047,4095] 13 (fun hcl=>?_);refine M0 0 (some 25) (vP a0) (M0 1 (some 26) (vP a0) (F1 2 (some 27) (.loc 0 3) (F1 7 (some 32) (.loc 0 3) ?_)));refine E1 3 8 (by kernel_rfl) ?_ ?_
      ·refine B1 3 (some 28) (.val (Sl3.v a1_3)) ([some (25,[(vI .i64 a1_0),(vI .i64 a1_1),(vS a1_2),(Sl3.v a1_3)])]) false (J1 4 (some 29) (vP (some p8)) (Abs.det_idx (s:=a1_3) (k:=.i64) (t:=23) (e:=25) (x:=.tmp 28) (y:=.const (vI .i64 0)) (by kernel_rfl) (by kernel_rfl) (by kernel_rfl) (by kernel_rfl) (by kernel_rfl) hx_4) ?_);refine E1 5 8 (by kernel_rfl) ?_ ?_
       ·refine Y0 (H':=H) 5 (some 30) (vA #[(vI .i64 x9_0),(vI .i64 x9_1),(vS x9_2),(Sl3.v x9_3)]) (Abs.run_loadAg (t:=25) (x:=.tmp 29) (a:=p8) (k:=4) (by kernel_rfl) (by kernel_rfl) (by kernel_rfl) (by kernel_rfl) (P1 (O1 hx0_5 S1) (P1 (O1 hx1_5 S1) (P1 (O1 hx2_5 T1) (P1 (O1 hx3_5 R1) U1))))) ?_;refine E1 6 8 (by kernel_rfl) ?_ ?_
        ·refine X0 6 (some 31) (v:=(vI .i64 x10)) 12 _ (hrec_sort_counter_sort _ _ _ _ _ _ _ _ hx_6) (DA.on 8 (B1 8 (some 33) (.val (Sl3.v a1_3)) ([some (25,[(vI .i64 a1_0),(vI .i64 a1_1),(vS a1_2),(Sl3.v a1_3)])]) false (J1 9 (some 34) (vP (some p12)) (Abs.det_idx (s:=a1_3) (k:=.i64) (t:=23) (e:=25) (x:=.tmp 33) (y:=.const (vI .i64 1)) (by kernel_rfl) (by kernel_rfl) (by kernel_rfl) (by kernel_rfl) (by kernel_rfl) hx_9) (DA.on 10 (Y0 (H':=H11) 10 (some 35) (vA #[(vI .i64 x13_0),(vI .i64 x13_1),(vS x13_2),(Sl3.v x13_3)]) (Abs.run_loadAg (t:=25) (x:=.tmp 34) (a:=p12) (k:=4) (by kernel_rfl) (by kernel_rfl) (by kernel_rfl) (by kernel_rfl) (P1 (O1 hx0_10 S1) (P1 (O1 hx1_10 S1) (P1 (O1 hx2_10 T1) (P1 (O1 hx3_10 R1) U1))))) (DA.on 11 (X0 11 (some 36) (v:=(vI .i64 x14)) 35 _ (hrec_sort_counter_array _ _ _ _ _ _ _ _ _ hx_11) (M0 12 (some 4) (vI .i64 x14) (W0 ?_)))))))));exact fun a w hs=>jsN (hs.sb 1)
        ·refine B1 8 (some 33) (.val (Sl3.v a1_3)) ([some (25,[(vI .i64 a1_0),(vI .i64 a1_1),(vS a1_2),(Sl3.v a1_3)])]) false (J1 9 (some 34) (vP (some p12)) (Abs.det_idx (s:=a1_3) (k:=.i64) (t:=23) (e:=25) (x:=.tmp 33) (y:=.const (vI .i64 1)) (by kernel_rfl) (by kernel_rfl) (by kernel_rfl) (by kernel_rfl) (by kernel_rfl) hx_9) ?_);refine E1 6 10 (by kernel_rfl) ?_ ?_
         ·refine X0 6 (some 31) (v:=(vI .i64 x10)) 12 _ (hrec_sort_counter_sort _ _ _ _ _ _ _ _ hx_6) (DA.on 10 (Y0 (H':=H11) 10 (some 35) (vA #[(vI .i64 x13_0),(vI .i64 x13_1),(vS x13_2),(Sl3.v x13_3)]) (Abs.run_loadAg (t:=25) (x:=.tmp 34) (a:=p12) (k:=4) (by kernel_rfl) (by kernel_rfl) (by kernel_rfl) (by kernel_rfl) (P1 (O1 hx0_10 S1) (P1 (O1 hx1_10 S1) (P1 (O1 hx2_10 T1) (P1 (O1 hx3_10 R1) U1))))) (DA.on 11 (X0 11 (some 36) (v:=(vI .i64 x14)) 35 _ (hrec_sort_counter_array _ _ _ _ _ _ _ _ _ hx_11) (M0 12 (some 4) (vI .i64 x14) (W0 ?_))))));exact fun a w hs=>jsN (hs.sb 1)
         ·refine Y0 (H':=H) 10 (some 35) (vA #[(vI .i64 x13_0),(vI .i64 x13_1),(vS x13_2),(Sl3.v x13_3)]) (Abs.run_loadAg (t:=25) (x:=.tmp 34) (a:=p12) (k:=4) (by kernel_rfl) (by kernel_rfl) (by kernel_rfl) (by kernel_rfl) (P1 (O1 hx0_10_1 S1) (P1 (O1 hx1_10_1 S1) (P1 (O1 hx2_10_1 T1) (P1 (O1 hx3_10_1 R1) U1))))) (DA.on 6 (X0 6 (some 31) (v:=(vI .i64 x10)) 12 _ (hrec_sort_counter_sort _ _ _ _ _ _ _ _ hx_6) (DA.on 11 (X0 11 (some 36) (v:=(vI .i64 x14)) 35 _ (hrec_sort_counter_array _ _ _ _ _ _ _ _ _ hx_11) (M0 12 (some 4) (vI .i64 x14) (W0 ?_))))));exact fun a w hs=>jsN (hs.sb 1)
       ·refine B1 8 (some 33) (.val (Sl3.v a1_3)) ([some (25,[(vI .i64 a1_0),(vI .i64 a1_1),(vS a1_2),(Sl3.v a1_3)])]) false (J1 9 (some 34) (vP (some p12)) (Abs.det_idx (s:=a1_3) (k:=.i64) (t:=23) (e:=25) (x:=.tmp 33) (y:=.const (vI .i64 1)) (by kernel_rfl) (by kernel_rfl) (by kernel_rfl) (by kernel_rfl) (by kernel_rfl) hx_9) ?_);refine E1 5 10 (by kernel_rfl) ?_ ?_
        ·refine Y0 (H':=H) 5 (some 30) (vA #[(vI .i64 x9_0),(vI .i64 x9_1),(vS x9_2),(Sl3.v x9_3)]) (Abs.run_loadAg (t:=25) (x:=.tmp 29) (a:=p8) (k:=4) (by kernel_rfl) (by kernel_rfl) (by kernel_rfl) (by kernel_rfl) (P1 (O1 hx0_5 S1) (P1 (O1 hx1_5 S1) (P1 (O1 hx2_5 T1) (P1 (O1 hx3_5 R1) U1))))) ?_;refine E1 6 10 (by kernel_rfl) ?_ ?_
         ·refine X0 6 (some 31) (v:=(vI .i64 x10)) 12 _ (hrec_sort_counter_sort _ _ _ _ _ _ _ _ hx_6) (DA.on 10 (Y0 (H':=H11) 10 (some 35) (vA #[(vI .i64 x13_0),(vI .i64 x13_1),(vS x13_2),(Sl3.v x13_3)]) (Abs.run_loadAg (t:=25) (x:=.tmp 34) (a:=p12) (k:=4) (by kernel_rfl) (by kernel_rfl) (by kernel_rfl) (by kernel_rfl) (P1 (O1 hx0_10 S1) (P1 (O1 hx1_10 S1) (P1 (O1 hx2_10 T1) (P1 (O1 hx3_10 R1) U1))))) (DA.on 11 (X0 11 (some 36) (v:=(vI .i64 x14)) 35 _ (hrec_sort_counter_array _ _ _ _ _ _ _ _ _ hx_11) (M0 12 (some 4) (vI .i64 x14) (W0 ?_))))));exact fun a w hs=>jsN (hs.sb 1)
         ·refine Y0 (H':=H) 10 (some 35) (vA #[(vI .i64 x13_0),(vI .i64 x13_1),(vS x13_2),(Sl3.v x13_3)]) (Abs.run_loadAg (t:=25) (x:=.tmp 34) (a:=p12) (k:=4) (by kernel_rfl) (by kernel_rfl) (by kernel_rfl) (by kernel_rfl) (P1 (O1 hx0_10_1 S1) (P1 (O1 hx1_10_1 S1) (P1 (O1 hx2_10_1 T1) (P1 (O1 hx3_10_1 R1) U1))))) (DA.on 6 (X0 6 (some 31) (v:=(vI .i64 x10)) 12 _ (hrec_sort_counter_sort _ _ _ _ _ _ _ _ hx_6) (DA.on 11 (X0 11 (some 36) (v:=(vI .i64 x14)) 35 _ (hrec_sort_counter_array _ _ _ _ _ _ _ _ _ hx_11) (M0 12 (some 4) (vI .i64 x14) (W0 ?_))))));exact fun a w hs=>jsN (hs.sb 1)
        ·refine Y0 (H':=H) 10 (some 35) (vA #[(vI .i64 x13_0),(vI .i64 x13_1),(vS x13_2),(Sl3.v x13_3)]) (Abs.run_loadAg (t:=25) (x:=.tmp 34) (a:=p12) (k:=4) (by kernel_rfl) (by kernel_rfl) (by kernel_rfl) (by kernel_rfl) (P1 (O1 hx0_10_1 S1) (P1 (O1 hx1_10_1 S1) (P1 (O1 hx2_10_1 T1) (P1 (O1 hx3_10_1 R1) U1))))) (DA.on 5 (Y0 (H':=H) 5 (some 30) (vA #[(vI .i64 x9_0),(vI .i64 x9_1),(vS x9_2),(Sl3.v x9_3)]) (Abs.run_loadAg (t:=25) (x:=.tmp 29) (a:=p8) (k:=4) (by kernel_rfl) (by kernel_rfl) (by kernel_rfl) (by kernel_rfl) (P1 (O1 hx0_5 S1) (P1 (O1 hx1_5 S1) (P1 (O1 hx2_5 T1) (P1 (O1 hx3_5 R1) U1))))) (DA.on 6 (X0 6 (some 31) (v:=(vI .i64 x10)) 12 _ (hrec_sort_counter_sort _ _ _ _ _ _ _ _ hx_6) (DA.on 11 (X0 11 (some 36) (v:=(vI .i64 x14)) 35 _ (hrec_sort_counter_array _ _ _ _ _ _ _ _ _ hx_11) (M0 12 (some 4) (vI .i64 x14) (W0 ?_))))))));exact fun a w hs=>jsN (hs.sb 1)
      ·refine B1 8 (some 33) (.val (Sl3.v a1_3)) ([some (25,[(vI .i64 a1_0),(vI .i64 a1_1),(vS a1_2),(Sl3.v a1_3)])]) false (J1 9 (some 34) (vP (some p12)) (Abs.det_idx (s:=a1_3) (k:=.i64) (t:=23) (e:=25) (x:=.tmp 33) (y:=.const (vI .i64 1)) (by kernel_rfl) (by kernel_rfl) (by kernel_rfl) (by kernel_rfl) (by kernel_rfl) hx_9) ?_);refine E1 3 10 (by kernel_rfl) ?_ ?_
       ·refine B1 3 (some 28) (.val (Sl3.v a1_3)) ([some (25,[(vI .i64 a1_0),(vI .i64 a1_1),(vS a1_2),(Sl3.v a1_3)])]) false (J1 4 (some 29) (vP (some p8)) (Abs.det_idx (s:=a1_3) (k:=.i64) (t:=23) (e:=25) (x:=.tmp 28) (y:=.const (vI .i64 0)) (by kernel_rfl) (by kernel_rfl) (by kernel_rfl) (by kernel_rfl) (by kernel_rfl) hx_4) ?_);refine E1 5 10 (by kernel_rfl) ?_ ?_
        ·refine Y0 (H':=H) 5 (some 30) (vA #[(vI .i64 x9_0),(vI .i64 x9_1),(vS x9_2),(Sl3.v x9_3)]) (Abs.run_loadAg (t:=25) (x:=.tmp 29) (a:=p8) (k:=4) (by kernel_rfl) (by kernel_rfl) (by kernel_rfl) (by kernel_rfl) (P1 (O1 hx0_5 S1) (P1 (O1 hx1_5 S1) (P1 (O1 hx2_5 T1) (P1 (O1 hx3_5 R1) U1))))) ?_;refine E1 6 10 (by kernel_rfl) ?_ ?_
         ·refine X0 6 (some 31) (v:=(vI .i64 x10)) 12 _ (hrec_sort_counter_sort _ _ _ _ _ _ _ _ hx_6) (DA.on 10 (Y0 (H':=H11) 10 (some 35) (vA #[(vI .i64 x13_0),(vI .i64 x13_1),(vS x13_2),(Sl3.v x13_3)]) (Abs.run_loadAg (t:=25) (x:=.tmp 34) (a:=p12) (k:=4) (by kernel_rfl) (by kernel_rfl) (by kernel_rfl) (by kernel_rfl) (P1 (O1 hx0_10 S1) (P1 (O1 hx1_10 S1) (P1 (O1 hx2_10 T1) (P1 (O1 hx3_10 R1) U1))))) (DA.on 11 (X0 11 (some 36) (v:=(vI .i64 x14)) 35 _ (hrec_sort_counter_array _ _ _ _ _ _ _ _ _ hx_11) (M0 12 (some 4) (vI .i64 x14) (W0 ?_))))));exact fun a w hs=>jsN (hs.sb 1)
         ·refine Y0 (H':=H) 10 (some 35) (vA #[(vI .i64 x13_0),(vI .i64 x13_1),(vS x13_2),(Sl3.v x13_3)]) (Abs.run_loadAg (t:=25) (x:=.tmp 34) (a:=p12) (k:=4) (by kernel_rfl) (by kernel_rfl) (by kernel_rfl) (by kernel_rfl) (P1 (O1 hx0_10_1 S1) (P1 (O1 hx1_10_1 S1) (P1 (O1 hx2_10_1 T1) (P1 (O1 hx3_10_1 R1) U1))))) (DA.on 6 (X0 6 (some 31) (v:=(vI .i64 x10)) 12 _ (hrec_sort_counter_sort _ _ _ _ _ _ _ _ hx_6) (DA.on 11 (X0 11 (some 36) (v:=(vI .i64 x14)) 35 _ (hrec_sort_counter_array _ _ _ _ _ _ _ _ _ hx_11) (M0 12 (some 4) (vI .i64 x14) (W0 ?_))))));exact fun a w hs=>jsN (hs.sb 1)
        ·refine Y0 (H':=H) 10 (some 35) (vA #[(vI .i64 x13_0),(vI .i64 x13_1),(vS x13_2),(Sl3.v x13_3)]) (Abs.run_loadAg (t:=25) (x:=.tmp 34) (a:=p12) (k:=4) (by kernel_rfl) (by kernel_rfl) (by kernel_rfl) (by kernel_rfl) (P1 (O1 hx0_10_1 S1) (P1 (O1 hx1_10_1 S1) (P1 (O1 hx2_10_1 T1) (P1 (O1 hx3_10_1 R1) U1))))) (DA.on 5 (Y0 (H':=H) 5 (some 30) (vA #[(vI .i64 x9_0),(vI .i64 x9_1),(vS x9_2),(Sl3.v x9_3)]) (Abs.run_loadAg (t:=25) (x:=.tmp 29) (a:=p8) (k:=4) (by kernel_rfl) (by kernel_rfl) (by kernel_rfl) (by kernel_rfl) (P1 (O1 hx0_5 S1) (P1 (O1 hx1_5 S1) (P1 (O1 hx2_5 T1) (P1 (O1 hx3_5 R1) U1))))) (DA.on 6 (X0 6 (some 31) (v:=(vI .i64 x10)) 12 _ (hrec_sort_counter_sort _ _ _ _ _ _ _ _ hx_6) (DA.on 11 (X0 11 (some 36) (v:=(vI .i64 x14)) 35 _ (hrec_sort_counter_array _ _ _ _ _ _ _ _ _ hx_11) (M0 12 (some 4) (vI .i64 x14) (W0 ?_))))))));exact fun a w hs=>jsN (hs.sb 1)
       ·refine Y0 (H':=H) 10 (some 35) (vA #[(vI .i64 x13_0),(vI .i64 x13_1),(vS x13_2),(Sl3.v x13_3)]) (Abs.run_loadAg (t:=25) (x:=.tmp 34) (a:=p12) (k:=4) (by kernel_rfl) (by kernel_rfl) (by kernel_rfl) (by kernel_rfl) (P1 (O1 hx0_10_1 S1) (P1 (O1 hx1_10_1 S1) (P1 (O1 hx2_10_1 T1) (P1 (O1 hx3_10_1 R1) U1))))) (DA.on 3 (B1 3 (some 28) (.val (Sl3.v a1_3)) ([some (25,[(vI .i64 a1_0),(vI .i64 a1_1),(vS a1_2),(Sl3.v a1_3)])]) false (J1 4 (some 29) (vP (some p8)) (Abs.det_idx (s:=a1_3) (k:=.i64) (t:=23) (e:=25) (x:=.tmp 28) (y:=.const (vI .i64 0)) (by kernel_rfl) (by kernel_rfl) (by kernel_rfl) (by kernel_rfl) (by kernel_rfl) hx_4) (DA.on 5 (Y0 (H':=H) 5 (some 30) (vA #[(vI .i64 x9_0),(vI .i64 x9_1),(vS x9_2),(Sl3.v x9_3)]) (Abs.run_loadAg (t:=25) (x:=.tmp 29) (a:=p8) (k:=4) (by kernel_rfl) (by kernel_rfl) (by kernel_rfl) (by kernel_rfl) (P1 (O1 hx0_5 S1) (P1 (O1 hx1_5 S1) (P1 (O1 hx2_5 T1) (P1 (O1 hx3_5 R1) U1))))) (DA.on 6 (X0 6 (some 31) (v:=(vI .i64 x10)) 12 _ (hrec_sort_counter_sort _ _ _ _ _ _ _ _ hx_6) (DA.on 11 (X0 11 (some 36) (v:=(vI .i64 x14)) 35 _ (hrec_sort_counter_array _ _ _ _ _ _ _ _ _ hx_11) ?_)))))))));refine M0 12 (some 4) (vI .i64 x14) (W0 ?_);exact fun a w hs=>jsN (hs.sb 1)
     ·refine o0 (I0 ?_)
      replace h:=zll h
      cases h;exact fun a w hs=>bkR (sqR (rtR (rS hs)))
    ·refine D0 23 false (decide_eq_false hp) (F0 (A0 (C0 (m0 2 [kB 37 (decide (a1_0=6)),kB 38 (decide (a1_0=6))] (B0 (o0 ?_))))));rcases Q1 h with ⟨hp,h⟩ | ⟨hp,h⟩
     ·refine D0 37 true (decide_eq_true hp) (E0 (A0 ?_));refine D1 [0,1,2,3,4,5,6,7,8,9,10,11,12] [0,1,3,7,15,31,63,0,128,0,512,1920,4095,8191] 14 (fun hcl=>?_);refine U0 0 (some 39) (vP a0) ?_;obtain ⟨q17,hx,hq17⟩:=bind_some h;subst hx;have h:=hq17;refine U0 1 (some 40) (vP (some q17)) (U0 2 (some 41) (vP (some (Addr.add q17 0))) ?_);obtain ⟨x18,hx,h⟩:=bind_some h;refine Z0 3 (some 42) (vP x18) (Abs.det_load (t:=63) (x:=.tmp 41) (a:=(Addr.add q17 0)) (by kernel_rfl) (by kernel_rfl) (by kernel_rfl) (by kernel_rfl) (O1 hx U8)) ?_;obtain ⟨q19,hx,hq19⟩:=bind_some h;subst hx;have h:=hq19;refine U0 4 (some 43) (vP (some q19)) (U0 5 (some 44) (vP (some (Addr.add q19 3))) ?_);obtain ⟨x20,hx,h⟩:=bind_some h;refine Z0 6 (some 45) (Value.map x20) (Abs.det_load (t:=78) (x:=.tmp 44) (a:=(Addr.add q19 3)) (by kernel_rfl) (by kernel_rfl) (by kernel_rfl) (by kernel_rfl) (O1 hx O7)) (V0 7 (some 46) (.loc 0 0) (V0 8 (some 47) (.val (vI .i64 a1_0)) (V0 9 (some 48) (.loc 0 2) (V0 10 (some 49) (.val (vS a1_2)) (U0 11 (some 50) (vA #[(vI .i64 a1_0),(vS a1_2)]) ?_)))));obtain ⟨x21,hx,h⟩:=bind_some h;refine Z0 12 (some 51) (vI .i64 x21) (Abs.det_look (t:=78) (x:=.tmp 45) (y:=.tmp 50) (mm:=x20) (k:=(vA #[(vI .i64 a1_0),(vS a1_2)])) (by kernel_rfl) (by kernel_rfl) (by kernel_rfl) (by kernel_rfl) (lk1_eq hx S1)) (M0 13 (some 6) (vI .i64 x21) (W0 (o0 (A0 (C0 (m0 3 [(55,.val (vP (some (Addr.add q17 3)))),kP 54 q17,kP 53 q17] ?_))))));obtain ⟨x22,hx,h⟩:=bind_some h;refine T0 56 73 (.tmp 55) (O1 hx O7) (m0 1 [kI 57 x21] ?_);obtain ⟨⟨x23,b24⟩,hx,h⟩:=bind_some h;try dsimp only at h
      refine P0 (H':=H) (some 58) (Value.tuple #[(vI .i64 x23),(vB b24)]) (Abs.run_look (t:=73) (x:=.tmp 56) (y:=.tmp 57) (mm:=x22) (k:=(vI .i64 x21)) (by kernel_rfl) (by kernel_rfl) (by kernel_rfl) (by kernel_rfl) (lkM_eq hx S1)) (m0 5 [kB 8 b24,kI 7 x23,kB 60 b24,kI 59 x23,(52,.val (Value.tuple #[(vI .i64 x23),(vB b24)]))] (B0 (o0 ?_)));obtain ⟨⟨H25,v7_26⟩,hx,h⟩:=bind_some h;try dsimp only at h
      refine A0 ?_;refine A1 ([kI 7 v7_26,kP 0 q17]) ([some (25,[(vI .i64 a1_0),(vI .i64 a1_1),(vS a1_2),(Sl3.v a1_3)])]) H25 ?_ (fun a w hs=>o0 ?_ a w hs)
      ·clear h; rename _=>h;refine A0 (C0 (m0 2 [kB 62 (!b24),kB 61 b24] (B0 (o0 ?_))));rcases Q1 h with ⟨hp,h⟩ | ⟨hp,h⟩
       ·refine D0 62 false (nb_not hp) (F0 (G0 ?_));cases h;exact fun a w hs=>(jsN (hs.sb 1))
       ·refine D0 62 true (W2 hp) (E0 (A0 (C0 (m0 2 [kI 64 x21,kP 63 q17] ?_))));obtain ⟨⟨x27,H28⟩,hx,h⟩:=bind_some h;try dsimp only at h
        refine N0 (some 65) (v:=(vI .i64 x27)) 36 _ (hrec_sort_counter_data _ _ _ _ _ hx) (m0 1 [kI 7 x27] (B0 (o0 (C0 (m0 3 [(68,.val (vP (some (Addr.add q17 3)))),kP 67 q17,kP 66 q17] ?_)))));obtain ⟨x29,hx,h⟩:=bind_some h;refine T0 69 73 (.tmp 68) (O1 hx O7) (m0 2 [kI 71 x27,kI 70 x21] ?_);obtain ⟨H30,hx,h⟩:=bind_some h;refine P0 (H':=H30) none undef (Abs.run_upM (t:=73) (x:=.tmp 69) (y:=.tmp 70) (z:=.tmp 71) (mm:=x29) (k:=(vI .i64 x21)) (v:=(vI .i64 x27)) (by kernel_rfl) (by kernel_rfl) (by kernel_rfl) (by kernel_rfl) (by kernel_rfl) hx) (B0 ?_);cases h;exact fun a w hs=>(jsN (hs.sb 1))
      ·clear hx;refine C0 (m0 2 [kI 5 v7_26,kI 72 v7_26] (B0 ?_));cases h
     ·refine D0 37 false (decide_eq_false hp) (F0 (G0 ?_));cases h
theorem z1u {E m H L a0 a1 a2_0 a2_1 a2_2 a2_3 x1 H2} :LoopF Tryz.prog (NE.plain 1000) m E Tryz.f35 ((cfst (csnd (cfst (csnd (csnd (csnd (csnd (csnd B35))))))))) (z6z L a0 a1 a2_0 a2_1 a2_2 a2_3 x1 H2) (fun _=>H2) 0 Q7 (k8 H) (P2 L a0 a1 a2_0 a2_1 a2_2 a2_3 x1 H2):=by
 rintro ⟨v8_3,v17_4⟩ o h
 unfold P2 at h;try dsimp only at h
 refine A0 (C0 (m0 1 [kB 18 (decide (v17_4<a1))] (B0 (o0 (A0 ?_)))));rcases Q1 h with ⟨hp,h⟩ | ⟨hp,h⟩
 ·refine D0 18 true (decide_eq_true hp) (E0 (G0 (o0 (A0 (J0 1 (A0 (C0 (m0 3 [kI 21 x1,kI 20 v8_3,(19,.val (vP a0))] ?_))))))));obtain ⟨x5,hx,h⟩:=bind_some h;refine N0 (some 22) (v:=(vI .i64 x5)) 34 _ (zd hx) (m0 1 [kI 8 x5] (B0 (o0 (A0 (C0 (m0 2 [kB 24 (decide (x5=0)),kI 23 x5] (B0 (o0 ?_))))))));rcases Q1 h with ⟨hp,h⟩ | ⟨hp,h⟩
  ·refine D0 24 true (decide_eq_true hp) (E0 (WS.ex 0 ?_));cases h;exact fun a w hs=>bkX (by kernel_rfl) (sqE (lsB rfl (hs.sb 1)))
  ·refine D0 24 false (decide_eq_false hp) (F0 (G0 ?_));refine fun a w hs=>bkN ((o0 ?_ a w hs));refine C0 (m0 2 [kI 17 (IntKind.i64.wrap (v17_4+1)),kI 25 (IntKind.i64.wrap (v17_4+1))] (B0 ?_));cases h;exact fun a w hs=>lsN rfl (hs.sb 1)
 ·refine D0 18 false (decide_eq_false hp) (F0 (WS.ex 0 ?_));cases h;exact fun a w hs=>sqE (lsB rfl (hs.sb 1))
theorem z5h {L:LC} {rec_sort_counter_sort:Nat→AH→(Option Addr)→Int→Int→ByteArray→Sl3→Option (Int×AH)} (hrec_sort_counter_sort:∀(m:Nat) (H:AH) (a0:Option Addr) (a1_0 a1_1:Int) (a1_2:ByteArray) (a1_3:Sl3) (r:(Int×AH)),rec_sort_counter_sort m H a0 a1_0 a1_1 a1_2 a1_3=some r→CallS Tryz.prog (NE.plain 1000) m 12 #[(vP a0),(vA #[(vI .i64 a1_0),(vI .i64 a1_1),(vS a1_2),(Sl3.v a1_3)])] H (O2 r) (T2 H r)) {m:Nat} {H:AH} {a0:Option Addr} {a1 a2_0 a2_1:Int} {a2_2:ByteArray} {a2_3:Sl3} {r:(Int×AH)} (h:K5 L rec_sort_counter_sort m H a0 a1 a2_0 a2_1 a2_2 a2_3=some r) :
  CallS Tryz.prog (NE.plain 1000) m 35 #[(vP a0),(vI .i64 a1),(vA #[(vI .i64 a2_0),(vI .i64 a2_1),(vS a2_2),(Sl3.v a2_3)])] H (Q7 r) (k8 H r):=by
 refine CallS.mk (args:=[(vP a0),(vI .i64 a1),(vA #[(vI .i64 a2_0),(vI .i64 a2_1),(vS a2_2),(Sl3.v a2_3)])]) Tryz.func35 (B:=B35) (by kernel_rfl) (fun E _=>?_);unfold K5 at h;refine A0 (C0 (Q0 2 [kI 6 0,kL 5 0 0] ([some (25,[(vI .i64 a2_0),(vI .i64 a2_1),(vS a2_2),(Sl3.v a2_3)])]) (B0 (o0 (A0 (C0 (m0 2 [kA 10 #[(vI .i64 a2_0),(vI .i64 a2_1),(vS a2_2),(Sl3.v a2_3)],(9,.val (vP a0))] ?_)))))));obtain ⟨⟨x1,H2⟩,hx,h⟩:=bind_some h;try dsimp only at h
 refine N0 (some 11) (v:=(vI .i64 x1)) 12 _ (hrec_sort_counter_sort _ _ _ _ _ _ _ _ hx) (m0 1 [kI 7 x1] (B0 (o0 (A0 (A0 (C0 (m0 2 [kB 13 (decide (x1=1)),kI 12 x1] (B0 (o0 ?_)))))))));rcases Q1 h with ⟨hp,h⟩ | ⟨hp,h⟩
 ·refine D0 13 true (decide_eq_true hp) (E0 (A0 (C0 (m0 1 [kI 6 1] (B0 (o0 (I0 ?_)))))));cases h;exact fun a w hs=>sqR (rtR (rS hs))
 ·refine D0 13 false (decide_eq_false hp) (F0 (G0 (o0 (A0 (A0 (C0 (m0 2 [kB 15 (decide (a1=0)),kI 14 a1] (B0 (o0 ?_)))))))));rcases Q1 h with ⟨hp,h⟩ | ⟨hp,h⟩
  ·refine D0 15 true (decide_eq_true hp) (E0 (A0 (C0 (m0 1 [kI 6 0] (B0 (o0 (I0 ?_)))))));cases h;exact fun a w hs=>sqR (rtR (rS hs))
  ·refine D0 15 false (decide_eq_false hp) (F0 (G0 (o0 (A0 (C0 (m0 1 [kI 8 1] (B0 (o0 (A0 ?_)))))))));refine A0 (C0 (m0 2 [kI 17 0,kI 16 a1] (B0 (o0 (J0 0 ?_)))));obtain ⟨o,hl,h⟩:=bind_some h;rcases o with ⟨v8_6,v17_7⟩ | r
   ·try dsimp only at h
    refine S0 (z1u (L:=L) (E:=E) (m:=m) (H:=H)) (L.ok hl) 1 ?_;clear hl;refine fun a w hs=>bkE ((o0 ?_ a w hs));refine A0 (C0 (m0 2 [kI 6 v8_6,kI 26 v8_6] (B0 (o0 (I0 ?_)))));cases h;exact fun a w hs=>rtR (rS hs)
   ·try dsimp only at h
    refine R0 (z1u (L:=L) (E:=E) (m:=m) (H:=H)) (L.ok hl) 1 ?_;cases h;exact fun a w hq=>bkR (sqR (rtR hq))
theorem z25 {E H L rec_sort_counter_sort m q1 x11 v5_13 v34_14 x16_0 x16_1} (hrec_sort_counter_sort:∀(m:Nat) (H:AH) (a0:Option Addr) (a1_0 a1_1:Int) (a1_2:ByteArray) (a1_3:Sl3) (r:(Int×AH)),rec_sort_counter_sort m H a0 a1_0 a1_1 a1_2 a1_3=some r→CallS Tryz.prog (NE.plain 1000) m 12 #[(vP a0),(vA #[(vI .i64 a1_0),(vI .i64 a1_1),(vS a1_2),(Sl3.v a1_3)])] H (O2 r) (T2 H r)):LoopF Tryz.prog (NE.plain 1000) m E Tryz.f36 ((cfst (csnd (cfst (csnd (csnd (cfst (cfst (csnd (csnd (cfst (cfst (csnd (cfst (csnd (csnd (csnd B36))))))))))))))))) (z7w L rec_sort_counter_sort m q1 x11 v5_13 v34_14 x16_0 x16_1) (fun s=>s.1) 2 P6 (Z6 H) (K3 L rec_sort_counter_sort m q1 x11 v5_13 v34_14 x16_0 x16_1):=by
 rintro ⟨H17,v8_18,v41_19⟩ o h
 unfold K3 at h;try dsimp only at h
 refine A0 (C0 (m0 1 [kB 42 (decide (v41_19<(x16_1.n:Int)))] (B0 (o0 (A0 ?_)))));rcases Q1 h with ⟨hp,h⟩ | ⟨hp,h⟩
 ·refine D0 42 true (decide_eq_true hp) (E0 (G0 (o0 (A0 (J0 3 (A0 (C0 ?_)))))));obtain ⟨p20,hx,h⟩:=bind_some h;refine O0 43 101 105 (.tmp 39) (.tmp 41) hx ?_;obtain ⟨x21_0,hx0,h⟩:=bind_some h;obtain ⟨x21_1,hx1,h⟩:=bind_some h;obtain ⟨x21_2,hx2,h⟩:=bind_some h;obtain ⟨x21_3,hx3,h⟩:=bind_some h;obtain ⟨x21_4,hx4,h⟩:=bind_some h;refine RS.la 44 105 (.tmp 43) 5 (P1 (O1 hx0 T1) (P1 (O1 hx1 S1) (P1 (O1 hx2 S1) (P1 (O1 hx3 T1) (P1 (O1 hx4 R1) U1))))) (Q0 2 [kL 10 1 0] ([some (103,[(vS x16_0),(Sl3.v x16_1)]),some (105,[(vS x21_0),(vI .i64 x21_1),(vI .i64 x21_2),(vS x21_3),(Sl3.v x21_4)])]) (B0 (o0 (C0 (m0 5 [kA 49 #[(vI .i64 x21_1),(vI .i64 x21_2),(vS x21_3),(Sl3.v x21_4)],kL 48 1 1,kP 47 q1,kI 46 v8_18,kP 45 q1] ?_)))));obtain ⟨⟨x22,H23⟩,hx,h⟩:=bind_some h;try dsimp only at h
  refine N0 (some 50) (v:=(vI .i64 x22)) 12 _ (hrec_sort_counter_sort _ _ _ _ _ _ _ _ hx) ?_;obtain ⟨x24,hx,h⟩:=bind_some h;refine N0 (some 51) (v:=(vI .i64 x24)) 34 _ (zd hx) (m0 1 [kI 8 x24] (B0 ?_));refine fun a w hs=>bkN ((o0 ?_ a w hs));refine C0 (m0 2 [kI 41 (IntKind.i64.wrap (v41_19+1)),kI 52 (IntKind.i64.wrap (v41_19+1))] (B0 ?_));cases h;exact fun a w hs=>lsN rfl (hs.sb 1)
 ·refine D0 42 false (decide_eq_false hp) (F0 (WS.ex 2 ?_));cases h;exact fun a w hs=>sqE (lsB rfl (hs.sb 1))
theorem z24 {E H L rec_sort_counter_sort m q1 x11} (hrec_sort_counter_sort:∀(m:Nat) (H:AH) (a0:Option Addr) (a1_0 a1_1:Int) (a1_2:ByteArray) (a1_3:Sl3) (r:(Int×AH)),rec_sort_counter_sort m H a0 a1_0 a1_1 a1_2 a1_3=some r→CallS Tryz.prog (NE.plain 1000) m 12 #[(vP a0),(vA #[(vI .i64 a1_0),(vI .i64 a1_1),(vS a1_2),(Sl3.v a1_3)])] H (O2 r) (T2 H r)):LoopF Tryz.prog (NE.plain 1000) m E Tryz.f36 ((cfst (csnd (cfst (csnd (csnd (csnd B36))))))) (z7v L rec_sort_counter_sort m q1 x11) (fun s=>s.1) 0 P6 (Z6 H) (J2 L rec_sort_counter_sort m q1 x11):=by
 rintro ⟨H12,v5_13,v34_14⟩ o h
 unfold J2 at h;try dsimp only at h
 refine A0 (C0 (m0 1 [kB 35 (decide (v34_14<(x11.n:Int)))] (B0 (o0 (A0 ?_)))));rcases Q1 h with ⟨hp,h⟩ | ⟨hp,h⟩
 ·refine D0 35 true (decide_eq_true hp) (E0 (G0 (o0 (A0 (J0 1 (A0 (C0 ?_)))))));obtain ⟨p15,hx,h⟩:=bind_some h;refine O0 36 91 103 (.tmp 32) (.tmp 34) hx ?_;obtain ⟨x16_0,hx0,h⟩:=bind_some h;obtain ⟨x16_1,hx1,h⟩:=bind_some h;refine RS.la 37 103 (.tmp 36) 2 (P1 (O1 hx0 T1) (P1 (O1 hx1 R1) U1)) (Q0 2 [kL 7 0 0] ([some (103,[(vS x16_0),(Sl3.v x16_1)])]) (B0 (o0 (A0 (C0 (m0 1 [kI 8 1] (B0 (o0 (A0 ?_)))))))));refine A0 (C0 (m0 4 [kI 41 0,kI 40 (x16_1.n:Int),kS 39 x16_1,kL 38 0 1] (B0 (o0 (J0 2 ?_)))));obtain ⟨o,hl,h⟩:=bind_some h;rcases o with ⟨H25,v8_26,v41_27⟩ | r
  ·try dsimp only at h
   refine S0 (z25 (L:=L) (E:=E) (m:=m) (H:=H) hrec_sort_counter_sort) (L.ok hl) 1 ?_;clear hl;refine fun a w hs=>bkE ((o0 ?_ a w hs));refine A0 ?_;obtain ⟨v64_28,hx,h⟩:=bind_some h;refine A0 ?_;refine A1 ([kB 64 v64_28,kP 0 q1,kI 5 v5_13,kI 8 v8_26,kS 32 x11,kI 33 (x11.n:Int),kI 34 v34_14]) ([some (103,[(vS x16_0),(Sl3.v x16_1)])]) H25 ?_ (fun a w hs=>o0 ?_ a w hs)
   ·clear h; rename _=>h;refine C0 (m0 3 [kB 55 (decide (v8_26=0)),kB 54 (decide (v8_26=0)),kI 53 v8_26] ?_);rcases Q1 h with ⟨hp,h⟩ | ⟨hp,h⟩
    ·refine K0 55 true (decide_eq_true hp) (m0 9 [kB 64 true,kU 63,kU 62,kU 61,kU 60,kU 59,kU 58,kU 57,kU 56] (B0 ?_));cases h;exact fun a w hs=>(jsN (hs.sb 1))
    ·refine K0 55 false (decide_eq_false hp) (m0 4 [(59,.val (vP (some (Addr.add q1 1)))),kP 58 q1,kP 57 q1,kI 56 v5_13] ?_);obtain ⟨x29,hx,h⟩:=bind_some h;refine T0 60 3 (.tmp 59) (O1 hx S1) (m0 4 [kB 64 (decide (v5_13 > (IntKind.i64.wrap (x29 - v8_26)))),kB 63 (decide (v5_13 > (IntKind.i64.wrap (x29 - v8_26)))),kI 62 (IntKind.i64.wrap (x29 - v8_26)),kI 61 v8_26] (B0 ?_));cases h;exact fun a w hs=>(jsN (hs.sb 1))
   ·clear hx;rcases Q1 h with ⟨hp,h⟩ | ⟨hp,h⟩
    ·refine D0 64 true hp (E0 (A0 (C0 (m0 1 [kI 4 0] (B0 (o0 (I0 ?_)))))));cases h;exact fun a w hs=>sqR (bkR (sqR (lsR rfl (rS hs))))
    ·refine D0 64 false (b_not hp) (F0 (G0 (o0 (C0 (m0 4 [kI 5 (IntKind.i64.wrap (v5_13+v8_26)),kI 67 (IntKind.i64.wrap (v5_13+v8_26)),kI 66 v8_26,kI 65 v5_13] (B0 ?_))))));refine fun a w hs=>bkN ((o0 ?_ a w hs));refine C0 (m0 2 [kI 34 (IntKind.i64.wrap (v34_14+1)),kI 68 (IntKind.i64.wrap (v34_14+1))] (B0 ?_));cases h;exact fun a w hs=>lsN rfl (hs.sb 0)
  ·try dsimp only at h
   refine R0 (z25 (L:=L) (E:=E) (m:=m) (H:=H) hrec_sort_counter_sort) (L.ok hl) 1 ?_;cases h;exact fun a w hq=>bkR (sqR (bkR (sqR (lsR rfl hq))))
 ·refine D0 35 false (decide_eq_false hp) (F0 (WS.ex 0 ?_));cases h;exact fun a w hs=>sqE (lsB rfl (hs.sb 0))
theorem z6b {L:LC} {rec_sort_counter_sort:Nat→AH→(Option Addr)→Int→Int→ByteArray→Sl3→Option (Int×AH)} (hrec_sort_counter_sort:∀(m:Nat) (H:AH) (a0:Option Addr) (a1_0 a1_1:Int) (a1_2:ByteArray) (a1_3:Sl3) (r:(Int×AH)),rec_sort_counter_sort m H a0 a1_0 a1_1 a1_2 a1_3=some r→CallS Tryz.prog (NE.plain 1000) m 12 #[(vP a0),(vA #[(vI .i64 a1_0),(vI .i64 a1_1),(vS a1_2),(Sl3.v a1_3)])] H (O2 r) (T2 H r)) {m:Nat} {H:AH} {a0:Option Addr} {a1:Int} {r:(Int×AH)} (h:X5 L rec_sort_counter_sort m H a0 a1=some r) :
  CallS Tryz.prog (NE.plain 1000) m 36 #[(vP a0),(vI .i64 a1)] H (P6 r) (Z6 H r):=by
 refine CallS.mk (args:=[(vP a0),(vI .i64 a1)]) Tryz.func36 (B:=B36) (by kernel_rfl) (fun E _=>?_);unfold X5 at h;refine A0 (C0 (m0 1 [kI 4 0] (B0 (o0 (A0 (A0 (C0 (m0 1 [(11,.val (vP a0))] ?_))))))));obtain ⟨q1,hx,hq1⟩:=bind_some h;subst hx;have h:=hq1;refine m0 2 [(13,.val (vP (some (Addr.add q1 2)))),kP 12 q1] ?_;obtain ⟨x2,hx,h⟩:=bind_some h;refine T0 14 67 (.tmp 13) (O1 hx R1) (m0 1 [kI 15 a1] ?_);obtain ⟨p3,hx,h⟩:=bind_some h;refine O0 16 67 70 (.tmp 14) (.tmp 15) hx ?_;obtain ⟨x4,hx,h⟩:=bind_some h;refine T0 17 70 (.tmp 16) (O1 hx R1) (m0 1 [kI 18 a1] ?_);obtain ⟨p5,hx,h⟩:=bind_some h;refine O0 19 70 4 (.tmp 17) (.tmp 18) hx ?_;obtain ⟨x6,hx,h⟩:=bind_some h;refine T0 20 4 (.tmp 19) (O1 hx F6) (B0 (o0 ?_));rcases Q1 h with ⟨hp,h⟩ | ⟨hp,h⟩
 ·refine D0 20 true hp (E0 (A0 (C0 (m0 1 [kI 4 0] (B0 (o0 (I0 ?_)))))));cases h;exact fun a w hs=>sqR (rtR (rS hs))
 ·refine D0 20 false (b_not hp) (F0 (G0 (o0 (A0 (C0 (m0 1 [kI 5 0] (B0 (o0 (A0 ?_)))))))));refine A0 (C0 (m0 3 [(23,.val (vP (some (Addr.add q1 0)))),kP 22 q1,kP 21 q1] ?_));obtain ⟨x7,hx,h⟩:=bind_some h;refine T0 24 63 (.tmp 23) (O1 hx U8) ?_;obtain ⟨q8,hx,hq8⟩:=bind_some h;subst hx;have h:=hq8;refine m0 3 [(27,.val (vP (some (Addr.add (Addr.add q8 0) 1)))),(26,.val (vP (some (Addr.add q8 0)))),kP 25 q8] ?_;obtain ⟨x9,hx,h⟩:=bind_some h;refine T0 28 27 (.tmp 27) (O1 hx R1) (m0 1 [kI 29 a1] ?_);obtain ⟨p10,hx,h⟩:=bind_some h;refine O0 30 27 93 (.tmp 28) (.tmp 29) hx (m0 1 [(31,.val (vP (some (Addr.add p10 1))))] ?_);obtain ⟨x11,hx,h⟩:=bind_some h;refine T0 32 91 (.tmp 31) (O1 hx R1) (m0 2 [kI 34 0,kI 33 (x11.n:Int)] (B0 (o0 (J0 0 ?_))));obtain ⟨o,hl,h⟩:=bind_some h;rcases o with ⟨H30,v5_31,v34_32⟩ | r
  ·try dsimp only at h
   refine S0 (z24 (L:=L) (E:=E) (m:=m) (H:=H) hrec_sort_counter_sort) (L.ok hl) 0 ?_;clear hl;refine fun a w hs=>bkE ((o0 ?_ a w hs));refine A0 (C0 (m0 2 [kI 4 v5_31,kI 69 v5_31] (B0 (o0 (I0 ?_)))));cases h;exact fun a w hs=>rtR (rS hs)
  ·try dsimp only at h
   refine R0 (z24 (L:=L) (E:=E) (m:=m) (H:=H) hrec_sort_counter_sort) (L.ok hl) 0 ?_;cases h;exact fun a w hq=>bkR (sqR (rtR hq))
theorem z6w {L:LC}:∀n,(∀(m:Nat) (H:AH) (a0:Option Addr) (a1_0 a1_1:Int) (a1_2:ByteArray) (a1_3:Sl3) (r:(Int×AH)),((A2 L n).1) m H a0 a1_0 a1_1 a1_2 a1_3=some r→CallS Tryz.prog (NE.plain 1000) m 12 #[(vP a0),(vA #[(vI .i64 a1_0),(vI .i64 a1_1),(vS a1_2),(Sl3.v a1_3)])] H (O2 r) (T2 H r))∧(∀(m:Nat) (H:AH) (a0:Option Addr) (a1 a2_0 a2_1:Int) (a2_2:ByteArray) (a2_3:Sl3) (r:(Int×AH)),((A2 L n).2.1) m H a0 a1 a2_0 a2_1 a2_2 a2_3=some r→CallS Tryz.prog (NE.plain 1000) m 35 #[(vP a0),(vI .i64 a1),(vA #[(vI .i64 a2_0),(vI .i64 a2_1),(vS a2_2),(Sl3.v a2_3)])] H (Q7 r) (k8 H r))∧(∀(m:Nat) (H:AH) (a0:Option Addr) (a1:Int) (r:(Int×AH)),((A2 L n).2.2) m H a0 a1=some r→CallS Tryz.prog (NE.plain 1000) m 36 #[(vP a0),(vI .i64 a1)] H (P6 r) (Z6 H r)):=by
 intro n;induction n with
 | zero=>exact ⟨(fun _ _ _ _ _ _ _ _ h=>(Option.some_ne_none _ h.symm).elim),(fun _ _ _ _ _ _ _ _ _ h=>(Option.some_ne_none _ h.symm).elim),(fun _ _ _ _ _ h=>(Option.some_ne_none _ h.symm).elim)⟩
 | succ n ih=>exact ⟨(fun _ _ _ _ _ _ _ _ h=>z68 (L:=L) ih.1 ih.2.1 ih.2.2 h),(fun _ _ _ _ _ _ _ _ _ h=>z5h (L:=L) ih.1 h),(fun _ _ _ _ _ h=>z6b (L:=L) ih.1 h)⟩
theorem z3a {L:LC} {m:Nat} {H:AH} {a0:Option Addr} {a1_0 a1_1:Int} {a1_2:ByteArray} {a1_3:Sl3} {r:(Int×AH)} (h:M8 L m H a0 a1_0 a1_1 a1_2 a1_3=some r) :
  CallS Tryz.prog (NE.plain 1000) m 12 #[(vP a0),(vA #[(vI .i64 a1_0),(vI .i64 a1_1),(vS a1_2),(Sl3.v a1_3)])] H (O2 r) (T2 H r) :=
 ((z6w _).1) _ _ _ _ _ _ _ _ h
def z2t:Bool→Value
 | r0=>(vB r0)
def z3j (H:AH):Bool→AH:=fun _=>H
noncomputable def B22:Code:=(Tryz.f22.body).getD .skip
noncomputable def a7 (_L:LC) (H:AH) (_a0_0 _a0_1 _a0_2:Sl3) (_v24_2:Int) (_x4_0:ByteArray) (x4_1:Sl3):(Int×Int)→Option (Lp (Int×Int) Bool):=fun (v3_6,v46_7) =>
 if v46_7<(x4_1.n:Int) then
  (idxA 2 x4_1 v46_7).bind fun p8 => (rd deS H (Addr.add p8 0)).bind fun _ => (rd deSl H (Addr.add p8 1)).bind fun x9_1 => if (x9_1.n:Int) > 64 then
   some (.ret true)
  else
   some (.next ((IntKind.i64.wrap (v3_6+(x9_1.n:Int))),(IntKind.i64.wrap (v46_7+1))))
 else
  some (.brk (v3_6,v46_7))
def zfm (_L:LC) (_H:AH) (a0_0 a0_1 a0_2:Sl3) (v24_2:Int) (x4_0:ByteArray) (x4_1:Sl3):(Int×Int)→KN×Lcs:=fun (v3_6,v46_7)=>([kI 3 v3_6,kI 46 v46_7,kL 1 0 0,kS 22 a0_1,kI 23 (a0_1.n:Int),kI 24 v24_2,kS 44 x4_1,kI 45 (x4_1.n:Int)],[some (30,[(Sl3.v a0_0),(Sl3.v a0_1),(Sl3.v a0_2)]),some (93,[(vS x4_0),(Sl3.v x4_1)])])
noncomputable def Z7 (L:LC) (H:AH) (a0_0 a0_1 a0_2:Sl3):(Int×Int)→Option (Lp (Int×Int) Bool):=fun (v3_1,v24_2) =>
 if v24_2<(a0_1.n:Int) then
  (idxA 2 a0_1 v24_2).bind fun p3 => (rd deS H (Addr.add p3 0)).bind fun x4_0 => (rd deSl H (Addr.add p3 1)).bind fun x4_1 => Option.bind (α:=Bool) (
   if (x4_1.n:Int)<1 then
    some true
   else
    some (decide ((x4_1.n:Int) > 64))) fun v42_5 =>
  if v42_5=true then
   some (.ret true)
  else
   Option.bind (L.run (a7 L H a0_0 a0_1 a0_2 v24_2 x4_0 x4_1) ((IntKind.i64.wrap (v3_1+(x4_1.n:Int))),0)) fun o=>match o with
   | .inl (v3_10,_) =>
    some (.next (v3_10,(IntKind.i64.wrap (v24_2+1))))
   | .inr r=>some (.ret r)
 else
  some (.brk (v3_1,v24_2))
def zgc (_L:LC) (_H:AH) (a0_0 a0_1 a0_2:Sl3):(Int×Int)→KN×Lcs:=fun (v3_1,v24_2)=>([kI 3 v3_1,kI 24 v24_2,kL 1 0 0,kS 22 a0_1,kI 23 (a0_1.n:Int)],[some (30,[(Sl3.v a0_0),(Sl3.v a0_1),(Sl3.v a0_2)])])
noncomputable def j9 (_L:LC) (H:AH) (_a0_0 _a0_1 a0_2:Sl3) (_v3_12:Int):Int→Option (Lp Int Bool):=fun v64_14 =>
 if v64_14<(a0_2.n:Int) then
  (idxA 6 a0_2 v64_14).bind fun p15 => (rd deS H (Addr.add p15 0)).bind fun _ => (rd deSl H (Addr.add p15 1)).bind fun x16_1 => (rd (deI .i64) H (Addr.add p15 2)).bind fun _ => (rd (deI .i64) H (Addr.add p15 3)).bind fun _ => (rd deS H (Addr.add p15 4)).bind fun _ => (rd deSl H (Addr.add p15 5)).bind fun _ => if (x16_1.n:Int) > 64 then
   some (.ret true)
  else
   some (.next (IntKind.i64.wrap (v64_14+1)))
 else
  some (.brk v64_14)
def zff (_L:LC) (_H:AH) (a0_0 a0_1 a0_2:Sl3) (v3_12:Int):Int→KN×Lcs:=fun v64_14=>([kI 64 v64_14,kI 3 v3_12,kS 62 a0_2,kI 63 (a0_2.n:Int)],[some (30,[(Sl3.v a0_0),(Sl3.v a0_1),(Sl3.v a0_2)])])
noncomputable def z53 (L:LC) (H:AH) (a0_0 a0_1 a0_2:Sl3):Option Bool :=
 Option.bind (L.run (Z7 L H a0_0 a0_1 a0_2) ((IntKind.i64.wrap ((IntKind.i64.wrap ((a0_0.n:Int)+(a0_1.n:Int)))+(a0_2.n:Int))),0)) fun o=>match o with
 | .inl (v3_12,_) =>
  (L.run (j9 L H a0_0 a0_1 a0_2 v3_12) 0).bind fun o=>match o with
  | .inl _ =>
   some (decide (v3_12 > 4096))
  | .inr r=>some r
 | .inr r=>some r
theorem z85 {E m L H a0_0 a0_1 a0_2 v24_2 x4_0 x4_1} :LoopF Tryz.prog (NE.plain 1000) m E Tryz.f22 ((cfst (csnd (csnd (csnd (cfst (cfst (csnd (csnd (cfst (cfst (csnd (cfst (csnd (csnd B22))))))))))))))) (zfm L H a0_0 a0_1 a0_2 v24_2 x4_0 x4_1) (fun _=>H) 2 z2t (z3j H) (a7 L H a0_0 a0_1 a0_2 v24_2 x4_0 x4_1):=by
 rintro ⟨v3_6,v46_7⟩ o h
 unfold a7 at h;try dsimp only at h
 refine A0 (C0 (m0 1 [kB 47 (decide (v46_7<(x4_1.n:Int)))] (B0 (o0 (A0 ?_)))));rcases Q1 h with ⟨hp,h⟩ | ⟨hp,h⟩
 ·refine D0 47 true (decide_eq_true hp) (E0 (G0 (o0 (A0 (J0 3 (A0 (C0 ?_)))))));obtain ⟨p8,hx,h⟩:=bind_some h;refine O0 48 91 103 (.tmp 44) (.tmp 46) hx ?_;obtain ⟨x9_0,hx0,h⟩:=bind_some h;obtain ⟨x9_1,hx1,h⟩:=bind_some h;refine RS.la 49 103 (.tmp 48) 2 (P1 (O1 hx0 T1) (P1 (O1 hx1 R1) U1)) (Q0 2 [kL 7 2 0] ([some (30,[(Sl3.v a0_0),(Sl3.v a0_1),(Sl3.v a0_2)]),some (93,[(vS x4_0),(Sl3.v x4_1)]),some (103,[(vS x9_0),(Sl3.v x9_1)])]) (B0 (o0 (A0 (C0 (m0 6 [kI 3 (IntKind.i64.wrap (v3_6+(x9_1.n:Int))),kI 54 (IntKind.i64.wrap (v3_6+(x9_1.n:Int))),kI 53 (x9_1.n:Int),kS 52 x9_1,kL 51 2 1,kI 50 v3_6] (B0 (o0 (A0 ?_)))))))));refine C0 (m0 4 [kB 58 (decide ((x9_1.n:Int) > 64)),kI 57 (x9_1.n:Int),kS 56 x9_1,kL 55 2 1] (B0 (o0 ?_)));rcases Q1 h with ⟨hp,h⟩ | ⟨hp,h⟩
  ·refine D0 58 true (decide_eq_true hp) (E0 (A0 (C0 (m0 1 [kB 2 true] (B0 (o0 (I0 ?_)))))));cases h;exact fun a w hs=>bkR (sqR (lsR rfl (rS hs)))
  ·refine D0 58 false (decide_eq_false hp) (F0 (G0 ?_));refine fun a w hs=>bkN ((o0 ?_ a w hs));refine C0 (m0 2 [kI 46 (IntKind.i64.wrap (v46_7+1)),kI 59 (IntKind.i64.wrap (v46_7+1))] (B0 ?_));cases h;exact fun a w hs=>lsN rfl (hs.sb 2)
 ·refine D0 47 false (decide_eq_false hp) (F0 (WS.ex 2 ?_));cases h;exact fun a w hs=>sqE (lsB rfl (hs.sb 2))
theorem z8e {E m L H a0_0 a0_1 a0_2} :LoopF Tryz.prog (NE.plain 1000) m E Tryz.f22 ((cfst (csnd (cfst (csnd (csnd B22)))))) (zgc L H a0_0 a0_1 a0_2) (fun _=>H) 0 z2t (z3j H) (Z7 L H a0_0 a0_1 a0_2):=by
 rintro ⟨v3_1,v24_2⟩ o h
 unfold Z7 at h;try dsimp only at h
 refine A0 (C0 (m0 1 [kB 25 (decide (v24_2<(a0_1.n:Int)))] (B0 (o0 (A0 ?_)))));rcases Q1 h with ⟨hp,h⟩ | ⟨hp,h⟩
 ·refine D0 25 true (decide_eq_true hp) (E0 (G0 (o0 (A0 (J0 1 (A0 (C0 ?_)))))));obtain ⟨p3,hx,h⟩:=bind_some h;refine O0 26 27 93 (.tmp 22) (.tmp 24) hx ?_;obtain ⟨x4_0,hx0,h⟩:=bind_some h;obtain ⟨x4_1,hx1,h⟩:=bind_some h;refine RS.la 27 93 (.tmp 26) 2 (P1 (O1 hx0 T1) (P1 (O1 hx1 R1) U1)) (Q0 2 [kL 5 1 0] ([some (30,[(Sl3.v a0_0),(Sl3.v a0_1),(Sl3.v a0_2)]),some (93,[(vS x4_0),(Sl3.v x4_1)])]) (B0 (o0 (A0 (A0 (C0 (m0 6 [kI 3 (IntKind.i64.wrap (v3_1+(x4_1.n:Int))),kI 32 (IntKind.i64.wrap (v3_1+(x4_1.n:Int))),kI 31 (x4_1.n:Int),kS 30 x4_1,kL 29 1 1,kI 28 v3_1] (B0 (o0 ?_)))))))));obtain ⟨v42_5,hx,h⟩:=bind_some h;refine A0 ?_;refine A1 ([kB 42 v42_5,kL 1 0 0,kI 3 (IntKind.i64.wrap (v3_1+(x4_1.n:Int))),kL 5 1 0,kS 22 a0_1,kI 23 (a0_1.n:Int),kI 24 v24_2]) ([some (30,[(Sl3.v a0_0),(Sl3.v a0_1),(Sl3.v a0_2)]),some (93,[(vS x4_0),(Sl3.v x4_1)])]) H ?_ (fun a w hs=>o0 ?_ a w hs)
  ·clear h; rename _=>h;refine C0 (m0 5 [kB 37 (decide ((x4_1.n:Int)<1)),kB 36 (decide ((x4_1.n:Int)<1)),kI 35 (x4_1.n:Int),kS 34 x4_1,kL 33 1 1] ?_);rcases Q1 h with ⟨hp,h⟩ | ⟨hp,h⟩
   ·refine K0 37 true (decide_eq_true hp) (m0 5 [kB 42 true,kU 41,kU 40,kU 39,kU 38] (B0 ?_));cases h;exact fun a w hs=>(jsN (hs.sb 2))
   ·refine K0 37 false (decide_eq_false hp) (m0 5 [kB 42 (decide ((x4_1.n:Int) > 64)),kB 41 (decide ((x4_1.n:Int) > 64)),kI 40 (x4_1.n:Int),kS 39 x4_1,kL 38 1 1] (B0 ?_));cases h;exact fun a w hs=>(jsN (hs.sb 2))
  ·clear hx;rcases Q1 h with ⟨hp,h⟩ | ⟨hp,h⟩
   ·refine D0 42 true hp (E0 (A0 (C0 (m0 1 [kB 2 true] (B0 (o0 (I0 ?_)))))));cases h;exact fun a w hs=>sqR (bkR (sqR (lsR rfl (rS hs))))
   ·refine D0 42 false (b_not hp) (F0 (G0 (o0 (A0 (C0 (m0 4 [kI 46 0,kI 45 (x4_1.n:Int),kS 44 x4_1,kL 43 1 1] (B0 (o0 (J0 2 ?_)))))))));obtain ⟨o,hl,h⟩:=bind_some h;rcases o with ⟨v3_10,v46_11⟩ | r
    ·try dsimp only at h
     refine S0 (z85 (L:=L) (E:=E) (m:=m) (H:=H)) (L.ok hl) 2 ?_;clear hl;refine fun a w hs=>bkE (bkN ((o0 ?_ a w hs)));refine C0 (m0 2 [kI 24 (IntKind.i64.wrap (v24_2+1)),kI 60 (IntKind.i64.wrap (v24_2+1))] (B0 ?_));cases h;exact fun a w hs=>lsN rfl (hs.sb 1)
    ·try dsimp only at h
     refine R0 (z85 (L:=L) (E:=E) (m:=m) (H:=H)) (L.ok hl) 2 ?_;cases h;exact fun a w hq=>bkR (bkR (sqR (lsR rfl hq)))
 ·refine D0 25 false (decide_eq_false hp) (F0 (WS.ex 0 ?_));cases h;exact fun a w hs=>sqE (lsB rfl (hs.sb 1))
theorem z81 {E m L H a0_0 a0_1 a0_2 v3_12} :LoopF Tryz.prog (NE.plain 1000) m E Tryz.f22 ((cfst (csnd (cfst (csnd (csnd (csnd B22))))))) (zff L H a0_0 a0_1 a0_2 v3_12) (fun _=>H) 4 z2t (z3j H) (j9 L H a0_0 a0_1 a0_2 v3_12):=by
 rintro v64_14 o h
 unfold j9 at h;try dsimp only at h
 refine A0 (C0 (m0 1 [kB 65 (decide (v64_14<(a0_2.n:Int)))] (B0 (o0 (A0 ?_)))));rcases Q1 h with ⟨hp,h⟩ | ⟨hp,h⟩
 ·refine D0 65 true (decide_eq_true hp) (E0 (G0 (o0 (A0 (J0 5 (A0 (C0 ?_)))))));obtain ⟨p15,hx,h⟩:=bind_some h;refine O0 66 28 108 (.tmp 62) (.tmp 64) hx ?_;obtain ⟨x16_0,hx0,h⟩:=bind_some h;obtain ⟨x16_1,hx1,h⟩:=bind_some h;obtain ⟨x16_2,hx2,h⟩:=bind_some h;obtain ⟨x16_3,hx3,h⟩:=bind_some h;obtain ⟨x16_4,hx4,h⟩:=bind_some h;obtain ⟨x16_5,hx5,h⟩:=bind_some h;refine RS.la 67 108 (.tmp 66) 6 (P1 (O1 hx0 T1) (P1 (O1 hx1 R1) (P1 (O1 hx2 S1) (P1 (O1 hx3 S1) (P1 (O1 hx4 T1) (P1 (O1 hx5 R1) U1)))))) (Q0 2 [kL 9 1 0] ([some (30,[(Sl3.v a0_0),(Sl3.v a0_1),(Sl3.v a0_2)]),some (108,[(vS x16_0),(Sl3.v x16_1),(vI .i64 x16_2),(vI .i64 x16_3),(vS x16_4),(Sl3.v x16_5)])]) (B0 (o0 (A0 (C0 (m0 4 [kB 71 (decide ((x16_1.n:Int) > 64)),kI 70 (x16_1.n:Int),kS 69 x16_1,kL 68 1 1] (B0 (o0 ?_))))))));rcases Q1 h with ⟨hp,h⟩ | ⟨hp,h⟩
  ·refine D0 71 true (decide_eq_true hp) (E0 (A0 (C0 (m0 1 [kB 2 true] (B0 (o0 (I0 ?_)))))));cases h;exact fun a w hs=>bkR (sqR (lsR rfl (rS hs)))
  ·refine D0 71 false (decide_eq_false hp) (F0 (G0 ?_));refine fun a w hs=>bkN ((o0 ?_ a w hs));refine C0 (m0 2 [kI 64 (IntKind.i64.wrap (v64_14+1)),kI 72 (IntKind.i64.wrap (v64_14+1))] (B0 ?_));cases h;exact fun a w hs=>lsN rfl (hs.sb 1)
 ·refine D0 65 false (decide_eq_false hp) (F0 (WS.ex 4 ?_));cases h;exact fun a w hs=>sqE (lsB rfl (hs.sb 1))
theorem zj0 {L:LC} {m:Nat} {H:AH} {a0_0 a0_1 a0_2:Sl3} {r:Bool} (h:z53 L H a0_0 a0_1 a0_2=some r) :
  CallS Tryz.prog (NE.plain 1000) m 22 #[(vA #[(Sl3.v a0_0),(Sl3.v a0_1),(Sl3.v a0_2)])] H (z2t r) (z3j H r):=by
 refine CallS.mk (args:=[(vA #[(Sl3.v a0_0),(Sl3.v a0_1),(Sl3.v a0_2)])]) Tryz.func22 (B:=B22) (by kernel_rfl) (fun E _=>?_);unfold z53 at h;refine A0 (C0 (Q0 2 [kB 2 false,kL 1 0 0] ([some (30,[(Sl3.v a0_0),(Sl3.v a0_1),(Sl3.v a0_2)])]) (B0 (o0 (A0 (C0 (m0 12 [kI 3 (IntKind.i64.wrap ((IntKind.i64.wrap ((a0_0.n:Int)+(a0_1.n:Int)))+(a0_2.n:Int))),kI 20 (IntKind.i64.wrap ((IntKind.i64.wrap ((a0_0.n:Int)+(a0_1.n:Int)))+(a0_2.n:Int))),kI 19 (a0_2.n:Int),kS 18 a0_2,kL 17 0 2,kI 16 (IntKind.i64.wrap ((a0_0.n:Int)+(a0_1.n:Int))),kI 15 (a0_1.n:Int),kS 14 a0_1,kL 13 0 1,kI 12 (a0_0.n:Int),kS 11 a0_0,kL 10 0 0] (B0 (o0 ?_)))))))));refine A0 (A0 (C0 (m0 4 [kI 24 0,kI 23 (a0_1.n:Int),kS 22 a0_1,kL 21 0 1] (B0 (o0 (J0 0 ?_))))));obtain ⟨o,hl,h⟩:=bind_some h;rcases o with ⟨v3_12,v24_13⟩ | r
 ·try dsimp only at h
  refine S0 (z8e (L:=L) (E:=E) (m:=m) (H:=H)) (L.ok hl) 1 ?_;clear hl;refine fun a w hs=>bkE ((o0 ?_ a w hs));refine A0 (A0 (C0 (m0 4 [kI 64 0,kI 63 (a0_2.n:Int),kS 62 a0_2,kL 61 0 2] (B0 (o0 (J0 4 ?_))))));obtain ⟨o,hl,h⟩:=bind_some h;rcases o with v64_17 | r
  ·try dsimp only at h
   refine S0 (z81 (L:=L) (E:=E) (m:=m) (H:=H)) (L.ok hl) 1 ?_;clear hl;refine fun a w hs=>bkE ((o0 ?_ a w hs));refine A0 (C0 (m0 3 [kB 2 (decide (v3_12 > 4096)),kB 74 (decide (v3_12 > 4096)),kI 73 v3_12] (B0 (o0 (I0 ?_)))));cases h;exact fun a w hs=>rtR (rS hs)
  ·try dsimp only at h
   refine R0 (z81 (L:=L) (E:=E) (m:=m) (H:=H)) (L.ok hl) 1 ?_;cases h;exact fun a w hq=>bkR (sqR (rtR hq))
 ·try dsimp only at h
  refine R0 (z8e (L:=L) (E:=E) (m:=m) (H:=H)) (L.ok hl) 1 ?_;cases h;exact fun a w hq=>bkR (sqR (rtR hq))
def zez:(Sl3×AH)→Value
 | (r0,_)=>(Sl3.v r0)
def zfv (_:AH):(Sl3×AH)→AH:=fun r=>r.2
noncomputable def B24:Code:=(Tryz.f24.body).getD .skip
noncomputable def zj (_L:LC) (m:Nat) (H:AH) (a0:Sl3):Option (Sl3×AH) :=
 if (isNilS a0)=true then
  some (Sl3.nil,H)
 else
  (newR 9 0 #[] H).bind fun (s1,H2) => (appS m 9 1 16 H2 s1 a0).bind fun (s3,H4) => some (s3,H4)
theorem z8k {L:LC} {m:Nat} {H:AH} {a0:Sl3} {r:(Sl3×AH)} (h:zj L m H a0=some r) :
  CallS Tryz.prog (NE.plain 1000) m 24 #[(Sl3.v a0)] H (zez r) (zfv H r):=by
 refine CallS.mk (args:=[(Sl3.v a0)]) Tryz.func24 (B:=B24) (by kernel_rfl) (fun E _=>?_);unfold zj at h;refine A0 (C0 (m0 1 [kS 2 Sl3.nil] (B0 (o0 (A0 (A0 (C0 (m0 1 [kS 3 a0] (P0 (H':=H) (some 4) (vB (isNilS a0)) (zea (t:=26) (e:=9) (u:=26) (x:=.tmp 3) (y:=.const (Sl3.v Sl3.nil)) (s:=a0) (by kernel_rfl) (by kernel_rfl) (by kernel_rfl) (by kernel_rfl)) ?_)))))))));refine B0 (o0 ?_);rcases Q1 h with ⟨hp,h⟩ | ⟨hp,h⟩
 ·refine D0 4 true hp (E0 (A0 (C0 (m0 1 [kS 2 Sl3.nil] (B0 (o0 (I0 ?_)))))));cases h;exact fun a w hs=>sqR (rtR (rS hs))
 ·refine D0 4 false (b_not hp) (F0 (G0 (o0 (A0 (C0 ?_)))));obtain ⟨⟨s1,H2⟩,hx,h⟩:=bind_some h;try dsimp only at h
  refine P0 (H':=H2) (some 5) (Sl3.v s1) (Abs.run_newR (by kernel_rfl) (by kernel_rfl) hx) (m0 1 [kS 6 a0] ?_);obtain ⟨⟨s3,H4⟩,hx,h⟩:=bind_some h;try dsimp only at h
  refine P0 (H':=H4) (some 7) (Sl3.v s3) (Abs.run_app (x:=.tmp 5) (y:=.tmp 6) (ts:=#[26,26]) (s:=s1) (z:=a0) (by kernel_rfl) (by kernel_rfl) (by kernel_rfl) (by kernel_rfl) hx) (m0 1 [kS 2 s3] (B0 (o0 (I0 ?_))));cases h;exact fun a w hs=>rtR (rS hs)
def zk:(Sl3×Sl3×AH)→Value
 | (r0,r1,_)=>(Value.tuple #[(Sl3.v r0),(Sl3.v r1)])
def zy (_:AH):(Sl3×Sl3×AH)→AH:=fun r=>r.2.2
noncomputable def B23:Code:=(Tryz.f23.body).getD .skip
noncomputable def l7 (_L:LC) (m:Nat) (_a0_0 _a0_1 _a0_2:Sl3) (_v20_6:Int) (_x8_0:ByteArray) (_x8_1 _s11:Sl3) (_v32_15:Int) (_x17_0:ByteArray) (x17_1:Sl3):(AH×Sl3×Int)→Option (Lp (AH×Sl3×Int) (Sl3×Sl3×AH)):=fun (H22,v5_23,v44_24) =>
 if v44_24<(x17_1.n:Int) then
  (idxA 5 x17_1 v44_24).bind fun p25 => (rd deS H22 (Addr.add p25 0)).bind fun x26_0 => (rd (deI .i64) H22 (Addr.add p25 1)).bind fun _ => (rd (deI .i64) H22 (Addr.add p25 2)).bind fun _ => (rd deS H22 (Addr.add p25 3)).bind fun _ => (rd deSl H22 (Addr.add p25 4)).bind fun _ => (newR 9 1 #[(vS x26_0)] H22).bind fun (s27,H28) => (appS m 9 1 16 H28 v5_23 s27).bind fun (s29,H30) => some (.next (H30,s29,(IntKind.i64.wrap (v44_24+1))))
 else
  some (.brk (H22,v5_23,v44_24))
def zev (_L:LC) (_m:Nat) (a0_0 a0_1 a0_2:Sl3) (v20_6:Int) (x8_0:ByteArray) (x8_1 s11:Sl3) (v32_15:Int) (x17_0:ByteArray) (x17_1:Sl3):(AH×Sl3×Int)→KN×Lcs:=fun (_,v5_23,v44_24)=>([kS 5 v5_23,kI 44 v44_24,kL 1 0 0,kS 4 s11,kS 18 a0_1,kI 19 (a0_1.n:Int),kI 20 v20_6,kS 30 x8_1,kI 31 (x8_1.n:Int),kI 32 v32_15,kS 42 x17_1,kI 43 (x17_1.n:Int)],[some (30,[(Sl3.v a0_0),(Sl3.v a0_1),(Sl3.v a0_2)]),some (93,[(vS x8_0),(Sl3.v x8_1)]),some (103,[(vS x17_0),(Sl3.v x17_1)])])
noncomputable def C7 (L:LC) (m:Nat) (a0_0 a0_1 a0_2:Sl3) (v20_6:Int) (x8_0:ByteArray) (x8_1 s11:Sl3):(AH×Sl3×Int)→Option (Lp (AH×Sl3×Int) (Sl3×Sl3×AH)):=fun (H13,v5_14,v32_15) =>
 if v32_15<(x8_1.n:Int) then
  (idxA 2 x8_1 v32_15).bind fun p16 => (rd deS H13 (Addr.add p16 0)).bind fun x17_0 => (rd deSl H13 (Addr.add p16 1)).bind fun x17_1 => (newR 9 1 #[(vS x17_0)] H13).bind fun (s18,H19) => (appS m 9 1 16 H19 v5_14 s18).bind fun (s20,H21) => (L.run (l7 L m a0_0 a0_1 a0_2 v20_6 x8_0 x8_1 s11 v32_15 x17_0 x17_1) (H21,s20,0)).bind fun o=>match o with
  | .inl (H31,v5_32,_) =>
   some (.next (H31,v5_32,(IntKind.i64.wrap (v32_15+1))))
  | .inr r=>some (.ret r)
 else
  some (.brk (H13,v5_14,v32_15))
def zem (_L:LC) (_m:Nat) (a0_0 a0_1 a0_2:Sl3) (v20_6:Int) (x8_0:ByteArray) (x8_1 s11:Sl3):(AH×Sl3×Int)→KN×Lcs:=fun (_,v5_14,v32_15)=>([kS 5 v5_14,kI 32 v32_15,kL 1 0 0,kS 4 s11,kS 18 a0_1,kI 19 (a0_1.n:Int),kI 20 v20_6,kS 30 x8_1,kI 31 (x8_1.n:Int)],[some (30,[(Sl3.v a0_0),(Sl3.v a0_1),(Sl3.v a0_2)]),some (93,[(vS x8_0),(Sl3.v x8_1)])])
noncomputable def E7 (L:LC) (m:Nat) (a0_0 a0_1 a0_2:Sl3):(AH×Sl3×Sl3×Int)→Option (Lp (AH×Sl3×Sl3×Int) (Sl3×Sl3×AH)):=fun (H3,v4_4,v5_5,v20_6) =>
 if v20_6<(a0_1.n:Int) then
  (idxA 2 a0_1 v20_6).bind fun p7 => (rd deS H3 (Addr.add p7 0)).bind fun x8_0 => (rd deSl H3 (Addr.add p7 1)).bind fun x8_1 => (newR 9 1 #[(vS x8_0)] H3).bind fun (s9,H10) => (appS m 9 1 16 H10 v4_4 s9).bind fun (s11,H12) => (L.run (C7 L m a0_0 a0_1 a0_2 v20_6 x8_0 x8_1 s11) (H12,v5_5,0)).bind fun o=>match o with
  | .inl (H34,v5_35,_) =>
   some (.next (H34,s11,v5_35,(IntKind.i64.wrap (v20_6+1))))
  | .inr r=>some (.ret r)
 else
  some (.brk (H3,v4_4,v5_5,v20_6))
def zel (_L:LC) (_m:Nat) (a0_0 a0_1 a0_2:Sl3):(AH×Sl3×Sl3×Int)→KN×Lcs:=fun (_,v4_4,v5_5,v20_6)=>([kS 4 v4_4,kS 5 v5_5,kI 20 v20_6,kL 1 0 0,kS 18 a0_1,kI 19 (a0_1.n:Int)],[some (30,[(Sl3.v a0_0),(Sl3.v a0_1),(Sl3.v a0_2)])])
noncomputable def A7 (_L:LC) (m:Nat) (_a0_0 _a0_1:Sl3) (a0_2 _v4_38:Sl3):(AH×Sl3×Int)→Option (Lp (AH×Sl3×Int) (Sl3×Sl3×AH)):=fun (H41,v5_42,v59_43) =>
 if v59_43<(a0_2.n:Int) then
  (idxA 6 a0_2 v59_43).bind fun p44 => (rd deS H41 (Addr.add p44 0)).bind fun x45_0 => (rd deSl H41 (Addr.add p44 1)).bind fun _ => (rd (deI .i64) H41 (Addr.add p44 2)).bind fun _ => (rd (deI .i64) H41 (Addr.add p44 3)).bind fun _ => (rd deS H41 (Addr.add p44 4)).bind fun _ => (rd deSl H41 (Addr.add p44 5)).bind fun _ => (newR 9 1 #[(vS x45_0)] H41).bind fun (s46,H47) => (appS m 9 1 16 H47 v5_42 s46).bind fun (s48,H49) => some (.next (H49,s48,(IntKind.i64.wrap (v59_43+1))))
 else
  some (.brk (H41,v5_42,v59_43))
def zf2 (_L:LC) (_m:Nat) (a0_0 a0_1:Sl3) (a0_2 v4_38:Sl3):(AH×Sl3×Int)→KN×Lcs:=fun (_,v5_42,v59_43)=>([kS 5 v5_42,kI 59 v59_43,kS 4 v4_38,kS 57 a0_2,kI 58 (a0_2.n:Int)],[some (30,[(Sl3.v a0_0),(Sl3.v a0_1),(Sl3.v a0_2)])])
noncomputable def z42 (L:LC) (m:Nat) (H:AH) (a0_0 a0_1 a0_2:Sl3):Option (Sl3×Sl3×AH) :=
 (zj L m H a0_0).bind fun (x1,H2) => (L.run (E7 L m a0_0 a0_1 a0_2) (H2,x1,Sl3.nil,0)).bind fun o=>match o with
 | .inl (H37,v4_38,v5_39,_) =>
  (L.run (A7 L m a0_0 a0_1 a0_2 v4_38) (H37,v5_39,0)).bind fun o=>match o with
  | .inl (H50,v5_51,_) =>
   some (v4_38,v5_51,H50)
  | .inr r=>some r
 | .inr r=>some r
theorem z79 {E H L m a0_0 a0_1 a0_2 v20_6 x8_0 x8_1 s11 v32_15 x17_0 x17_1} :LoopF Tryz.prog (NE.plain 1000) m E Tryz.f23 ((cfst (csnd (csnd (csnd (cfst (cfst (csnd (csnd (cfst (cfst (csnd (csnd (csnd (cfst (cfst (csnd (csnd (cfst (cfst (csnd (cfst (csnd (csnd (csnd B23))))))))))))))))))))))))) (zev L m a0_0 a0_1 a0_2 v20_6 x8_0 x8_1 s11 v32_15 x17_0 x17_1) (fun s=>s.1) 4 zk (zy H) (l7 L m a0_0 a0_1 a0_2 v20_6 x8_0 x8_1 s11 v32_15 x17_0 x17_1):=by
 rintro ⟨H22,v5_23,v44_24⟩ o h
 unfold l7 at h;try dsimp only at h
 refine A0 (C0 (m0 1 [kB 45 (decide (v44_24<(x17_1.n:Int)))] (B0 (o0 (A0 ?_)))));rcases Q1 h with ⟨hp,h⟩ | ⟨hp,h⟩
 ·refine D0 45 true (decide_eq_true hp) (E0 (G0 (o0 (A0 (J0 5 (A0 (C0 ?_)))))));obtain ⟨p25,hx,h⟩:=bind_some h;refine O0 46 101 105 (.tmp 42) (.tmp 44) hx ?_;obtain ⟨x26_0,hx0,h⟩:=bind_some h;obtain ⟨x26_1,hx1,h⟩:=bind_some h;obtain ⟨x26_2,hx2,h⟩:=bind_some h;obtain ⟨x26_3,hx3,h⟩:=bind_some h;obtain ⟨x26_4,hx4,h⟩:=bind_some h;refine RS.la 47 105 (.tmp 46) 5 (P1 (O1 hx0 T1) (P1 (O1 hx1 S1) (P1 (O1 hx2 S1) (P1 (O1 hx3 T1) (P1 (O1 hx4 R1) U1))))) (Q0 2 [kL 11 3 0] ([some (30,[(Sl3.v a0_0),(Sl3.v a0_1),(Sl3.v a0_2)]),some (93,[(vS x8_0),(Sl3.v x8_1)]),some (103,[(vS x17_0),(Sl3.v x17_1)]),some (105,[(vS x26_0),(vI .i64 x26_1),(vI .i64 x26_2),(vS x26_3),(Sl3.v x26_4)])]) (B0 (o0 (C0 (m0 3 [kT 50 x26_0,kL 49 3 0,kS 48 v5_23] ?_)))));obtain ⟨⟨s27,H28⟩,hx,h⟩:=bind_some h;try dsimp only at h
  refine P0 (H':=H28) (some 51) (Sl3.v s27) (Abs.run_newR (by kernel_rfl) (by kernel_rfl) hx) ?_;obtain ⟨⟨s29,H30⟩,hx,h⟩:=bind_some h;try dsimp only at h
  refine P0 (H':=H30) (some 52) (Sl3.v s29) (Abs.run_app (x:=.tmp 48) (y:=.tmp 51) (ts:=#[26,26]) (s:=v5_23) (z:=s27) (by kernel_rfl) (by kernel_rfl) (by kernel_rfl) (by kernel_rfl) hx) (m0 1 [kS 5 s29] (B0 ?_));refine fun a w hs=>bkN ((o0 ?_ a w hs));refine C0 (m0 2 [kI 44 (IntKind.i64.wrap (v44_24+1)),kI 53 (IntKind.i64.wrap (v44_24+1))] (B0 ?_));cases h;exact fun a w hs=>lsN rfl (hs.sb 3)
 ·refine D0 45 false (decide_eq_false hp) (F0 (WS.ex 4 ?_));cases h;exact fun a w hs=>sqE (lsB rfl (hs.sb 3))
theorem z6l {E H L m a0_0 a0_1 a0_2 v20_6 x8_0 x8_1 s11} :LoopF Tryz.prog (NE.plain 1000) m E Tryz.f23 ((cfst (csnd (csnd (csnd (cfst (cfst (csnd (csnd (cfst (cfst (csnd (cfst (csnd (csnd (csnd B23)))))))))))))))) (zem L m a0_0 a0_1 a0_2 v20_6 x8_0 x8_1 s11) (fun s=>s.1) 2 zk (zy H) (C7 L m a0_0 a0_1 a0_2 v20_6 x8_0 x8_1 s11):=by
 rintro ⟨H13,v5_14,v32_15⟩ o h
 unfold C7 at h;try dsimp only at h
 refine A0 (C0 (m0 1 [kB 33 (decide (v32_15<(x8_1.n:Int)))] (B0 (o0 (A0 ?_)))));rcases Q1 h with ⟨hp,h⟩ | ⟨hp,h⟩
 ·refine D0 33 true (decide_eq_true hp) (E0 (G0 (o0 (A0 (J0 3 (A0 (C0 ?_)))))));obtain ⟨p16,hx,h⟩:=bind_some h;refine O0 34 91 103 (.tmp 30) (.tmp 32) hx ?_;obtain ⟨x17_0,hx0,h⟩:=bind_some h;obtain ⟨x17_1,hx1,h⟩:=bind_some h;refine RS.la 35 103 (.tmp 34) 2 (P1 (O1 hx0 T1) (P1 (O1 hx1 R1) U1)) (Q0 2 [kL 9 2 0] ([some (30,[(Sl3.v a0_0),(Sl3.v a0_1),(Sl3.v a0_2)]),some (93,[(vS x8_0),(Sl3.v x8_1)]),some (103,[(vS x17_0),(Sl3.v x17_1)])]) (B0 (o0 (A0 (C0 (m0 3 [kT 38 x17_0,kL 37 2 0,kS 36 v5_14] ?_))))));obtain ⟨⟨s18,H19⟩,hx,h⟩:=bind_some h;try dsimp only at h
  refine P0 (H':=H19) (some 39) (Sl3.v s18) (Abs.run_newR (by kernel_rfl) (by kernel_rfl) hx) ?_;obtain ⟨⟨s20,H21⟩,hx,h⟩:=bind_some h;try dsimp only at h
  refine P0 (H':=H21) (some 40) (Sl3.v s20) (Abs.run_app (x:=.tmp 36) (y:=.tmp 39) (ts:=#[26,26]) (s:=v5_14) (z:=s18) (by kernel_rfl) (by kernel_rfl) (by kernel_rfl) (by kernel_rfl) hx) (m0 1 [kS 5 s20] (B0 (o0 (A0 (C0 (m0 4 [kI 44 0,kI 43 (x17_1.n:Int),kS 42 x17_1,kL 41 2 1] (B0 (o0 (J0 4 ?_)))))))));obtain ⟨o,hl,h⟩:=bind_some h;rcases o with ⟨H31,v5_32,v44_33⟩ | r
  ·try dsimp only at h
   refine S0 (z79 (L:=L) (E:=E) (m:=m) (H:=H)) (L.ok hl) 3 ?_;clear hl;refine fun a w hs=>bkE (bkN ((o0 ?_ a w hs)));refine C0 (m0 2 [kI 32 (IntKind.i64.wrap (v32_15+1)),kI 54 (IntKind.i64.wrap (v32_15+1))] (B0 ?_));cases h;exact fun a w hs=>lsN rfl (hs.sb 2)
  ·try dsimp only at h
   refine R0 (z79 (L:=L) (E:=E) (m:=m) (H:=H)) (L.ok hl) 3 ?_;cases h;exact fun a w hq=>bkR (bkR (sqR (lsR rfl hq)))
 ·refine D0 33 false (decide_eq_false hp) (F0 (WS.ex 2 ?_));cases h;exact fun a w hs=>sqE (lsB rfl (hs.sb 2))
theorem z6q {E H L m a0_0 a0_1 a0_2} :LoopF Tryz.prog (NE.plain 1000) m E Tryz.f23 ((cfst (csnd (cfst (csnd (csnd (csnd B23))))))) (zel L m a0_0 a0_1 a0_2) (fun s=>s.1) 0 zk (zy H) (E7 L m a0_0 a0_1 a0_2):=by
 rintro ⟨H3,v4_4,v5_5,v20_6⟩ o h
 unfold E7 at h;try dsimp only at h
 refine A0 (C0 (m0 1 [kB 21 (decide (v20_6<(a0_1.n:Int)))] (B0 (o0 (A0 ?_)))));rcases Q1 h with ⟨hp,h⟩ | ⟨hp,h⟩
 ·refine D0 21 true (decide_eq_true hp) (E0 (G0 (o0 (A0 (J0 1 (A0 (C0 ?_)))))));obtain ⟨p7,hx,h⟩:=bind_some h;refine O0 22 27 93 (.tmp 18) (.tmp 20) hx ?_;obtain ⟨x8_0,hx0,h⟩:=bind_some h;obtain ⟨x8_1,hx1,h⟩:=bind_some h;refine RS.la 23 93 (.tmp 22) 2 (P1 (O1 hx0 T1) (P1 (O1 hx1 R1) U1)) (Q0 2 [kL 7 1 0] ([some (30,[(Sl3.v a0_0),(Sl3.v a0_1),(Sl3.v a0_2)]),some (93,[(vS x8_0),(Sl3.v x8_1)])]) (B0 (o0 (A0 (C0 (m0 3 [kT 26 x8_0,kL 25 1 0,kS 24 v4_4] ?_))))));obtain ⟨⟨s9,H10⟩,hx,h⟩:=bind_some h;try dsimp only at h
  refine P0 (H':=H10) (some 27) (Sl3.v s9) (Abs.run_newR (by kernel_rfl) (by kernel_rfl) hx) ?_;obtain ⟨⟨s11,H12⟩,hx,h⟩:=bind_some h;try dsimp only at h
  refine P0 (H':=H12) (some 28) (Sl3.v s11) (Abs.run_app (x:=.tmp 24) (y:=.tmp 27) (ts:=#[26,26]) (s:=v4_4) (z:=s9) (by kernel_rfl) (by kernel_rfl) (by kernel_rfl) (by kernel_rfl) hx) (m0 1 [kS 4 s11] (B0 (o0 (A0 (C0 (m0 4 [kI 32 0,kI 31 (x8_1.n:Int),kS 30 x8_1,kL 29 1 1] (B0 (o0 (J0 2 ?_)))))))));obtain ⟨o,hl,h⟩:=bind_some h;rcases o with ⟨H34,v5_35,v32_36⟩ | r
  ·try dsimp only at h
   refine S0 (z6l (L:=L) (E:=E) (m:=m) (H:=H)) (L.ok hl) 2 ?_;clear hl;refine fun a w hs=>bkE (bkN ((o0 ?_ a w hs)));refine C0 (m0 2 [kI 20 (IntKind.i64.wrap (v20_6+1)),kI 55 (IntKind.i64.wrap (v20_6+1))] (B0 ?_));cases h;exact fun a w hs=>lsN rfl (hs.sb 1)
  ·try dsimp only at h
   refine R0 (z6l (L:=L) (E:=E) (m:=m) (H:=H)) (L.ok hl) 2 ?_;cases h;exact fun a w hq=>bkR (bkR (sqR (lsR rfl hq)))
 ·refine D0 21 false (decide_eq_false hp) (F0 (WS.ex 0 ?_));cases h;exact fun a w hs=>sqE (lsB rfl (hs.sb 1))
theorem z7a {E H L m a0_0 a0_1 a0_2 v4_38} :LoopF Tryz.prog (NE.plain 1000) m E Tryz.f23 ((cfst (csnd (cfst (csnd (csnd (csnd (csnd B23)))))))) (zf2 L m a0_0 a0_1 a0_2 v4_38) (fun s=>s.1) 6 zk (zy H) (A7 L m a0_0 a0_1 a0_2 v4_38):=by
 rintro ⟨H41,v5_42,v59_43⟩ o h
 unfold A7 at h;try dsimp only at h
 refine A0 (C0 (m0 1 [kB 60 (decide (v59_43<(a0_2.n:Int)))] (B0 (o0 (A0 ?_)))));rcases Q1 h with ⟨hp,h⟩ | ⟨hp,h⟩
 ·refine D0 60 true (decide_eq_true hp) (E0 (G0 (o0 (A0 (J0 7 (A0 (C0 ?_)))))));obtain ⟨p44,hx,h⟩:=bind_some h;refine O0 61 28 108 (.tmp 57) (.tmp 59) hx ?_;obtain ⟨x45_0,hx0,h⟩:=bind_some h;obtain ⟨x45_1,hx1,h⟩:=bind_some h;obtain ⟨x45_2,hx2,h⟩:=bind_some h;obtain ⟨x45_3,hx3,h⟩:=bind_some h;obtain ⟨x45_4,hx4,h⟩:=bind_some h;obtain ⟨x45_5,hx5,h⟩:=bind_some h;refine RS.la 62 108 (.tmp 61) 6 (P1 (O1 hx0 T1) (P1 (O1 hx1 R1) (P1 (O1 hx2 S1) (P1 (O1 hx3 S1) (P1 (O1 hx4 T1) (P1 (O1 hx5 R1) U1)))))) (Q0 2 [kL 13 1 0] ([some (30,[(Sl3.v a0_0),(Sl3.v a0_1),(Sl3.v a0_2)]),some (108,[(vS x45_0),(Sl3.v x45_1),(vI .i64 x45_2),(vI .i64 x45_3),(vS x45_4),(Sl3.v x45_5)])]) (B0 (o0 (C0 (m0 3 [kT 65 x45_0,kL 64 1 0,kS 63 v5_42] ?_)))));obtain ⟨⟨s46,H47⟩,hx,h⟩:=bind_some h;try dsimp only at h
  refine P0 (H':=H47) (some 66) (Sl3.v s46) (Abs.run_newR (by kernel_rfl) (by kernel_rfl) hx) ?_;obtain ⟨⟨s48,H49⟩,hx,h⟩:=bind_some h;try dsimp only at h
  refine P0 (H':=H49) (some 67) (Sl3.v s48) (Abs.run_app (x:=.tmp 63) (y:=.tmp 66) (ts:=#[26,26]) (s:=v5_42) (z:=s46) (by kernel_rfl) (by kernel_rfl) (by kernel_rfl) (by kernel_rfl) hx) (m0 1 [kS 5 s48] (B0 ?_));refine fun a w hs=>bkN ((o0 ?_ a w hs));refine C0 (m0 2 [kI 59 (IntKind.i64.wrap (v59_43+1)),kI 68 (IntKind.i64.wrap (v59_43+1))] (B0 ?_));cases h;exact fun a w hs=>lsN rfl (hs.sb 1)
 ·refine D0 60 false (decide_eq_false hp) (F0 (WS.ex 6 ?_));cases h;exact fun a w hs=>sqE (lsB rfl (hs.sb 1))
theorem ziq {L:LC} {m:Nat} {H:AH} {a0_0 a0_1 a0_2:Sl3} {r:(Sl3×Sl3×AH)} (h:z42 L m H a0_0 a0_1 a0_2=some r) :
  CallS Tryz.prog (NE.plain 1000) m 23 #[(vA #[(Sl3.v a0_0),(Sl3.v a0_1),(Sl3.v a0_2)])] H (zk r) (zy H r):=by
 refine CallS.mk (args:=[(vA #[(Sl3.v a0_0),(Sl3.v a0_1),(Sl3.v a0_2)])]) Tryz.func23 (B:=B23) (by kernel_rfl) (fun E _=>?_);unfold z42 at h;refine A0 (C0 (Q0 3 [kS 3 Sl3.nil,kS 2 Sl3.nil,kL 1 0 0] ([some (30,[(Sl3.v a0_0),(Sl3.v a0_1),(Sl3.v a0_2)])]) (B0 (o0 (A0 (C0 (m0 2 [kS 15 a0_0,kL 14 0 0] ?_)))))));obtain ⟨⟨x1,H2⟩,hx,h⟩:=bind_some h;try dsimp only at h
 refine N0 (some 16) (v:=(Sl3.v x1)) 24 _ (z8k hx) (m0 1 [kS 4 x1] (B0 (o0 (A0 (C0 (m0 1 [kS 5 Sl3.nil] (B0 (o0 (A0 ?_)))))))));refine A0 (C0 (m0 4 [kI 20 0,kI 19 (a0_1.n:Int),kS 18 a0_1,kL 17 0 1] (B0 (o0 (J0 0 ?_)))));obtain ⟨o,hl,h⟩:=bind_some h;rcases o with ⟨H37,v4_38,v5_39,v20_40⟩ | r
 ·try dsimp only at h
  refine S0 (z6q (L:=L) (E:=E) (m:=m) (H:=H)) (L.ok hl) 1 ?_;clear hl;refine fun a w hs=>bkE ((o0 ?_ a w hs));refine A0 (A0 (C0 (m0 4 [kI 59 0,kI 58 (a0_2.n:Int),kS 57 a0_2,kL 56 0 2] (B0 (o0 (J0 6 ?_))))));obtain ⟨o,hl,h⟩:=bind_some h;rcases o with ⟨H50,v5_51,v59_52⟩ | r
  ·try dsimp only at h
   refine S0 (z7a (L:=L) (E:=E) (m:=m) (H:=H)) (L.ok hl) 1 ?_;clear hl;refine fun a w hs=>bkE ((o0 ?_ a w hs));refine A0 (C0 (m0 4 [kS 3 v5_51,kS 2 v4_38,kS 70 v5_51,kS 69 v4_38] (B0 (o0 (I0 ?_)))));cases h;exact fun a w hs=>rtR (rS hs)
  ·try dsimp only at h
   refine R0 (z7a (L:=L) (E:=E) (m:=m) (H:=H)) (L.ok hl) 1 ?_;cases h;exact fun a w hq=>bkR (sqR (rtR hq))
 ·try dsimp only at h
  refine R0 (z6q (L:=L) (E:=E) (m:=m) (H:=H)) (L.ok hl) 1 ?_;cases h;exact fun a w hq=>bkR (sqR (rtR hq))
def z9g:(Bool×AH)→Value
 | (r0,_)=>(vB r0)
def zbe (_:AH):(Bool×AH)→AH:=fun r=>r.2
noncomputable def B26:Code:=(Tryz.f26.body).getD .skip
noncomputable def m7 (_L:LC) (m:Nat) (a0:Sl3) (p1:Nat):(AH×Int)→Option (Lp (AH×Int) (Bool×AH)):=fun (H3,v9_4) =>
 if v9_4<(a0.n:Int) then
  (idxA 1 a0 v9_4).bind fun p5 => (rd deS H3 p5).bind fun x6 => (lk1 Tryz.prog 109 deB H3 (some p1) (vS x6)).bind fun x7 => if x7=true then
   some (.ret (true,H3))
  else
   (upM Tryz.prog m 109 H3 (some p1) (vS x6) (vB true)).bind fun H8 => some (.next (H8,(IntKind.i64.wrap (v9_4+1))))
 else
  some (.brk (H3,v9_4))
def zew (_L:LC) (_m:Nat) (a0:Sl3) (p1:Nat):(AH×Int)→KN×Lcs:=fun (_,v9_4)=>([kI 9 v9_4,(3,.val (Value.map (some p1))),kS 7 a0,kI 8 (a0.n:Int)],[])
noncomputable def W9 (L:LC) (m:Nat) (H:AH) (a0:Sl3):Option (Bool×AH) :=
 (newM H).bind fun (p1,H2) => (L.run (m7 L m a0 p1) (H2,0)).bind fun o=>match o with
 | .inl (H9,_) =>
  some (false,H9)
 | .inr r=>some r
theorem z6j {E H L m a0 p1} :LoopF Tryz.prog (NE.plain 1000) m E Tryz.f26 ((cfst (csnd (cfst (csnd (csnd B26)))))) (zew L m a0 p1) (fun s=>s.1) 0 z9g (zbe H) (m7 L m a0 p1):=by
 rintro ⟨H3,v9_4⟩ o h
 unfold m7 at h;try dsimp only at h
 refine A0 (C0 (m0 1 [kB 10 (decide (v9_4<(a0.n:Int)))] (B0 (o0 (A0 ?_)))));rcases Q1 h with ⟨hp,h⟩ | ⟨hp,h⟩
 ·refine D0 10 true (decide_eq_true hp) (E0 (G0 (o0 (A0 (J0 1 (A0 (C0 ?_)))))));obtain ⟨p5,hx,h⟩:=bind_some h;refine O0 11 26 9 (.tmp 7) (.tmp 9) hx ?_;obtain ⟨x6,hx,h⟩:=bind_some h;refine T0 12 9 (.tmp 11) (O1 hx T1) (m0 1 [kT 5 x6] (B0 (o0 (A0 (A0 (C0 (m0 2 [kT 14 x6,(13,.val (Value.map (some p1)))] ?_)))))));obtain ⟨x7,hx,h⟩:=bind_some h;refine P0 (H':=H3) (some 15) (vB x7) (Abs.run_look (t:=109) (x:=.tmp 13) (y:=.tmp 14) (mm:=(some p1)) (k:=(vS x6)) (by kernel_rfl) (by kernel_rfl) (by kernel_rfl) (by kernel_rfl) (lk1_eq hx F6)) (B0 (o0 ?_));rcases Q1 h with ⟨hp,h⟩ | ⟨hp,h⟩
  ·refine D0 15 true hp (E0 (A0 (C0 (m0 1 [kB 2 true] (B0 (o0 (I0 ?_)))))));cases h;exact fun a w hs=>sqR (bkR (sqR (lsR rfl (rS hs))))
  ·refine D0 15 false (b_not hp) (F0 (G0 (o0 (C0 (m0 2 [kT 17 x6,(16,.val (Value.map (some p1)))] ?_)))));obtain ⟨H8,hx,h⟩:=bind_some h;refine P0 (H':=H8) none undef (Abs.run_upM (t:=109) (x:=.tmp 16) (y:=.tmp 17) (z:=.const (vB true)) (mm:=(some p1)) (k:=(vS x6)) (v:=(vB true)) (by kernel_rfl) (by kernel_rfl) (by kernel_rfl) (by kernel_rfl) (by kernel_rfl) hx) (B0 ?_);refine fun a w hs=>bkN ((o0 ?_ a w hs));refine C0 (m0 2 [kI 9 (IntKind.i64.wrap (v9_4+1)),kI 18 (IntKind.i64.wrap (v9_4+1))] (B0 ?_));cases h;exact fun a w hs=>lsN rfl (hs.sb 0)
 ·refine D0 10 false (decide_eq_false hp) (F0 (WS.ex 0 ?_));cases h;exact fun a w hs=>sqE (lsB rfl (hs.sb 0))
theorem zb7 {L:LC} {m:Nat} {H:AH} {a0:Sl3} {r:(Bool×AH)} (h:W9 L m H a0=some r) :
  CallS Tryz.prog (NE.plain 1000) m 26 #[(Sl3.v a0)] H (z9g r) (zbe H r):=by
 refine CallS.mk (args:=[(Sl3.v a0)]) Tryz.func26 (B:=B26) (by kernel_rfl) (fun E _=>?_);unfold W9 at h;refine A0 (C0 (m0 1 [kB 2 false] (B0 (o0 (A0 (C0 ?_))))));obtain ⟨⟨p1,H2⟩,hx,h⟩:=bind_some h;try dsimp only at h
 refine P0 (H':=H2) (some 6) (Value.map (some p1)) (Abs.run_newM (by kernel_rfl) hx) (m0 1 [(3,.val (Value.map (some p1)))] (B0 (o0 (A0 (A0 (C0 (m0 3 [kI 9 0,kI 8 (a0.n:Int),kS 7 a0] (B0 (o0 ?_)))))))));refine J0 0 ?_;obtain ⟨o,hl,h⟩:=bind_some h;rcases o with ⟨H9,v9_10⟩ | r
 ·try dsimp only at h
  refine S0 (z6j (L:=L) (E:=E) (m:=m) (H:=H)) (L.ok hl) 0 ?_;clear hl;refine fun a w hs=>bkE ((o0 ?_ a w hs));refine A0 (C0 (m0 1 [kB 2 false] (B0 (o0 (I0 ?_)))));cases h;exact fun a w hs=>rtR (rS hs)
 ·try dsimp only at h
  refine R0 (z6j (L:=L) (E:=E) (m:=m) (H:=H)) (L.ok hl) 0 ?_;cases h;exact fun a w hq=>bkR (sqR (rtR hq))
def zbx:(Sl3×AH)→Value
 | (r0,_)=>(Sl3.v r0)
def zd3 (_:AH):(Sl3×AH)→AH:=fun r=>r.2
noncomputable def B51:Code:=(Tryz.f51.body).getD .skip
noncomputable def O9 (_L:LC) (m:Nat) (H:AH) (a0:Sl3):Option (Sl3×AH) :=
 if (isNilS a0)=true then
  some (Sl3.nil,H)
 else
  (newR 25 0 #[] H).bind fun (s1,H2) => (appS m 25 4 56 H2 s1 a0).bind fun (s3,H4) => some (s3,H4)
theorem z1n {L:LC} {m:Nat} {H:AH} {a0:Sl3} {r:(Sl3×AH)} (h:O9 L m H a0=some r) :
  CallS Tryz.prog (NE.plain 1000) m 51 #[(Sl3.v a0)] H (zbx r) (zd3 H r):=by
 refine CallS.mk (args:=[(Sl3.v a0)]) Tryz.func51 (B:=B51) (by kernel_rfl) (fun E _=>?_);unfold O9 at h;refine A0 (C0 (m0 1 [kS 2 Sl3.nil] (B0 (o0 (A0 (A0 (C0 (m0 1 [kS 3 a0] (P0 (H':=H) (some 4) (vB (isNilS a0)) (zea (t:=23) (e:=25) (u:=23) (x:=.tmp 3) (y:=.const (Sl3.v Sl3.nil)) (s:=a0) (by kernel_rfl) (by kernel_rfl) (by kernel_rfl) (by kernel_rfl)) ?_)))))))));refine B0 (o0 ?_);rcases Q1 h with ⟨hp,h⟩ | ⟨hp,h⟩
 ·refine D0 4 true hp (E0 (A0 (C0 (m0 1 [kS 2 Sl3.nil] (B0 (o0 (I0 ?_)))))));cases h;exact fun a w hs=>sqR (rtR (rS hs))
 ·refine D0 4 false (b_not hp) (F0 (G0 (o0 (A0 (C0 ?_)))));obtain ⟨⟨s1,H2⟩,hx,h⟩:=bind_some h;try dsimp only at h
  refine P0 (H':=H2) (some 5) (Sl3.v s1) (Abs.run_newR (by kernel_rfl) (by kernel_rfl) hx) (m0 1 [kS 6 a0] ?_);obtain ⟨⟨s3,H4⟩,hx,h⟩:=bind_some h;try dsimp only at h
  refine P0 (H':=H4) (some 7) (Sl3.v s3) (Abs.run_app (x:=.tmp 5) (y:=.tmp 6) (ts:=#[23,23]) (s:=s1) (z:=a0) (by kernel_rfl) (by kernel_rfl) (by kernel_rfl) (by kernel_rfl) hx) (m0 1 [kS 2 s3] (B0 (o0 (I0 ?_))));cases h;exact fun a w hs=>rtR (rS hs)
def M4:(Int×AH)→Value
 | (r0,_)=>(vI .i64 r0)
def W4 (_:AH):(Int×AH)→AH:=fun r=>r.2
noncomputable def B28:Code:=(Tryz.f28.body).getD .skip
noncomputable def j3 (L:LC) (H:AH) (q1:Addr) (_x2:Sl3) (_v21_3:Int) (_x5_0:ByteArray) (_x5_1:Sl3) (_v28_6:Int) (_x8_0:ByteArray) (x8_1:Sl3):Int→Option (Lp Int (Int×AH)):=fun v35_9 =>
 if v35_9<(x8_1.n:Int) then
  (idxA 5 x8_1 v35_9).bind fun p10 => (rd deS H (Addr.add p10 0)).bind fun _ => (rd (deI .i64) H (Addr.add p10 1)).bind fun x11_1 => (rd (deI .i64) H (Addr.add p10 2)).bind fun x11_2 => (rd deS H (Addr.add p10 3)).bind fun x11_3 => (rd deSl H (Addr.add p10 4)).bind fun x11_4 => (Y6 L H (some q1) x11_1 x11_2 x11_3 x11_4).bind fun x12 => if x12=0 then
   some (.next (IntKind.i64.wrap (v35_9+1)))
  else
   some (.ret (x12,H))
 else
  some (.brk v35_9)
def z6k (_L:LC) (_H:AH) (q1:Addr) (x2:Sl3) (v21_3:Int) (x5_0:ByteArray) (x5_1:Sl3) (v28_6:Int) (x8_0:ByteArray) (x8_1:Sl3):Int→KN×Lcs:=fun v35_9=>([kI 35 v35_9,kP 0 q1,kS 19 x2,kI 20 (x2.n:Int),kI 21 v21_3,kS 26 x5_1,kI 27 (x5_1.n:Int),kI 28 v28_6,kS 33 x8_1,kI 34 (x8_1.n:Int)],[some (93,[(vS x5_0),(Sl3.v x5_1)]),some (103,[(vS x8_0),(Sl3.v x8_1)])])
noncomputable def C3 (L:LC) (H:AH) (q1:Addr) (x2:Sl3) (v21_3:Int) (x5_0:ByteArray) (x5_1:Sl3):Int→Option (Lp Int (Int×AH)):=fun v28_6 =>
 if v28_6<(x5_1.n:Int) then
  (idxA 2 x5_1 v28_6).bind fun p7 => (rd deS H (Addr.add p7 0)).bind fun x8_0 => (rd deSl H (Addr.add p7 1)).bind fun x8_1 => (L.run (j3 L H q1 x2 v21_3 x5_0 x5_1 v28_6 x8_0 x8_1) 0).bind fun o=>match o with
  | .inl _ =>
   some (.next (IntKind.i64.wrap (v28_6+1)))
  | .inr r=>some (.ret r)
 else
  some (.brk v28_6)
def z6t (_L:LC) (_H:AH) (q1:Addr) (x2:Sl3) (v21_3:Int) (x5_0:ByteArray) (x5_1:Sl3):Int→KN×Lcs:=fun v28_6=>([kI 28 v28_6,kP 0 q1,kS 19 x2,kI 20 (x2.n:Int),kI 21 v21_3,kS 26 x5_1,kI 27 (x5_1.n:Int)],[some (93,[(vS x5_0),(Sl3.v x5_1)])])
noncomputable def A3 (L:LC) (H:AH) (q1:Addr) (x2:Sl3):Int→Option (Lp Int (Int×AH)):=fun v21_3 =>
 if v21_3<(x2.n:Int) then
  (idxA 2 x2 v21_3).bind fun p4 => (rd deS H (Addr.add p4 0)).bind fun x5_0 => (rd deSl H (Addr.add p4 1)).bind fun x5_1 => (L.run (C3 L H q1 x2 v21_3 x5_0 x5_1) 0).bind fun o=>match o with
  | .inl _ =>
   some (.next (IntKind.i64.wrap (v21_3+1)))
  | .inr r=>some (.ret r)
 else
  some (.brk v21_3)
def z7f (_L:LC) (_H:AH) (q1:Addr) (x2:Sl3):Int→KN×Lcs:=fun v21_3=>([kI 21 v21_3,kP 0 q1,kS 19 x2,kI 20 (x2.n:Int)],[])
noncomputable def D3 (L:LC) (q1:Addr) (_x16:Sl3) (_v55_18:Int) (_x20_0:ByteArray) (_x20_1:Sl3) (_x20_2 _x20_3:Int) (_x20_4:ByteArray) (_x20_5 s25:Sl3) (H26:AH):Int→Option (Lp Int (Int×AH)):=fun v67_27 =>
 if v67_27<(s25.n:Int) then
  (idxA 4 s25 v67_27).bind fun p28 => (rd (deI .i64) H26 (Addr.add p28 0)).bind fun x29_0 => (rd (deI .i64) H26 (Addr.add p28 1)).bind fun x29_1 => (rd deS H26 (Addr.add p28 2)).bind fun x29_2 => (rd deSl H26 (Addr.add p28 3)).bind fun x29_3 => (Y6 L H26 (some q1) x29_0 x29_1 x29_2 x29_3).bind fun x30 => if x30=0 then
   some (.next (IntKind.i64.wrap (v67_27+1)))
  else
   some (.ret (x30,H26))
 else
  some (.brk v67_27)
def z7i (_L:LC) (q1:Addr) (x16:Sl3) (v55_18:Int) (x20_0:ByteArray) (x20_1:Sl3) (x20_2 x20_3:Int) (x20_4:ByteArray) (x20_5 s25:Sl3) (_H26:AH):Int→KN×Lcs:=fun v67_27=>([kI 67 v67_27,kP 0 q1,kS 53 x16,kI 54 (x16.n:Int),kI 55 v55_18,kS 65 s25,kI 66 (s25.n:Int)],[some (108,[(vS x20_0),(Sl3.v x20_1),(vI .i64 x20_2),(vI .i64 x20_3),(vS x20_4),(Sl3.v x20_5)]),none])
noncomputable def Y2 (L:LC) (m:Nat) (q1:Addr) (x16:Sl3):(AH×Int)→Option (Lp (AH×Int) (Int×AH)):=fun (H17,v55_18) =>
 if v55_18<(x16.n:Int) then
  (idxA 6 x16 v55_18).bind fun p19 => (rd deS H17 (Addr.add p19 0)).bind fun x20_0 => (rd deSl H17 (Addr.add p19 1)).bind fun x20_1 => (rd (deI .i64) H17 (Addr.add p19 2)).bind fun x20_2 => (rd (deI .i64) H17 (Addr.add p19 3)).bind fun x20_3 => (rd deS H17 (Addr.add p19 4)).bind fun x20_4 => (rd deSl H17 (Addr.add p19 5)).bind fun x20_5 => (O9 L (Nat.max m H17.next) H17 x20_1).bind fun (x21,H22) => (newS 25 [(vI .i64 x20_2),(vI .i64 x20_3),(vS x20_4),(Sl3.v x20_5)] H22).bind fun (k23,H24) => (appS m 25 4 56 H24 x21 (⟨some ⟨k23,0,none⟩,1,1⟩:Sl3)).bind fun (s25,H26) => (L.run (D3 L q1 x16 v55_18 x20_0 x20_1 x20_2 x20_3 x20_4 x20_5 s25 H26) 0).bind fun o=>match o with
  | .inl _ =>
   some (.next (H26,(IntKind.i64.wrap (v55_18+1))))
  | .inr r=>some (.ret r)
 else
  some (.brk (H17,v55_18))
def z74 (_L:LC) (_m:Nat) (q1:Addr) (x16:Sl3):(AH×Int)→KN×Lcs:=fun (_,v55_18)=>([kI 55 v55_18,kP 0 q1,kS 53 x16,kI 54 (x16.n:Int)],[])
noncomputable def X7 (L:LC) (m:Nat) (H:AH) (a0:Option Addr):Option (Int×AH) :=
 a0.bind fun q1 => (rd deSl H (Addr.add (Addr.add q1 0) 1)).bind fun x2 => (L.run (A3 L H q1 x2) 0).bind fun o=>match o with
 | .inl _ =>
  (rd deSl H (Addr.add (Addr.add q1 0) 2)).bind fun x16 => (L.run (Y2 L m q1 x16) (H,0)).bind fun o=>match o with
  | .inl (H32,_) =>
   some (0,H32)
  | .inr r=>some r
 | .inr r=>some r
theorem z1o {E m L H q1 x2 v21_3 x5_0 x5_1 v28_6 x8_0 x8_1} :LoopF Tryz.prog (NE.plain 1000) m E Tryz.f28 ((cfst (csnd (csnd (cfst (cfst (csnd (csnd (cfst (cfst (csnd (csnd (cfst (cfst (csnd (csnd (cfst (cfst (csnd (cfst (csnd B28))))))))))))))))))))) (z6k L H q1 x2 v21_3 x5_0 x5_1 v28_6 x8_0 x8_1) (fun _=>H) 4 M4 (W4 H) (j3 L H q1 x2 v21_3 x5_0 x5_1 v28_6 x8_0 x8_1):=by
 rintro v35_9 o h
 unfold j3 at h;try dsimp only at h
 refine A0 (C0 (m0 1 [kB 36 (decide (v35_9<(x8_1.n:Int)))] (B0 (o0 (A0 ?_)))));rcases Q1 h with ⟨hp,h⟩ | ⟨hp,h⟩
 ·refine D0 36 true (decide_eq_true hp) (E0 (G0 (o0 (A0 (J0 5 (A0 (C0 ?_)))))));obtain ⟨p10,hx,h⟩:=bind_some h;refine O0 37 101 105 (.tmp 33) (.tmp 35) hx ?_;obtain ⟨x11_0,hx0,h⟩:=bind_some h;obtain ⟨x11_1,hx1,h⟩:=bind_some h;obtain ⟨x11_2,hx2,h⟩:=bind_some h;obtain ⟨x11_3,hx3,h⟩:=bind_some h;obtain ⟨x11_4,hx4,h⟩:=bind_some h;refine RS.la 38 105 (.tmp 37) 5 (P1 (O1 hx0 T1) (P1 (O1 hx1 S1) (P1 (O1 hx2 S1) (P1 (O1 hx3 T1) (P1 (O1 hx4 R1) U1))))) (Q0 2 [kL 8 2 0] ([some (93,[(vS x5_0),(Sl3.v x5_1)]),some (103,[(vS x8_0),(Sl3.v x8_1)]),some (105,[(vS x11_0),(vI .i64 x11_1),(vI .i64 x11_2),(vS x11_3),(Sl3.v x11_4)])]) (B0 (o0 (A0 (C0 (m0 3 [kA 41 #[(vI .i64 x11_1),(vI .i64 x11_2),(vS x11_3),(Sl3.v x11_4)],kL 40 2 1,kP 39 q1] ?_))))));obtain ⟨x12,hx,h⟩:=bind_some h;refine N0 (some 42) (v:=(vI .i64 x12)) 33 _ (z1j hx) (m0 1 [kI 9 x12] (B0 (o0 (A0 (C0 (m0 2 [kB 44 (!decide (x12=0)),kI 43 x12] (B0 (o0 ?_))))))));rcases Q1 h with ⟨hp,h⟩ | ⟨hp,h⟩
  ·refine D0 44 false (e9 hp) (F0 (G0 ?_));refine fun a w hs=>bkN ((o0 ?_ a w hs));refine C0 (m0 2 [kI 35 (IntKind.i64.wrap (v35_9+1)),kI 46 (IntKind.i64.wrap (v35_9+1))] (B0 ?_));cases h;exact fun a w hs=>lsN rfl (hs.sb 2)
  ·refine D0 44 true (N7 hp) (E0 (A0 (C0 (m0 2 [kI 2 x12,kI 45 x12] (B0 (o0 (I0 ?_)))))));cases h;exact fun a w hs=>bkR (sqR (lsR rfl (rS hs)))
 ·refine D0 36 false (decide_eq_false hp) (F0 (WS.ex 4 ?_));cases h;exact fun a w hs=>sqE (lsB rfl (hs.sb 2))
theorem z1r {E m L H q1 x2 v21_3 x5_0 x5_1} :LoopF Tryz.prog (NE.plain 1000) m E Tryz.f28 ((cfst (csnd (csnd (cfst (cfst (csnd (csnd (cfst (cfst (csnd (cfst (csnd B28))))))))))))) (z6t L H q1 x2 v21_3 x5_0 x5_1) (fun _=>H) 2 M4 (W4 H) (C3 L H q1 x2 v21_3 x5_0 x5_1):=by
 rintro v28_6 o h
 unfold C3 at h;try dsimp only at h
 refine A0 (C0 (m0 1 [kB 29 (decide (v28_6<(x5_1.n:Int)))] (B0 (o0 (A0 ?_)))));rcases Q1 h with ⟨hp,h⟩ | ⟨hp,h⟩
 ·refine D0 29 true (decide_eq_true hp) (E0 (G0 (o0 (A0 (J0 3 (A0 (C0 ?_)))))));obtain ⟨p7,hx,h⟩:=bind_some h;refine O0 30 91 103 (.tmp 26) (.tmp 28) hx ?_;obtain ⟨x8_0,hx0,h⟩:=bind_some h;obtain ⟨x8_1,hx1,h⟩:=bind_some h;refine RS.la 31 103 (.tmp 30) 2 (P1 (O1 hx0 T1) (P1 (O1 hx1 R1) U1)) (Q0 2 [kL 6 1 0] ([some (93,[(vS x5_0),(Sl3.v x5_1)]),some (103,[(vS x8_0),(Sl3.v x8_1)])]) (B0 (o0 (A0 (C0 (m0 4 [kI 35 0,kI 34 (x8_1.n:Int),kS 33 x8_1,kL 32 1 1] (B0 (o0 (J0 4 ?_)))))))));obtain ⟨o,hl,h⟩:=bind_some h;rcases o with v35_13 | r
  ·try dsimp only at h
   refine S0 (z1o (L:=L) (E:=E) (m:=m) (H:=H)) (L.ok hl) 2 ?_;clear hl;refine fun a w hs=>bkE (bkN ((o0 ?_ a w hs)));refine C0 (m0 2 [kI 28 (IntKind.i64.wrap (v28_6+1)),kI 47 (IntKind.i64.wrap (v28_6+1))] (B0 ?_));cases h;exact fun a w hs=>lsN rfl (hs.sb 1)
  ·try dsimp only at h
   refine R0 (z1o (L:=L) (E:=E) (m:=m) (H:=H)) (L.ok hl) 2 ?_;cases h;exact fun a w hq=>bkR (bkR (sqR (lsR rfl hq)))
 ·refine D0 29 false (decide_eq_false hp) (F0 (WS.ex 2 ?_));cases h;exact fun a w hs=>sqE (lsB rfl (hs.sb 1))
theorem z1h {E m L H q1 x2} :LoopF Tryz.prog (NE.plain 1000) m E Tryz.f28 ((cfst (csnd (cfst (csnd B28))))) (z7f L H q1 x2) (fun _=>H) 0 M4 (W4 H) (A3 L H q1 x2):=by
 rintro v21_3 o h
 unfold A3 at h;try dsimp only at h
 refine A0 (C0 (m0 1 [kB 22 (decide (v21_3<(x2.n:Int)))] (B0 (o0 (A0 ?_)))));rcases Q1 h with ⟨hp,h⟩ | ⟨hp,h⟩
 ·refine D0 22 true (decide_eq_true hp) (E0 (G0 (o0 (A0 (J0 1 (A0 (C0 ?_)))))));obtain ⟨p4,hx,h⟩:=bind_some h;refine O0 23 27 93 (.tmp 19) (.tmp 21) hx ?_;obtain ⟨x5_0,hx0,h⟩:=bind_some h;obtain ⟨x5_1,hx1,h⟩:=bind_some h;refine RS.la 24 93 (.tmp 23) 2 (P1 (O1 hx0 T1) (P1 (O1 hx1 R1) U1)) (Q0 2 [kL 4 0 0] ([some (93,[(vS x5_0),(Sl3.v x5_1)])]) (B0 (o0 (A0 (C0 (m0 4 [kI 28 0,kI 27 (x5_1.n:Int),kS 26 x5_1,kL 25 0 1] (B0 (o0 (J0 2 ?_)))))))));obtain ⟨o,hl,h⟩:=bind_some h;rcases o with v28_14 | r
  ·try dsimp only at h
   refine S0 (z1r (L:=L) (E:=E) (m:=m) (H:=H)) (L.ok hl) 1 ?_;clear hl;refine fun a w hs=>bkE (bkN ((o0 ?_ a w hs)));refine C0 (m0 2 [kI 21 (IntKind.i64.wrap (v21_3+1)),kI 48 (IntKind.i64.wrap (v21_3+1))] (B0 ?_));cases h;exact fun a w hs=>lsN rfl (hs.sb 0)
  ·try dsimp only at h
   refine R0 (z1r (L:=L) (E:=E) (m:=m) (H:=H)) (L.ok hl) 1 ?_;cases h;exact fun a w hq=>bkR (bkR (sqR (lsR rfl hq)))
 ·refine D0 22 false (decide_eq_false hp) (F0 (WS.ex 0 ?_));cases h;exact fun a w hs=>sqE (lsB rfl (hs.sb 0))
theorem z1l {E m H L q1 x16 v55_18 x20_0 x20_1 x20_2 x20_3 x20_4 x20_5 s25 H26} :LoopF Tryz.prog (NE.plain 1000) m E Tryz.f28 ((cfst (csnd (csnd (cfst (cfst (csnd (csnd (cfst (cfst (csnd (cfst (csnd (csnd B28)))))))))))))) (z7i L q1 x16 v55_18 x20_0 x20_1 x20_2 x20_3 x20_4 x20_5 s25 H26) (fun _=>H26) 8 M4 (W4 H) (D3 L q1 x16 v55_18 x20_0 x20_1 x20_2 x20_3 x20_4 x20_5 s25 H26):=by
 rintro v67_27 o h
 unfold D3 at h;try dsimp only at h
 refine A0 (C0 (m0 1 [kB 68 (decide (v67_27<(s25.n:Int)))] (B0 (o0 (A0 ?_)))));rcases Q1 h with ⟨hp,h⟩ | ⟨hp,h⟩
 ·refine D0 68 true (decide_eq_true hp) (E0 (G0 (o0 (A0 (J0 9 (A0 (C0 ?_)))))));obtain ⟨p28,hx,h⟩:=bind_some h;refine O0 69 23 25 (.tmp 65) (.tmp 67) hx ?_;obtain ⟨x29_0,hx0,h⟩:=bind_some h;obtain ⟨x29_1,hx1,h⟩:=bind_some h;obtain ⟨x29_2,hx2,h⟩:=bind_some h;obtain ⟨x29_3,hx3,h⟩:=bind_some h;refine RS.la 70 25 (.tmp 69) 4 (P1 (O1 hx0 S1) (P1 (O1 hx1 S1) (P1 (O1 hx2 T1) (P1 (O1 hx3 R1) U1)))) (Q0 2 [kL 13 2 0] ([some (108,[(vS x20_0),(Sl3.v x20_1),(vI .i64 x20_2),(vI .i64 x20_3),(vS x20_4),(Sl3.v x20_5)]),none,some (25,[(vI .i64 x29_0),(vI .i64 x29_1),(vS x29_2),(Sl3.v x29_3)])]) (B0 (o0 (A0 (C0 (m0 2 [kA 72 #[(vI .i64 x29_0),(vI .i64 x29_1),(vS x29_2),(Sl3.v x29_3)],kP 71 q1] ?_))))));obtain ⟨x30,hx,h⟩:=bind_some h;refine N0 (some 73) (v:=(vI .i64 x30)) 33 _ (z1j hx) (m0 1 [kI 14 x30] (B0 (o0 (A0 (C0 (m0 2 [kB 75 (!decide (x30=0)),kI 74 x30] (B0 (o0 ?_))))))));rcases Q1 h with ⟨hp,h⟩ | ⟨hp,h⟩
  ·refine D0 75 false (e9 hp) (F0 (G0 ?_));refine fun a w hs=>bkN ((o0 ?_ a w hs));refine C0 (m0 2 [kI 67 (IntKind.i64.wrap (v67_27+1)),kI 77 (IntKind.i64.wrap (v67_27+1))] (B0 ?_));cases h;exact fun a w hs=>lsN rfl (hs.sb 2)
  ·refine D0 75 true (N7 hp) (E0 (A0 (C0 (m0 2 [kI 2 x30,kI 76 x30] (B0 (o0 (I0 ?_)))))));cases h;exact fun a w hs=>bkR (sqR (lsR rfl (rS hs)))
 ·refine D0 68 false (decide_eq_false hp) (F0 (WS.ex 8 ?_));cases h;exact fun a w hs=>sqE (lsB rfl (hs.sb 2))
theorem z1f {E H L m q1 x16} :LoopF Tryz.prog (NE.plain 1000) m E Tryz.f28 ((cfst (csnd (cfst (csnd (csnd B28)))))) (z74 L m q1 x16) (fun s=>s.1) 6 M4 (W4 H) (Y2 L m q1 x16):=by
 rintro ⟨H17,v55_18⟩ o h
 unfold Y2 at h;try dsimp only at h
 refine A0 (C0 (m0 1 [kB 56 (decide (v55_18<(x16.n:Int)))] (B0 (o0 (A0 ?_)))));rcases Q1 h with ⟨hp,h⟩ | ⟨hp,h⟩
 ·refine D0 56 true (decide_eq_true hp) (E0 (G0 (o0 (A0 (J0 7 (A0 (C0 ?_)))))));obtain ⟨p19,hx,h⟩:=bind_some h;refine O0 57 28 108 (.tmp 53) (.tmp 55) hx ?_;obtain ⟨x20_0,hx0,h⟩:=bind_some h;obtain ⟨x20_1,hx1,h⟩:=bind_some h;obtain ⟨x20_2,hx2,h⟩:=bind_some h;obtain ⟨x20_3,hx3,h⟩:=bind_some h;obtain ⟨x20_4,hx4,h⟩:=bind_some h;obtain ⟨x20_5,hx5,h⟩:=bind_some h;refine RS.la 58 108 (.tmp 57) 6 (P1 (O1 hx0 T1) (P1 (O1 hx1 R1) (P1 (O1 hx2 S1) (P1 (O1 hx3 S1) (P1 (O1 hx4 T1) (P1 (O1 hx5 R1) U1)))))) (Q0 2 [kL 11 0 0] ([some (108,[(vS x20_0),(Sl3.v x20_1),(vI .i64 x20_2),(vI .i64 x20_3),(vS x20_4),(Sl3.v x20_5)])]) (B0 (o0 (A0 ?_))));obtain ⟨⟨x21,H22⟩,hx_2,h⟩:=bind_some h;try dsimp only at h
  obtain ⟨⟨k23,H24⟩,hx_k23,h⟩:=bind_some h;try dsimp only at h
  obtain ⟨⟨s25,H26⟩,hx_6,h⟩:=bind_some h;try dsimp only at h
  refine WS.toone ([kP 0 q1,kS 53 x16,kI 54 (x16.n:Int),kI 55 v55_18,kS 65 s25,kI 66 (s25.n:Int),kI 67 0]) ([some (108,[(vS x20_0),(Sl3.v x20_1),(vI .i64 x20_2),(vI .i64 x20_3),(vS x20_4),(Sl3.v x20_5)]),none]) H26 ?_ ?_
  ·clear h;refine D1 [0,1] [0,1,3,0,8,24,63,127,0] 9 (fun hcl=>?_);refine V0 0 (some 59) (.loc 0 1) (V0 1 (some 60) (.val (Sl3.v x20_1)) (M0 8 (some 67) (vI .i64 0) (DA.restart [0,1,3] (by kernel_rfl) (V0 3 (some 62) (.loc 0 2) ?_))));refine E1 2 4 (by kernel_rfl) ?_ ?_
   ·refine I1 2 (some 61) true (v:=(Sl3.v x21)) 51 _ (z1n hx_2) (DA.on 4 (B1 4 (some 63) (.val (vA #[(vI .i64 x20_2),(vI .i64 x20_3),(vS x20_4),(Sl3.v x20_5)])) ([some (108,[(vS x20_0),(Sl3.v x20_1),(vI .i64 x20_2),(vI .i64 x20_3),(vS x20_4),(Sl3.v x20_5)])]) true (DA.on 5 (DA.actS 5 (some 64) (.sli 1 1) ([some (108,[(vS x20_0),(Sl3.v x20_1),(vI .i64 x20_2),(vI .i64 x20_3),(vS x20_4),(Sl3.v x20_5)]),some (25,[(vI .i64 x20_2),(vI .i64 x20_3),(vS x20_4),(Sl3.v x20_5)])]) (by kernel_rfl) (by kernel_rfl) (by kernel_rfl) hcl (by kernel_rfl) (by kernel_rfl) (by kernel_rfl) (DA.on 6 (K1 1 _ _ hx_k23 (by kernel_rfl) rfl rfl (Y0 (H':=H26) 6 (some 65) (Sl3.v s25) (Abs.run_app (x:=.tmp 61) (y:=.tmp 64) (ts:=#[23,23]) (s:=x21) (z:=(⟨some ⟨k23,0,none⟩,1,1⟩:Sl3)) (by kernel_rfl) (by kernel_rfl) (by kernel_rfl) (by kernel_rfl) hx_6) (M0 7 (some 66) (vI .i64 (s25.n:Int)) (W0 ?_)))))))));exact fun a w hs=>jsN (hs.sb 2)
   ·refine B1 4 (some 63) (.val (vA #[(vI .i64 x20_2),(vI .i64 x20_3),(vS x20_4),(Sl3.v x20_5)])) ([some (108,[(vS x20_0),(Sl3.v x20_1),(vI .i64 x20_2),(vI .i64 x20_3),(vS x20_4),(Sl3.v x20_5)])]) true ?_;refine E1 2 5 (by kernel_rfl) ?_ ?_
    ·refine I1 2 (some 61) true (v:=(Sl3.v x21)) 51 _ (z1n hx_2) (DA.on 5 (DA.actS 5 (some 64) (.sli 1 1) ([some (108,[(vS x20_0),(Sl3.v x20_1),(vI .i64 x20_2),(vI .i64 x20_3),(vS x20_4),(Sl3.v x20_5)]),some (25,[(vI .i64 x20_2),(vI .i64 x20_3),(vS x20_4),(Sl3.v x20_5)])]) (by kernel_rfl) (by kernel_rfl) (by kernel_rfl) hcl (by kernel_rfl) (by kernel_rfl) (by kernel_rfl) (DA.on 6 (K1 1 _ _ hx_k23 (by kernel_rfl) rfl rfl (Y0 (H':=H26) 6 (some 65) (Sl3.v s25) (Abs.run_app (x:=.tmp 61) (y:=.tmp 64) (ts:=#[23,23]) (s:=x21) (z:=(⟨some ⟨k23,0,none⟩,1,1⟩:Sl3)) (by kernel_rfl) (by kernel_rfl) (by kernel_rfl) (by kernel_rfl) hx_6) (M0 7 (some 66) (vI .i64 (s25.n:Int)) (W0 ?_)))))));exact fun a w hs=>jsN (hs.sb 2)
    ·refine DA.actS 5 (some 64) (.sli 1 1) ([some (108,[(vS x20_0),(Sl3.v x20_1),(vI .i64 x20_2),(vI .i64 x20_3),(vS x20_4),(Sl3.v x20_5)]),some (25,[(vI .i64 x20_2),(vI .i64 x20_3),(vS x20_4),(Sl3.v x20_5)])]) (by kernel_rfl) (by kernel_rfl) (by kernel_rfl) hcl (by kernel_rfl) (by kernel_rfl) (by kernel_rfl) (DA.on 2 (I1 2 (some 61) false (v:=(Sl3.v x21)) 51 _ (z1n hx_2) (DA.on 6 (K1 1 _ _ hx_k23 (by kernel_rfl) rfl rfl (Y0 (H':=H26) 6 (some 65) (Sl3.v s25) (Abs.run_app (x:=.tmp 61) (y:=.tmp 64) (ts:=#[23,23]) (s:=x21) (z:=(⟨some ⟨k23,0,none⟩,1,1⟩:Sl3)) (by kernel_rfl) (by kernel_rfl) (by kernel_rfl) (by kernel_rfl) hx_6) (M0 7 (some 66) (vI .i64 (s25.n:Int)) (W0 ?_)))))));exact fun a w hs=>jsN (hs.sb 2)
  ·refine o0 (J0 8 ?_);obtain ⟨o,hl,h⟩:=bind_some h;rcases o with v67_31 | r
   ·try dsimp only at h
    refine S0 (z1l (L:=L) (E:=E) (m:=m) (H:=H)) (L.ok hl) 2 ?_;clear hl;refine fun a w hs=>bkE (bkN ((o0 ?_ a w hs)));refine C0 (m0 2 [kI 55 (IntKind.i64.wrap (v55_18+1)),kI 78 (IntKind.i64.wrap (v55_18+1))] (B0 ?_));cases h;exact fun a w hs=>lsN rfl (hs.sb 0)
   ·try dsimp only at h
    refine R0 (z1l (L:=L) (E:=E) (m:=m) (H:=H)) (L.ok hl) 2 ?_;cases h;exact fun a w hq=>bkR (bkR (sqR (lsR rfl hq)))
 ·refine D0 56 false (decide_eq_false hp) (F0 (WS.ex 6 ?_));cases h;exact fun a w hs=>sqE (lsB rfl (hs.sb 0))
theorem z9l {L:LC} {m:Nat} {H:AH} {a0:Option Addr} {r:(Int×AH)} (h:X7 L m H a0=some r) :
  CallS Tryz.prog (NE.plain 1000) m 28 #[(vP a0)] H (M4 r) (W4 H r):=by
 refine CallS.mk (args:=[(vP a0)]) Tryz.func28 (B:=B28) (by kernel_rfl) (fun E _=>?_);unfold X7 at h;refine A0 (C0 (m0 1 [kI 2 0] (B0 (o0 (A0 (A0 (C0 (m0 1 [(15,.val (vP a0))] ?_))))))));obtain ⟨q1,hx,hq1⟩:=bind_some h;subst hx;have h:=hq1;refine m0 3 [(18,.val (vP (some (Addr.add (Addr.add q1 0) 1)))),(17,.val (vP (some (Addr.add q1 0)))),kP 16 q1] ?_;obtain ⟨x2,hx,h⟩:=bind_some h;refine T0 19 27 (.tmp 18) (O1 hx R1) (m0 2 [kI 21 0,kI 20 (x2.n:Int)] (B0 (o0 (J0 0 ?_))));obtain ⟨o,hl,h⟩:=bind_some h;rcases o with v21_15 | r
 ·try dsimp only at h
  refine S0 (z1h (L:=L) (E:=E) (m:=m) (H:=H)) (L.ok hl) 0 ?_;clear hl;refine fun a w hs=>bkE ((o0 ?_ a w hs));refine A0 (A0 (C0 (m0 4 [(52,.val (vP (some (Addr.add (Addr.add q1 0) 2)))),(51,.val (vP (some (Addr.add q1 0)))),kP 50 q1,kP 49 q1] ?_)));obtain ⟨x16,hx,h⟩:=bind_some h;refine T0 53 28 (.tmp 52) (O1 hx R1) (m0 2 [kI 55 0,kI 54 (x16.n:Int)] (B0 (o0 (J0 6 ?_))));obtain ⟨o,hl,h⟩:=bind_some h;rcases o with ⟨H32,v55_33⟩ | r
  ·try dsimp only at h
   refine S0 (z1f (L:=L) (E:=E) (m:=m) (H:=H)) (L.ok hl) 0 ?_;clear hl;refine fun a w hs=>bkE ((o0 ?_ a w hs));refine A0 (C0 (m0 1 [kI 2 0] (B0 (o0 (I0 ?_)))));cases h;exact fun a w hs=>rtR (rS hs)
  ·try dsimp only at h
   refine R0 (z1f (L:=L) (E:=E) (m:=m) (H:=H)) (L.ok hl) 0 ?_;cases h;exact fun a w hq=>bkR (sqR (rtR hq))
 ·try dsimp only at h
  refine R0 (z1h (L:=L) (E:=E) (m:=m) (H:=H)) (L.ok hl) 0 ?_;cases h;exact fun a w hq=>bkR (sqR (rtR hq))
def c7:(Bool×AH)→Value
 | (r0,_)=>(vB r0)
def J7 (_:AH):(Bool×AH)→AH:=fun r=>r.2
noncomputable def B29:Code:=(Tryz.f29.body).getD .skip
noncomputable def Q3 (_L:LC) (a1:Sl3) (_q1:Addr) (_x2:Sl3) (v19_4:Int) (_x6_0:ByteArray) (_x6_1:Sl3) (_v27_8:Int) (_x10_0:ByteArray) (_x10_1:Sl3) (_v34_12:Int) (_x14_0:ByteArray) (_x14_1 _x14_2:Int) (_x14_3:ByteArray) (_x14_4 x15:Sl3) (H16:AH):Int→Option (Lp Int (Bool×AH)):=fun v43_17 =>
 if v43_17<(x15.n:Int) then
  (idxA 1 x15 v43_17).bind fun p18 => (rd (deI .i64) H16 p18).bind fun x19 => Option.bind (α:=Bool) (
   if x19=v19_4 then
    some true
   else
    (idxA 1 a1 x19).bind fun p21 => (rd deSl H16 p21).bind fun x22 => (idxA 1 x22 v19_4).bind fun p23 => (rd deB H16 p23).bind fun x24 => some x24) fun v58_20 =>
  if v58_20=true then
   some (.ret (true,H16))
  else
   some (.next (IntKind.i64.wrap (v43_17+1)))
 else
  some (.brk v43_17)
def z8s (_L:LC) (a1:Sl3) (q1:Addr) (x2:Sl3) (v19_4:Int) (x6_0:ByteArray) (x6_1:Sl3) (v27_8:Int) (x10_0:ByteArray) (x10_1:Sl3) (v34_12:Int) (x14_0:ByteArray) (x14_1 x14_2:Int) (x14_3:ByteArray) (x14_4 x15:Sl3) (_H16:AH):Int→KN×Lcs:=fun v43_17=>([kI 43 v43_17,kP 0 q1,kS 1 a1,kI 5 v19_4,kS 17 x2,kI 18 (x2.n:Int),kI 19 v19_4,kS 25 x6_1,kI 26 (x6_1.n:Int),kI 27 v27_8,kS 32 x10_1,kI 33 (x10_1.n:Int),kI 34 v34_12,kS 41 x15,kI 42 (x15.n:Int)],[some (93,[(vS x6_0),(Sl3.v x6_1)]),some (103,[(vS x10_0),(Sl3.v x10_1)]),some (105,[(vS x14_0),(vI .i64 x14_1),(vI .i64 x14_2),(vS x14_3),(Sl3.v x14_4)])])
noncomputable def K2 (L:LC) (m:Nat) (a1:Sl3) (q1:Addr) (x2:Sl3) (v19_4:Int) (x6_0:ByteArray) (x6_1:Sl3) (v27_8:Int) (x10_0:ByteArray) (x10_1:Sl3):(AH×Int)→Option (Lp (AH×Int) (Bool×AH)):=fun (H11,v34_12) =>
 if v34_12<(x10_1.n:Int) then
  (idxA 5 x10_1 v34_12).bind fun p13 => (rd deS H11 (Addr.add p13 0)).bind fun x14_0 => (rd (deI .i64) H11 (Addr.add p13 1)).bind fun x14_1 => (rd (deI .i64) H11 (Addr.add p13 2)).bind fun x14_2 => (rd deS H11 (Addr.add p13 3)).bind fun x14_3 => (rd deSl H11 (Addr.add p13 4)).bind fun x14_4 => (R9 L m H11 (some q1) x14_1 x14_2 x14_3 x14_4 true).bind fun (x15,H16) => (L.run (Q3 L a1 q1 x2 v19_4 x6_0 x6_1 v27_8 x10_0 x10_1 v34_12 x14_0 x14_1 x14_2 x14_3 x14_4 x15 H16) 0).bind fun o=>match o with
  | .inl _ =>
   some (.next (H16,(IntKind.i64.wrap (v34_12+1))))
  | .inr r=>some (.ret r)
 else
  some (.brk (H11,v34_12))
def z8q (_L:LC) (_m:Nat) (a1:Sl3) (q1:Addr) (x2:Sl3) (v19_4:Int) (x6_0:ByteArray) (x6_1:Sl3) (v27_8:Int) (x10_0:ByteArray) (x10_1:Sl3):(AH×Int)→KN×Lcs:=fun (_,v34_12)=>([kI 34 v34_12,kP 0 q1,kS 1 a1,kI 5 v19_4,kS 17 x2,kI 18 (x2.n:Int),kI 19 v19_4,kS 25 x6_1,kI 26 (x6_1.n:Int),kI 27 v27_8,kS 32 x10_1,kI 33 (x10_1.n:Int)],[some (93,[(vS x6_0),(Sl3.v x6_1)]),some (103,[(vS x10_0),(Sl3.v x10_1)])])
noncomputable def L2 (L:LC) (m:Nat) (a1:Sl3) (q1:Addr) (x2:Sl3) (v19_4:Int) (x6_0:ByteArray) (x6_1:Sl3):(AH×Int)→Option (Lp (AH×Int) (Bool×AH)):=fun (H7,v27_8) =>
 if v27_8<(x6_1.n:Int) then
  (idxA 2 x6_1 v27_8).bind fun p9 => (rd deS H7 (Addr.add p9 0)).bind fun x10_0 => (rd deSl H7 (Addr.add p9 1)).bind fun x10_1 => (L.run (K2 L m a1 q1 x2 v19_4 x6_0 x6_1 v27_8 x10_0 x10_1) (H7,0)).bind fun o=>match o with
  | .inl (H26,_) =>
   some (.next (H26,(IntKind.i64.wrap (v27_8+1))))
  | .inr r=>some (.ret r)
 else
  some (.brk (H7,v27_8))
def z8t (_L:LC) (_m:Nat) (a1:Sl3) (q1:Addr) (x2:Sl3) (v19_4:Int) (x6_0:ByteArray) (x6_1:Sl3):(AH×Int)→KN×Lcs:=fun (_,v27_8)=>([kI 27 v27_8,kP 0 q1,kS 1 a1,kI 5 v19_4,kS 17 x2,kI 18 (x2.n:Int),kI 19 v19_4,kS 25 x6_1,kI 26 (x6_1.n:Int)],[some (93,[(vS x6_0),(Sl3.v x6_1)])])
noncomputable def R3 (L:LC) (m:Nat) (a1:Sl3) (q1:Addr) (x2:Sl3):(AH×Int)→Option (Lp (AH×Int) (Bool×AH)):=fun (H3,v19_4) =>
 if v19_4<(x2.n:Int) then
  (idxA 2 x2 v19_4).bind fun p5 => (rd deS H3 (Addr.add p5 0)).bind fun x6_0 => (rd deSl H3 (Addr.add p5 1)).bind fun x6_1 => (L.run (L2 L m a1 q1 x2 v19_4 x6_0 x6_1) (H3,0)).bind fun o=>match o with
  | .inl (H28,_) =>
   some (.next (H28,(IntKind.i64.wrap (v19_4+1))))
  | .inr r=>some (.ret r)
 else
  some (.brk (H3,v19_4))
def z96 (_L:LC) (_m:Nat) (a1:Sl3) (q1:Addr) (x2:Sl3):(AH×Int)→KN×Lcs:=fun (_,v19_4)=>([kI 19 v19_4,kP 0 q1,kS 1 a1,kS 17 x2,kI 18 (x2.n:Int)],[])
noncomputable def u9 (L:LC) (m:Nat) (H:AH) (a0:Option Addr) (a1:Sl3):Option (Bool×AH) :=
 a0.bind fun q1 => (rd deSl H (Addr.add (Addr.add q1 0) 1)).bind fun x2 => (L.run (R3 L m a1 q1 x2) (H,0)).bind fun o=>match o with
 | .inl (H30,_) =>
  some (false,H30)
 | .inr r=>some r
theorem z2h {E m H L a1 q1 x2 v19_4 x6_0 x6_1 v27_8 x10_0 x10_1 v34_12 x14_0 x14_1 x14_2 x14_3 x14_4 x15 H16} :LoopF Tryz.prog (NE.plain 1000) m E Tryz.f29 ((cfst (csnd (csnd (cfst (cfst (csnd (csnd (cfst (cfst (csnd (csnd (cfst (cfst (csnd (csnd (cfst (cfst (csnd (csnd (cfst (cfst (csnd (csnd (cfst (cfst (csnd (cfst (csnd B29))))))))))))))))))))))))))))) (z8s L a1 q1 x2 v19_4 x6_0 x6_1 v27_8 x10_0 x10_1 v34_12 x14_0 x14_1 x14_2 x14_3 x14_4 x15 H16) (fun _=>H16) 6 c7 (J7 H) (Q3 L a1 q1 x2 v19_4 x6_0 x6_1 v27_8 x10_0 x10_1 v34_12 x14_0 x14_1 x14_2 x14_3 x14_4 x15 H16):=by
 rintro v43_17 o h
 unfold Q3 at h;try dsimp only at h
 refine A0 (C0 (m0 1 [kB 44 (decide (v43_17<(x15.n:Int)))] (B0 (o0 (A0 ?_)))));rcases Q1 h with ⟨hp,h⟩ | ⟨hp,h⟩
 ·refine D0 44 true (decide_eq_true hp) (E0 (G0 (o0 (A0 (J0 7 (A0 (C0 ?_)))))));obtain ⟨p18,hx,h⟩:=bind_some h;refine O0 45 87 3 (.tmp 41) (.tmp 43) hx ?_;obtain ⟨x19,hx,h⟩:=bind_some h;refine T0 46 3 (.tmp 45) (O1 hx S1) (m0 1 [kI 12 x19] (B0 (o0 ?_)));obtain ⟨v58_20,hx,h⟩:=bind_some h;refine A0 ?_;refine A1 ([kB 58 v58_20,kP 0 q1,kS 1 a1,kI 5 v19_4,kS 17 x2,kI 18 (x2.n:Int),kI 19 v19_4,kS 25 x6_1,kI 26 (x6_1.n:Int),kI 27 v27_8,kS 32 x10_1,kI 33 (x10_1.n:Int),kI 34 v34_12,kS 41 x15,kI 42 (x15.n:Int),kI 43 v43_17]) ([some (93,[(vS x6_0),(Sl3.v x6_1)]),some (103,[(vS x10_0),(Sl3.v x10_1)]),some (105,[(vS x14_0),(vI .i64 x14_1),(vI .i64 x14_2),(vS x14_3),(Sl3.v x14_4)])]) H16 ?_ (fun a w hs=>o0 ?_ a w hs)
  ·clear h; rename _=>h;refine C0 (m0 4 [kB 50 (decide (x19=v19_4)),kB 49 (decide (x19=v19_4)),kI 48 v19_4,kI 47 x19] ?_);rcases Q1 h with ⟨hp,h⟩ | ⟨hp,h⟩
   ·refine K0 50 true (decide_eq_true hp) (m0 8 [kB 58 true,kU 57,kU 56,kU 55,kU 54,kU 53,kU 52,kU 51] (B0 ?_));cases h;exact fun a w hs=>(jsN (hs.sb 3))
   ·refine K0 50 false (decide_eq_false hp) (m0 2 [kI 52 x19,kS 51 a1] ?_);obtain ⟨p21,hx,h⟩:=bind_some h;refine O0 53 67 70 (.tmp 51) (.tmp 52) hx ?_;obtain ⟨x22,hx,h⟩:=bind_some h;refine T0 54 70 (.tmp 53) (O1 hx R1) (m0 1 [kI 55 v19_4] ?_);obtain ⟨p23,hx,h⟩:=bind_some h;refine O0 56 70 4 (.tmp 54) (.tmp 55) hx ?_;obtain ⟨x24,hx,h⟩:=bind_some h;refine T0 57 4 (.tmp 56) (O1 hx F6) (m0 1 [kB 58 x24] (B0 ?_));cases h;exact fun a w hs=>(jsN (hs.sb 3))
  ·clear hx;rcases Q1 h with ⟨hp,h⟩ | ⟨hp,h⟩
   ·refine D0 58 true hp (E0 (A0 (C0 (m0 1 [kB 4 true] (B0 (o0 (I0 ?_)))))));cases h;exact fun a w hs=>bkR (sqR (lsR rfl (rS hs)))
   ·refine D0 58 false (b_not hp) (F0 (G0 ?_));refine fun a w hs=>bkN ((o0 ?_ a w hs));refine C0 (m0 2 [kI 43 (IntKind.i64.wrap (v43_17+1)),kI 59 (IntKind.i64.wrap (v43_17+1))] (B0 ?_));cases h;exact fun a w hs=>lsN rfl (hs.sb 3)
 ·refine D0 44 false (decide_eq_false hp) (F0 (WS.ex 6 ?_));cases h;exact fun a w hs=>sqE (lsB rfl (hs.sb 3))
theorem z2l {E H L m a1 q1 x2 v19_4 x6_0 x6_1 v27_8 x10_0 x10_1} :LoopF Tryz.prog (NE.plain 1000) m E Tryz.f29 ((cfst (csnd (csnd (cfst (cfst (csnd (csnd (cfst (cfst (csnd (csnd (cfst (cfst (csnd (csnd (cfst (cfst (csnd (cfst (csnd B29))))))))))))))))))))) (z8q L m a1 q1 x2 v19_4 x6_0 x6_1 v27_8 x10_0 x10_1) (fun s=>s.1) 4 c7 (J7 H) (K2 L m a1 q1 x2 v19_4 x6_0 x6_1 v27_8 x10_0 x10_1):=by
 rintro ⟨H11,v34_12⟩ o h
 unfold K2 at h;try dsimp only at h
 refine A0 (C0 (m0 1 [kB 35 (decide (v34_12<(x10_1.n:Int)))] (B0 (o0 (A0 ?_)))));rcases Q1 h with ⟨hp,h⟩ | ⟨hp,h⟩
 ·refine D0 35 true (decide_eq_true hp) (E0 (G0 (o0 (A0 (J0 5 (A0 (C0 ?_)))))));obtain ⟨p13,hx,h⟩:=bind_some h;refine O0 36 101 105 (.tmp 32) (.tmp 34) hx ?_;obtain ⟨x14_0,hx0,h⟩:=bind_some h;obtain ⟨x14_1,hx1,h⟩:=bind_some h;obtain ⟨x14_2,hx2,h⟩:=bind_some h;obtain ⟨x14_3,hx3,h⟩:=bind_some h;obtain ⟨x14_4,hx4,h⟩:=bind_some h;refine RS.la 37 105 (.tmp 36) 5 (P1 (O1 hx0 T1) (P1 (O1 hx1 S1) (P1 (O1 hx2 S1) (P1 (O1 hx3 T1) (P1 (O1 hx4 R1) U1))))) (Q0 2 [kL 10 2 0] ([some (93,[(vS x6_0),(Sl3.v x6_1)]),some (103,[(vS x10_0),(Sl3.v x10_1)]),some (105,[(vS x14_0),(vI .i64 x14_1),(vI .i64 x14_2),(vS x14_3),(Sl3.v x14_4)])]) (B0 (o0 (A0 (C0 (m0 3 [kA 40 #[(vI .i64 x14_1),(vI .i64 x14_2),(vS x14_3),(Sl3.v x14_4)],kL 39 2 1,kP 38 q1] ?_))))));obtain ⟨⟨x15,H16⟩,hx,h⟩:=bind_some h;try dsimp only at h
  refine N0 (some 41) (v:=(Sl3.v x15)) 52 _ (z4t hx) (m0 2 [kI 43 0,kI 42 (x15.n:Int)] (B0 (o0 (J0 6 ?_))));obtain ⟨o,hl,h⟩:=bind_some h;rcases o with v43_25 | r
  ·try dsimp only at h
   refine S0 (z2h (L:=L) (E:=E) (m:=m) (H:=H)) (L.ok hl) 3 ?_;clear hl;refine fun a w hs=>bkE (bkN ((o0 ?_ a w hs)));refine C0 (m0 2 [kI 34 (IntKind.i64.wrap (v34_12+1)),kI 60 (IntKind.i64.wrap (v34_12+1))] (B0 ?_));cases h;exact fun a w hs=>lsN rfl (hs.sb 2)
  ·try dsimp only at h
   refine R0 (z2h (L:=L) (E:=E) (m:=m) (H:=H)) (L.ok hl) 3 ?_;cases h;exact fun a w hq=>bkR (bkR (sqR (lsR rfl hq)))
 ·refine D0 35 false (decide_eq_false hp) (F0 (WS.ex 4 ?_));cases h;exact fun a w hs=>sqE (lsB rfl (hs.sb 2))
theorem z2g {E H L m a1 q1 x2 v19_4 x6_0 x6_1} :LoopF Tryz.prog (NE.plain 1000) m E Tryz.f29 ((cfst (csnd (csnd (cfst (cfst (csnd (csnd (cfst (cfst (csnd (cfst (csnd B29))))))))))))) (z8t L m a1 q1 x2 v19_4 x6_0 x6_1) (fun s=>s.1) 2 c7 (J7 H) (L2 L m a1 q1 x2 v19_4 x6_0 x6_1):=by
 rintro ⟨H7,v27_8⟩ o h
 unfold L2 at h;try dsimp only at h
 refine A0 (C0 (m0 1 [kB 28 (decide (v27_8<(x6_1.n:Int)))] (B0 (o0 (A0 ?_)))));rcases Q1 h with ⟨hp,h⟩ | ⟨hp,h⟩
 ·refine D0 28 true (decide_eq_true hp) (E0 (G0 (o0 (A0 (J0 3 (A0 (C0 ?_)))))));obtain ⟨p9,hx,h⟩:=bind_some h;refine O0 29 91 103 (.tmp 25) (.tmp 27) hx ?_;obtain ⟨x10_0,hx0,h⟩:=bind_some h;obtain ⟨x10_1,hx1,h⟩:=bind_some h;refine RS.la 30 103 (.tmp 29) 2 (P1 (O1 hx0 T1) (P1 (O1 hx1 R1) U1)) (Q0 2 [kL 8 1 0] ([some (93,[(vS x6_0),(Sl3.v x6_1)]),some (103,[(vS x10_0),(Sl3.v x10_1)])]) (B0 (o0 (A0 (C0 (m0 4 [kI 34 0,kI 33 (x10_1.n:Int),kS 32 x10_1,kL 31 1 1] (B0 (o0 (J0 4 ?_)))))))));obtain ⟨o,hl,h⟩:=bind_some h;rcases o with ⟨H26,v34_27⟩ | r
  ·try dsimp only at h
   refine S0 (z2l (L:=L) (E:=E) (m:=m) (H:=H)) (L.ok hl) 2 ?_;clear hl;refine fun a w hs=>bkE (bkN ((o0 ?_ a w hs)));refine C0 (m0 2 [kI 27 (IntKind.i64.wrap (v27_8+1)),kI 61 (IntKind.i64.wrap (v27_8+1))] (B0 ?_));cases h;exact fun a w hs=>lsN rfl (hs.sb 1)
  ·try dsimp only at h
   refine R0 (z2l (L:=L) (E:=E) (m:=m) (H:=H)) (L.ok hl) 2 ?_;cases h;exact fun a w hq=>bkR (bkR (sqR (lsR rfl hq)))
 ·refine D0 28 false (decide_eq_false hp) (F0 (WS.ex 2 ?_));cases h;exact fun a w hs=>sqE (lsB rfl (hs.sb 1))
theorem z2n {E H L m a1 q1 x2} :LoopF Tryz.prog (NE.plain 1000) m E Tryz.f29 ((cfst (csnd (cfst (csnd B29))))) (z96 L m a1 q1 x2) (fun s=>s.1) 0 c7 (J7 H) (R3 L m a1 q1 x2):=by
 rintro ⟨H3,v19_4⟩ o h
 unfold R3 at h;try dsimp only at h
 refine A0 (C0 (m0 1 [kB 20 (decide (v19_4<(x2.n:Int)))] (B0 (o0 (A0 ?_)))));rcases Q1 h with ⟨hp,h⟩ | ⟨hp,h⟩
 ·refine D0 20 true (decide_eq_true hp) (E0 (G0 (o0 (A0 (J0 1 (A0 (C0 (m0 1 [kI 21 v19_4] ?_))))))));obtain ⟨p5,hx,h⟩:=bind_some h;refine O0 22 27 93 (.tmp 17) (.tmp 19) hx ?_;obtain ⟨x6_0,hx0,h⟩:=bind_some h;obtain ⟨x6_1,hx1,h⟩:=bind_some h;refine RS.la 23 93 (.tmp 22) 2 (P1 (O1 hx0 T1) (P1 (O1 hx1 R1) U1)) (Q0 3 [kI 5 v19_4,kL 6 0 0] ([some (93,[(vS x6_0),(Sl3.v x6_1)])]) (B0 (o0 (A0 (C0 (m0 4 [kI 27 0,kI 26 (x6_1.n:Int),kS 25 x6_1,kL 24 0 1] (B0 (o0 (J0 2 ?_)))))))));obtain ⟨o,hl,h⟩:=bind_some h;rcases o with ⟨H28,v27_29⟩ | r
  ·try dsimp only at h
   refine S0 (z2g (L:=L) (E:=E) (m:=m) (H:=H)) (L.ok hl) 1 ?_;clear hl;refine fun a w hs=>bkE (bkN ((o0 ?_ a w hs)));refine C0 (m0 2 [kI 19 (IntKind.i64.wrap (v19_4+1)),kI 62 (IntKind.i64.wrap (v19_4+1))] (B0 ?_));cases h;exact fun a w hs=>lsN rfl (hs.sb 0)
  ·try dsimp only at h
   refine R0 (z2g (L:=L) (E:=E) (m:=m) (H:=H)) (L.ok hl) 1 ?_;cases h;exact fun a w hq=>bkR (bkR (sqR (lsR rfl hq)))
 ·refine D0 20 false (decide_eq_false hp) (F0 (WS.ex 0 ?_));cases h;exact fun a w hs=>sqE (lsB rfl (hs.sb 0))
theorem zc0 {L:LC} {m:Nat} {H:AH} {a0:Option Addr} {a1:Sl3} {r:(Bool×AH)} (h:u9 L m H a0 a1=some r) :
  CallS Tryz.prog (NE.plain 1000) m 29 #[(vP a0),(Sl3.v a1)] H (c7 r) (J7 H r):=by
 refine CallS.mk (args:=[(vP a0),(Sl3.v a1)]) Tryz.func29 (B:=B29) (by kernel_rfl) (fun E _=>?_);unfold u9 at h;refine A0 (C0 (m0 1 [kB 4 false] (B0 (o0 (A0 (A0 (C0 (m0 1 [(13,.val (vP a0))] ?_))))))));obtain ⟨q1,hx,hq1⟩:=bind_some h;subst hx;have h:=hq1;refine m0 3 [(16,.val (vP (some (Addr.add (Addr.add q1 0) 1)))),(15,.val (vP (some (Addr.add q1 0)))),kP 14 q1] ?_;obtain ⟨x2,hx,h⟩:=bind_some h;refine T0 17 27 (.tmp 16) (O1 hx R1) (m0 2 [kI 19 0,kI 18 (x2.n:Int)] (B0 (o0 (J0 0 ?_))));obtain ⟨o,hl,h⟩:=bind_some h;rcases o with ⟨H30,v19_31⟩ | r
 ·try dsimp only at h
  refine S0 (z2n (L:=L) (E:=E) (m:=m) (H:=H)) (L.ok hl) 0 ?_;clear hl;refine fun a w hs=>bkE ((o0 ?_ a w hs));refine A0 (C0 (m0 1 [kB 4 false] (B0 (o0 (I0 ?_)))));cases h;exact fun a w hs=>rtR (rS hs)
 ·try dsimp only at h
  refine R0 (z2n (L:=L) (E:=E) (m:=m) (H:=H)) (L.ok hl) 0 ?_;cases h;exact fun a w hq=>bkR (sqR (rtR hq))
def z70:Int→Value
 | r0=>(vI .i64 r0)
def z7y (H:AH):Int→AH:=fun _=>H
noncomputable def B54:Code:=(Tryz.f54.body).getD .skip
noncomputable def T6 (_L:LC) (H:AH) (a0:Sl3) (a1:Bool):Int→Option (Lp Int Int):=fun v8_1 =>
 if v8_1<(a0.n:Int) then
  (idxA 1 a0 v8_1).bind fun p2 => (rd deB H p2).bind fun x3 => if (a1 == x3)=true then
   some (.ret v8_1)
  else
   some (.next (IntKind.i64.wrap (v8_1+1)))
 else
  some (.brk v8_1)
def zd1 (_L:LC) (_H:AH) (a0:Sl3) (a1:Bool):Int→KN×Lcs:=fun v8_1=>([kI 8 v8_1,kS 0 a0,kB 1 a1,kI 7 (a0.n:Int)],[])
noncomputable def z3w (L:LC) (H:AH) (a0:Sl3) (a1:Bool):Option Int :=
 (L.run (T6 L H a0 a1) 0).bind fun o=>match o with
 | .inl _ =>
  some (-1)
 | .inr r=>some r
theorem z50 {E m L H a0 a1} :LoopF Tryz.prog (NE.plain 1000) m E Tryz.f54 ((cfst (csnd (cfst (csnd B54))))) (zd1 L H a0 a1) (fun _=>H) 0 z70 (z7y H) (T6 L H a0 a1):=by
 rintro v8_1 o h
 unfold T6 at h;try dsimp only at h
 refine A0 (C0 (m0 1 [kB 9 (decide (v8_1<(a0.n:Int)))] (B0 (o0 (A0 ?_)))));rcases Q1 h with ⟨hp,h⟩ | ⟨hp,h⟩
 ·refine D0 9 true (decide_eq_true hp) (E0 (G0 (o0 (A0 (J0 1 (A0 (C0 (m0 2 [kI 5 v8_1,kI 10 v8_1] (B0 ?_)))))))));refine o0 (A0 (C0 (m0 3 [kI 13 v8_1,kS 12 a0,kB 11 a1] ?_)));obtain ⟨p2,hx,h⟩:=bind_some h;refine O0 14 70 4 (.tmp 12) (.tmp 13) hx ?_;obtain ⟨x3,hx,h⟩:=bind_some h;refine T0 15 4 (.tmp 14) (O1 hx F6) (m0 1 [kB 16 (a1 == x3)] (B0 (o0 ?_)));rcases Q1 h with ⟨hp,h⟩ | ⟨hp,h⟩
  ·refine D0 16 true hp (E0 (A0 (C0 (m0 2 [kI 4 v8_1,kI 17 v8_1] (B0 (o0 (I0 ?_)))))));cases h;exact fun a w hs=>bkR (sqR (lsR rfl (rS hs)))
  ·refine D0 16 false (b_not hp) (F0 (G0 ?_));refine fun a w hs=>bkN ((o0 ?_ a w hs));refine C0 (m0 2 [kI 8 (IntKind.i64.wrap (v8_1+1)),kI 18 (IntKind.i64.wrap (v8_1+1))] (B0 ?_));cases h;exact fun a w hs=>lsN rfl (hs.sb 0)
 ·refine D0 9 false (decide_eq_false hp) (F0 (WS.ex 0 ?_));cases h;exact fun a w hs=>sqE (lsB rfl (hs.sb 0))
theorem zg3 {L:LC} {m:Nat} {H:AH} {a0:Sl3} {a1:Bool} {r:Int} (h:z3w L H a0 a1=some r) :
  CallS Tryz.prog (NE.plain 1000) m 54 #[(Sl3.v a0),(vB a1)] H (z70 r) (z7y H r):=by
 refine CallS.mk (args:=[(Sl3.v a0),(vB a1)]) Tryz.func54 (B:=B54) (by kernel_rfl) (fun E _=>?_);unfold z3w at h;refine A0 (C0 (m0 1 [kI 4 0] (B0 (o0 (A0 (A0 (C0 (m0 3 [kI 8 0,kI 7 (a0.n:Int),kS 6 a0] (B0 ?_)))))))));refine o0 (J0 0 ?_);obtain ⟨o,hl,h⟩:=bind_some h;rcases o with v8_4 | r
 ·try dsimp only at h
  refine S0 (z50 (L:=L) (E:=E) (m:=m) (H:=H)) (L.ok hl) 0 ?_;clear hl;refine fun a w hs=>bkE ((o0 ?_ a w hs));refine A0 (C0 (m0 1 [kI 4 (-1)] (B0 (o0 (I0 ?_)))));cases h;exact fun a w hs=>rtR (rS hs)
 ·try dsimp only at h
  refine R0 (z50 (L:=L) (E:=E) (m:=m) (H:=H)) (L.ok hl) 0 ?_;cases h;exact fun a w hq=>bkR (sqR (rtR hq))
def zc2:Bool→Value
 | r0=>(vB r0)
def zcl (H:AH):Bool→AH:=fun _=>H
noncomputable def B31:Code:=(Tryz.f31.body).getD .skip
noncomputable def T9 (L:LC) (H:AH) (a0:Sl3) (a1:Bool):Option Bool :=
 (z3w L H a0 a1).bind fun x1 => some (decide (x1≥0))
theorem zc7 {L:LC} {m:Nat} {H:AH} {a0:Sl3} {a1 r:Bool} (h:T9 L H a0 a1=some r) :
  CallS Tryz.prog (NE.plain 1000) m 31 #[(Sl3.v a0),(vB a1)] H (zc2 r) (zcl H r):=by
 refine CallS.mk (args:=[(Sl3.v a0),(vB a1)]) Tryz.func31 (B:=B31) (by kernel_rfl) (fun E _=>?_);unfold T9 at h;refine A0 (C0 (m0 1 [kB 4 false] (B0 (o0 (A0 (C0 (m0 2 [kB 6 a1,kS 5 a0] ?_)))))));obtain ⟨x1,hx,h⟩:=bind_some h;refine N0 (some 7) (v:=(vI .i64 x1)) 54 _ (zg3 hx) (m0 2 [kB 4 (decide (x1≥0)),kB 8 (decide (x1≥0))] (B0 (o0 (I0 ?_))));cases h;exact fun a w hs=>rtR (rS hs)
def S7:Bool→Value
 | r0=>(vB r0)
def i8 (H:AH):Bool→AH:=fun _=>H
noncomputable def B57:Code:=(Tryz.f57.body).getD .skip
noncomputable def M5 (_L:LC) (rec_sort_book_grounded:AH→(Option Addr)→Int→Int→ByteArray→Sl3→Sl3→Option Bool) (H:AH) (a0:Option Addr) (a1_0 _a1_1:Int) (a1_2:ByteArray) (a1_3 a2:Sl3):Option Bool :=
 if a1_0=6 then
  a0.bind fun q1 => (rd deM H (Addr.add q1 3)).bind fun x2 => (lk1 Tryz.prog 78 (deI .i64) H x2 (vA #[(vI .i64 a1_0),(vS a1_2)])).bind fun x3 => (idxA 1 a2 x3).bind fun p4 => (rd deB H p4).bind fun x5 => some x5
 else
  if a1_0=4 then
   (idxA 4 a1_3 1).bind fun p6 => (rd (deI .i64) H (Addr.add p6 0)).bind fun x7_0 => (rd (deI .i64) H (Addr.add p6 1)).bind fun x7_1 => (rd deS H (Addr.add p6 2)).bind fun x7_2 => (rd deSl H (Addr.add p6 3)).bind fun x7_3 => (rec_sort_book_grounded H a0 x7_0 x7_1 x7_2 x7_3 a2).bind fun x8 => some x8
  else
   some true
noncomputable def T7 (L:LC) (n:Nat):(AH→(Option Addr)→Int→Int→ByteArray→Sl3→Sl3→Option Bool):=Nat.rec (motive:=fun _=>(AH→(Option Addr)→Int→Int→ByteArray→Sl3→Sl3→Option Bool)) (fun _ _ _ _ _ _ _=>none) (fun _ p=>M5 L p) n
noncomputable def z1g (L:LC) (H:AH) (a0:Option Addr) (a1_0 a1_1:Int) (a1_2:ByteArray) (a1_3 a2:Sl3):Option Bool:=(T7 L L.fuel) H a0 a1_0 a1_1 a1_2 a1_3 a2
theorem z5j {L:LC} {rec_sort_book_grounded:AH→(Option Addr)→Int→Int→ByteArray→Sl3→Sl3→Option Bool} (hrec_sort_book_grounded:∀(m:Nat) (H:AH) (a0:Option Addr) (a1_0 a1_1:Int) (a1_2:ByteArray) (a1_3 a2:Sl3) (r:Bool),rec_sort_book_grounded H a0 a1_0 a1_1 a1_2 a1_3 a2=some r→CallS Tryz.prog (NE.plain 1000) m 57 #[(vP a0),(vA #[(vI .i64 a1_0),(vI .i64 a1_1),(vS a1_2),(Sl3.v a1_3)]),(Sl3.v a2)] H (S7 r) (i8 H r)) {m:Nat} {H:AH} {a0:Option Addr} {a1_0 a1_1:Int} {a1_2:ByteArray} {a1_3 a2:Sl3} {r:Bool} (h:M5 L rec_sort_book_grounded H a0 a1_0 a1_1 a1_2 a1_3 a2=some r) :
  CallS Tryz.prog (NE.plain 1000) m 57 #[(vP a0),(vA #[(vI .i64 a1_0),(vI .i64 a1_1),(vS a1_2),(Sl3.v a1_3)]),(Sl3.v a2)] H (S7 r) (i8 H r):=by
 refine CallS.mk (args:=[(vP a0),(vA #[(vI .i64 a1_0),(vI .i64 a1_1),(vS a1_2),(Sl3.v a1_3)]),(Sl3.v a2)]) Tryz.func57 (B:=B57) (by kernel_rfl) (fun E _=>?_);unfold M5 at h;refine A0 (C0 (Q0 2 [kB 6 false,kL 4 0 0] ([some (25,[(vI .i64 a1_0),(vI .i64 a1_1),(vS a1_2),(Sl3.v a1_3)])]) (B0 (o0 (A0 (A0 (C0 (m0 2 [kI 8 a1_0,kL 7 0 0] (B0 ?_)))))))));refine o0 (J0 0 (A0 (C0 (m0 2 [kB 9 (decide (a1_0=6)),kB 10 (decide (a1_0=6))] (B0 (o0 ?_))))));rcases Q1 h with ⟨hp,h⟩ | ⟨hp,h⟩
 ·refine D0 9 true (decide_eq_true hp) (E0 (A0 ?_));refine D1 [0,1,2,3,4,5,6,7,8,9,10,11,12] [0,0,2,6,14,0,32,0,128,480,1022,2047,4095,8191] 14 (fun hcl=>?_);refine U0 0 (some 11) (Sl3.v a2) (U0 1 (some 12) (vP a0) ?_);obtain ⟨q1,hx,hq1⟩:=bind_some h;subst hx;have h:=hq1;refine U0 2 (some 13) (vP (some q1)) (U0 3 (some 14) (vP (some (Addr.add q1 3))) ?_);obtain ⟨x2,hx,h⟩:=bind_some h;refine Z0 4 (some 15) (Value.map x2) (Abs.det_load (t:=78) (x:=.tmp 14) (a:=(Addr.add q1 3)) (by kernel_rfl) (by kernel_rfl) (by kernel_rfl) (by kernel_rfl) (O1 hx O7)) (V0 5 (some 16) (.loc 0 0) (V0 6 (some 17) (.val (vI .i64 a1_0)) (V0 7 (some 18) (.loc 0 2) (V0 8 (some 19) (.val (vS a1_2)) (U0 9 (some 20) (vA #[(vI .i64 a1_0),(vS a1_2)]) ?_)))));obtain ⟨x3,hx,h⟩:=bind_some h;refine Z0 10 (some 21) (vI .i64 x3) (Abs.det_look (t:=78) (x:=.tmp 15) (y:=.tmp 20) (mm:=x2) (k:=(vA #[(vI .i64 a1_0),(vS a1_2)])) (by kernel_rfl) (by kernel_rfl) (by kernel_rfl) (by kernel_rfl) (lk1_eq hx S1)) ?_;obtain ⟨p4,hx,h⟩:=bind_some h;refine Z0 11 (some 22) (vP (some p4)) (Abs.det_idx (s:=a2) (k:=.i64) (t:=70) (e:=4) (x:=.tmp 11) (y:=.tmp 21) (by kernel_rfl) (by kernel_rfl) (by kernel_rfl) (by kernel_rfl) (by kernel_rfl) hx) ?_;obtain ⟨x5,hx,h⟩:=bind_some h;refine Z0 12 (some 23) (vB x5) (Abs.det_load (t:=4) (x:=.tmp 22) (a:=p4) (by kernel_rfl) (by kernel_rfl) (by kernel_rfl) (by kernel_rfl) (O1 hx F6)) (M0 13 (some 6) (vB x5) (W0 (o0 (I0 ?_))));cases h;exact fun a w hs=>bkR (sqR (rtR (rS hs)))
 ·refine D0 9 false (decide_eq_false hp) (F0 (A0 (C0 (m0 2 [kB 24 (decide (a1_0=4)),kB 25 (decide (a1_0=4))] (B0 (o0 ?_))))));rcases Q1 h with ⟨hp,h⟩ | ⟨hp,h⟩
  ·refine D0 24 true (decide_eq_true hp) (E0 (A0 (C0 (m0 3 [kS 28 a1_3,kL 27 0 3,(26,.val (vP a0))] ?_))));obtain ⟨p6,hx,h⟩:=bind_some h;refine O0 29 23 25 (.tmp 28) (.const (vI .i64 1)) hx ?_;obtain ⟨x7_0,hx0,h⟩:=bind_some h;obtain ⟨x7_1,hx1,h⟩:=bind_some h;obtain ⟨x7_2,hx2,h⟩:=bind_some h;obtain ⟨x7_3,hx3,h⟩:=bind_some h;refine RS.la 30 25 (.tmp 29) 4 (P1 (O1 hx0 S1) (P1 (O1 hx1 S1) (P1 (O1 hx2 T1) (P1 (O1 hx3 R1) U1)))) (m0 1 [kS 31 a2] ?_);obtain ⟨x8,hx,h⟩:=bind_some h;refine N0 (some 32) (v:=(vB x8)) 57 _ (hrec_sort_book_grounded _ _ _ _ _ _ _ _ _ hx) (m0 1 [kB 6 x8] (B0 (o0 (I0 ?_))));cases h;exact fun a w hs=>bkR (sqR (rtR (rS hs)))
  ·refine D0 24 false (decide_eq_false hp) (F0 (G0 ?_));refine fun a w hs=>bkN ((o0 ?_ a w hs));refine A0 (C0 (m0 1 [kB 6 true] (B0 (o0 (I0 ?_)))));cases h;exact fun a w hs=>rtR (rS hs)
theorem z6c {L:LC}:∀n,(∀(m:Nat) (H:AH) (a0:Option Addr) (a1_0 a1_1:Int) (a1_2:ByteArray) (a1_3 a2:Sl3) (r:Bool),((T7 L n)) H a0 a1_0 a1_1 a1_2 a1_3 a2=some r→CallS Tryz.prog (NE.plain 1000) m 57 #[(vP a0),(vA #[(vI .i64 a1_0),(vI .i64 a1_1),(vS a1_2),(Sl3.v a1_3)]),(Sl3.v a2)] H (S7 r) (i8 H r)):=by
 intro n;induction n with
 | zero=>exact (fun _ _ _ _ _ _ _ _ _ h=>(Option.some_ne_none _ h.symm).elim)
 | succ n ih=>exact (fun _ _ _ _ _ _ _ _ _ h=>z5j (L:=L) ih h)
theorem z9s {L:LC} {m:Nat} {H:AH} {a0:Option Addr} {a1_0 a1_1:Int} {a1_2:ByteArray} {a1_3 a2:Sl3} {r:Bool} (h:z1g L H a0 a1_0 a1_1 a1_2 a1_3 a2=some r) :
  CallS Tryz.prog (NE.plain 1000) m 57 #[(vP a0),(vA #[(vI .i64 a1_0),(vI .i64 a1_1),(vS a1_2),(Sl3.v a1_3)]),(Sl3.v a2)] H (S7 r) (i8 H r) :=
 (z6c _) _ _ _ _ _ _ _ _ _ h
def z92:Bool→Value
 | r0=>(vB r0)
def z9o (H:AH):Bool→AH:=fun _=>H
noncomputable def B56:Code:=(Tryz.f56.body).getD .skip
noncomputable def N9 (L:LC) (H:AH) (_a0_0:ByteArray) (a0_1 a0_2:Int) (a0_3:ByteArray) (a0_4:Sl3) (a1 a2:Option Addr):Option Bool :=
 a1.bind fun q1 => (rd deP H q1).bind fun x2 => a2.bind fun q3 => (rd deSl H q3).bind fun x4 => (z1g L H x2 a0_1 a0_2 a0_3 a0_4 x4).bind fun x5 => some (!x5)
theorem z9y {L:LC} {m:Nat} {H:AH} {a0_0:ByteArray} {a0_1 a0_2:Int} {a0_3:ByteArray} {a0_4:Sl3} {a1 a2:Option Addr} {r:Bool} (h:N9 L H a0_0 a0_1 a0_2 a0_3 a0_4 a1 a2=some r) :
  CallS Tryz.prog (NE.plain 1000) m 56 #[(vA #[(vS a0_0),(vI .i64 a0_1),(vI .i64 a0_2),(vS a0_3),(Sl3.v a0_4)]),(vP a1),(vP a2)] H (z92 r) (z9o H r):=by
 refine CallS.mk (args:=[(vA #[(vS a0_0),(vI .i64 a0_1),(vI .i64 a0_2),(vS a0_3),(Sl3.v a0_4)]),(vP a1),(vP a2)]) Tryz.func56 (B:=B56) (by kernel_rfl) (fun E _=>?_);unfold N9 at h;refine A0 (C0 (Q0 2 [kB 4 false,kL 3 0 0] ([some (105,[(vS a0_0),(vI .i64 a0_1),(vI .i64 a0_2),(vS a0_3),(Sl3.v a0_4)])]) (B0 (o0 (A0 (C0 ?_))))));obtain ⟨q1,hx,hq1⟩:=bind_some h;subst hx;have h:=hq1;obtain ⟨x2,hx,h⟩:=bind_some h;refine T0 5 63 (.tmp 1) (O1 hx U8) (m0 2 [kA 7 #[(vI .i64 a0_1),(vI .i64 a0_2),(vS a0_3),(Sl3.v a0_4)],kL 6 0 1] ?_);obtain ⟨q3,hx,hq3⟩:=bind_some h;subst hx;have h:=hq3;obtain ⟨x4,hx,h⟩:=bind_some h;refine T0 8 70 (.tmp 2) (O1 hx R1) ?_;obtain ⟨x5,hx,h⟩:=bind_some h;refine N0 (some 9) (v:=(vB x5)) 57 _ (z9s hx) (m0 2 [kB 4 (!x5),kB 10 (!x5)] (B0 (o0 (I0 ?_))));cases h;exact fun a w hs=>rtR (rS hs)
def z1p:Int→Value
 | r0=>(vI .i64 r0)
def z23 (H:AH):Int→AH:=fun _=>H
noncomputable def B74:Code:=(Tryz.f74.body).getD .skip
noncomputable def J3 (L:LC) (H:AH) (a0:Sl3) (a1_0 a1_1:Option Addr):Int→Option (Lp Int Int):=fun v8_1 =>
 if v8_1<(a0.n:Int) then
  (idxA 5 a0 v8_1).bind fun p2 => (rd deS H (Addr.add p2 0)).bind fun x3_0 => (rd (deI .i64) H (Addr.add p2 1)).bind fun x3_1 => (rd (deI .i64) H (Addr.add p2 2)).bind fun x3_2 => (rd deS H (Addr.add p2 3)).bind fun x3_3 => (rd deSl H (Addr.add p2 4)).bind fun x3_4 => (N9 L H x3_0 x3_1 x3_2 x3_3 x3_4 a1_0 a1_1).bind fun x4 => if x4=true then
   some (.ret v8_1)
  else
   some (.next (IntKind.i64.wrap (v8_1+1)))
 else
  some (.brk v8_1)
def z5e (_L:LC) (_H:AH) (a0:Sl3) (a1_0 a1_1:Option Addr):Int→KN×Lcs:=fun v8_1=>([kI 8 v8_1,kS 0 a0,(1,.val (Value.func (.func 56) #[] #[(vP a1_0),(vP a1_1)])),kI 7 (a0.n:Int)],[])
noncomputable def Q8 (L:LC) (H:AH) (a0:Sl3) (a1_0 a1_1:Option Addr):Option Int :=
 (L.run (J3 L H a0 a1_0 a1_1) 0).bind fun o=>match o with
 | .inl _ =>
  some (-1)
 | .inr r=>some r
theorem z10 {E m L H a0 a1_0 a1_1} :LoopF Tryz.prog (NE.plain 1000) m E Tryz.f74 ((cfst (csnd (cfst (csnd B74))))) (z5e L H a0 a1_0 a1_1) (fun _=>H) 0 z1p (z23 H) (J3 L H a0 a1_0 a1_1):=by
 rintro v8_1 o h
 unfold J3 at h;try dsimp only at h
 refine A0 (C0 (m0 1 [kB 9 (decide (v8_1<(a0.n:Int)))] (B0 (o0 (A0 ?_)))));rcases Q1 h with ⟨hp,h⟩ | ⟨hp,h⟩
 ·refine D0 9 true (decide_eq_true hp) (E0 (G0 (o0 (A0 (J0 1 (A0 (C0 (m0 2 [kI 5 v8_1,kI 10 v8_1] (B0 ?_)))))))));refine o0 (A0 (C0 (m0 3 [kI 13 v8_1,kS 12 a0,(11,.val (Value.func (.func 56) #[] #[(vP a1_0),(vP a1_1)]))] ?_)));obtain ⟨p2,hx,h⟩:=bind_some h;refine O0 14 101 105 (.tmp 12) (.tmp 13) hx ?_;obtain ⟨x3_0,hx0,h⟩:=bind_some h;obtain ⟨x3_1,hx1,h⟩:=bind_some h;obtain ⟨x3_2,hx2,h⟩:=bind_some h;obtain ⟨x3_3,hx3,h⟩:=bind_some h;obtain ⟨x3_4,hx4,h⟩:=bind_some h;refine RS.la 15 105 (.tmp 14) 5 (P1 (O1 hx0 T1) (P1 (O1 hx1 S1) (P1 (O1 hx2 S1) (P1 (O1 hx3 T1) (P1 (O1 hx4 R1) U1))))) ?_;obtain ⟨x4,hx,h⟩:=bind_some h;refine N0 (some 16) (v:=(vB x4)) 56 _ (z9y hx) (B0 (o0 ?_));rcases Q1 h with ⟨hp,h⟩ | ⟨hp,h⟩
  ·refine D0 16 true hp (E0 (A0 (C0 (m0 2 [kI 4 v8_1,kI 17 v8_1] (B0 (o0 (I0 ?_)))))));cases h;exact fun a w hs=>bkR (sqR (lsR rfl (rS hs)))
  ·refine D0 16 false (b_not hp) (F0 (G0 ?_));refine fun a w hs=>bkN ((o0 ?_ a w hs));refine C0 (m0 2 [kI 8 (IntKind.i64.wrap (v8_1+1)),kI 18 (IntKind.i64.wrap (v8_1+1))] (B0 ?_));cases h;exact fun a w hs=>lsN rfl (hs.sb 0)
 ·refine D0 9 false (decide_eq_false hp) (F0 (WS.ex 0 ?_));cases h;exact fun a w hs=>sqE (lsB rfl (hs.sb 0))
theorem z7s {L:LC} {m:Nat} {H:AH} {a0:Sl3} {a1_0 a1_1:Option Addr} {r:Int} (h:Q8 L H a0 a1_0 a1_1=some r) :
  CallS Tryz.prog (NE.plain 1000) m 74 #[(Sl3.v a0),(Value.func (.func 56) #[] #[(vP a1_0),(vP a1_1)])] H (z1p r) (z23 H r):=by
 refine CallS.mk (args:=[(Sl3.v a0),(Value.func (.func 56) #[] #[(vP a1_0),(vP a1_1)])]) Tryz.func74 (B:=B74) (by kernel_rfl) (fun E _=>?_);unfold Q8 at h;refine A0 (C0 (m0 1 [kI 4 0] (B0 (o0 (A0 (A0 (C0 (m0 3 [kI 8 0,kI 7 (a0.n:Int),kS 6 a0] (B0 ?_)))))))));refine o0 (J0 0 ?_);obtain ⟨o,hl,h⟩:=bind_some h;rcases o with v8_5 | r
 ·try dsimp only at h
  refine S0 (z10 (L:=L) (E:=E) (m:=m) (H:=H)) (L.ok hl) 0 ?_;clear hl;refine fun a w hs=>bkE ((o0 ?_ a w hs));refine A0 (C0 (m0 1 [kI 4 (-1)] (B0 (o0 (I0 ?_)))));cases h;exact fun a w hs=>rtR (rS hs)
 ·try dsimp only at h
  refine R0 (z10 (L:=L) (E:=E) (m:=m) (H:=H)) (L.ok hl) 0 ?_;cases h;exact fun a w hq=>bkR (sqR (rtR hq))
def z4v:Bool→Value
 | r0=>(vB r0)
def z5i (H:AH):Bool→AH:=fun _=>H
noncomputable def B55:Code:=(Tryz.f55.body).getD .skip
noncomputable def L5 (L:LC) (H:AH) (a0:Sl3) (a1_0 a1_1:Option Addr):Option Bool :=
 (Q8 L H a0 a1_0 a1_1).bind fun x1 => some (decide (x1≥0))
theorem z59 {L:LC} {m:Nat} {H:AH} {a0:Sl3} {a1_0 a1_1:Option Addr} {r:Bool} (h:L5 L H a0 a1_0 a1_1=some r) :
  CallS Tryz.prog (NE.plain 1000) m 55 #[(Sl3.v a0),(Value.func (.func 56) #[] #[(vP a1_0),(vP a1_1)])] H (z4v r) (z5i H r):=by
 refine CallS.mk (args:=[(Sl3.v a0),(Value.func (.func 56) #[] #[(vP a1_0),(vP a1_1)])]) Tryz.func55 (B:=B55) (by kernel_rfl) (fun E _=>?_);unfold L5 at h;refine A0 (C0 (m0 1 [kB 4 false] (B0 (o0 (A0 (C0 (m0 2 [(6,.val (Value.func (.func 56) #[] #[(vP a1_0),(vP a1_1)])),kS 5 a0] ?_)))))));obtain ⟨x1,hx,h⟩:=bind_some h;refine N0 (some 7) (v:=(vI .i64 x1)) 74 _ (z7s hx) (m0 2 [kB 4 (decide (x1≥0)),kB 8 (decide (x1≥0))] (B0 (o0 (I0 ?_))));cases h;exact fun a w hs=>rtR (rS hs)
def R8:(Sl3×AH)→Value
 | (r0,_)=>(Sl3.v r0)
def E9 (_:AH):(Sl3×AH)→AH:=fun r=>r.2
noncomputable def B32:Code:=(Tryz.f32.body).getD .skip
noncomputable def Q2 (L:LC) (m:Nat) (p1 p8:Addr) (_x14:Sl3) (v21_17:Int) (_x19_0:ByteArray) (x19_1:Sl3):(AH×Int)→Option (Lp (AH×Int) ((Sl3×AH)⊕AH)):=fun (H24,v33_25) =>
 if v33_25<(x19_1.n:Int) then
  (idxA 2 x19_1 v33_25).bind fun p26 => (rd deS H24 (Addr.add p26 0)).bind fun _ => (rd deSl H24 (Addr.add p26 1)).bind fun x27_1 => (L5 L H24 x27_1 (some p1) (some p8)).bind fun x28 => if x28=true then
   some (.next (H24,(IntKind.i64.wrap (v33_25+1))))
  else
   (rd deSl H24 p8).bind fun x29 => (idxA 1 x29 v21_17).bind fun p30 => (H24.setCell m p30 (vB true)).bind fun H31 => some (.ret (.inr H31))
 else
  some (.brk (H24,v33_25))
def z2k (_L:LC) (_m:Nat) (p1 p8:Addr) (x14:Sl3) (v21_17:Int) (_x19_0:ByteArray) (x19_1:Sl3):(AH×Int)→KN:=fun (_,v33_25)=>[kI 33 v33_25,kP 1 p1,kP 3 p8,kI 4 v21_17,kS 19 x14,kI 20 (x14.n:Int),kI 21 v21_17,kS 31 x19_1,kI 32 (x19_1.n:Int)]
def z2c (_L:LC) (_m:Nat) (_p1 _p8:Addr) (_x14:Sl3) (_v21_17:Int) (x19_0:ByteArray) (x19_1:Sl3):(AH×Int)→Lcs:=fun (_,_)=>[some (93,[(vS x19_0),(Sl3.v x19_1)])]
def z7p (_L:LC) (_m:Nat) (p1 p8:Addr) (_x14:Sl3) (_v21_17:Int) (_x19_0:ByteArray) (_x19_1:Sl3):AH→KN:=fun _=>[kP 1 p1,kP 3 p8]
def z7x (_L:LC) (_m:Nat) (_p1 _p8:Addr) (_x14:Sl3) (_v21_17:Int) (x19_0:ByteArray) (x19_1:Sl3):AH→Lcs:=fun _=>[some (93,[(vS x19_0),(Sl3.v x19_1)])]
noncomputable def I2 (L:LC) (m:Nat) (p1 p8:Addr) (x14:Sl3):(AH×Int)→Option (Lp (AH×Int) ((Sl3×AH)⊕AH)):=fun (H16,v21_17) =>
 if v21_17<(x14.n:Int) then
  (idxA 2 x14 v21_17).bind fun p18 => (rd deS H16 (Addr.add p18 0)).bind fun x19_0 => (rd deSl H16 (Addr.add p18 1)).bind fun x19_1 => (rd deSl H16 p8).bind fun x20 => (idxA 1 x20 v21_17).bind fun p21 => (rd deB H16 p21).bind fun x22 => if x22=true then
   some (.next (H16,(IntKind.i64.wrap (v21_17+1))))
  else
   (L.run (Q2 L m p1 p8 x14 v21_17 x19_0 x19_1) (H16,0)).bind fun o=>match o with
   | .inl (H32,_) =>
    some (.next (H32,(IntKind.i64.wrap (v21_17+1))))
   | .inr (.inl r)=>some (.ret (.inl r))
   | .inr (.inr H34) =>
    some (.ret (.inr H34))
 else
  some (.brk (H16,v21_17))
def z2i (_L:LC) (_m:Nat) (p1 p8:Addr) (x14:Sl3):(AH×Int)→KN:=fun (_,v21_17)=>[kI 21 v21_17,kP 1 p1,kP 3 p8,kS 19 x14,kI 20 (x14.n:Int)]
def z2m (_L:LC) (_m:Nat) (_p1 _p8:Addr) (_x14:Sl3):(AH×Int)→Lcs:=fun (_,_)=>[]
def z7n (_L:LC) (_m:Nat) (p1 p8:Addr) (_x14:Sl3):AH→KN:=fun _=>[kP 1 p1,kP 3 p8]
def z7r (_L:LC) (_m:Nat) (_p1 _p8:Addr) (_x14:Sl3):AH→Lcs:=fun _=>[]
noncomputable def X2 (L:LC) (m:Nat) (p1 p8:Addr):AH→Option (Lp AH (Sl3×AH)):=fun H11 =>
 (rd deP H11 p1).bind fun x12 => x12.bind fun q13 => (rd deSl H11 (Addr.add (Addr.add q13 0) 1)).bind fun x14 => (L.run (I2 L m p1 p8 x14) (H11,0)).bind fun o=>match o with
 | .inl (H35,_) =>
  some (.brk H35)
 | .inr (.inl r)=>some (.ret r)
 | .inr (.inr H37) =>
  some (.next H37)
def z95 (_L:LC) (_m:Nat) (p1 p8:Addr):AH→KN×Lcs:=fun _=>([kP 1 p1,kP 3 p8],[])
noncomputable def t9 (L:LC) (m:Nat) (H:AH) (a0:Option Addr):Option (Sl3×AH) :=
 (newB 63 [(vP a0)] H).bind fun (p1,H2) => (rd deP H2 p1).bind fun x3 => x3.bind fun q4 => (rd deSl H2 (Addr.add (Addr.add q4 0) 1)).bind fun x5 => (mkS 4 1 1 #[(vB false)] H2 (x5.n:Int) (x5.n:Int)).bind fun (s6,H7) => (newB 70 [(Sl3.v Sl3.nil)] H7).bind fun (p8,H9) => (H9.setCell m p8 (Sl3.v s6)).bind fun H10 => (L.run (X2 L m p1 p8) H10).bind fun o=>match o with
 | .inl H38 =>
  (rd deSl H38 p8).bind fun x39 => some (x39,H38)
 | .inr r=>some r
theorem z7 {E:Ent} {H:AH} {L:LC} {m:Nat} {p1 p8:Addr} {x14:Sl3} {v21_17:Int} {x19_0:ByteArray} {x19_1:Sl3} :∀s o,Q2 L m p1 p8 x14 v21_17 x19_0 x19_1 s=some o →
  WS Tryz.prog (NE.plain 1000) m E Tryz.f32.ntmps (cfst (cfst (csnd (csnd (csnd (cfst (cfst (csnd (csnd (cfst (cfst (csnd (cfst (cfst (cfst (cfst (cfst (csnd (csnd (cfst (csnd B32))))))))))))))))))))) (z2k L m p1 p8 x14 v21_17 x19_0 x19_1 s) (z2c L m p1 p8 x14 v21_17 x19_0 x19_1 s) ((fun s=>s.1) s) (lpX Tryz.prog (NE.plain 1000) m E Tryz.f32.ntmps (z2k L m p1 p8 x14 v21_17 x19_0 x19_1) (z2c L m p1 p8 x14 v21_17 x19_0 x19_1) (fun s=>s.1) 4 (fun r e a w=>match r with | .inl r=>e=.ret∧RT Tryz.prog (NE.plain 1000) m E Tryz.f32 (R8 r) (E9 H r) a w | .inr x=>e=.exit 1∧SS Tryz.prog (NE.plain 1000) m E Tryz.f32.ntmps (z7p L m p1 p8 x14 v21_17 x19_0 x19_1 x) (z7x L m p1 p8 x14 v21_17 x19_0 x19_1 x) ((fun s=>s) x) a w) o):=by
 rintro ⟨H24,v33_25⟩ o h
 unfold Q2 at h;try dsimp only at h
 refine A0 (C0 (m0 1 [kB 34 (decide (v33_25<(x19_1.n:Int)))] (B0 (o0 (A0 ?_)))));rcases Q1 h with ⟨hp,h⟩ | ⟨hp,h⟩
 ·refine D0 34 true (decide_eq_true hp) (E0 (G0 (o0 (A0 (J0 5 (A0 (C0 ?_)))))));obtain ⟨p26,hx,h⟩:=bind_some h;refine O0 35 91 103 (.tmp 31) (.tmp 33) hx ?_;obtain ⟨x27_0,hx0,h⟩:=bind_some h;obtain ⟨x27_1,hx1,h⟩:=bind_some h;refine RS.la 36 103 (.tmp 35) 2 (P1 (O1 hx0 T1) (P1 (O1 hx1 R1) U1)) (Q0 2 [kL 7 1 0] ([some (93,[(vS x19_0),(Sl3.v x19_1)]),some (103,[(vS x27_0),(Sl3.v x27_1)])]) (B0 (o0 (A0 (C0 (m0 3 [(39,.val (Value.func (.func 56) #[] #[(vP (some p1)),(vP (some p8))])),kS 38 x27_1,kL 37 1 1] ?_))))));obtain ⟨x28,hx,h⟩:=bind_some h;refine N0 (some 40) (v:=(vB x28)) 55 _ (z59 hx) (m0 1 [kB 41 (!x28)] (B0 (o0 ?_)));rcases Q1 h with ⟨hp,h⟩ | ⟨hp,h⟩
  ·refine D0 41 false (nb_not hp) (F0 (G0 ?_));refine fun a w hs=>bkN ((o0 ?_ a w hs));refine C0 (m0 2 [kI 33 (IntKind.i64.wrap (v33_25+1)),kI 45 (IntKind.i64.wrap (v33_25+1))] (B0 ?_));cases h;exact fun a w hs=>lxN rfl (hs.sb 1)
  ·refine D0 41 true (W2 hp) (E0 (A0 (C0 ?_)));obtain ⟨x29,hx,h⟩:=bind_some h;refine T0 42 70 (.tmp 3) (O1 hx R1) (m0 1 [kI 43 v21_17] ?_);obtain ⟨p30,hx,h⟩:=bind_some h;refine O0 44 70 4 (.tmp 42) (.tmp 43) hx ?_;obtain ⟨H31,hx,h⟩:=bind_some h;refine P0 (H':=H31) none undef (Abs.run_store1 (t:=4) (x:=.tmp 44) (y:=.const (vB true)) (a:=p30) (v:=(vB true)) (by kernel_rfl) (by kernel_rfl) (by kernel_rfl) (by kernel_rfl) (by kernel_rfl) hx) (B0 (o0 (WS.ex 1 ?_)));cases h;exact fun a w hs=>bkX (by kernel_rfl) (sqE (lxE rfl ⟨rfl,(hs.sb 1)⟩))
 ·refine D0 34 false (decide_eq_false hp) (F0 (WS.ex 4 ?_));cases h;exact fun a w hs=>sqE (lxB rfl (hs.sb 1))
theorem X9 {E:Ent} {H:AH} {L:LC} {m:Nat} {p1 p8:Addr} {x14:Sl3} :∀s o,I2 L m p1 p8 x14 s=some o →
  WS Tryz.prog (NE.plain 1000) m E Tryz.f32.ntmps (cfst (cfst (csnd (cfst (cfst (cfst (cfst (cfst (csnd (csnd (cfst (csnd B32)))))))))))) (z2i L m p1 p8 x14 s) (z2m L m p1 p8 x14 s) ((fun s=>s.1) s) (lpX Tryz.prog (NE.plain 1000) m E Tryz.f32.ntmps (z2i L m p1 p8 x14) (z2m L m p1 p8 x14) (fun s=>s.1) 2 (fun r e a w=>match r with | .inl r=>e=.ret∧RT Tryz.prog (NE.plain 1000) m E Tryz.f32 (R8 r) (E9 H r) a w | .inr x=>e=.exit 1∧SS Tryz.prog (NE.plain 1000) m E Tryz.f32.ntmps (z7n L m p1 p8 x14 x) (z7r L m p1 p8 x14 x) ((fun s=>s) x) a w) o):=by
 rintro ⟨H16,v21_17⟩ o h
 unfold I2 at h;try dsimp only at h
 refine A0 (C0 (m0 1 [kB 22 (decide (v21_17<(x14.n:Int)))] (B0 (o0 (A0 ?_)))));rcases Q1 h with ⟨hp,h⟩ | ⟨hp,h⟩
 ·refine D0 22 true (decide_eq_true hp) (E0 (G0 (o0 (A0 (J0 3 (A0 (C0 (m0 1 [kI 23 v21_17] ?_))))))));obtain ⟨p18,hx,h⟩:=bind_some h;refine O0 24 27 93 (.tmp 19) (.tmp 21) hx ?_;obtain ⟨x19_0,hx0,h⟩:=bind_some h;obtain ⟨x19_1,hx1,h⟩:=bind_some h;refine RS.la 25 93 (.tmp 24) 2 (P1 (O1 hx0 T1) (P1 (O1 hx1 R1) U1)) (Q0 3 [kI 4 v21_17,kL 5 0 0] ([some (93,[(vS x19_0),(Sl3.v x19_1)])]) (B0 (o0 (A0 (A0 (C0 ?_))))));obtain ⟨x20,hx,h⟩:=bind_some h;refine T0 26 70 (.tmp 3) (O1 hx R1) (m0 1 [kI 27 v21_17] ?_);obtain ⟨p21,hx,h⟩:=bind_some h;refine O0 28 70 4 (.tmp 26) (.tmp 27) hx ?_;obtain ⟨x22,hx,h⟩:=bind_some h;refine T0 29 4 (.tmp 28) (O1 hx F6) (B0 (o0 ?_));rcases Q1 h with ⟨hp,h⟩ | ⟨hp,h⟩
  ·refine D0 29 true hp (E0 (WS.ex 3 ?_));refine fun a w hs=>sqE (bkE ((o0 ?_ a w hs)));refine C0 (m0 2 [kI 21 (IntKind.i64.wrap (v21_17+1)),kI 46 (IntKind.i64.wrap (v21_17+1))] (B0 ?_));cases h;exact fun a w hs=>lxN rfl (hs.sb 0)
  ·refine D0 29 false (b_not hp) (F0 (G0 (o0 (A0 (C0 (m0 4 [kI 33 0,kI 32 (x19_1.n:Int),kS 31 x19_1,kL 30 0 1] (B0 (o0 (J0 4 ?_)))))))));obtain ⟨o,hl,h⟩:=bind_some h;rcases o with ⟨H32,v33_33⟩ | (r | H34)
   ·try dsimp only at h
    refine WS.lXI (z7 (L:=L) (E:=E) (m:=m) (H:=H)) (L.ok hl) 1 ?_;clear hl;refine fun a w hs=>bkE (bkN ((o0 ?_ a w hs)));refine C0 (m0 2 [kI 21 (IntKind.i64.wrap (v21_17+1)),kI 46 (IntKind.i64.wrap (v21_17+1))] (B0 ?_));cases h;exact fun a w hs=>lxN rfl (hs.sb 0)
   ·try dsimp only at h
    refine WS.lXR (z7 (L:=L) (E:=E) (m:=m) (H:=H)) (L.ok hl) 1 ?_;cases h;refine fun e a w hq=>?_;obtain ⟨rfl,hq⟩:=hq;exact bkR (bkR (sqR (lxR rfl ⟨rfl,hq⟩)))
   ·try dsimp only at h
    refine WS.lXR (z7 (L:=L) (E:=E) (m:=m) (H:=H)) (L.ok hl) 1 ?_;clear hl;refine fun e a w hs=>?_;obtain ⟨rfl,hs⟩:=hs
    revert hs
    revert w
    revert a
    cases h;exact fun a w hs=>bkX (by kernel_rfl) (bkX (by kernel_rfl) (sqE (lxE rfl ⟨rfl,(hs.sb 0)⟩)))
 ·refine D0 22 false (decide_eq_false hp) (F0 (WS.ex 2 ?_));cases h;exact fun a w hs=>sqE (lxB rfl (hs.sb 0))
theorem z2j {E H L m p1 p8} :LoopF Tryz.prog (NE.plain 1000) m E Tryz.f32 ((cfst (cfst (csnd (csnd (cfst (csnd B32))))))) (z95 L m p1 p8) (fun s=>s) 0 R8 (E9 H) (X2 L m p1 p8):=by
 rintro H11 o h
 unfold X2 at h;try dsimp only at h
 refine J0 1 (A0 (A0 (C0 ?_)));obtain ⟨x12,hx,h⟩:=bind_some h;refine T0 15 63 (.tmp 1) (O1 hx U8) ?_;obtain ⟨q13,hx,hq13⟩:=bind_some h;subst hx;have h:=hq13;refine m0 3 [(18,.val (vP (some (Addr.add (Addr.add q13 0) 1)))),(17,.val (vP (some (Addr.add q13 0)))),kP 16 q13] ?_;obtain ⟨x14,hx,h⟩:=bind_some h;refine T0 19 27 (.tmp 18) (O1 hx R1) (m0 2 [kI 21 0,kI 20 (x14.n:Int)] (B0 (o0 (J0 2 ?_))));obtain ⟨o,hl,h⟩:=bind_some h;rcases o with ⟨H35,v21_36⟩ | (r | H37)
 ·try dsimp only at h
  refine WS.lXI (X9 (L:=L) (E:=E) (m:=m) (H:=H)) (L.ok hl) 0 ?_;clear hl;refine fun a w hs=>bkE ((o0 ?_ a w hs));refine WS.ex 0 ?_;cases h;exact fun a w hs=>bkX (by kernel_rfl) (lsB rfl (hs.sb 0))
 ·try dsimp only at h
  refine WS.lXR (X9 (L:=L) (E:=E) (m:=m) (H:=H)) (L.ok hl) 0 ?_;cases h;refine fun e a w hq=>?_;obtain ⟨rfl,hq⟩:=hq;exact bkR (sqR (bkR (lsR rfl hq)))
 ·try dsimp only at h
  refine WS.lXR (X9 (L:=L) (E:=E) (m:=m) (H:=H)) (L.ok hl) 0 ?_;clear hl;refine fun e a w hs=>?_;obtain ⟨rfl,hs⟩:=hs
  revert hs
  revert w
  revert a
  cases h;exact fun a w hs=>bkX (by kernel_rfl) (sqE (bkE (lsN rfl (hs.sb 0))))
theorem zbw {L:LC} {m:Nat} {H:AH} {a0:Option Addr} {r:(Sl3×AH)} (h:t9 L m H a0=some r) :
  CallS Tryz.prog (NE.plain 1000) m 32 #[(vP a0)] H (R8 r) (E9 H r):=by
 refine CallS.mk (args:=[(vP a0)]) Tryz.func32 (B:=B32) (by kernel_rfl) (fun E _=>?_);unfold t9 at h;refine A0 (C0 ?_);obtain ⟨⟨p1,H2⟩,hx,h⟩:=bind_some h;try dsimp only at h
 refine P0 (H':=H2) (some 1) (vP (some p1)) (Abs.run_newB (by kernel_rfl) hx) (m0 1 [kS 2 Sl3.nil] (B0 (o0 (WS.scope (by kernel_rfl) (A0 (C0 ?_))))));obtain ⟨x3,hx,h⟩:=bind_some h;refine T0 8 63 (.tmp 1) (O1 hx U8) ?_;obtain ⟨q4,hx,hq4⟩:=bind_some h;subst hx;have h:=hq4;refine m0 3 [(11,.val (vP (some (Addr.add (Addr.add q4 0) 1)))),(10,.val (vP (some (Addr.add q4 0)))),kP 9 q4] ?_;obtain ⟨x5,hx,h⟩:=bind_some h;refine T0 12 27 (.tmp 11) (O1 hx R1) (m0 1 [kI 13 (x5.n:Int)] ?_);obtain ⟨⟨s6,H7⟩,hx,h⟩:=bind_some h;try dsimp only at h
 refine P0 (H':=H7) (some 14) (Sl3.v s6) (Abs.run_mk (t:=70) (x:=.tmp 13) (y:=.tmp 13) (k1:=.i64) (k2:=.i64) (by kernel_rfl) (by kernel_rfl) (by kernel_rfl) (by kernel_rfl) hx) ?_;obtain ⟨⟨p8,H9⟩,hx,h⟩:=bind_some h;try dsimp only at h
 refine P0 (H':=H9) (some 3) (vP (some p8)) (Abs.run_newB (by kernel_rfl) hx) ?_;obtain ⟨H10,hx,h⟩:=bind_some h;refine P0 (H':=H10) none undef (Abs.run_store1 (t:=70) (x:=.tmp 3) (y:=.tmp 14) (a:=p8) (v:=(Sl3.v s6)) (by kernel_rfl) (by kernel_rfl) (by kernel_rfl) (by kernel_rfl) (by kernel_rfl) hx) (B0 (o0 (A0 (G0 (o0 (A0 (J0 0 ?_)))))));obtain ⟨o,hl,h⟩:=bind_some h;rcases o with H38 | r
 ·try dsimp only at h
  refine S0 (z2j (L:=L) (E:=E) (m:=m) (H:=H)) (L.ok hl) 0 ?_;clear hl;refine fun a w hs=>bkE ((o0 ?_ a w hs));refine A0 (C0 ?_);obtain ⟨x39,hx,h⟩:=bind_some h;refine T0 47 70 (.tmp 3) (O1 hx R1) (m0 1 [kS 2 x39] (B0 (o0 (I0 ?_))));cases h;exact fun a w hs=>sgR (rtR (rS hs))
 ·try dsimp only at h
  refine R0 (z2j (L:=L) (E:=E) (m:=m) (H:=H)) (L.ok hl) 0 ?_;cases h;exact fun a w hq=>bkR (sqR (sgR (rtR hq)))
def z5p:(Int×AH)→Value
 | (r0,_)=>(vI .i64 r0)
def z7l (_:AH):(Int×AH)→AH:=fun r=>r.2
noncomputable def B9:Code:=(Tryz.f9.body).getD .skip
noncomputable def j6 (L:LC) (_a0_0 _a0_1:Sl3) (_a0_2 _x2:Sl3) (_x3 s7:Sl3) (H8:AH):Int→Option (Lp Int (Int×AH)):=fun v21_9 =>
 if v21_9<(s7.n:Int) then
  (idxA 1 s7 v21_9).bind fun p10 => (rd deS H8 p10).bind fun x11 => (zm L x11).bind fun x12 => if x12=true then
   some (.next (IntKind.i64.wrap (v21_9+1)))
  else
   some (.ret (42,H8))
 else
  some (.brk v21_9)
def zbu (_L:LC) (a0_0 a0_1:Sl3) (a0_2 x2:Sl3) (x3 s7:Sl3) (_H8:AH):Int→KN×Lcs:=fun v21_9=>([kI 21 v21_9,kL 1 0 0,kS 3 x2,kS 4 x3,kS 19 s7,kI 20 (s7.n:Int)],[some (30,[(Sl3.v a0_0),(Sl3.v a0_1),(Sl3.v a0_2)])])
noncomputable def D8 (L:LC) (m:Nat) (H:AH) (a0_0 a0_1 a0_2:Sl3):Option (Int×AH) :=
 (z53 L H a0_0 a0_1 a0_2).bind fun x1 => if x1=true then
  some (3,H)
 else
  (z42 L m H a0_0 a0_1 a0_2).bind fun (x2,x3,H4) => (zj L m H4 x2).bind fun (x5,H6) => (appS m 9 1 16 H6 x5 x3).bind fun (s7,H8) => (L.run (j6 L a0_0 a0_1 a0_2 x2 x3 s7 H8) 0).bind fun o=>match o with
  | .inl _ =>
   Option.bind (α:=(AH×Bool)) (
    (W9 L m H8 x2).bind fun (x16,H17) => if x16=true then
     some (H17,true)
    else
     (W9 L m H17 x3).bind fun (x18,H19) => some (H19,x18)) fun (H14,v34_15) =>
   if v34_15=true then
    some (41,H14)
   else
    (z1e L m H14 a0_0 a0_1 a0_2).bind fun (x20,H21) => (X7 L m H21 x20).bind fun (x22,H23) => if x22=0 then
     (s8 L m H23 x20).bind fun (x24,H25) => (u9 L m H25 x20 x24).bind fun (x26,H27) => if x26=true then
      some (44,H27)
     else
      (t9 L m H27 x20).bind fun (x28,H29) => (T9 L H29 x28 false).bind fun x30 => if x30=true then
       some (43,H29)
      else
       some (0,H29)
    else
     some (x22,H23)
  | .inr r=>some r
theorem z4b {E m H L a0_0 a0_1 a0_2 x2 x3 s7 H8} :LoopF Tryz.prog (NE.plain 1000) m E Tryz.f9 ((cfst (csnd (cfst (csnd (csnd (csnd B9))))))) (zbu L a0_0 a0_1 a0_2 x2 x3 s7 H8) (fun _=>H8) 0 z5p (z7l H) (j6 L a0_0 a0_1 a0_2 x2 x3 s7 H8):=by
 rintro v21_9 o h
 unfold j6 at h;try dsimp only at h
 refine A0 (C0 (m0 1 [kB 22 (decide (v21_9<(s7.n:Int)))] (B0 (o0 (A0 ?_)))));rcases Q1 h with ⟨hp,h⟩ | ⟨hp,h⟩
 ·refine D0 22 true (decide_eq_true hp) (E0 (G0 (o0 (A0 (J0 1 (A0 (C0 ?_)))))));obtain ⟨p10,hx,h⟩:=bind_some h;refine O0 23 26 9 (.tmp 19) (.tmp 21) hx ?_;obtain ⟨x11,hx,h⟩:=bind_some h;refine T0 24 9 (.tmp 23) (O1 hx T1) (m0 1 [kT 6 x11] (B0 (o0 (A0 (C0 (m0 1 [kT 25 x11] ?_))))));obtain ⟨x12,hx,h⟩:=bind_some h;refine N0 (some 26) (v:=(vB x12)) 25 _ (zcf hx) (m0 1 [kB 27 (!x12)] (B0 (o0 ?_)));rcases Q1 h with ⟨hp,h⟩ | ⟨hp,h⟩
  ·refine D0 27 false (nb_not hp) (F0 (G0 ?_));refine fun a w hs=>bkN ((o0 ?_ a w hs));refine C0 (m0 2 [kI 21 (IntKind.i64.wrap (v21_9+1)),kI 28 (IntKind.i64.wrap (v21_9+1))] (B0 ?_));cases h;exact fun a w hs=>lsN rfl (hs.sb 1)
  ·refine D0 27 true (W2 hp) (E0 (A0 (C0 (m0 1 [kI 2 42] (B0 (o0 (I0 ?_)))))));cases h;exact fun a w hs=>bkR (sqR (lsR rfl (rS hs)))
 ·refine D0 22 false (decide_eq_false hp) (F0 (WS.ex 0 ?_));cases h;exact fun a w hs=>sqE (lsB rfl (hs.sb 1))
theorem z2z {L:LC} {m:Nat} {H:AH} {a0_0 a0_1 a0_2:Sl3} {r:(Int×AH)} (h:D8 L m H a0_0 a0_1 a0_2=some r) :
  CallS Tryz.prog (NE.plain 1000) m 9 #[(vA #[(Sl3.v a0_0),(Sl3.v a0_1),(Sl3.v a0_2)])] H (z5p r) (z7l H r):=by
 refine CallS.mk (args:=[(vA #[(Sl3.v a0_0),(Sl3.v a0_1),(Sl3.v a0_2)])]) Tryz.func9 (B:=B9) (by kernel_rfl) (fun E _=>?_);unfold D8 at h;refine A0 (C0 (Q0 2 [kI 2 0,kL 1 0 0] ([some (30,[(Sl3.v a0_0),(Sl3.v a0_1),(Sl3.v a0_2)])]) (B0 (o0 (A0 (A0 (C0 (m0 1 [kA 9 #[(Sl3.v a0_0),(Sl3.v a0_1),(Sl3.v a0_2)]] ?_))))))));obtain ⟨x1,hx,h⟩:=bind_some h;refine N0 (some 10) (v:=(vB x1)) 22 _ (zj0 hx) (B0 (o0 ?_));rcases Q1 h with ⟨hp,h⟩ | ⟨hp,h⟩
 ·refine D0 10 true hp (E0 (A0 (C0 (m0 1 [kI 2 3] (B0 (o0 (I0 ?_)))))));cases h;exact fun a w hs=>sqR (rtR (rS hs))
 ·refine D0 10 false (b_not hp) (F0 (G0 (o0 (A0 (C0 (m0 1 [kA 12 #[(Sl3.v a0_0),(Sl3.v a0_1),(Sl3.v a0_2)]] ?_))))));obtain ⟨⟨x2,x3,H4⟩,hx,h⟩:=bind_some h;try dsimp only at h
  refine N0 (some 13) (v:=(Value.tuple #[(Sl3.v x2),(Sl3.v x3)])) 23 _ (ziq hx) (m0 5 [kS 4 x3,kS 3 x2,kS 15 x3,kS 14 x2,(11,.val (Value.tuple #[(Sl3.v x2),(Sl3.v x3)]))] (B0 (o0 (A0 (A0 (C0 (m0 1 [kS 16 x2] ?_)))))));obtain ⟨⟨x5,H6⟩,hx,h⟩:=bind_some h;try dsimp only at h
  refine N0 (some 17) (v:=(Sl3.v x5)) 24 _ (z8k hx) (m0 1 [kS 18 x3] ?_);obtain ⟨⟨s7,H8⟩,hx,h⟩:=bind_some h;try dsimp only at h
  refine P0 (H':=H8) (some 19) (Sl3.v s7) (Abs.run_app (x:=.tmp 17) (y:=.tmp 18) (ts:=#[26,26]) (s:=x5) (z:=x3) (by kernel_rfl) (by kernel_rfl) (by kernel_rfl) (by kernel_rfl) hx) (m0 2 [kI 21 0,kI 20 (s7.n:Int)] (B0 (o0 (J0 0 ?_))));obtain ⟨o,hl,h⟩:=bind_some h;rcases o with v21_13 | r
  ·try dsimp only at h
   refine S0 (z4b (L:=L) (E:=E) (m:=m) (H:=H)) (L.ok hl) 1 ?_;clear hl;refine fun a w hs=>bkE ((o0 ?_ a w hs));refine A0 ?_;obtain ⟨⟨H14,v34_15⟩,hx,h⟩:=bind_some h;try dsimp only at h
   refine A0 ?_;refine A1 ([kB 34 v34_15,kL 1 0 0]) ([some (30,[(Sl3.v a0_0),(Sl3.v a0_1),(Sl3.v a0_2)])]) H14 ?_ (fun a w hs=>o0 ?_ a w hs)
   ·clear h; rename _=>h;refine C0 (m0 1 [kS 29 x2] ?_);obtain ⟨⟨x16,H17⟩,hx,h⟩:=bind_some h;try dsimp only at h
    refine N0 (some 30) (v:=(vB x16)) 26 _ (zb7 hx) (m0 1 [kB 31 x16] ?_);rcases Q1 h with ⟨hp,h⟩ | ⟨hp,h⟩
    ·refine K0 31 true hp (m0 3 [kB 34 true,kU 33,kU 32] (B0 ?_));cases h;exact fun a w hs=>(jsN (hs.sb 1))
    ·refine K0 31 false (b_not hp) (m0 1 [kS 32 x3] ?_);obtain ⟨⟨x18,H19⟩,hx,h⟩:=bind_some h;try dsimp only at h
     refine N0 (some 33) (v:=(vB x18)) 26 _ (zb7 hx) (m0 1 [kB 34 x18] (B0 ?_));cases h;exact fun a w hs=>(jsN (hs.sb 1))
   ·clear hx;rcases Q1 h with ⟨hp,h⟩ | ⟨hp,h⟩
    ·refine D0 34 true hp (E0 (A0 (C0 (m0 1 [kI 2 41] (B0 (o0 (I0 ?_)))))));cases h;exact fun a w hs=>sqR (rtR (rS hs))
    ·refine D0 34 false (b_not hp) (F0 (G0 (o0 (A0 (C0 (m0 1 [kA 35 #[(Sl3.v a0_0),(Sl3.v a0_1),(Sl3.v a0_2)]] ?_))))));obtain ⟨⟨x20,H21⟩,hx,h⟩:=bind_some h;try dsimp only at h
     refine N0 (some 36) (v:=(vP x20)) 27 _ (z73 hx) (m0 1 [(7,.val (vP x20))] (B0 (o0 (A0 (A0 (C0 (m0 1 [(37,.val (vP x20))] ?_)))))));obtain ⟨⟨x22,H23⟩,hx,h⟩:=bind_some h;try dsimp only at h
     refine N0 (some 38) (v:=(vI .i64 x22)) 28 _ (z9l hx) (m0 1 [kI 8 x22] (B0 (o0 (A0 (C0 (m0 2 [kB 40 (!decide (x22=0)),kI 39 x22] (B0 (o0 ?_))))))));rcases Q1 h with ⟨hp,h⟩ | ⟨hp,h⟩
     ·refine D0 40 false (e9 hp) (F0 (G0 (o0 (A0 (A0 (C0 (m0 2 [(43,.val (vP x20)),(42,.val (vP x20))] ?_)))))));obtain ⟨⟨x24,H25⟩,hx,h⟩:=bind_some h;try dsimp only at h
      refine N0 (some 44) (v:=(Sl3.v x24)) 30 _ (z4r hx) ?_;obtain ⟨⟨x26,H27⟩,hx,h⟩:=bind_some h;try dsimp only at h
      refine N0 (some 45) (v:=(vB x26)) 29 _ (zc0 hx) (B0 (o0 ?_));rcases Q1 h with ⟨hp,h⟩ | ⟨hp,h⟩
      ·refine D0 45 true hp (E0 (A0 (C0 (m0 1 [kI 2 44] (B0 (o0 (I0 ?_)))))));cases h;exact fun a w hs=>sqR (rtR (rS hs))
      ·refine D0 45 false (b_not hp) (F0 (G0 (o0 (A0 (A0 (C0 (m0 1 [(46,.val (vP x20))] ?_)))))));obtain ⟨⟨x28,H29⟩,hx,h⟩:=bind_some h;try dsimp only at h
       refine N0 (some 47) (v:=(Sl3.v x28)) 32 _ (zbw hx) ?_;obtain ⟨x30,hx,h⟩:=bind_some h;refine N0 (some 48) (v:=(vB x30)) 31 _ (zc7 hx) (B0 (o0 ?_));rcases Q1 h with ⟨hp,h⟩ | ⟨hp,h⟩
       ·refine D0 48 true hp (E0 (A0 (C0 (m0 1 [kI 2 43] (B0 (o0 (I0 ?_)))))));cases h;exact fun a w hs=>sqR (rtR (rS hs))
       ·refine D0 48 false (b_not hp) (F0 (G0 (o0 (A0 (C0 (m0 1 [kI 2 0] (B0 (o0 (I0 ?_)))))))));cases h;exact fun a w hs=>rtR (rS hs)
     ·refine D0 40 true (N7 hp) (E0 (A0 (C0 (m0 2 [kI 2 x22,kI 41 x22] (B0 (o0 (I0 ?_)))))));cases h;exact fun a w hs=>sqR (rtR (rS hs))
  ·try dsimp only at h
   refine R0 (z4b (L:=L) (E:=E) (m:=m) (H:=H)) (L.ok hl) 1 ?_;cases h;exact fun a w hq=>bkR (sqR (rtR hq))
def zh3:(Int×Bool×AH)→Value
 | (r0,r1,_)=>(Value.tuple #[(vI .i64 r0),(vB r1)])
def zir (_:AH):(Int×Bool×AH)→AH:=fun r=>r.2.2
noncomputable def B4:Code:=(Tryz.f4.body).getD .skip
noncomputable def z1w (L:LC) (m:Nat) (H:AH) (a0_0 a0_1:Int) (a0_2:ByteArray) (a0_3 a1_0:Sl3) (a1_1 a1_2:Sl3) (a2:Int):Option (Int×Bool×AH) :=
 Option.bind (α:=(AH×Bool)) (
  if a2<1 then
   some (H,true)
  else
   (D8 L m H a1_0 a1_1 a1_2).bind fun (x3,H4) => if x3=0 then
    (z1x L m H4 a0_0 a0_1 a0_2 a0_3 a1_0 a1_1 a1_2).bind fun (x5,H6) => some (H6,(!decide (x5=0)))
   else
    some (H4,true)) fun (H1,v21_2) =>
 if v21_2=true then
  some (0,false,H1)
 else
  (J8 L (Nat.max m H1.next) H1 a1_0 a1_1 a1_2 a2).bind fun (x7,H8) => (M8 L m H8 x7 a0_0 a0_1 a0_2 a0_3).bind fun (x9,H10) => some (x9,(decide (x9 > 0)),H10)
theorem zb5 {L:LC} {m:Nat} {H:AH} {a0_0 a0_1:Int} {a0_2:ByteArray} {a0_3 a1_0:Sl3} {a1_1 a1_2:Sl3} {a2:Int} {r:(Int×Bool×AH)} (h:z1w L m H a0_0 a0_1 a0_2 a0_3 a1_0 a1_1 a1_2 a2=some r) :
  CallS Tryz.prog (NE.plain 1000) m 4 #[(vA #[(vI .i64 a0_0),(vI .i64 a0_1),(vS a0_2),(Sl3.v a0_3)]),(vA #[(Sl3.v a1_0),(Sl3.v a1_1),(Sl3.v a1_2)]),(vI .i64 a2)] H (zh3 r) (zir H r):=by
 refine CallS.mk (args:=[(vA #[(vI .i64 a0_0),(vI .i64 a0_1),(vS a0_2),(Sl3.v a0_3)]),(vA #[(Sl3.v a1_0),(Sl3.v a1_1),(Sl3.v a1_2)]),(vI .i64 a2)]) Tryz.func4 (B:=B4) (by kernel_rfl) (fun E _=>?_);unfold z1w at h;refine A0 (C0 (Q0 4 [kB 7 false,kI 6 0,kL 4 1 0,kL 3 0 0] ([some (25,[(vI .i64 a0_0),(vI .i64 a0_1),(vS a0_2),(Sl3.v a0_3)]),some (30,[(Sl3.v a1_0),(Sl3.v a1_1),(Sl3.v a1_2)])]) (B0 (o0 (A0 ?_)))));obtain ⟨⟨H1,v21_2⟩,hx,h⟩:=bind_some h;try dsimp only at h
 refine A0 ?_;refine A1 ([kB 21 v21_2,kI 2 a2,kL 3 0 0,kL 4 1 0]) ([some (25,[(vI .i64 a0_0),(vI .i64 a0_1),(vS a0_2),(Sl3.v a0_3)]),some (30,[(Sl3.v a1_0),(Sl3.v a1_1),(Sl3.v a1_2)])]) H1 ?_ (fun a w hs=>o0 ?_ a w hs)
 ·clear h; rename _=>h;refine C0 (m0 3 [kB 11 (decide (a2<1)),kB 10 (decide (a2<1)),kI 9 a2] ?_);rcases Q1 h with ⟨hp,h⟩ | ⟨hp,h⟩
  ·refine K0 11 true (decide_eq_true hp) (m0 10 [kB 21 true,kU 20,kU 19,kU 18,kU 17,kB 16 true,kB 15 true,kU 14,kU 13,kU 12] (B0 ?_));cases h;exact fun a w hs=>(jsN (hs.sb 2))
  ·refine K0 11 false (decide_eq_false hp) (m0 1 [kA 12 #[(Sl3.v a1_0),(Sl3.v a1_1),(Sl3.v a1_2)]] ?_);obtain ⟨⟨x3,H4⟩,hx,h⟩:=bind_some h;try dsimp only at h
   refine N0 (some 13) (v:=(vI .i64 x3)) 9 _ (z2z hx) (m0 3 [kB 16 (!decide (x3=0)),kB 15 (!decide (x3=0)),kB 14 (!decide (x3=0))] ?_);rcases Q1 h with ⟨hp,h⟩ | ⟨hp,h⟩
   ·refine K0 16 false (e9 hp) (m0 2 [kA 18 #[(Sl3.v a1_0),(Sl3.v a1_1),(Sl3.v a1_2)],kA 17 #[(vI .i64 a0_0),(vI .i64 a0_1),(vS a0_2),(Sl3.v a0_3)]] ?_);obtain ⟨⟨x5,H6⟩,hx,h⟩:=bind_some h;try dsimp only at h
    refine N0 (some 19) (v:=(vI .i64 x5)) 10 _ (zb3 hx) (m0 2 [kB 21 (!decide (x5=0)),kB 20 (!decide (x5=0))] (B0 ?_));cases h;exact fun a w hs=>(jsN (hs.sb 2))
   ·refine K0 16 true (N7 hp) (m0 5 [kB 21 true,kU 20,kU 19,kU 18,kU 17] (B0 ?_));cases h;exact fun a w hs=>(jsN (hs.sb 2))
 ·clear hx;rcases Q1 h with ⟨hp,h⟩ | ⟨hp,h⟩
  ·refine D0 21 true hp (E0 (A0 (C0 (m0 2 [kB 7 false,kI 6 0] (B0 (o0 (I0 ?_)))))));cases h;exact fun a w hs=>sqR (rtR (rS hs))
  ·refine D0 21 false (b_not hp) (F0 (G0 (o0 (A0 ?_))));refine D1 [0,3] [0,0,3,0,15,31] 6 (fun hcl=>?_);refine V0 0 (some 22) (.val (vA #[(Sl3.v a1_0),(Sl3.v a1_1),(Sl3.v a1_2)])) (V0 3 (some 25) (.val (vA #[(vI .i64 a0_0),(vI .i64 a0_1),(vS a0_2),(Sl3.v a0_3)])) (M0 1 (some 23) (vI .i64 a2) ?_));obtain ⟨⟨x7,H8⟩,hx,h⟩:=bind_some h;try dsimp only at h
   refine DA.on 2 (I1 2 (some 24) false (v:=(vP x7)) 11 _ (z6m hx) ?_);obtain ⟨⟨x9,H10⟩,hx,h⟩:=bind_some h;try dsimp only at h
   refine DA.on 4 (X0 4 (some 26) (v:=(vI .i64 x9)) 12 _ (z3a hx) (M0 5 (some 8) (vI .i64 x9) (W0 (o0 (A0 (C0 (m0 5 [kB 7 (decide (x9 > 0)),kI 6 x9,kB 29 (decide (x9 > 0)),kI 28 x9,kI 27 x9] (B0 (o0 ?_)))))))));refine I0 ?_;cases h;exact fun a w hs=>rtR (rS hs)
end Go.Proofs.YtccbilfbhecdaaaGreatDoor
