/- Parts of the proof: an abstract interpreter of the loaded program and its soundness, printed functions, the law's own texts; part 4. No condition. -/
import Derived.Test.YtccbilfbhecdaaaGreatDoorCv3
namespace Go.Proofs.YtccbilfbhecdaaaGreatDoor
open Go Go.Abs
open Go.Value renaming int → vI, string → vS, pointer → vP, agg → vA, bool → vB
set_option maxRecDepth 100000
def G5:(Bool×AH)→Value
 | (r0,_)=>(vB r0)
def P5 (_:AH):(Bool×AH)→AH:=fun r=>r.2
def U7:(Bool×AH)→Value
 | (r0,_)=>(vB r0)
def K8 (_:AH):(Bool×AH)→AH:=fun r=>r.2
noncomputable def B17:Code:=(Tryz.f17.body).getD .skip
noncomputable def K7 (L:LC) (rec_sort_ends_sort:Nat→AH→(Option Addr)→Int→Int→ByteArray→Sl3→Option (Bool×AH)) (rec_sort_ends_data:Nat→AH→(Option Addr)→Int→Option (Bool×AH)) (m:Nat) (H:AH) (a0:Option Addr) (a1_0 _a1_1:Int) (a1_2:ByteArray) (a1_3:Sl3):Option (Bool×AH) :=
 Option.bind (α:=Bool) (
  if a1_0=1 then
   some true
  else
   some (decide (a1_0=3))) fun v10_1 =>
 if v10_1=true then
  some (true,H)
 else
  if a1_0=4 then
   a0.bind fun q2 => (rd deP H (Addr.add q2 0)).bind fun x3 => (idxA 4 a1_3 1).bind fun p4 => (rd (deI .i64) H (Addr.add p4 0)).bind fun x5_0 => (rd (deI .i64) H (Addr.add p4 1)).bind fun x5_1 => (rd deS H (Addr.add p4 2)).bind fun x5_2 => (rd deSl H (Addr.add p4 3)).bind fun x5_3 => (M8 L m H x3 x5_0 x5_1 x5_2 x5_3).bind fun (x6,H7) => if x6=1 then
    some (true,H7)
   else
    (idxA 4 a1_3 0).bind fun p8 => (rd (deI .i64) H7 (Addr.add p8 0)).bind fun x9_0 => (rd (deI .i64) H7 (Addr.add p8 1)).bind fun x9_1 => (rd deS H7 (Addr.add p8 2)).bind fun x9_2 => (rd deSl H7 (Addr.add p8 3)).bind fun x9_3 => (rec_sort_ends_sort m H7 (some q2) x9_0 x9_1 x9_2 x9_3).bind fun (x10,H11) => if x10=true then
     (idxA 4 a1_3 1).bind fun p12 => (rd (deI .i64) H11 (Addr.add p12 0)).bind fun x13_0 => (rd (deI .i64) H11 (Addr.add p12 1)).bind fun x13_1 => (rd deS H11 (Addr.add p12 2)).bind fun x13_2 => (rd deSl H11 (Addr.add p12 3)).bind fun x13_3 => (rec_sort_ends_sort m H11 (some q2) x13_0 x13_1 x13_2 x13_3).bind fun (x14,H15) => some (x14,H15)
    else
     some (false,H11)
  else
   if a1_0=6 then
    a0.bind fun q16 => (rd deP H (Addr.add q16 0)).bind fun x17 => x17.bind fun q18 => (rd deP H (Addr.add q18 0)).bind fun x19 => x19.bind fun q20 => (rd deM H (Addr.add q20 3)).bind fun x21 => (lk1 Tryz.prog 78 (deI .i64) H x21 (vA #[(vI .i64 a1_0),(vS a1_2)])).bind fun x22 => (rd deM H (Addr.add q16 1)).bind fun x23 => (lkM Tryz.prog 48 deB H x23 (vI .i64 x22)).bind fun (x24,b25) => Option.bind (α:=(AH×Bool)) (
     if b25=true then
      some (H,x24)
     else
      (rec_sort_ends_data m H (some q16) x22).bind fun (x28,H29) => (rd deM H29 (Addr.add q16 1)).bind fun x30 => (upM Tryz.prog m 48 H29 x30 (vI .i64 x22) (vB x28)).bind fun H31 => some (H31,x28)) fun (H26,v6_27) =>
    some (v6_27,H26)
   else
    some (false,H)
noncomputable def B47:Code:=(Tryz.f47.body).getD .skip
noncomputable def Q5 (_L:LC) (rec_sort_ends_sort:Nat→AH→(Option Addr)→Int→Int→ByteArray→Sl3→Option (Bool×AH)) (m:Nat) (q1:Addr) (_x15:Sl3) (_v38_17:Int) (_x19_0:ByteArray) (x19_1:Sl3):(AH×Int)→Option (Lp (AH×Int) (Bool×AH)):=fun (H20,v45_21) =>
 if v45_21<(x19_1.n:Int) then
  (idxA 5 x19_1 v45_21).bind fun p22 => (rd deS H20 (Addr.add p22 0)).bind fun _ => (rd (deI .i64) H20 (Addr.add p22 1)).bind fun x23_1 => (rd (deI .i64) H20 (Addr.add p22 2)).bind fun x23_2 => (rd deS H20 (Addr.add p22 3)).bind fun x23_3 => (rd deSl H20 (Addr.add p22 4)).bind fun x23_4 => (rec_sort_ends_sort m H20 (some q1) x23_1 x23_2 x23_3 x23_4).bind fun (x24,H25) => if x24=true then
   some (.next (H25,(IntKind.i64.wrap (v45_21+1))))
  else
   some (.ret (false,H25))
 else
  some (.brk (H20,v45_21))
def zar (_L:LC) (_rec_sort_ends_sort:Nat→AH→(Option Addr)→Int→Int→ByteArray→Sl3→Option (Bool×AH)) (_m:Nat) (q1:Addr) (x15:Sl3) (v38_17:Int) (x19_0:ByteArray) (x19_1:Sl3):(AH×Int)→KN×Lcs:=fun (_,v45_21)=>([kI 45 v45_21,kP 0 q1,kS 36 x15,kI 37 (x15.n:Int),kI 38 v38_17,kS 43 x19_1,kI 44 (x19_1.n:Int)],[some (103,[(vS x19_0),(Sl3.v x19_1)])])
noncomputable def O5 (L:LC) (rec_sort_ends_sort:Nat→AH→(Option Addr)→Int→Int→ByteArray→Sl3→Option (Bool×AH)) (m:Nat) (q1:Addr) (x15:Sl3):(AH×Int)→Option (Lp (AH×Int) (Bool×AH)):=fun (H16,v38_17) =>
 if v38_17<(x15.n:Int) then
  (idxA 2 x15 v38_17).bind fun p18 => (rd deS H16 (Addr.add p18 0)).bind fun x19_0 => (rd deSl H16 (Addr.add p18 1)).bind fun x19_1 => (L.run (Q5 L rec_sort_ends_sort m q1 x15 v38_17 x19_0 x19_1) (H16,0)).bind fun o=>match o with
  | .inl (H26,_) =>
   some (.next (H26,(IntKind.i64.wrap (v38_17+1))))
  | .inr r=>some (.ret r)
 else
  some (.brk (H16,v38_17))
def za9 (_L:LC) (_rec_sort_ends_sort:Nat→AH→(Option Addr)→Int→Int→ByteArray→Sl3→Option (Bool×AH)) (_m:Nat) (q1:Addr) (x15:Sl3):(AH×Int)→KN×Lcs:=fun (_,v38_17)=>([kI 38 v38_17,kP 0 q1,kS 36 x15,kI 37 (x15.n:Int)],[])
noncomputable def I7 (L:LC) (rec_sort_ends_sort:Nat→AH→(Option Addr)→Int→Int→ByteArray→Sl3→Option (Bool×AH)) (m:Nat) (H:AH) (a0:Option Addr) (a1:Int):Option (Bool×AH) :=
 a0.bind fun q1 => (rd deP H (Addr.add q1 0)).bind fun x2 => x2.bind fun q3 => (rd deSl H (Addr.add q3 2)).bind fun x4 => (idxA 1 x4 a1).bind fun p5 => (rd deSl H p5).bind fun x6 => (idxA 1 x6 a1).bind fun p7 => (rd deB H p7).bind fun x8 => if x8=true then
  some (false,H)
 else
  (rd deP H (Addr.add q1 0)).bind fun x9 => x9.bind fun q10 => (rd deP H (Addr.add q10 0)).bind fun x11 => x11.bind fun q12 => (rd deSl H (Addr.add (Addr.add q12 0) 1)).bind fun x13 => (idxA 2 x13 a1).bind fun p14 => (rd deSl H (Addr.add p14 1)).bind fun x15 => (L.run (O5 L rec_sort_ends_sort m q1 x15) (H,0)).bind fun o=>match o with
  | .inl (H28,_) =>
   some (true,H28)
  | .inr r=>some r
noncomputable def E4 (L:LC) (n:Nat):(Nat→AH→(Option Addr)→Int→Int→ByteArray→Sl3→Option (Bool×AH))×(Nat→AH→(Option Addr)→Int→Option (Bool×AH)):=Nat.rec (motive:=fun _=>(Nat→AH→(Option Addr)→Int→Int→ByteArray→Sl3→Option (Bool×AH))×(Nat→AH→(Option Addr)→Int→Option (Bool×AH))) ((fun _ _ _ _ _ _ _=>none),(fun _ _ _ _=>none)) (fun _ p=>(K7 L p.1 p.2,I7 L p.1)) n
noncomputable def z4i (L:LC) (m:Nat) (H:AH) (a0:Option Addr) (a1_0 a1_1:Int) (a1_2:ByteArray) (a1_3:Sl3):Option (Bool×AH):=((E4 L L.fuel).1) m H a0 a1_0 a1_1 a1_2 a1_3
theorem z97 {L:LC} {rec_sort_ends_sort:Nat→AH→(Option Addr)→Int→Int→ByteArray→Sl3→Option (Bool×AH)} {rec_sort_ends_data:Nat→AH→(Option Addr)→Int→Option (Bool×AH)} (hrec_sort_ends_sort:∀(m:Nat) (H:AH) (a0:Option Addr) (a1_0 a1_1:Int) (a1_2:ByteArray) (a1_3:Sl3) (r:(Bool×AH)),rec_sort_ends_sort m H a0 a1_0 a1_1 a1_2 a1_3=some r→CallS Tryz.prog (NE.plain 1000) m 17 #[(vP a0),(vA #[(vI .i64 a1_0),(vI .i64 a1_1),(vS a1_2),(Sl3.v a1_3)])] H (G5 r) (P5 H r)) (hrec_sort_ends_data:∀(m:Nat) (H:AH) (a0:Option Addr) (a1:Int) (r:(Bool×AH)),rec_sort_ends_data m H a0 a1=some r→CallS Tryz.prog (NE.plain 1000) m 47 #[(vP a0),(vI .i64 a1)] H (U7 r) (K8 H r)) {m:Nat} {H:AH} {a0:Option Addr} {a1_0 a1_1:Int} {a1_2:ByteArray} {a1_3:Sl3} {r:(Bool×AH)} (h:K7 L rec_sort_ends_sort rec_sort_ends_data m H a0 a1_0 a1_1 a1_2 a1_3=some r) :
  CallS Tryz.prog (NE.plain 1000) m 17 #[(vP a0),(vA #[(vI .i64 a1_0),(vI .i64 a1_1),(vS a1_2),(Sl3.v a1_3)])] H (G5 r) (P5 H r):=by
 refine CallS.mk (args:=[(vP a0),(vA #[(vI .i64 a1_0),(vI .i64 a1_1),(vS a1_2),(Sl3.v a1_3)])]) Tryz.func17 (B:=B17) (by kernel_rfl) (fun E _=>?_);unfold K7 at h;refine A0 (C0 (Q0 2 [kB 4 false,kL 3 0 0] ([some (25,[(vI .i64 a1_0),(vI .i64 a1_1),(vS a1_2),(Sl3.v a1_3)])]) (B0 (o0 (A0 (A0 (C0 (m0 2 [kI 9 a1_0,kL 8 0 0] (B0 ?_)))))))));refine o0 (J0 0 ?_);obtain ⟨v10_1,hx,h⟩:=bind_some h;refine A0 ?_;refine A1 ([kB 10 v10_1,(0,.val (vP a0)),kL 3 0 0,kI 9 a1_0]) ([some (25,[(vI .i64 a1_0),(vI .i64 a1_1),(vS a1_2),(Sl3.v a1_3)])]) H ?_ (fun a w hs=>o0 ?_ a w hs)
 ·clear h; rename _=>h;refine A0 (C0 (m0 2 [kB 10 (decide (a1_0=1)),kB 11 (decide (a1_0=1))] (B0 (o0 ?_))));rcases Q1 h with ⟨hp,h⟩ | ⟨hp,h⟩
  ·refine D0 10 true (decide_eq_true hp) (E0 (G0 ?_));cases h;exact fun a w hs=>(jsN (hs.sb 1))
  ·refine D0 10 false (decide_eq_false hp) (F0 (C0 (m0 2 [kB 10 (decide (a1_0=3)),kB 12 (decide (a1_0=3))] (B0 ?_))));cases h;exact fun a w hs=>(jsN (hs.sb 1))
 ·clear hx;rcases Q1 h with ⟨hp,h⟩ | ⟨hp,h⟩
  ·refine D0 10 true hp (E0 (A0 (C0 (m0 1 [kB 4 true] (B0 (o0 (I0 ?_)))))));cases h;exact fun a w hs=>bkR (sqR (rtR (rS hs)))
  ·refine D0 10 false (b_not hp) (F0 (A0 (C0 (m0 2 [kB 13 (decide (a1_0=4)),kB 14 (decide (a1_0=4))] (B0 (o0 ?_))))));rcases Q1 h with ⟨hp,h⟩ | ⟨hp,h⟩
   ·refine D0 13 true (decide_eq_true hp) (E0 (A0 ?_));refine D1 [0,1,2,3,4,5,6,7] [0,1,3,7,0,16,48,112,255,511,1023,2047,2047,6143,14335,30719,65535,131071,262143,262143,786431,1835007,3932159,8388607,16777215,33554431,67108863] 27 (fun hcl=>?_);refine U0 0 (some 15) (vP a0) ?_;obtain ⟨q2,hx,hq2⟩:=bind_some h;subst hx;have h:=hq2;refine U0 1 (some 16) (vP (some q2)) (U0 2 (some 17) (vP (some (Addr.add q2 0))) ?_);obtain ⟨x3,hx,h⟩:=bind_some h;refine Z0 3 (some 18) (vP x3) (Abs.det_load (t:=39) (x:=.tmp 17) (a:=(Addr.add q2 0)) (by kernel_rfl) (by kernel_rfl) (by kernel_rfl) (by kernel_rfl) (O1 hx U8)) (V0 4 (some 19) (.loc 0 3) (V0 5 (some 20) (.val (Sl3.v a1_3)) ?_));obtain ⟨p4,hx,h⟩:=bind_some h;refine Z0 6 (some 21) (vP (some p4)) (Abs.det_idx (s:=a1_3) (k:=.i64) (t:=23) (e:=25) (x:=.tmp 20) (y:=.const (vI .i64 1)) (by kernel_rfl) (by kernel_rfl) (by kernel_rfl) (by kernel_rfl) (by kernel_rfl) hx) ?_;obtain ⟨x5_0,hx0,h⟩:=bind_some h;obtain ⟨x5_1,hx1,h⟩:=bind_some h;obtain ⟨x5_2,hx2,h⟩:=bind_some h;obtain ⟨x5_3,hx3,h⟩:=bind_some h;refine Z0 7 (some 22) (vA #[(vI .i64 x5_0),(vI .i64 x5_1),(vS x5_2),(Sl3.v x5_3)]) (Abs.det_loadA (t:=25) (x:=.tmp 21) (a:=p4) (k:=4) (by kernel_rfl) (by kernel_rfl) (by kernel_rfl) (by kernel_rfl) (P1 (O1 hx0 S1) (P1 (O1 hx1 S1) (P1 (O1 hx2 T1) (P1 (O1 hx3 R1) U1))))) ?_;obtain ⟨⟨x6,H7⟩,hx,h⟩:=bind_some h;try dsimp only at h
    refine DA.on 8 (X0 8 (some 23) (v:=(vI .i64 x6)) 12 _ (z3a hx) (M0 9 (some 24) (vB (decide (x6=1))) (M0 10 (some 25) (vB (decide (x6=1))) ?_)));rcases Q1 h with ⟨hp,h⟩ | ⟨hp,h⟩
    ·refine N1 25 true (decide_eq_true hp) ?_;refine C1 11 (some 26) (by kernel_rfl) (by kernel_rfl) (by kernel_rfl) hcl (fun _ _ _ h=>h) (by kernel_rfl) ?_;refine C1 12 (some 27) (by kernel_rfl) (by kernel_rfl) (by kernel_rfl) hcl (fun _ _ _ h=>h) (by kernel_rfl) ?_;refine C1 13 (some 28) (by kernel_rfl) (by kernel_rfl) (by kernel_rfl) hcl (fun _ _ _ h=>h) (by kernel_rfl) ?_;refine C1 14 (some 29) (by kernel_rfl) (by kernel_rfl) (by kernel_rfl) hcl (fun _ _ _ h=>h) (by kernel_rfl) ?_;refine C1 15 (some 30) (by kernel_rfl) (by kernel_rfl) (by kernel_rfl) hcl (fun _ _ _ h=>h) (by kernel_rfl) ?_;refine C1 16 (some 31) (by kernel_rfl) (by kernel_rfl) (by kernel_rfl) hcl (fun _ _ _ h=>h) (by kernel_rfl) ?_;refine C1 17 (some 32) (by kernel_rfl) (by kernel_rfl) (by kernel_rfl) hcl (fun _ _ _ h=>h) (by kernel_rfl) ?_;refine C1 18 (some 33) (by kernel_rfl) (by kernel_rfl) (by kernel_rfl) hcl (fun _ _ _ h=>h) (by kernel_rfl) ?_;refine C1 19 (some 34) (by kernel_rfl) (by kernel_rfl) (by kernel_rfl) hcl (fun _ _ _ h=>h) (by kernel_rfl) ?_;refine C1 20 (some 35) (by kernel_rfl) (by kernel_rfl) (by kernel_rfl) hcl (fun _ _ _ h=>h) (by kernel_rfl) ?_;refine C1 21 (some 36) (by kernel_rfl) (by kernel_rfl) (by kernel_rfl) hcl (fun _ _ _ h=>h) (by kernel_rfl) ?_;refine C1 22 (some 37) (by kernel_rfl) (by kernel_rfl) (by kernel_rfl) hcl (fun _ _ _ h=>h) (by kernel_rfl) ?_;refine C1 23 (some 38) (by kernel_rfl) (by kernel_rfl) (by kernel_rfl) hcl (fun _ _ _ h=>h) (by kernel_rfl) ?_;refine C1 24 (some 39) (by kernel_rfl) (by kernel_rfl) (by kernel_rfl) hcl (fun _ _ _ h=>h) (by kernel_rfl) ?_;refine M0 25 (some 40) (vB true) (M0 26 (some 4) (vB true) (W0 (o0 (I0 ?_))));cases h;exact fun a w hs=>bkR (sqR (rtR (rS hs)))
    ·refine N1 25 false (decide_eq_false hp) (M0 11 (some 26) (vP (some q2)) (F1 12 (some 27) (.loc 0 3) (DA.on 13 (B1 13 (some 28) (.val (Sl3.v a1_3)) ([some (25,[(vI .i64 a1_0),(vI .i64 a1_1),(vS a1_2),(Sl3.v a1_3)])]) false ?_))));obtain ⟨p8,hx,h⟩:=bind_some h;refine J1 14 (some 29) (vP (some p8)) (Abs.det_idx (s:=a1_3) (k:=.i64) (t:=23) (e:=25) (x:=.tmp 28) (y:=.const (vI .i64 0)) (by kernel_rfl) (by kernel_rfl) (by kernel_rfl) (by kernel_rfl) (by kernel_rfl) hx) ?_;obtain ⟨x9_0,hx0,h⟩:=bind_some h;obtain ⟨x9_1,hx1,h⟩:=bind_some h;obtain ⟨x9_2,hx2,h⟩:=bind_some h;obtain ⟨x9_3,hx3,h⟩:=bind_some h;refine DA.on 15 (Y0 (H':=H7) 15 (some 30) (vA #[(vI .i64 x9_0),(vI .i64 x9_1),(vS x9_2),(Sl3.v x9_3)]) (Abs.run_loadAg (t:=25) (x:=.tmp 29) (a:=p8) (k:=4) (by kernel_rfl) (by kernel_rfl) (by kernel_rfl) (by kernel_rfl) (P1 (O1 hx0 S1) (P1 (O1 hx1 S1) (P1 (O1 hx2 T1) (P1 (O1 hx3 R1) U1))))) ?_);obtain ⟨⟨x10,H11⟩,hx,h⟩:=bind_some h;try dsimp only at h
     refine DA.on 16 (X0 16 (some 31) (v:=(vB x10)) 17 _ (hrec_sort_ends_sort _ _ _ _ _ _ _ _ hx) (M0 17 (some 32) (vB x10) ?_));rcases Q1 h with ⟨hp,h⟩ | ⟨hp,h⟩
     ·refine N1 32 true hp (M0 18 (some 33) (vP (some q2)) (F1 19 (some 34) (.loc 0 3) (DA.on 20 (B1 20 (some 35) (.val (Sl3.v a1_3)) ([some (25,[(vI .i64 a1_0),(vI .i64 a1_1),(vS a1_2),(Sl3.v a1_3)])]) false ?_))));obtain ⟨p12,hx,h⟩:=bind_some h;refine J1 21 (some 36) (vP (some p12)) (Abs.det_idx (s:=a1_3) (k:=.i64) (t:=23) (e:=25) (x:=.tmp 35) (y:=.const (vI .i64 1)) (by kernel_rfl) (by kernel_rfl) (by kernel_rfl) (by kernel_rfl) (by kernel_rfl) hx) ?_;obtain ⟨x13_0,hx0,h⟩:=bind_some h;obtain ⟨x13_1,hx1,h⟩:=bind_some h;obtain ⟨x13_2,hx2,h⟩:=bind_some h;obtain ⟨x13_3,hx3,h⟩:=bind_some h;refine DA.on 22 (Y0 (H':=H11) 22 (some 37) (vA #[(vI .i64 x13_0),(vI .i64 x13_1),(vS x13_2),(Sl3.v x13_3)]) (Abs.run_loadAg (t:=25) (x:=.tmp 36) (a:=p12) (k:=4) (by kernel_rfl) (by kernel_rfl) (by kernel_rfl) (by kernel_rfl) (P1 (O1 hx0 S1) (P1 (O1 hx1 S1) (P1 (O1 hx2 T1) (P1 (O1 hx3 R1) U1))))) ?_);obtain ⟨⟨x14,H15⟩,hx,h⟩:=bind_some h;try dsimp only at h
      refine DA.on 23 (X0 23 (some 38) (v:=(vB x14)) 17 _ (hrec_sort_ends_sort _ _ _ _ _ _ _ _ hx) (M0 24 (some 39) (vB x14) (M0 25 (some 40) (vB x14) (M0 26 (some 4) (vB x14) (W0 (o0 (I0 ?_)))))));cases h;exact fun a w hs=>bkR (sqR (rtR (rS hs)))
     ·refine N1 32 false (b_not hp) ?_;refine C1 18 (some 33) (by kernel_rfl) (by kernel_rfl) (by kernel_rfl) hcl (fun _ _ _ h=>h) (by kernel_rfl) ?_;refine C1 19 (some 34) (by kernel_rfl) (by kernel_rfl) (by kernel_rfl) hcl (fun _ _ _ h=>h) (by kernel_rfl) ?_;refine C1 20 (some 35) (by kernel_rfl) (by kernel_rfl) (by kernel_rfl) hcl (fun _ _ _ h=>h) (by kernel_rfl) ?_;refine C1 21 (some 36) (by kernel_rfl) (by kernel_rfl) (by kernel_rfl) hcl (fun _ _ _ h=>h) (by kernel_rfl) ?_;refine C1 22 (some 37) (by kernel_rfl) (by kernel_rfl) (by kernel_rfl) hcl (fun _ _ _ h=>h) (by kernel_rfl) ?_;refine C1 23 (some 38) (by kernel_rfl) (by kernel_rfl) (by kernel_rfl) hcl (fun _ _ _ h=>h) (by kernel_rfl) ?_;refine M0 24 (some 39) (vB false) (M0 25 (some 40) (vB false) (M0 26 (some 4) (vB false) (W0 (o0 (I0 ?_)))));cases h;exact fun a w hs=>bkR (sqR (rtR (rS hs)))
   ·refine D0 13 false (decide_eq_false hp) (F0 (A0 (C0 (m0 2 [kB 41 (decide (a1_0=6)),kB 42 (decide (a1_0=6))] (B0 (o0 ?_))))));rcases Q1 h with ⟨hp,h⟩ | ⟨hp,h⟩
    ·refine D0 41 true (decide_eq_true hp) (E0 (A0 ?_));refine D1 [0,1,2,3,4,5,6,7,8,9,10,11,12,13,14,15] [0,1,3,7,15,31,63,127,255,511,0,1024,0,4096,15360,32767,65535] 17 (fun hcl=>?_);refine U0 0 (some 43) (vP a0) ?_;obtain ⟨q16,hx,hq16⟩:=bind_some h;subst hx;have h:=hq16;refine U0 1 (some 44) (vP (some q16)) (U0 2 (some 45) (vP (some (Addr.add q16 0))) ?_);obtain ⟨x17,hx,h⟩:=bind_some h;refine Z0 3 (some 46) (vP x17) (Abs.det_load (t:=39) (x:=.tmp 45) (a:=(Addr.add q16 0)) (by kernel_rfl) (by kernel_rfl) (by kernel_rfl) (by kernel_rfl) (O1 hx U8)) ?_;obtain ⟨q18,hx,hq18⟩:=bind_some h;subst hx;have h:=hq18;refine U0 4 (some 47) (vP (some q18)) (U0 5 (some 48) (vP (some (Addr.add q18 0))) ?_);obtain ⟨x19,hx,h⟩:=bind_some h;refine Z0 6 (some 49) (vP x19) (Abs.det_load (t:=63) (x:=.tmp 48) (a:=(Addr.add q18 0)) (by kernel_rfl) (by kernel_rfl) (by kernel_rfl) (by kernel_rfl) (O1 hx U8)) ?_;obtain ⟨q20,hx,hq20⟩:=bind_some h;subst hx;have h:=hq20;refine U0 7 (some 50) (vP (some q20)) (U0 8 (some 51) (vP (some (Addr.add q20 3))) ?_);obtain ⟨x21,hx,h⟩:=bind_some h;refine Z0 9 (some 52) (Value.map x21) (Abs.det_load (t:=78) (x:=.tmp 51) (a:=(Addr.add q20 3)) (by kernel_rfl) (by kernel_rfl) (by kernel_rfl) (by kernel_rfl) (O1 hx O7)) (V0 10 (some 53) (.loc 0 0) (V0 11 (some 54) (.val (vI .i64 a1_0)) (V0 12 (some 55) (.loc 0 2) (V0 13 (some 56) (.val (vS a1_2)) (U0 14 (some 57) (vA #[(vI .i64 a1_0),(vS a1_2)]) ?_)))));obtain ⟨x22,hx,h⟩:=bind_some h;refine Z0 15 (some 58) (vI .i64 x22) (Abs.det_look (t:=78) (x:=.tmp 52) (y:=.tmp 57) (mm:=x21) (k:=(vA #[(vI .i64 a1_0),(vS a1_2)])) (by kernel_rfl) (by kernel_rfl) (by kernel_rfl) (by kernel_rfl) (lk1_eq hx S1)) (M0 16 (some 5) (vI .i64 x22) (W0 (o0 (A0 (C0 (m0 3 [(62,.val (vP (some (Addr.add q16 1)))),kP 61 q16,kP 60 q16] ?_))))));obtain ⟨x23,hx,h⟩:=bind_some h;refine T0 63 48 (.tmp 62) (O1 hx O7) (m0 1 [kI 64 x22] ?_);obtain ⟨⟨x24,b25⟩,hx,h⟩:=bind_some h;try dsimp only at h
     refine P0 (H':=H) (some 65) (Value.tuple #[(vB x24),(vB b25)]) (Abs.run_look (t:=48) (x:=.tmp 63) (y:=.tmp 64) (mm:=x23) (k:=(vI .i64 x22)) (by kernel_rfl) (by kernel_rfl) (by kernel_rfl) (by kernel_rfl) (lkM_eq hx F6)) (m0 5 [kB 7 b25,kB 6 x24,kB 67 b25,kB 66 x24,(59,.val (Value.tuple #[(vB x24),(vB b25)]))] (B0 (o0 ?_)));obtain ⟨⟨H26,v6_27⟩,hx,h⟩:=bind_some h;try dsimp only at h
     refine A0 ?_;refine A1 ([kB 6 v6_27]) ([some (25,[(vI .i64 a1_0),(vI .i64 a1_1),(vS a1_2),(Sl3.v a1_3)])]) H26 ?_ (fun a w hs=>o0 ?_ a w hs)
     ·clear h; rename _=>h;refine A0 (C0 (m0 2 [kB 69 (!b25),kB 68 b25] (B0 (o0 ?_))));rcases Q1 h with ⟨hp,h⟩ | ⟨hp,h⟩
      ·refine D0 69 false (nb_not hp) (F0 (G0 ?_));cases h;exact fun a w hs=>(jsN (hs.sb 1))
      ·refine D0 69 true (W2 hp) (E0 (A0 (C0 (m0 2 [kI 71 x22,kP 70 q16] ?_))));obtain ⟨⟨x28,H29⟩,hx,h⟩:=bind_some h;try dsimp only at h
       refine N0 (some 72) (v:=(vB x28)) 47 _ (hrec_sort_ends_data _ _ _ _ _ hx) (m0 1 [kB 6 x28] (B0 (o0 (C0 (m0 3 [(75,.val (vP (some (Addr.add q16 1)))),kP 74 q16,kP 73 q16] ?_)))));obtain ⟨x30,hx,h⟩:=bind_some h;refine T0 76 48 (.tmp 75) (O1 hx O7) (m0 2 [kB 78 x28,kI 77 x22] ?_);obtain ⟨H31,hx,h⟩:=bind_some h;refine P0 (H':=H31) none undef (Abs.run_upM (t:=48) (x:=.tmp 76) (y:=.tmp 77) (z:=.tmp 78) (mm:=x30) (k:=(vI .i64 x22)) (v:=(vB x28)) (by kernel_rfl) (by kernel_rfl) (by kernel_rfl) (by kernel_rfl) (by kernel_rfl) hx) (B0 ?_);cases h;exact fun a w hs=>(jsN (hs.sb 1))
     ·clear hx;refine A0 (C0 (m0 2 [kB 4 v6_27,kB 79 v6_27] (B0 (o0 (I0 ?_)))));cases h;exact fun a w hs=>bkR (sqR (rtR (rS hs)))
    ·refine D0 41 false (decide_eq_false hp) (F0 (G0 ?_));refine fun a w hs=>bkN ((o0 ?_ a w hs));refine A0 (C0 (m0 1 [kB 4 false] (B0 (o0 (I0 ?_)))));cases h;exact fun a w hs=>rtR (rS hs)
theorem z3n {E H L rec_sort_ends_sort m q1 x15 v38_17 x19_0 x19_1} (hrec_sort_ends_sort:∀(m:Nat) (H:AH) (a0:Option Addr) (a1_0 a1_1:Int) (a1_2:ByteArray) (a1_3:Sl3) (r:(Bool×AH)),rec_sort_ends_sort m H a0 a1_0 a1_1 a1_2 a1_3=some r→CallS Tryz.prog (NE.plain 1000) m 17 #[(vP a0),(vA #[(vI .i64 a1_0),(vI .i64 a1_1),(vS a1_2),(Sl3.v a1_3)])] H (G5 r) (P5 H r)):LoopF Tryz.prog (NE.plain 1000) m E Tryz.f47 ((cfst (csnd (csnd (cfst (cfst (csnd (csnd (cfst (cfst (csnd (cfst (csnd (csnd B47)))))))))))))) (zar L rec_sort_ends_sort m q1 x15 v38_17 x19_0 x19_1) (fun s=>s.1) 2 U7 (K8 H) (Q5 L rec_sort_ends_sort m q1 x15 v38_17 x19_0 x19_1):=by
 rintro ⟨H20,v45_21⟩ o h
 unfold Q5 at h;try dsimp only at h
 refine A0 (C0 (m0 1 [kB 46 (decide (v45_21<(x19_1.n:Int)))] (B0 (o0 (A0 ?_)))));rcases Q1 h with ⟨hp,h⟩ | ⟨hp,h⟩
 ·refine D0 46 true (decide_eq_true hp) (E0 (G0 (o0 (A0 (J0 3 (A0 (C0 ?_)))))));obtain ⟨p22,hx,h⟩:=bind_some h;refine O0 47 101 105 (.tmp 43) (.tmp 45) hx ?_;obtain ⟨x23_0,hx0,h⟩:=bind_some h;obtain ⟨x23_1,hx1,h⟩:=bind_some h;obtain ⟨x23_2,hx2,h⟩:=bind_some h;obtain ⟨x23_3,hx3,h⟩:=bind_some h;obtain ⟨x23_4,hx4,h⟩:=bind_some h;refine RS.la 48 105 (.tmp 47) 5 (P1 (O1 hx0 T1) (P1 (O1 hx1 S1) (P1 (O1 hx2 S1) (P1 (O1 hx3 T1) (P1 (O1 hx4 R1) U1))))) (Q0 2 [kL 8 1 0] ([some (103,[(vS x19_0),(Sl3.v x19_1)]),some (105,[(vS x23_0),(vI .i64 x23_1),(vI .i64 x23_2),(vS x23_3),(Sl3.v x23_4)])]) (B0 (o0 (A0 (C0 (m0 3 [kA 51 #[(vI .i64 x23_1),(vI .i64 x23_2),(vS x23_3),(Sl3.v x23_4)],kL 50 1 1,kP 49 q1] ?_))))));obtain ⟨⟨x24,H25⟩,hx,h⟩:=bind_some h;try dsimp only at h
  refine N0 (some 52) (v:=(vB x24)) 17 _ (hrec_sort_ends_sort _ _ _ _ _ _ _ _ hx) (m0 1 [kB 53 (!x24)] (B0 (o0 ?_)));rcases Q1 h with ⟨hp,h⟩ | ⟨hp,h⟩
  ·refine D0 53 false (nb_not hp) (F0 (G0 ?_));refine fun a w hs=>bkN ((o0 ?_ a w hs));refine C0 (m0 2 [kI 45 (IntKind.i64.wrap (v45_21+1)),kI 54 (IntKind.i64.wrap (v45_21+1))] (B0 ?_));cases h;exact fun a w hs=>lsN rfl (hs.sb 1)
  ·refine D0 53 true (W2 hp) (E0 (A0 (C0 (m0 1 [kB 4 false] (B0 (o0 (I0 ?_)))))));cases h;exact fun a w hs=>bkR (sqR (lsR rfl (rS hs)))
 ·refine D0 46 false (decide_eq_false hp) (F0 (WS.ex 2 ?_));cases h;exact fun a w hs=>sqE (lsB rfl (hs.sb 1))
theorem z3s {E H L rec_sort_ends_sort m q1 x15} (hrec_sort_ends_sort:∀(m:Nat) (H:AH) (a0:Option Addr) (a1_0 a1_1:Int) (a1_2:ByteArray) (a1_3:Sl3) (r:(Bool×AH)),rec_sort_ends_sort m H a0 a1_0 a1_1 a1_2 a1_3=some r→CallS Tryz.prog (NE.plain 1000) m 17 #[(vP a0),(vA #[(vI .i64 a1_0),(vI .i64 a1_1),(vS a1_2),(Sl3.v a1_3)])] H (G5 r) (P5 H r)):LoopF Tryz.prog (NE.plain 1000) m E Tryz.f47 ((cfst (csnd (cfst (csnd (csnd B47)))))) (za9 L rec_sort_ends_sort m q1 x15) (fun s=>s.1) 0 U7 (K8 H) (O5 L rec_sort_ends_sort m q1 x15):=by
 rintro ⟨H16,v38_17⟩ o h
 unfold O5 at h;try dsimp only at h
 refine A0 (C0 (m0 1 [kB 39 (decide (v38_17<(x15.n:Int)))] (B0 (o0 (A0 ?_)))));rcases Q1 h with ⟨hp,h⟩ | ⟨hp,h⟩
 ·refine D0 39 true (decide_eq_true hp) (E0 (G0 (o0 (A0 (J0 1 (A0 (C0 ?_)))))));obtain ⟨p18,hx,h⟩:=bind_some h;refine O0 40 91 103 (.tmp 36) (.tmp 38) hx ?_;obtain ⟨x19_0,hx0,h⟩:=bind_some h;obtain ⟨x19_1,hx1,h⟩:=bind_some h;refine RS.la 41 103 (.tmp 40) 2 (P1 (O1 hx0 T1) (P1 (O1 hx1 R1) U1)) (Q0 2 [kL 6 0 0] ([some (103,[(vS x19_0),(Sl3.v x19_1)])]) (B0 (o0 (A0 (C0 (m0 4 [kI 45 0,kI 44 (x19_1.n:Int),kS 43 x19_1,kL 42 0 1] (B0 (o0 (J0 2 ?_)))))))));obtain ⟨o,hl,h⟩:=bind_some h;rcases o with ⟨H26,v45_27⟩ | r
  ·try dsimp only at h
   refine S0 (z3n (L:=L) (E:=E) (m:=m) (H:=H) hrec_sort_ends_sort) (L.ok hl) 1 ?_;clear hl;refine fun a w hs=>bkE (bkN ((o0 ?_ a w hs)));refine C0 (m0 2 [kI 38 (IntKind.i64.wrap (v38_17+1)),kI 55 (IntKind.i64.wrap (v38_17+1))] (B0 ?_));cases h;exact fun a w hs=>lsN rfl (hs.sb 0)
  ·try dsimp only at h
   refine R0 (z3n (L:=L) (E:=E) (m:=m) (H:=H) hrec_sort_ends_sort) (L.ok hl) 1 ?_;cases h;exact fun a w hq=>bkR (bkR (sqR (lsR rfl hq)))
 ·refine D0 39 false (decide_eq_false hp) (F0 (WS.ex 0 ?_));cases h;exact fun a w hs=>sqE (lsB rfl (hs.sb 0))
theorem z93 {L:LC} {rec_sort_ends_sort:Nat→AH→(Option Addr)→Int→Int→ByteArray→Sl3→Option (Bool×AH)} (hrec_sort_ends_sort:∀(m:Nat) (H:AH) (a0:Option Addr) (a1_0 a1_1:Int) (a1_2:ByteArray) (a1_3:Sl3) (r:(Bool×AH)),rec_sort_ends_sort m H a0 a1_0 a1_1 a1_2 a1_3=some r→CallS Tryz.prog (NE.plain 1000) m 17 #[(vP a0),(vA #[(vI .i64 a1_0),(vI .i64 a1_1),(vS a1_2),(Sl3.v a1_3)])] H (G5 r) (P5 H r)) {m:Nat} {H:AH} {a0:Option Addr} {a1:Int} {r:(Bool×AH)} (h:I7 L rec_sort_ends_sort m H a0 a1=some r) :
  CallS Tryz.prog (NE.plain 1000) m 47 #[(vP a0),(vI .i64 a1)] H (U7 r) (K8 H r):=by
 refine CallS.mk (args:=[(vP a0),(vI .i64 a1)]) Tryz.func47 (B:=B47) (by kernel_rfl) (fun E _=>?_);unfold I7 at h;refine A0 (C0 (m0 1 [kB 4 false] (B0 (o0 (A0 (A0 (C0 (m0 1 [(9,.val (vP a0))] ?_))))))));obtain ⟨q1,hx,hq1⟩:=bind_some h;subst hx;have h:=hq1;refine m0 2 [(11,.val (vP (some (Addr.add q1 0)))),kP 10 q1] ?_;obtain ⟨x2,hx,h⟩:=bind_some h;refine T0 12 39 (.tmp 11) (O1 hx U8) ?_;obtain ⟨q3,hx,hq3⟩:=bind_some h;subst hx;have h:=hq3;refine m0 2 [(14,.val (vP (some (Addr.add q3 2)))),kP 13 q3] ?_;obtain ⟨x4,hx,h⟩:=bind_some h;refine T0 15 67 (.tmp 14) (O1 hx R1) (m0 1 [kI 16 a1] ?_);obtain ⟨p5,hx,h⟩:=bind_some h;refine O0 17 67 70 (.tmp 15) (.tmp 16) hx ?_;obtain ⟨x6,hx,h⟩:=bind_some h;refine T0 18 70 (.tmp 17) (O1 hx R1) (m0 1 [kI 19 a1] ?_);obtain ⟨p7,hx,h⟩:=bind_some h;refine O0 20 70 4 (.tmp 18) (.tmp 19) hx ?_;obtain ⟨x8,hx,h⟩:=bind_some h;refine T0 21 4 (.tmp 20) (O1 hx F6) (B0 (o0 ?_));rcases Q1 h with ⟨hp,h⟩ | ⟨hp,h⟩
 ·refine D0 21 true hp (E0 (A0 (C0 (m0 1 [kB 4 false] (B0 (o0 (I0 ?_)))))));cases h;exact fun a w hs=>sqR (rtR (rS hs))
 ·refine D0 21 false (b_not hp) (F0 (G0 (o0 (A0 (A0 (C0 (m0 3 [(24,.val (vP (some (Addr.add q1 0)))),kP 23 q1,kP 22 q1] ?_)))))));obtain ⟨x9,hx,h⟩:=bind_some h;refine T0 25 39 (.tmp 24) (O1 hx U8) ?_;obtain ⟨q10,hx,hq10⟩:=bind_some h;subst hx;have h:=hq10;refine m0 2 [(27,.val (vP (some (Addr.add q10 0)))),kP 26 q10] ?_;obtain ⟨x11,hx,h⟩:=bind_some h;refine T0 28 63 (.tmp 27) (O1 hx U8) ?_;obtain ⟨q12,hx,hq12⟩:=bind_some h;subst hx;have h:=hq12;refine m0 3 [(31,.val (vP (some (Addr.add (Addr.add q12 0) 1)))),(30,.val (vP (some (Addr.add q12 0)))),kP 29 q12] ?_;obtain ⟨x13,hx,h⟩:=bind_some h;refine T0 32 27 (.tmp 31) (O1 hx R1) (m0 1 [kI 33 a1] ?_);obtain ⟨p14,hx,h⟩:=bind_some h;refine O0 34 27 93 (.tmp 32) (.tmp 33) hx (m0 1 [(35,.val (vP (some (Addr.add p14 1))))] ?_);obtain ⟨x15,hx,h⟩:=bind_some h;refine T0 36 91 (.tmp 35) (O1 hx R1) (m0 2 [kI 38 0,kI 37 (x15.n:Int)] (B0 (o0 (J0 0 ?_))));obtain ⟨o,hl,h⟩:=bind_some h;rcases o with ⟨H28,v38_29⟩ | r
  ·try dsimp only at h
   refine S0 (z3s (L:=L) (E:=E) (m:=m) (H:=H) hrec_sort_ends_sort) (L.ok hl) 0 ?_;clear hl;refine fun a w hs=>bkE ((o0 ?_ a w hs));refine A0 (C0 (m0 1 [kB 4 true] (B0 (o0 (I0 ?_)))));cases h;exact fun a w hs=>rtR (rS hs)
  ·try dsimp only at h
   refine R0 (z3s (L:=L) (E:=E) (m:=m) (H:=H) hrec_sort_ends_sort) (L.ok hl) 0 ?_;cases h;exact fun a w hq=>bkR (sqR (rtR hq))
theorem z9t {L:LC}:∀n,(∀(m:Nat) (H:AH) (a0:Option Addr) (a1_0 a1_1:Int) (a1_2:ByteArray) (a1_3:Sl3) (r:(Bool×AH)),((E4 L n).1) m H a0 a1_0 a1_1 a1_2 a1_3=some r→CallS Tryz.prog (NE.plain 1000) m 17 #[(vP a0),(vA #[(vI .i64 a1_0),(vI .i64 a1_1),(vS a1_2),(Sl3.v a1_3)])] H (G5 r) (P5 H r))∧(∀(m:Nat) (H:AH) (a0:Option Addr) (a1:Int) (r:(Bool×AH)),((E4 L n).2) m H a0 a1=some r→CallS Tryz.prog (NE.plain 1000) m 47 #[(vP a0),(vI .i64 a1)] H (U7 r) (K8 H r)):=by
 intro n;induction n with
 | zero=>exact ⟨(fun _ _ _ _ _ _ _ _ h=>(Option.some_ne_none _ h.symm).elim),(fun _ _ _ _ _ h=>(Option.some_ne_none _ h.symm).elim)⟩
 | succ n ih=>exact ⟨(fun _ _ _ _ _ _ _ _ h=>z97 (L:=L) ih.1 ih.2 h),(fun _ _ _ _ _ h=>z93 (L:=L) ih.1 h)⟩
theorem ze2 {L:LC} {m:Nat} {H:AH} {a0:Option Addr} {a1_0 a1_1:Int} {a1_2:ByteArray} {a1_3:Sl3} {r:(Bool×AH)} (h:z4i L m H a0 a1_0 a1_1 a1_2 a1_3=some r) :
  CallS Tryz.prog (NE.plain 1000) m 17 #[(vP a0),(vA #[(vI .i64 a1_0),(vI .i64 a1_1),(vS a1_2),(Sl3.v a1_3)])] H (G5 r) (P5 H r) :=
 ((z9t _).1) _ _ _ _ _ _ _ _ h
def zfo:(Bool×AH)→Value
 | (r0,_)=>(vB r0)
def zgu (_:AH):(Bool×AH)→AH:=fun r=>r.2
noncomputable def B6:Code:=(Tryz.f6.body).getD .skip
noncomputable def z12 (L:LC) (m:Nat) (H:AH) (a0_0 a0_1:Int) (a0_2:ByteArray) (a0_3 a1_0:Sl3) (a1_1 a1_2:Sl3):Option (Bool×AH) :=
 Option.bind (α:=(AH×Bool)) (
  (D8 L m H a1_0 a1_1 a1_2).bind fun (x3,H4) => if x3=0 then
   (z1x L m H4 a0_0 a0_1 a0_2 a0_3 a1_0 a1_1 a1_2).bind fun (x5,H6) => some (H6,(!decide (x5=0)))
  else
   some (H4,true)) fun (H1,v14_2) =>
 if v14_2=true then
  some (false,H1)
 else
  (J8 L m H1 a1_0 a1_1 a1_2 1).bind fun (x7,H8) => (newM H8).bind fun (p9,H10) => (newB 50 [(vP x7),(Value.map (some p9))] H10).bind fun (p11,H12) => (z4i L m H12 (some p11) a0_0 a0_1 a0_2 a0_3).bind fun (x13,H14) => some (x13,H14)
theorem za0 {L:LC} {m:Nat} {H:AH} {a0_0 a0_1:Int} {a0_2:ByteArray} {a0_3 a1_0:Sl3} {a1_1 a1_2:Sl3} {r:(Bool×AH)} (h:z12 L m H a0_0 a0_1 a0_2 a0_3 a1_0 a1_1 a1_2=some r) :
  CallS Tryz.prog (NE.plain 1000) m 6 #[(vA #[(vI .i64 a0_0),(vI .i64 a0_1),(vS a0_2),(Sl3.v a0_3)]),(vA #[(Sl3.v a1_0),(Sl3.v a1_1),(Sl3.v a1_2)])] H (zfo r) (zgu H r):=by
 refine CallS.mk (args:=[(vA #[(vI .i64 a0_0),(vI .i64 a0_1),(vS a0_2),(Sl3.v a0_3)]),(vA #[(Sl3.v a1_0),(Sl3.v a1_1),(Sl3.v a1_2)])]) Tryz.func6 (B:=B6) (by kernel_rfl) (fun E _=>?_);unfold z12 at h;refine A0 (C0 (Q0 3 [kB 4 false,kL 3 1 0,kL 2 0 0] ([some (25,[(vI .i64 a0_0),(vI .i64 a0_1),(vS a0_2),(Sl3.v a0_3)]),some (30,[(Sl3.v a1_0),(Sl3.v a1_1),(Sl3.v a1_2)])]) (B0 (o0 (A0 ?_)))));obtain ⟨⟨H1,v14_2⟩,hx,h⟩:=bind_some h;try dsimp only at h
 refine A0 ?_;refine A1 ([kB 14 v14_2,kL 2 0 0,kL 3 1 0]) ([some (25,[(vI .i64 a0_0),(vI .i64 a0_1),(vS a0_2),(Sl3.v a0_3)]),some (30,[(Sl3.v a1_0),(Sl3.v a1_1),(Sl3.v a1_2)])]) H1 ?_ (fun a w hs=>o0 ?_ a w hs)
 ·clear h; rename _=>h;refine C0 (m0 1 [kA 6 #[(Sl3.v a1_0),(Sl3.v a1_1),(Sl3.v a1_2)]] ?_);obtain ⟨⟨x3,H4⟩,hx,h⟩:=bind_some h;try dsimp only at h
  refine N0 (some 7) (v:=(vI .i64 x3)) 9 _ (z2z hx) (m0 2 [kB 9 (!decide (x3=0)),kB 8 (!decide (x3=0))] ?_);rcases Q1 h with ⟨hp,h⟩ | ⟨hp,h⟩
  ·refine K0 9 false (e9 hp) (m0 2 [kA 11 #[(Sl3.v a1_0),(Sl3.v a1_1),(Sl3.v a1_2)],kA 10 #[(vI .i64 a0_0),(vI .i64 a0_1),(vS a0_2),(Sl3.v a0_3)]] ?_);obtain ⟨⟨x5,H6⟩,hx,h⟩:=bind_some h;try dsimp only at h
   refine N0 (some 12) (v:=(vI .i64 x5)) 10 _ (zb3 hx) (m0 2 [kB 14 (!decide (x5=0)),kB 13 (!decide (x5=0))] (B0 ?_));cases h;exact fun a w hs=>(jsN (hs.sb 2))
  ·refine K0 9 true (N7 hp) (m0 5 [kB 14 true,kU 13,kU 12,kU 11,kU 10] (B0 ?_));cases h;exact fun a w hs=>(jsN (hs.sb 2))
 ·clear hx;rcases Q1 h with ⟨hp,h⟩ | ⟨hp,h⟩
  ·refine D0 14 true hp (E0 (A0 (C0 (m0 1 [kB 4 false] (B0 (o0 (I0 ?_)))))));cases h;exact fun a w hs=>sqR (rtR (rS hs))
  ·refine D0 14 false (b_not hp) (F0 (G0 (o0 (A0 (C0 (m0 1 [kA 15 #[(Sl3.v a1_0),(Sl3.v a1_1),(Sl3.v a1_2)]] ?_))))));obtain ⟨⟨x7,H8⟩,hx,h⟩:=bind_some h;try dsimp only at h
   refine N0 (some 16) (v:=(vP x7)) 11 _ (z6m hx) ?_;obtain ⟨⟨p9,H10⟩,hx,h⟩:=bind_some h;try dsimp only at h
   refine P0 (H':=H10) (some 17) (Value.map (some p9)) (Abs.run_newM (by kernel_rfl) hx) (m0 1 [kA 18 #[(vP x7),(Value.map (some p9))]] ?_);obtain ⟨⟨p11,H12⟩,hx,h⟩:=bind_some h;try dsimp only at h
   refine P0 (H':=H12) (some 19) (vP (some p11)) (Abs.run_newB (by kernel_rfl) hx) (m0 1 [kP 5 p11] (B0 (o0 (A0 (C0 (m0 2 [kA 21 #[(vI .i64 a0_0),(vI .i64 a0_1),(vS a0_2),(Sl3.v a0_3)],kP 20 p11] ?_))))));obtain ⟨⟨x13,H14⟩,hx,h⟩:=bind_some h;try dsimp only at h
   refine N0 (some 22) (v:=(vB x13)) 17 _ (ze2 hx) (m0 1 [kB 4 x13] (B0 (o0 (I0 ?_))));cases h;exact fun a w hs=>rtR (rS hs)
def zei:(Bool×AH)→Value
 | (r0,_)=>(vB r0)
def zgd (_:AH):(Bool×AH)→AH:=fun r=>r.2
noncomputable def B8:Code:=(Tryz.f8.body).getD .skip
noncomputable def z3c (L:LC) (m:Nat) (H:AH):Option (Bool×AH) :=
 (z98 L m H).bind fun (x1_0,x1_1,x1_2,H2) => (z1w L m H2 6 0 (⟨#[67,111,108,111,114]⟩:ByteArray) Sl3.nil x1_0 x1_1 x1_2 5).bind fun (x3,x4,H5) => (zcc L m H5 3 8 (⟨#[]⟩:ByteArray) Sl3.nil).bind fun (x6,x7,H8) => (D8 L m H8 x1_0 x1_1 x1_2).bind fun (x9,H10) => if x9=0 then
  if x3=2 then
   if x4=true then
    (z12 L m H10 6 0 (⟨#[76,105,115,116]⟩:ByteArray) Sl3.nil x1_0 x1_1 x1_2).bind fun (x11,H12) => if x11=true then
     none
    else
     if (x6.toList == (⟨#[40,95,32,66,105,116,86,101,99,32,56,41]⟩:ByteArray).toList)=true then
      some ((decide (x7=0)),H12)
     else
      none
   else
    none
  else
   none
 else
  none
theorem zg0 {L:LC} {m:Nat} {H:AH} {r:(Bool×AH)} (h:z3c L m H=some r) :
  CallS Tryz.prog (NE.plain 1000) m 8 #[] H (zei r) (zgd H r):=by
 refine CallS.mk (args:=[]) Tryz.func8 (B:=B8) (by kernel_rfl) (fun E _=>?_);unfold z3c at h;refine A0 (C0 (m0 1 [kB 0 false] (B0 (o0 (A0 (C0 ?_))))));obtain ⟨⟨x1_0,x1_1,x1_2,H2⟩,hx,h⟩:=bind_some h;try dsimp only at h
 refine N0 (some 6) (v:=(vA #[(Sl3.v x1_0),(Sl3.v x1_1),(Sl3.v x1_2)])) 20 _ (zhg hx) (Q0 2 [kL 1 0 0] ([some (30,[(Sl3.v x1_0),(Sl3.v x1_1),(Sl3.v x1_2)])]) (B0 (o0 (A0 (C0 (m0 2 [kA 9 #[(Sl3.v x1_0),(Sl3.v x1_1),(Sl3.v x1_2)],kA 8 #[(vI .i64 6),(vI .i64 0),(vS (⟨#[67,111,108,111,114]⟩:ByteArray)),(Sl3.v Sl3.nil)]] ?_))))));obtain ⟨⟨x3,x4,H5⟩,hx,h⟩:=bind_some h;try dsimp only at h
 refine N0 (some 10) (v:=(Value.tuple #[(vI .i64 x3),(vB x4)])) 4 _ (zb5 hx) (m0 5 [kB 3 x4,kI 2 x3,kB 12 x4,kI 11 x3,(7,.val (Value.tuple #[(vI .i64 x3),(vB x4)]))] (B0 (o0 (A0 (C0 (m0 1 [kA 14 #[(vI .i64 3),(vI .i64 8),(vS (⟨#[]⟩:ByteArray)),(Sl3.v Sl3.nil)]] ?_))))));obtain ⟨⟨x6,x7,H8⟩,hx,h⟩:=bind_some h;try dsimp only at h
 refine N0 (some 15) (v:=(Value.tuple #[(vS x6),(vI .i64 x7)])) 21 _ (zje hx) (m0 5 [kI 5 x7,kT 4 x6,kI 17 x7,kT 16 x6,(13,.val (Value.tuple #[(vS x6),(vI .i64 x7)]))] (B0 (o0 (A0 (C0 (m0 1 [kA 18 #[(Sl3.v x1_0),(Sl3.v x1_1),(Sl3.v x1_2)]] ?_))))));obtain ⟨⟨x9,H10⟩,hx,h⟩:=bind_some h;try dsimp only at h
 refine N0 (some 19) (v:=(vI .i64 x9)) 9 _ (z2z hx) (m0 2 [kB 21 (decide (x9=0)),kB 20 (decide (x9=0))] ?_);rcases Q1 h with ⟨hp,h⟩ | ⟨hp,h⟩
 ·refine K0 21 true (decide_eq_true hp) (m0 4 [kB 25 (decide (x3=2)),kB 24 (decide (x3=2)),kB 23 (decide (x3=2)),kI 22 x3] ?_);rcases Q1 h with ⟨hp,h⟩ | ⟨hp,h⟩
  ·refine K0 25 true (decide_eq_true hp) (m0 3 [kB 28 x4,kB 27 x4,kB 26 x4] ?_);rcases Q1 h with ⟨hp,h⟩ | ⟨hp,h⟩
   ·refine K0 28 true hp (m0 2 [kA 30 #[(Sl3.v x1_0),(Sl3.v x1_1),(Sl3.v x1_2)],kA 29 #[(vI .i64 6),(vI .i64 0),(vS (⟨#[76,105,115,116]⟩:ByteArray)),(Sl3.v Sl3.nil)]] ?_);obtain ⟨⟨x11,H12⟩,hx,h⟩:=bind_some h;try dsimp only at h
    refine N0 (some 31) (v:=(vB x11)) 6 _ (za0 hx) (m0 3 [kB 34 (!x11),kB 33 (!x11),kB 32 (!x11)] ?_);rcases Q1 h with ⟨hp,h⟩ | ⟨hp,h⟩
    ·refine K0 34 false (nb_not hp) ?_;cases h
    ·refine K0 34 true (W2 hp) (m0 4 [kB 38 (x6.toList == (⟨#[40,95,32,66,105,116,86,101,99,32,56,41]⟩:ByteArray).toList),kB 37 (x6.toList == (⟨#[40,95,32,66,105,116,86,101,99,32,56,41]⟩:ByteArray).toList),kB 36 (x6.toList == (⟨#[40,95,32,66,105,116,86,101,99,32,56,41]⟩:ByteArray).toList),kT 35 x6] ?_);rcases Q1 h with ⟨hp,h⟩ | ⟨hp,h⟩
     ·refine K0 38 true hp (m0 4 [kB 0 (decide (x7=0)),kB 41 (decide (x7=0)),kB 40 (decide (x7=0)),kI 39 x7] (B0 (o0 (I0 ?_))));cases h;exact fun a w hs=>rtR (rS hs)
     ·refine K0 38 false (b_not hp) ?_;cases h
   ·refine K0 28 false (b_not hp) ?_;cases h
  ·refine K0 25 false (decide_eq_false hp) ?_;cases h
 ·refine K0 21 false (decide_eq_false hp) ?_;cases h
set_option maxHeartbeats 0 in
theorem znu:(z3c lc 7 H0).map (·.1)=some true:=by kernel_rfl
open Classical in
noncomputable def z2o (_L:LC) (H:AH):Option Bool:=if HasT H then some true else none
def zg1:Bool→Value
 | r0=>(vB r0)
def zgp (H:AH):Bool→AH:=fun _=>H
theorem zhb {L:LC} {m:Nat} {H:AH} {r:Bool} (h:z2o L H=some r):CallS Tryz.prog (NE.plain 1000) m 8 #[] H (zg1 r) (zgp H r):=by
 unfold z2o at h;split at h
 ·rename_i hT;cases h;have hrun:=znu;cases hq:z3c lc 7 H0 with
  | none=>rw [hq] at hrun; cases hrun
  | some q =>
   rw [hq] at hrun;obtain ⟨b,H'⟩:=q;simp only [Option.map_some,Option.some.injEq] at hrun;subst hrun;have hc:=@zg0 lc 7 H0 (true,H') hq;refine CallS.under (tabs:=tabs) z6g zlq (H1:=H') ?_ (by simp) (by rfl) fun x hx=>(hT x hx).1;rw [globals7];exact hc
 ·cases h
def Y8:Bool→Value
 | r0=>(vB r0)
def K9 (H:AH):Bool→AH:=fun _=>H
noncomputable def B66:Code:=(Tryz.f66.body).getD .skip
noncomputable def a6 (_L:LC) (rec_ref04_Deep:AH→Int→Int→ByteArray→Sl3→Int→Option Bool) (H:AH) (_a0_0 _a0_1:Int) (_a0_2:ByteArray) (a0_3:Sl3) (a1:Int):Int→Option (Lp Int Bool):=fun v5_1 =>
 if v5_1<(a0_3.n:Int) then
  (idxA 4 a0_3 v5_1).bind fun p2 => (rd (deI .i64) H (Addr.add p2 0)).bind fun x3_0 => (rd (deI .i64) H (Addr.add p2 1)).bind fun x3_1 => (rd deS H (Addr.add p2 2)).bind fun x3_2 => (rd deSl H (Addr.add p2 3)).bind fun x3_3 => (rec_ref04_Deep H x3_0 x3_1 x3_2 x3_3 (IntKind.i64.wrap (a1 - 1))).bind fun x4 => if x4=true then
   some (.ret true)
  else
   some (.next (IntKind.i64.wrap (v5_1+1)))
 else
  some (.brk v5_1)
def zfa (_L:LC) (_rec_ref04_Deep:AH→Int→Int→ByteArray→Sl3→Int→Option Bool) (_H:AH) (a0_0 a0_1:Int) (a0_2:ByteArray) (a0_3:Sl3) (a1:Int):Int→KN×Lcs:=fun v5_1=>([kI 5 v5_1,kI 1 a1,kL 2 0 0],[some (25,[(vI .i64 a0_0),(vI .i64 a0_1),(vS a0_2),(Sl3.v a0_3)])])
noncomputable def S6 (L:LC) (rec_ref04_Deep:AH→Int→Int→ByteArray→Sl3→Int→Option Bool) (H:AH) (a0_0 a0_1:Int) (a0_2:ByteArray) (a0_3:Sl3) (a1:Int):Option Bool :=
 if a1=0 then
  some true
 else
  (L.run (a6 L rec_ref04_Deep H a0_0 a0_1 a0_2 a0_3 a1) 0).bind fun o=>match o with
  | .inl _ =>
   some false
  | .inr r=>some r
noncomputable def J4 (L:LC) (n:Nat):(AH→Int→Int→ByteArray→Sl3→Int→Option Bool):=Nat.rec (motive:=fun _=>(AH→Int→Int→ByteArray→Sl3→Int→Option Bool)) (fun _ _ _ _ _ _=>none) (fun _ p=>S6 L p) n
noncomputable def zay (L:LC) (H:AH) (a0_0 a0_1:Int) (a0_2:ByteArray) (a0_3:Sl3) (a1:Int):Option Bool:=(J4 L L.fuel) H a0_0 a0_1 a0_2 a0_3 a1
theorem z75 {E m L rec_ref04_Deep H a0_0 a0_1 a0_2 a0_3 a1} (hrec_ref04_Deep:∀(m:Nat) (H:AH) (a0_0 a0_1:Int) (a0_2:ByteArray) (a0_3:Sl3) (a1:Int) (r:Bool),rec_ref04_Deep H a0_0 a0_1 a0_2 a0_3 a1=some r→CallS Tryz.prog (NE.plain 1000) m 66 #[(vA #[(vI .i64 a0_0),(vI .i64 a0_1),(vS a0_2),(Sl3.v a0_3)]),(vI .i64 a1)] H (Y8 r) (K9 H r)):LoopF Tryz.prog (NE.plain 1000) m E Tryz.f66 ((cfst (csnd (cfst (csnd (csnd B66)))))) (zfa L rec_ref04_Deep H a0_0 a0_1 a0_2 a0_3 a1) (fun _=>H) 0 Y8 (K9 H) (a6 L rec_ref04_Deep H a0_0 a0_1 a0_2 a0_3 a1):=by
 rintro v5_1 o h
 unfold a6 at h;try dsimp only at h
 refine A0 (A0 (C0 (m0 5 [kB 12 (decide (v5_1<(a0_3.n:Int))),kI 11 (a0_3.n:Int),kS 10 a0_3,kL 9 0 3,kI 8 v5_1] (B0 (o0 ?_)))));rcases Q1 h with ⟨hp,h⟩ | ⟨hp,h⟩
 ·refine D0 12 true (decide_eq_true hp) (E0 (G0 (o0 (A0 (J0 1 (A0 (C0 (m0 3 [kI 17 v5_1,kS 16 a0_3,kL 15 0 3] ?_))))))));obtain ⟨p2,hx,h⟩:=bind_some h;refine O0 18 23 25 (.tmp 16) (.tmp 17) hx ?_;obtain ⟨x3_0,hx0,h⟩:=bind_some h;obtain ⟨x3_1,hx1,h⟩:=bind_some h;obtain ⟨x3_2,hx2,h⟩:=bind_some h;obtain ⟨x3_3,hx3,h⟩:=bind_some h;refine RS.la 19 25 (.tmp 18) 4 (P1 (O1 hx0 S1) (P1 (O1 hx1 S1) (P1 (O1 hx2 T1) (P1 (O1 hx3 R1) U1)))) (m0 2 [kI 21 (IntKind.i64.wrap (a1 - 1)),kI 20 a1] ?_);obtain ⟨x4,hx,h⟩:=bind_some h;refine N0 (some 22) (v:=(vB x4)) 66 _ (hrec_ref04_Deep _ _ _ _ _ _ _ _ hx) (B0 (o0 ?_));rcases Q1 h with ⟨hp,h⟩ | ⟨hp,h⟩
  ·refine D0 22 true hp (E0 (A0 (C0 (m0 1 [kB 4 true] (B0 (o0 (I0 ?_)))))));cases h;exact fun a w hs=>bkR (sqR (lsR rfl (rS hs)))
  ·refine D0 22 false (b_not hp) (F0 (G0 ?_));refine fun a w hs=>bkN ((o0 ?_ a w hs));refine C0 (m0 3 [kI 5 (IntKind.i64.wrap (v5_1+1)),kI 14 (IntKind.i64.wrap (v5_1+1)),kI 13 v5_1] (B0 ?_));cases h;exact fun a w hs=>lsN rfl (hs.sb 1)
 ·refine D0 12 false (decide_eq_false hp) (F0 (WS.ex 0 ?_));cases h;exact fun a w hs=>sqE (lsB rfl (hs.sb 1))
theorem zdd {L:LC} {rec_ref04_Deep:AH→Int→Int→ByteArray→Sl3→Int→Option Bool} (hrec_ref04_Deep:∀(m:Nat) (H:AH) (a0_0 a0_1:Int) (a0_2:ByteArray) (a0_3:Sl3) (a1:Int) (r:Bool),rec_ref04_Deep H a0_0 a0_1 a0_2 a0_3 a1=some r→CallS Tryz.prog (NE.plain 1000) m 66 #[(vA #[(vI .i64 a0_0),(vI .i64 a0_1),(vS a0_2),(Sl3.v a0_3)]),(vI .i64 a1)] H (Y8 r) (K9 H r)) {m:Nat} {H:AH} {a0_0 a0_1:Int} {a0_2:ByteArray} {a0_3:Sl3} {a1:Int} {r:Bool} (h:S6 L rec_ref04_Deep H a0_0 a0_1 a0_2 a0_3 a1=some r) :
  CallS Tryz.prog (NE.plain 1000) m 66 #[(vA #[(vI .i64 a0_0),(vI .i64 a0_1),(vS a0_2),(Sl3.v a0_3)]),(vI .i64 a1)] H (Y8 r) (K9 H r):=by
 refine CallS.mk (args:=[(vA #[(vI .i64 a0_0),(vI .i64 a0_1),(vS a0_2),(Sl3.v a0_3)]),(vI .i64 a1)]) Tryz.func66 (B:=B66) (by kernel_rfl) (fun E _=>?_);unfold S6 at h;refine A0 (C0 (Q0 2 [kB 4 false,kL 2 0 0] ([some (25,[(vI .i64 a0_0),(vI .i64 a0_1),(vS a0_2),(Sl3.v a0_3)])]) (B0 (o0 (A0 (A0 (C0 (m0 2 [kB 7 (decide (a1=0)),kI 6 a1] (B0 ?_)))))))));refine o0 ?_;rcases Q1 h with ⟨hp,h⟩ | ⟨hp,h⟩
 ·refine D0 7 true (decide_eq_true hp) (E0 (A0 (C0 (m0 1 [kB 4 true] (B0 (o0 (I0 ?_)))))));cases h;exact fun a w hs=>sqR (rtR (rS hs))
 ·refine D0 7 false (decide_eq_false hp) (F0 (G0 (o0 (A0 (A0 (C0 (m0 1 [kI 5 0] (B0 (o0 ?_)))))))));refine J0 0 ?_;obtain ⟨o,hl,h⟩:=bind_some h;rcases o with v5_5 | r
  ·try dsimp only at h
   refine S0 (z75 (L:=L) (E:=E) (m:=m) (H:=H) hrec_ref04_Deep) (L.ok hl) 1 ?_;clear hl;refine fun a w hs=>bkE ((o0 ?_ a w hs));refine A0 (C0 (m0 1 [kB 4 false] (B0 (o0 (I0 ?_)))));cases h;exact fun a w hs=>rtR (rS hs)
  ·try dsimp only at h
   refine R0 (z75 (L:=L) (E:=E) (m:=m) (H:=H) hrec_ref04_Deep) (L.ok hl) 1 ?_;cases h;exact fun a w hq=>bkR (sqR (rtR hq))
theorem ze9 {L:LC}:∀n,(∀(m:Nat) (H:AH) (a0_0 a0_1:Int) (a0_2:ByteArray) (a0_3:Sl3) (a1:Int) (r:Bool),((J4 L n)) H a0_0 a0_1 a0_2 a0_3 a1=some r→CallS Tryz.prog (NE.plain 1000) m 66 #[(vA #[(vI .i64 a0_0),(vI .i64 a0_1),(vS a0_2),(Sl3.v a0_3)]),(vI .i64 a1)] H (Y8 r) (K9 H r)):=by
 intro n;induction n with
 | zero=>exact (fun _ _ _ _ _ _ _ _ h=>(Option.some_ne_none _ h.symm).elim)
 | succ n ih=>exact (fun _ _ _ _ _ _ _ _ h=>zdd (L:=L) ih h)
theorem zii {L:LC} {m:Nat} {H:AH} {a0_0 a0_1:Int} {a0_2:ByteArray} {a0_3:Sl3} {a1:Int} {r:Bool} (h:zay L H a0_0 a0_1 a0_2 a0_3 a1=some r) :
  CallS Tryz.prog (NE.plain 1000) m 66 #[(vA #[(vI .i64 a0_0),(vI .i64 a0_1),(vS a0_2),(Sl3.v a0_3)]),(vI .i64 a1)] H (Y8 r) (K9 H r) :=
 (ze9 _) _ _ _ _ _ _ _ _ h
end Go.Proofs.YtccbilfbhecdaaaGreatDoor
namespace Go.Proofs.YtccbilfbhecdaaaGreatDoor
open Go Go.Abs
open Go.Value renaming int → vI, string → vS, pointer → vP, agg → vA, bool → vB
set_option maxRecDepth 100000
def l8:Int→Value
 | r0=>(vI .i64 r0)
def g9 (H:AH):Int→AH:=fun _=>H
noncomputable def B67:Code:=(Tryz.f67.body).getD .skip
noncomputable def N4 (_L:LC) (rec_ref04_Parts:AH→Int→Int→ByteArray→Sl3→Option Int) (H:AH) (_a0_0 _a0_1:Int) (_a0_2:ByteArray) (a0_3:Sl3):(Int×Int)→Option (Lp (Int×Int) Int):=fun (v3_1,v4_2) =>
 Option.bind (α:=Bool) (
  if v4_2<(a0_3.n:Int) then
   some (decide (v3_1≤256))
  else
   some false) fun v13_3 =>
 if v13_3=true then
  (idxA 4 a0_3 v4_2).bind fun p4 => (rd (deI .i64) H (Addr.add p4 0)).bind fun x5_0 => (rd (deI .i64) H (Addr.add p4 1)).bind fun x5_1 => (rd deS H (Addr.add p4 2)).bind fun x5_2 => (rd deSl H (Addr.add p4 3)).bind fun x5_3 => (rec_ref04_Parts H x5_0 x5_1 x5_2 x5_3).bind fun x6 => Option.bind (gOp1 Tryz.prog (opsOf (cfst (cfst (csnd (cfst (cfst (csnd (cfst (csnd (csnd B67)))))))))) 8 [(23,.val (vI .i64 (IntKind.i64.wrap (v3_1+x6))))] (deI .i64) H) fun x7 => some (.next (x7,(IntKind.i64.wrap (v4_2+1))))
 else
  some (.brk (v3_1,v4_2))
def ze6 (_L:LC) (_rec_ref04_Parts:AH→Int→Int→ByteArray→Sl3→Option Int) (_H:AH) (a0_0 a0_1:Int) (a0_2:ByteArray) (a0_3:Sl3):(Int×Int)→KN×Lcs:=fun (v3_1,v4_2)=>([kI 3 v3_1,kI 4 v4_2,kL 1 0 0],[some (25,[(vI .i64 a0_0),(vI .i64 a0_1),(vS a0_2),(Sl3.v a0_3)])])
noncomputable def i6 (L:LC) (rec_ref04_Parts:AH→Int→Int→ByteArray→Sl3→Option Int) (H:AH) (a0_0 a0_1:Int) (a0_2:ByteArray) (a0_3:Sl3):Option Int :=
 (L.run (N4 L rec_ref04_Parts H a0_0 a0_1 a0_2 a0_3) (1,0)).bind fun o=>match o with
 | .inl (v3_8,_) =>
  some v3_8
 | .inr r=>some r
noncomputable def A4 (L:LC) (n:Nat):(AH→Int→Int→ByteArray→Sl3→Option Int):=Nat.rec (motive:=fun _=>(AH→Int→Int→ByteArray→Sl3→Option Int)) (fun _ _ _ _ _=>none) (fun _ p=>i6 L p) n
noncomputable def z8l (L:LC) (H:AH) (a0_0 a0_1:Int) (a0_2:ByteArray) (a0_3:Sl3):Option Int:=(A4 L L.fuel) H a0_0 a0_1 a0_2 a0_3
theorem z5l {E m L rec_ref04_Parts H a0_0 a0_1 a0_2 a0_3} (hrec_ref04_Parts:∀(m:Nat) (H:AH) (a0_0 a0_1:Int) (a0_2:ByteArray) (a0_3:Sl3) (r:Int),rec_ref04_Parts H a0_0 a0_1 a0_2 a0_3=some r→CallS Tryz.prog (NE.plain 1000) m 67 #[(vA #[(vI .i64 a0_0),(vI .i64 a0_1),(vS a0_2),(Sl3.v a0_3)])] H (l8 r) (g9 H r)):LoopF Tryz.prog (NE.plain 1000) m E Tryz.f67 ((cfst (csnd (cfst (csnd (csnd B67)))))) (ze6 L rec_ref04_Parts H a0_0 a0_1 a0_2 a0_3) (fun _=>H) 0 l8 (g9 H) (N4 L rec_ref04_Parts H a0_0 a0_1 a0_2 a0_3):=by
 rintro ⟨v3_1,v4_2⟩ o h
 unfold N4 at h;try dsimp only at h
 refine A0 ?_;obtain ⟨v13_3,hx,h⟩:=bind_some h;refine A0 ?_;refine A1 ([kB 13 v13_3,kL 1 0 0,kI 3 v3_1,kI 4 v4_2]) ([some (25,[(vI .i64 a0_0),(vI .i64 a0_1),(vS a0_2),(Sl3.v a0_3)])]) H ?_ (fun a w hs=>o0 ?_ a w hs)
 ·clear h; rename _=>h;refine C0 (m0 6 [kB 10 (decide (v4_2<(a0_3.n:Int))),kB 9 (decide (v4_2<(a0_3.n:Int))),kI 8 (a0_3.n:Int),kS 7 a0_3,kL 6 0 3,kI 5 v4_2] ?_);rcases Q1 h with ⟨hp,h⟩ | ⟨hp,h⟩
  ·refine K0 10 true (decide_eq_true hp) (m0 3 [kB 13 (decide (v3_1≤256)),kB 12 (decide (v3_1≤256)),kI 11 v3_1] (B0 ?_));cases h;exact fun a w hs=>(jsN (hs.sb 1))
  ·refine K0 10 false (decide_eq_false hp) (m0 3 [kB 13 false,kU 12,kU 11] (B0 ?_));cases h;exact fun a w hs=>(jsN (hs.sb 1))
 ·clear hx;rcases Q1 h with ⟨hp,h⟩ | ⟨hp,h⟩
  ·refine D0 13 true hp (E0 (G0 (o0 (A0 (J0 1 (C0 (m0 4 [kI 19 v4_2,kS 18 a0_3,kL 17 0 3,kI 16 v3_1] ?_)))))));obtain ⟨p4,hx,h⟩:=bind_some h;refine O0 20 23 25 (.tmp 18) (.tmp 19) hx ?_;obtain ⟨x5_0,hx0,h⟩:=bind_some h;obtain ⟨x5_1,hx1,h⟩:=bind_some h;obtain ⟨x5_2,hx2,h⟩:=bind_some h;obtain ⟨x5_3,hx3,h⟩:=bind_some h;refine RS.la 21 25 (.tmp 20) 4 (P1 (O1 hx0 S1) (P1 (O1 hx1 S1) (P1 (O1 hx2 T1) (P1 (O1 hx3 R1) U1)))) ?_;obtain ⟨x6,hx,h⟩:=bind_some h;refine N0 (some 22) (v:=(vI .i64 x6)) 67 _ (hrec_ref04_Parts _ _ _ _ _ _ _ hx) (m0 1 [kI 23 (IntKind.i64.wrap (v3_1+x6))] ?_);obtain ⟨x7,hx,h⟩:=bind_some h;refine P0 (H':=H) (some 24) (vI .i64 x7) (zoc hx S1 (by kernel_rfl) (by kernel_rfl)) (m0 1 [kI 3 x7] (B0 ?_));refine fun a w hs=>bkN ((o0 ?_ a w hs));refine C0 (m0 3 [kI 4 (IntKind.i64.wrap (v4_2+1)),kI 15 (IntKind.i64.wrap (v4_2+1)),kI 14 v4_2] (B0 ?_));cases h;exact fun a w hs=>lsN rfl (hs.sb 1)
  ·refine D0 13 false (b_not hp) (F0 (WS.ex 0 ?_));cases h;exact fun a w hs=>sqE (lsB rfl (hs.sb 1))
theorem zc1 {L:LC} {rec_ref04_Parts:AH→Int→Int→ByteArray→Sl3→Option Int} (hrec_ref04_Parts:∀(m:Nat) (H:AH) (a0_0 a0_1:Int) (a0_2:ByteArray) (a0_3:Sl3) (r:Int),rec_ref04_Parts H a0_0 a0_1 a0_2 a0_3=some r→CallS Tryz.prog (NE.plain 1000) m 67 #[(vA #[(vI .i64 a0_0),(vI .i64 a0_1),(vS a0_2),(Sl3.v a0_3)])] H (l8 r) (g9 H r)) {m:Nat} {H:AH} {a0_0 a0_1:Int} {a0_2:ByteArray} {a0_3:Sl3} {r:Int} (h:i6 L rec_ref04_Parts H a0_0 a0_1 a0_2 a0_3=some r) :
  CallS Tryz.prog (NE.plain 1000) m 67 #[(vA #[(vI .i64 a0_0),(vI .i64 a0_1),(vS a0_2),(Sl3.v a0_3)])] H (l8 r) (g9 H r):=by
 refine CallS.mk (args:=[(vA #[(vI .i64 a0_0),(vI .i64 a0_1),(vS a0_2),(Sl3.v a0_3)])]) Tryz.func67 (B:=B67) (by kernel_rfl) (fun E _=>?_);unfold i6 at h;refine A0 (C0 (Q0 2 [kI 2 0,kL 1 0 0] ([some (25,[(vI .i64 a0_0),(vI .i64 a0_1),(vS a0_2),(Sl3.v a0_3)])]) (B0 (o0 (A0 (C0 (m0 1 [kI 3 1] (B0 (o0 ?_)))))))));refine A0 (A0 (C0 (m0 1 [kI 4 0] (B0 (o0 (J0 0 ?_))))));obtain ⟨o,hl,h⟩:=bind_some h;rcases o with ⟨v3_8,v4_9⟩ | r
 ·try dsimp only at h
  refine S0 (z5l (L:=L) (E:=E) (m:=m) (H:=H) hrec_ref04_Parts) (L.ok hl) 1 ?_;clear hl;refine fun a w hs=>bkE ((o0 ?_ a w hs));refine A0 (C0 (m0 2 [kI 2 v3_8,kI 25 v3_8] (B0 (o0 (I0 ?_)))));cases h;exact fun a w hs=>rtR (rS hs)
 ·try dsimp only at h
  refine R0 (z5l (L:=L) (E:=E) (m:=m) (H:=H) hrec_ref04_Parts) (L.ok hl) 1 ?_;cases h;exact fun a w hq=>bkR (sqR (rtR hq))
theorem zd9 {L:LC}:∀n,(∀(m:Nat) (H:AH) (a0_0 a0_1:Int) (a0_2:ByteArray) (a0_3:Sl3) (r:Int),((A4 L n)) H a0_0 a0_1 a0_2 a0_3=some r→CallS Tryz.prog (NE.plain 1000) m 67 #[(vA #[(vI .i64 a0_0),(vI .i64 a0_1),(vS a0_2),(Sl3.v a0_3)])] H (l8 r) (g9 H r)):=by
 intro n;induction n with
 | zero=>exact (fun _ _ _ _ _ _ _ h=>(Option.some_ne_none _ h.symm).elim)
 | succ n ih=>exact (fun _ _ _ _ _ _ _ h=>zc1 (L:=L) ih h)
theorem zgn {L:LC} {m:Nat} {H:AH} {a0_0 a0_1:Int} {a0_2:ByteArray} {a0_3:Sl3} {r:Int} (h:z8l L H a0_0 a0_1 a0_2 a0_3=some r) :
  CallS Tryz.prog (NE.plain 1000) m 67 #[(vA #[(vI .i64 a0_0),(vI .i64 a0_1),(vS a0_2),(Sl3.v a0_3)])] H (l8 r) (g9 H r) :=
 (zd9 _) _ _ _ _ _ _ _ h
def z9h:Bool→Value
 | r0=>(vB r0)
def zb2 (H:AH):Bool→AH:=fun _=>H
noncomputable def B61:Code:=(Tryz.f61.body).getD .skip
noncomputable def z5c (_L:LC) (a0:ByteArray):Int→Option (Lp Int Bool):=fun v3_4 =>
 if v3_4<(a0.size:Int) then
  Option.bind (α:=Bool) (
   (bytA a0 v3_4).bind fun x6 => if x6<32 then
    some true
   else
    (bytA a0 v3_4).bind fun x7 => if x7 > 126 then
     some true
    else
     (bytA a0 v3_4).bind fun x8 => if x8=124 then
      some true
     else
      (bytA a0 v3_4).bind fun x9 => some (decide (x9=92))) fun v49_5 =>
  if v49_5=true then
   some (.ret false)
  else
   some (.next (IntKind.i64.wrap (v3_4+1)))
 else
  some (.brk v3_4)
def zey (_L:LC) (a0:ByteArray):Int→KN×Lcs:=fun v3_4=>([kI 3 v3_4,kT 0 a0],[])
noncomputable def z20 (L:LC) (a0:ByteArray):Option Bool :=
 Option.bind (α:=Bool) (
  if (a0.size:Int)<1 then
   some true
  else
   if (a0.size:Int) > 200 then
    some true
   else
    (bytA a0 0).bind fun x2 => if x2=64 then
     some true
    else
     (bytA a0 0).bind fun x3 => some (decide (x3=46))) fun v21_1 =>
 if v21_1=true then
  some false
 else
  (L.run (z5c L a0) 0).bind fun o=>match o with
  | .inl _ =>
   some true
  | .inr r=>some r
theorem z7b {E m H L a0} :LoopF Tryz.prog (NE.plain 1000) m E Tryz.f61 ((cfst (csnd (cfst (csnd (csnd B61)))))) (zey L a0) (fun _=>H) 0 z9h (zb2 H) (z5c L a0):=by
 rintro v3_4 o h
 unfold z5c at h;try dsimp only at h
 refine A0 (A0 (C0 (m0 4 [kB 25 (decide (v3_4<(a0.size:Int))),kI 24 (a0.size:Int),kT 23 a0,kI 22 v3_4] (B0 (o0 ?_)))));rcases Q1 h with ⟨hp,h⟩ | ⟨hp,h⟩
 ·refine D0 25 true (decide_eq_true hp) (E0 (G0 (o0 (A0 (J0 1 ?_)))));obtain ⟨v49_5,hx,h⟩:=bind_some h;refine A0 ?_;refine A1 ([kB 49 v49_5,kT 0 a0,kI 3 v3_4]) ([]) H ?_ (fun a w hs=>o0 ?_ a w hs)
  ·clear h; rename _=>h;refine C0 (m0 2 [kI 29 v3_4,kT 28 a0] ?_);obtain ⟨x6,hx,h⟩:=bind_some h;refine P0 (H':=H) (some 30) (vI .u8 x6) (Abs.run_byt (t:=9) (x:=.tmp 28) (y:=.tmp 29) (s:=a0) (k:=.i64) (i:=v3_4) (by kernel_rfl) (by kernel_rfl) (by kernel_rfl) (by kernel_rfl) hx) (m0 2 [kB 32 (decide (x6<32)),kB 31 (decide (x6<32))] ?_);rcases Q1 h with ⟨hp,h⟩ | ⟨hp,h⟩
   ·refine K0 32 true (decide_eq_true hp) (m0 17 [kB 49 true,kU 48,kU 47,kU 46,kU 45,kB 44 true,kB 43 true,kU 42,kU 41,kU 40,kU 39,kB 38 true,kB 37 true,kU 36,kU 35,kU 34,kU 33] (B0 ?_));cases h;exact fun a w hs=>(jsN (hs.sb 0))
   ·refine K0 32 false (decide_eq_false hp) (m0 2 [kI 34 v3_4,kT 33 a0] ?_);obtain ⟨x7,hx,h⟩:=bind_some h;refine P0 (H':=H) (some 35) (vI .u8 x7) (Abs.run_byt (t:=9) (x:=.tmp 33) (y:=.tmp 34) (s:=a0) (k:=.i64) (i:=v3_4) (by kernel_rfl) (by kernel_rfl) (by kernel_rfl) (by kernel_rfl) hx) (m0 3 [kB 38 (decide (x7 > 126)),kB 37 (decide (x7 > 126)),kB 36 (decide (x7 > 126))] ?_);rcases Q1 h with ⟨hp,h⟩ | ⟨hp,h⟩
    ·refine K0 38 true (decide_eq_true hp) (m0 11 [kB 49 true,kU 48,kU 47,kU 46,kU 45,kB 44 true,kB 43 true,kU 42,kU 41,kU 40,kU 39] (B0 ?_));cases h;exact fun a w hs=>(jsN (hs.sb 0))
    ·refine K0 38 false (decide_eq_false hp) (m0 2 [kI 40 v3_4,kT 39 a0] ?_);obtain ⟨x8,hx,h⟩:=bind_some h;refine P0 (H':=H) (some 41) (vI .u8 x8) (Abs.run_byt (t:=9) (x:=.tmp 39) (y:=.tmp 40) (s:=a0) (k:=.i64) (i:=v3_4) (by kernel_rfl) (by kernel_rfl) (by kernel_rfl) (by kernel_rfl) hx) (m0 3 [kB 44 (decide (x8=124)),kB 43 (decide (x8=124)),kB 42 (decide (x8=124))] ?_);rcases Q1 h with ⟨hp,h⟩ | ⟨hp,h⟩
     ·refine K0 44 true (decide_eq_true hp) (m0 5 [kB 49 true,kU 48,kU 47,kU 46,kU 45] (B0 ?_));cases h;exact fun a w hs=>(jsN (hs.sb 0))
     ·refine K0 44 false (decide_eq_false hp) (m0 2 [kI 46 v3_4,kT 45 a0] ?_);obtain ⟨x9,hx,h⟩:=bind_some h;refine P0 (H':=H) (some 47) (vI .u8 x9) (Abs.run_byt (t:=9) (x:=.tmp 45) (y:=.tmp 46) (s:=a0) (k:=.i64) (i:=v3_4) (by kernel_rfl) (by kernel_rfl) (by kernel_rfl) (by kernel_rfl) hx) (m0 2 [kB 49 (decide (x9=92)),kB 48 (decide (x9=92))] (B0 ?_));cases h;exact fun a w hs=>(jsN (hs.sb 0))
  ·clear hx;rcases Q1 h with ⟨hp,h⟩ | ⟨hp,h⟩
   ·refine D0 49 true hp (E0 (A0 (C0 (m0 1 [kB 2 false] (B0 (o0 (I0 ?_)))))));cases h;exact fun a w hs=>bkR (sqR (lsR rfl (rS hs)))
   ·refine D0 49 false (b_not hp) (F0 (G0 ?_));refine fun a w hs=>bkN ((o0 ?_ a w hs));refine C0 (m0 3 [kI 3 (IntKind.i64.wrap (v3_4+1)),kI 27 (IntKind.i64.wrap (v3_4+1)),kI 26 v3_4] (B0 ?_));cases h;exact fun a w hs=>lsN rfl (hs.sb 0)
 ·refine D0 25 false (decide_eq_false hp) (F0 (WS.ex 0 ?_));cases h;exact fun a w hs=>sqE (lsB rfl (hs.sb 0))
theorem zbb {L:LC} {m:Nat} {H:AH} {a0:ByteArray} {r:Bool} (h:z20 L a0=some r) :
  CallS Tryz.prog (NE.plain 1000) m 61 #[(vS a0)] H (z9h r) (zb2 H r):=by
 refine CallS.mk (args:=[(vS a0)]) Tryz.func61 (B:=B61) (by kernel_rfl) (fun E _=>?_);unfold z20 at h;refine A0 (C0 (m0 1 [kB 2 false] (B0 (o0 (A0 ?_)))));obtain ⟨v21_1,hx,h⟩:=bind_some h;refine A0 ?_;refine A1 ([kB 21 v21_1,kT 0 a0]) ([]) H ?_ (fun a w hs=>o0 ?_ a w hs)
 ·clear h; rename _=>h;refine C0 (m0 4 [kB 7 (decide ((a0.size:Int)<1)),kB 6 (decide ((a0.size:Int)<1)),kI 5 (a0.size:Int),kT 4 a0] ?_);rcases Q1 h with ⟨hp,h⟩ | ⟨hp,h⟩
  ·refine K0 7 true (decide_eq_true hp) (m0 14 [kB 21 true,kU 20,kU 19,kU 18,kB 17 true,kB 16 true,kU 15,kU 14,kU 13,kB 12 true,kB 11 true,kU 10,kU 9,kU 8] (B0 ?_));cases h;exact fun a w hs=>(jsN (hs.sb 0))
  ·refine K0 7 false (decide_eq_false hp) (m0 5 [kB 12 (decide ((a0.size:Int) > 200)),kB 11 (decide ((a0.size:Int) > 200)),kB 10 (decide ((a0.size:Int) > 200)),kI 9 (a0.size:Int),kT 8 a0] ?_);rcases Q1 h with ⟨hp,h⟩ | ⟨hp,h⟩
   ·refine K0 12 true (decide_eq_true hp) (m0 9 [kB 21 true,kU 20,kU 19,kU 18,kB 17 true,kB 16 true,kU 15,kU 14,kU 13] (B0 ?_));cases h;exact fun a w hs=>(jsN (hs.sb 0))
   ·refine K0 12 false (decide_eq_false hp) (m0 1 [kT 13 a0] ?_);obtain ⟨x2,hx,h⟩:=bind_some h;refine P0 (H':=H) (some 14) (vI .u8 x2) (Abs.run_byt (t:=9) (x:=.tmp 13) (y:=.const (vI .i64 0)) (s:=a0) (k:=.i64) (i:=0) (by kernel_rfl) (by kernel_rfl) (by kernel_rfl) (by kernel_rfl) hx) (m0 3 [kB 17 (decide (x2=64)),kB 16 (decide (x2=64)),kB 15 (decide (x2=64))] ?_);rcases Q1 h with ⟨hp,h⟩ | ⟨hp,h⟩
    ·refine K0 17 true (decide_eq_true hp) (m0 4 [kB 21 true,kU 20,kU 19,kU 18] (B0 ?_));cases h;exact fun a w hs=>(jsN (hs.sb 0))
    ·refine K0 17 false (decide_eq_false hp) (m0 1 [kT 18 a0] ?_);obtain ⟨x3,hx,h⟩:=bind_some h;refine P0 (H':=H) (some 19) (vI .u8 x3) (Abs.run_byt (t:=9) (x:=.tmp 18) (y:=.const (vI .i64 0)) (s:=a0) (k:=.i64) (i:=0) (by kernel_rfl) (by kernel_rfl) (by kernel_rfl) (by kernel_rfl) hx) (m0 2 [kB 21 (decide (x3=46)),kB 20 (decide (x3=46))] (B0 ?_));cases h;exact fun a w hs=>(jsN (hs.sb 0))
 ·clear hx;rcases Q1 h with ⟨hp,h⟩ | ⟨hp,h⟩
  ·refine D0 21 true hp (E0 (A0 (C0 (m0 1 [kB 2 false] (B0 (o0 (I0 ?_)))))));cases h;exact fun a w hs=>sqR (rtR (rS hs))
  ·refine D0 21 false (b_not hp) (F0 (G0 (o0 (A0 (A0 (C0 (m0 1 [kI 3 0] (B0 (o0 ?_)))))))));refine J0 0 ?_;obtain ⟨o,hl,h⟩:=bind_some h;rcases o with v3_10 | r
   ·try dsimp only at h
    refine S0 (z7b (L:=L) (E:=E) (m:=m) (H:=H)) (L.ok hl) 0 ?_;clear hl;refine fun a w hs=>bkE ((o0 ?_ a w hs));refine A0 (C0 (m0 1 [kB 2 true] (B0 (o0 (I0 ?_)))));cases h;exact fun a w hs=>rtR (rS hs)
   ·try dsimp only at h
    refine R0 (z7b (L:=L) (E:=E) (m:=m) (H:=H)) (L.ok hl) 0 ?_;cases h;exact fun a w hq=>bkR (sqR (rtR hq))
def z18:Bool→Value
 | r0=>(vB r0)
def z21 (H:AH):Bool→AH:=fun _=>H
noncomputable def B68:Code:=(Tryz.f68.body).getD .skip
noncomputable def o9 (L:LC) (rec_ref04_shape:AH→Int→Int→ByteArray→Sl3→Option Bool) (H:AH) (a0_0 a0_1:Int) (a0_2:ByteArray) (a0_3:Sl3):Option Bool :=
 Option.bind (α:=Bool) (
  if a0_0=1 then
   some true
  else
   some (decide (a0_0=2))) fun v5_1 =>
 if v5_1=true then
  if a0_1=0 then
   if (a0_2.toList == (⟨#[]⟩:ByteArray).toList)=true then
    some (decide ((a0_3.n:Int)=0))
   else
    some false
  else
   some false
 else
  if a0_0=3 then
   if a0_1≥1 then
    if a0_1≤4096 then
     if (a0_2.toList == (⟨#[]⟩:ByteArray).toList)=true then
      some (decide ((a0_3.n:Int)=0))
     else
      some false
    else
     some false
   else
    some false
  else
   if a0_0=4 then
    if a0_1=0 then
     if (a0_2.toList == (⟨#[]⟩:ByteArray).toList)=true then
      if (a0_3.n:Int)=2 then
       (idxA 4 a0_3 0).bind fun p2 => (rd (deI .i64) H (Addr.add p2 0)).bind fun x3_0 => (rd (deI .i64) H (Addr.add p2 1)).bind fun x3_1 => (rd deS H (Addr.add p2 2)).bind fun x3_2 => (rd deSl H (Addr.add p2 3)).bind fun x3_3 => (rec_ref04_shape H x3_0 x3_1 x3_2 x3_3).bind fun x4 => if x4=true then
        (idxA 4 a0_3 1).bind fun p5 => (rd (deI .i64) H (Addr.add p5 0)).bind fun x6_0 => (rd (deI .i64) H (Addr.add p5 1)).bind fun x6_1 => (rd deS H (Addr.add p5 2)).bind fun x6_2 => (rd deSl H (Addr.add p5 3)).bind fun x6_3 => (rec_ref04_shape H x6_0 x6_1 x6_2 x6_3).bind fun x7 => some x7
       else
        some false
      else
       some false
     else
      some false
    else
     some false
   else
    Option.bind (α:=Bool) (
     if a0_0=5 then
      some true
     else
      some (decide (a0_0=6))) fun v73_8 =>
    if v73_8=true then
     if a0_1=0 then
      if (a0_3.n:Int)=0 then
       (z20 L a0_2).bind fun x9 => some x9
      else
       some false
     else
      some false
    else
     some false
noncomputable def z1a (L:LC) (n:Nat):(AH→Int→Int→ByteArray→Sl3→Option Bool):=Nat.rec (motive:=fun _=>(AH→Int→Int→ByteArray→Sl3→Option Bool)) (fun _ _ _ _ _=>none) (fun _ p=>o9 L p) n
noncomputable def z8z (L:LC) (H:AH) (a0_0 a0_1:Int) (a0_2:ByteArray) (a0_3:Sl3):Option Bool:=(z1a L L.fuel) H a0_0 a0_1 a0_2 a0_3
theorem zbv {L:LC} {rec_ref04_shape:AH→Int→Int→ByteArray→Sl3→Option Bool} (hrec_ref04_shape:∀(m:Nat) (H:AH) (a0_0 a0_1:Int) (a0_2:ByteArray) (a0_3:Sl3) (r:Bool),rec_ref04_shape H a0_0 a0_1 a0_2 a0_3=some r→CallS Tryz.prog (NE.plain 1000) m 68 #[(vA #[(vI .i64 a0_0),(vI .i64 a0_1),(vS a0_2),(Sl3.v a0_3)])] H (z18 r) (z21 H r)) {m:Nat} {H:AH} {a0_0 a0_1:Int} {a0_2:ByteArray} {a0_3:Sl3} {r:Bool} (h:o9 L rec_ref04_shape H a0_0 a0_1 a0_2 a0_3=some r) :
  CallS Tryz.prog (NE.plain 1000) m 68 #[(vA #[(vI .i64 a0_0),(vI .i64 a0_1),(vS a0_2),(Sl3.v a0_3)])] H (z18 r) (z21 H r):=by
 refine CallS.mk (args:=[(vA #[(vI .i64 a0_0),(vI .i64 a0_1),(vS a0_2),(Sl3.v a0_3)])]) Tryz.func68 (B:=B68) (by kernel_rfl) (fun E _=>?_);unfold o9 at h;refine A0 (C0 (Q0 2 [kB 2 false,kL 1 0 0] ([some (25,[(vI .i64 a0_0),(vI .i64 a0_1),(vS a0_2),(Sl3.v a0_3)])]) (B0 (o0 (A0 (A0 (C0 (m0 2 [kI 4 a0_0,kL 3 0 0] (B0 ?_)))))))));refine o0 (J0 0 ?_);obtain ⟨v5_1,hx,h⟩:=bind_some h;refine A0 ?_;refine A1 ([kB 5 v5_1,kL 1 0 0,kI 4 a0_0]) ([some (25,[(vI .i64 a0_0),(vI .i64 a0_1),(vS a0_2),(Sl3.v a0_3)])]) H ?_ (fun a w hs=>o0 ?_ a w hs)
 ·clear h; rename _=>h;refine A0 (C0 (m0 2 [kB 5 (decide (a0_0=1)),kB 6 (decide (a0_0=1))] (B0 (o0 ?_))));rcases Q1 h with ⟨hp,h⟩ | ⟨hp,h⟩
  ·refine D0 5 true (decide_eq_true hp) (E0 (G0 ?_));cases h;exact fun a w hs=>(jsN (hs.sb 1))
  ·refine D0 5 false (decide_eq_false hp) (F0 (C0 (m0 2 [kB 5 (decide (a0_0=2)),kB 7 (decide (a0_0=2))] (B0 ?_))));cases h;exact fun a w hs=>(jsN (hs.sb 1))
 ·clear hx;rcases Q1 h with ⟨hp,h⟩ | ⟨hp,h⟩
  ·refine D0 5 true hp (E0 (A0 (C0 (m0 4 [kB 11 (decide (a0_1=0)),kB 10 (decide (a0_1=0)),kI 9 a0_1,kL 8 0 1] ?_))));rcases Q1 h with ⟨hp,h⟩ | ⟨hp,h⟩
   ·refine K0 11 true (decide_eq_true hp) (m0 5 [kB 16 (a0_2.toList == (⟨#[]⟩:ByteArray).toList),kB 15 (a0_2.toList == (⟨#[]⟩:ByteArray).toList),kB 14 (a0_2.toList == (⟨#[]⟩:ByteArray).toList),kT 13 a0_2,kL 12 0 2] ?_);rcases Q1 h with ⟨hp,h⟩ | ⟨hp,h⟩
    ·refine K0 16 true hp (m0 6 [kB 2 (decide ((a0_3.n:Int)=0)),kB 21 (decide ((a0_3.n:Int)=0)),kB 20 (decide ((a0_3.n:Int)=0)),kI 19 (a0_3.n:Int),kS 18 a0_3,kL 17 0 3] (B0 (o0 (I0 ?_))));cases h;exact fun a w hs=>bkR (sqR (rtR (rS hs)))
    ·refine K0 16 false (b_not hp) (m0 6 [kB 2 false,kB 21 false,kU 20,kU 19,kU 18,kU 17] (B0 (o0 (I0 ?_))));cases h;exact fun a w hs=>bkR (sqR (rtR (rS hs)))
   ·refine K0 11 false (decide_eq_false hp) (m0 11 [kB 2 false,kB 21 false,kU 20,kU 19,kU 18,kU 17,kB 16 false,kB 15 false,kU 14,kU 13,kU 12] (B0 (o0 (I0 ?_))));cases h;exact fun a w hs=>bkR (sqR (rtR (rS hs)))
  ·refine D0 5 false (b_not hp) (F0 (A0 (C0 (m0 2 [kB 22 (decide (a0_0=3)),kB 23 (decide (a0_0=3))] (B0 (o0 ?_))))));rcases Q1 h with ⟨hp,h⟩ | ⟨hp,h⟩
   ·refine D0 22 true (decide_eq_true hp) (E0 (A0 (C0 (m0 4 [kB 27 (decide (a0_1≥1)),kB 26 (decide (a0_1≥1)),kI 25 a0_1,kL 24 0 1] ?_))));rcases Q1 h with ⟨hp,h⟩ | ⟨hp,h⟩
    ·refine K0 27 true (decide_eq_true hp) (m0 5 [kB 32 (decide (a0_1≤4096)),kB 31 (decide (a0_1≤4096)),kB 30 (decide (a0_1≤4096)),kI 29 a0_1,kL 28 0 1] ?_);rcases Q1 h with ⟨hp,h⟩ | ⟨hp,h⟩
     ·refine K0 32 true (decide_eq_true hp) (m0 5 [kB 37 (a0_2.toList == (⟨#[]⟩:ByteArray).toList),kB 36 (a0_2.toList == (⟨#[]⟩:ByteArray).toList),kB 35 (a0_2.toList == (⟨#[]⟩:ByteArray).toList),kT 34 a0_2,kL 33 0 2] ?_);rcases Q1 h with ⟨hp,h⟩ | ⟨hp,h⟩
      ·refine K0 37 true hp (m0 6 [kB 2 (decide ((a0_3.n:Int)=0)),kB 42 (decide ((a0_3.n:Int)=0)),kB 41 (decide ((a0_3.n:Int)=0)),kI 40 (a0_3.n:Int),kS 39 a0_3,kL 38 0 3] (B0 (o0 (I0 ?_))));cases h;exact fun a w hs=>bkR (sqR (rtR (rS hs)))
      ·refine K0 37 false (b_not hp) (m0 6 [kB 2 false,kB 42 false,kU 41,kU 40,kU 39,kU 38] (B0 (o0 (I0 ?_))));cases h;exact fun a w hs=>bkR (sqR (rtR (rS hs)))
     ·refine K0 32 false (decide_eq_false hp) (m0 11 [kB 2 false,kB 42 false,kU 41,kU 40,kU 39,kU 38,kB 37 false,kB 36 false,kU 35,kU 34,kU 33] (B0 (o0 (I0 ?_))));cases h;exact fun a w hs=>bkR (sqR (rtR (rS hs)))
    ·refine K0 27 false (decide_eq_false hp) (m0 16 [kB 2 false,kB 42 false,kU 41,kU 40,kU 39,kU 38,kB 37 false,kB 36 false,kU 35,kU 34,kU 33,kB 32 false,kB 31 false,kU 30,kU 29,kU 28] (B0 (o0 (I0 ?_))));cases h;exact fun a w hs=>bkR (sqR (rtR (rS hs)))
   ·refine D0 22 false (decide_eq_false hp) (F0 (A0 (C0 (m0 2 [kB 43 (decide (a0_0=4)),kB 44 (decide (a0_0=4))] (B0 (o0 ?_))))));rcases Q1 h with ⟨hp,h⟩ | ⟨hp,h⟩
    ·refine D0 43 true (decide_eq_true hp) (E0 (A0 (C0 (m0 4 [kB 48 (decide (a0_1=0)),kB 47 (decide (a0_1=0)),kI 46 a0_1,kL 45 0 1] ?_))));rcases Q1 h with ⟨hp,h⟩ | ⟨hp,h⟩
     ·refine K0 48 true (decide_eq_true hp) (m0 5 [kB 53 (a0_2.toList == (⟨#[]⟩:ByteArray).toList),kB 52 (a0_2.toList == (⟨#[]⟩:ByteArray).toList),kB 51 (a0_2.toList == (⟨#[]⟩:ByteArray).toList),kT 50 a0_2,kL 49 0 2] ?_);rcases Q1 h with ⟨hp,h⟩ | ⟨hp,h⟩
      ·refine K0 53 true hp (m0 6 [kB 59 (decide ((a0_3.n:Int)=2)),kB 58 (decide ((a0_3.n:Int)=2)),kB 57 (decide ((a0_3.n:Int)=2)),kI 56 (a0_3.n:Int),kS 55 a0_3,kL 54 0 3] ?_);rcases Q1 h with ⟨hp,h⟩ | ⟨hp,h⟩
       ·refine K0 59 true (decide_eq_true hp) (m0 2 [kS 61 a0_3,kL 60 0 3] ?_);obtain ⟨p2,hx,h⟩:=bind_some h;refine O0 62 23 25 (.tmp 61) (.const (vI .i64 0)) hx ?_;obtain ⟨x3_0,hx0,h⟩:=bind_some h;obtain ⟨x3_1,hx1,h⟩:=bind_some h;obtain ⟨x3_2,hx2,h⟩:=bind_some h;obtain ⟨x3_3,hx3,h⟩:=bind_some h;refine RS.la 63 25 (.tmp 62) 4 (P1 (O1 hx0 S1) (P1 (O1 hx1 S1) (P1 (O1 hx2 T1) (P1 (O1 hx3 R1) U1)))) ?_;obtain ⟨x4,hx,h⟩:=bind_some h;refine N0 (some 64) (v:=(vB x4)) 68 _ (hrec_ref04_shape _ _ _ _ _ _ _ hx) (m0 2 [kB 66 x4,kB 65 x4] ?_);rcases Q1 h with ⟨hp,h⟩ | ⟨hp,h⟩
        ·refine K0 66 true hp (m0 2 [kS 68 a0_3,kL 67 0 3] ?_);obtain ⟨p5,hx,h⟩:=bind_some h;refine O0 69 23 25 (.tmp 68) (.const (vI .i64 1)) hx ?_;obtain ⟨x6_0,hx0,h⟩:=bind_some h;obtain ⟨x6_1,hx1,h⟩:=bind_some h;obtain ⟨x6_2,hx2,h⟩:=bind_some h;obtain ⟨x6_3,hx3,h⟩:=bind_some h;refine RS.la 70 25 (.tmp 69) 4 (P1 (O1 hx0 S1) (P1 (O1 hx1 S1) (P1 (O1 hx2 T1) (P1 (O1 hx3 R1) U1)))) ?_;obtain ⟨x7,hx,h⟩:=bind_some h;refine N0 (some 71) (v:=(vB x7)) 68 _ (hrec_ref04_shape _ _ _ _ _ _ _ hx) (m0 2 [kB 2 x7,kB 72 x7] (B0 (o0 (I0 ?_))));cases h;exact fun a w hs=>bkR (sqR (rtR (rS hs)))
        ·refine K0 66 false (b_not hp) (m0 7 [kB 2 false,kB 72 false,kU 71,kU 70,kU 69,kU 68,kU 67] (B0 (o0 (I0 ?_))));cases h;exact fun a w hs=>bkR (sqR (rtR (rS hs)))
       ·refine K0 59 false (decide_eq_false hp) (m0 14 [kB 2 false,kB 72 false,kU 71,kU 70,kU 69,kU 68,kU 67,kB 66 false,kB 65 false,kU 64,kU 63,kU 62,kU 61,kU 60] (B0 (o0 (I0 ?_))));cases h;exact fun a w hs=>bkR (sqR (rtR (rS hs)))
      ·refine K0 53 false (b_not hp) (m0 20 [kB 2 false,kB 72 false,kU 71,kU 70,kU 69,kU 68,kU 67,kB 66 false,kB 65 false,kU 64,kU 63,kU 62,kU 61,kU 60,kB 59 false,kB 58 false,kU 57,kU 56,kU 55,kU 54] (B0 (o0 (I0 ?_))));cases h;exact fun a w hs=>bkR (sqR (rtR (rS hs)))
     ·refine K0 48 false (decide_eq_false hp) (m0 25 [kB 2 false,kB 72 false,kU 71,kU 70,kU 69,kU 68,kU 67,kB 66 false,kB 65 false,kU 64,kU 63,kU 62,kU 61,kU 60,kB 59 false,kB 58 false,kU 57,kU 56,kU 55,kU 54,kB 53 false,kB 52 false,kU 51,kU 50,kU 49] (B0 (o0 (I0 ?_))));cases h;exact fun a w hs=>bkR (sqR (rtR (rS hs)))
    ·refine D0 43 false (decide_eq_false hp) (F0 ?_);obtain ⟨v73_8,hx,h⟩:=bind_some h;refine A0 ?_;refine A1 ([kB 73 v73_8,kL 1 0 0]) ([some (25,[(vI .i64 a0_0),(vI .i64 a0_1),(vS a0_2),(Sl3.v a0_3)])]) H ?_ (fun a w hs=>o0 ?_ a w hs)
     ·clear h; rename _=>h;refine A0 (C0 (m0 2 [kB 73 (decide (a0_0=5)),kB 74 (decide (a0_0=5))] (B0 (o0 ?_))));rcases Q1 h with ⟨hp,h⟩ | ⟨hp,h⟩
      ·refine D0 73 true (decide_eq_true hp) (E0 (G0 ?_));cases h;exact fun a w hs=>(jsN (hs.sb 1))
      ·refine D0 73 false (decide_eq_false hp) (F0 (C0 (m0 2 [kB 73 (decide (a0_0=6)),kB 75 (decide (a0_0=6))] (B0 ?_))));cases h;exact fun a w hs=>(jsN (hs.sb 1))
     ·clear hx;rcases Q1 h with ⟨hp,h⟩ | ⟨hp,h⟩
      ·refine D0 73 true hp (E0 (A0 (C0 (m0 4 [kB 79 (decide (a0_1=0)),kB 78 (decide (a0_1=0)),kI 77 a0_1,kL 76 0 1] ?_))));rcases Q1 h with ⟨hp,h⟩ | ⟨hp,h⟩
       ·refine K0 79 true (decide_eq_true hp) (m0 6 [kB 85 (decide ((a0_3.n:Int)=0)),kB 84 (decide ((a0_3.n:Int)=0)),kB 83 (decide ((a0_3.n:Int)=0)),kI 82 (a0_3.n:Int),kS 81 a0_3,kL 80 0 3] ?_);rcases Q1 h with ⟨hp,h⟩ | ⟨hp,h⟩
        ·refine K0 85 true (decide_eq_true hp) (m0 2 [kT 87 a0_2,kL 86 0 2] ?_);obtain ⟨x9,hx,h⟩:=bind_some h;refine N0 (some 88) (v:=(vB x9)) 61 _ (zbb hx) (m0 2 [kB 2 x9,kB 89 x9] (B0 (o0 (I0 ?_))));cases h;exact fun a w hs=>bkR (sqR (rtR (rS hs)))
        ·refine K0 85 false (decide_eq_false hp) (m0 5 [kB 2 false,kB 89 false,kU 88,kU 87,kU 86] (B0 (o0 (I0 ?_))));cases h;exact fun a w hs=>bkR (sqR (rtR (rS hs)))
       ·refine K0 79 false (decide_eq_false hp) (m0 11 [kB 2 false,kB 89 false,kU 88,kU 87,kU 86,kB 85 false,kB 84 false,kU 83,kU 82,kU 81,kU 80] (B0 (o0 (I0 ?_))));cases h;exact fun a w hs=>bkR (sqR (rtR (rS hs)))
      ·refine D0 73 false (b_not hp) (F0 (G0 ?_));refine fun a w hs=>bkN ((o0 ?_ a w hs));refine A0 (C0 (m0 1 [kB 2 false] (B0 (o0 (I0 ?_)))));cases h;exact fun a w hs=>rtR (rS hs)
theorem zd8 {L:LC}:∀n,(∀(m:Nat) (H:AH) (a0_0 a0_1:Int) (a0_2:ByteArray) (a0_3:Sl3) (r:Bool),((z1a L n)) H a0_0 a0_1 a0_2 a0_3=some r→CallS Tryz.prog (NE.plain 1000) m 68 #[(vA #[(vI .i64 a0_0),(vI .i64 a0_1),(vS a0_2),(Sl3.v a0_3)])] H (z18 r) (z21 H r)):=by
 intro n;induction n with
 | zero=>exact (fun _ _ _ _ _ _ _ h=>(Option.some_ne_none _ h.symm).elim)
 | succ n ih=>exact (fun _ _ _ _ _ _ _ h=>zbv (L:=L) ih h)
theorem zgq {L:LC} {m:Nat} {H:AH} {a0_0 a0_1:Int} {a0_2:ByteArray} {a0_3:Sl3} {r:Bool} (h:z8z L H a0_0 a0_1 a0_2 a0_3=some r) :
  CallS Tryz.prog (NE.plain 1000) m 68 #[(vA #[(vI .i64 a0_0),(vI .i64 a0_1),(vS a0_2),(Sl3.v a0_3)])] H (z18 r) (z21 H r) :=
 (zd8 _) _ _ _ _ _ _ _ h
def zgr:Int→Value
 | r0=>(vI .i64 r0)
def zim (H:AH):Int→AH:=fun _=>H
noncomputable def B42:Code:=(Tryz.f42.body).getD .skip
noncomputable def z3x (L:LC) (H:AH) (a0_0 a0_1:Int) (a0_2:ByteArray) (a0_3:Sl3):Option Int :=
 Option.bind (α:=Bool) (
  (zay L H a0_0 a0_1 a0_2 a0_3 16).bind fun x2 => if x2=true then
   some true
  else
   (z8l L H a0_0 a0_1 a0_2 a0_3).bind fun x3 => some (decide (x3 > 256))) fun v9_1 =>
 if v9_1=true then
  some 3
 else
  (z8z L H a0_0 a0_1 a0_2 a0_3).bind fun x4 => if x4=true then
   some 0
  else
   some 40
theorem zie {L:LC} {m:Nat} {H:AH} {a0_0 a0_1:Int} {a0_2:ByteArray} {a0_3:Sl3} {r:Int} (h:z3x L H a0_0 a0_1 a0_2 a0_3=some r) :
  CallS Tryz.prog (NE.plain 1000) m 42 #[(vA #[(vI .i64 a0_0),(vI .i64 a0_1),(vS a0_2),(Sl3.v a0_3)])] H (zgr r) (zim H r):=by
 refine CallS.mk (args:=[(vA #[(vI .i64 a0_0),(vI .i64 a0_1),(vS a0_2),(Sl3.v a0_3)])]) Tryz.func42 (B:=B42) (by kernel_rfl) (fun E _=>?_);unfold z3x at h;refine A0 (C0 (Q0 2 [kI 2 0,kL 1 0 0] ([some (25,[(vI .i64 a0_0),(vI .i64 a0_1),(vS a0_2),(Sl3.v a0_3)])]) (B0 (o0 (A0 ?_)))));obtain ⟨v9_1,hx,h⟩:=bind_some h;refine A0 ?_;refine A1 ([kB 9 v9_1,kL 1 0 0]) ([some (25,[(vI .i64 a0_0),(vI .i64 a0_1),(vS a0_2),(Sl3.v a0_3)])]) H ?_ (fun a w hs=>o0 ?_ a w hs)
 ·clear h; rename _=>h;refine C0 (m0 1 [kA 3 #[(vI .i64 a0_0),(vI .i64 a0_1),(vS a0_2),(Sl3.v a0_3)]] ?_);obtain ⟨x2,hx,h⟩:=bind_some h;refine N0 (some 4) (v:=(vB x2)) 66 _ (zii hx) (m0 1 [kB 5 x2] ?_);rcases Q1 h with ⟨hp,h⟩ | ⟨hp,h⟩
  ·refine K0 5 true hp (m0 4 [kB 9 true,kU 8,kU 7,kU 6] (B0 ?_));cases h;exact fun a w hs=>(jsN (hs.sb 1))
  ·refine K0 5 false (b_not hp) (m0 1 [kA 6 #[(vI .i64 a0_0),(vI .i64 a0_1),(vS a0_2),(Sl3.v a0_3)]] ?_);obtain ⟨x3,hx,h⟩:=bind_some h;refine N0 (some 7) (v:=(vI .i64 x3)) 67 _ (zgn hx) (m0 2 [kB 9 (decide (x3 > 256)),kB 8 (decide (x3 > 256))] (B0 ?_));cases h;exact fun a w hs=>(jsN (hs.sb 1))
 ·clear hx;rcases Q1 h with ⟨hp,h⟩ | ⟨hp,h⟩
  ·refine D0 9 true hp (E0 (A0 (C0 (m0 1 [kI 2 3] (B0 (o0 (I0 ?_)))))));cases h;exact fun a w hs=>sqR (rtR (rS hs))
  ·refine D0 9 false (b_not hp) (F0 (G0 (o0 (A0 (A0 (C0 (m0 1 [kA 10 #[(vI .i64 a0_0),(vI .i64 a0_1),(vS a0_2),(Sl3.v a0_3)]] ?_)))))));obtain ⟨x4,hx,h⟩:=bind_some h;refine N0 (some 11) (v:=(vB x4)) 68 _ (zgq hx) (m0 1 [kB 12 (!x4)] (B0 (o0 ?_)));rcases Q1 h with ⟨hp,h⟩ | ⟨hp,h⟩
   ·refine D0 12 false (nb_not hp) (F0 (G0 (o0 (A0 (C0 (m0 1 [kI 2 0] (B0 (o0 (I0 ?_)))))))));cases h;exact fun a w hs=>rtR (rS hs)
   ·refine D0 12 true (W2 hp) (E0 (A0 (C0 (m0 1 [kI 2 40] (B0 (o0 (I0 ?_)))))));cases h;exact fun a w hs=>sqR (rtR (rS hs))
def z9w:Int→Value
 | r0=>(vI .i64 r0)
def zb6 (H:AH):Int→AH:=fun _=>H
noncomputable def B46:Code:=(Tryz.f46.body).getD .skip
noncomputable def A8 (_L:LC) (H:AH) (_a0_0 a0_1 _a0_2:Sl3) (a1:ByteArray):Int→Option (Lp Int Int):=fun v5_1 =>
 if v5_1<(a0_1.n:Int) then
  (idxA 2 a0_1 v5_1).bind fun p2 => (rd deS H (Addr.add p2 0)).bind fun x3 => if (x3.toList == a1.toList)=true then
   some (.ret v5_1)
  else
   some (.next (IntKind.i64.wrap (v5_1+1)))
 else
  some (.brk v5_1)
def zej (_L:LC) (_H:AH) (a0_0 a0_1 a0_2:Sl3) (a1:ByteArray):Int→KN×Lcs:=fun v5_1=>([kI 5 v5_1,kT 1 a1,kL 2 0 0],[some (30,[(Sl3.v a0_0),(Sl3.v a0_1),(Sl3.v a0_2)])])
noncomputable def S3 (L:LC) (H:AH) (a0_0 a0_1 a0_2:Sl3) (a1:ByteArray):Option Int :=
 (L.run (A8 L H a0_0 a0_1 a0_2 a1) 0).bind fun o=>match o with
 | .inl _ =>
  some (-1)
 | .inr r=>some r
theorem z76 {E m L H a0_0 a0_1 a0_2 a1} :LoopF Tryz.prog (NE.plain 1000) m E Tryz.f46 ((cfst (csnd (cfst (csnd B46))))) (zej L H a0_0 a0_1 a0_2 a1) (fun _=>H) 0 z9w (zb6 H) (A8 L H a0_0 a0_1 a0_2 a1):=by
 rintro v5_1 o h
 unfold A8 at h;try dsimp only at h
 refine A0 (A0 (C0 (m0 5 [kB 10 (decide (v5_1<(a0_1.n:Int))),kI 9 (a0_1.n:Int),kS 8 a0_1,kL 7 0 1,kI 6 v5_1] (B0 (o0 ?_)))));rcases Q1 h with ⟨hp,h⟩ | ⟨hp,h⟩
 ·refine D0 10 true (decide_eq_true hp) (E0 (G0 (o0 (A0 (J0 1 (A0 (C0 (m0 3 [kI 15 v5_1,kS 14 a0_1,kL 13 0 1] ?_))))))));obtain ⟨p2,hx,h⟩:=bind_some h;refine O0 16 27 93 (.tmp 14) (.tmp 15) hx (m0 1 [(17,.val (vP (some (Addr.add p2 0))))] ?_);obtain ⟨x3,hx,h⟩:=bind_some h;refine T0 18 9 (.tmp 17) (O1 hx T1) (m0 2 [kB 20 (x3.toList == a1.toList),kT 19 a1] (B0 (o0 ?_)));rcases Q1 h with ⟨hp,h⟩ | ⟨hp,h⟩
  ·refine D0 20 true hp (E0 (A0 (C0 (m0 2 [kI 4 v5_1,kI 21 v5_1] (B0 (o0 (I0 ?_)))))));cases h;exact fun a w hs=>bkR (sqR (lsR rfl (rS hs)))
  ·refine D0 20 false (b_not hp) (F0 (G0 ?_));refine fun a w hs=>bkN ((o0 ?_ a w hs));refine C0 (m0 3 [kI 5 (IntKind.i64.wrap (v5_1+1)),kI 12 (IntKind.i64.wrap (v5_1+1)),kI 11 v5_1] (B0 ?_));cases h;exact fun a w hs=>lsN rfl (hs.sb 1)
 ·refine D0 10 false (decide_eq_false hp) (F0 (WS.ex 0 ?_));cases h;exact fun a w hs=>sqE (lsB rfl (hs.sb 1))
theorem I8 {L:LC} {m:Nat} {H:AH} {a0_0 a0_1 a0_2:Sl3} {a1:ByteArray} {r:Int} (h:S3 L H a0_0 a0_1 a0_2 a1=some r) :
  CallS Tryz.prog (NE.plain 1000) m 46 #[(vA #[(Sl3.v a0_0),(Sl3.v a0_1),(Sl3.v a0_2)]),(vS a1)] H (z9w r) (zb6 H r):=by
 refine CallS.mk (args:=[(vA #[(Sl3.v a0_0),(Sl3.v a0_1),(Sl3.v a0_2)]),(vS a1)]) Tryz.func46 (B:=B46) (by kernel_rfl) (fun E _=>?_);unfold S3 at h;refine A0 (C0 (Q0 2 [kI 4 0,kL 2 0 0] ([some (30,[(Sl3.v a0_0),(Sl3.v a0_1),(Sl3.v a0_2)])]) (B0 (o0 (A0 (A0 (C0 (m0 1 [kI 5 0] (B0 ?_)))))))));refine o0 (J0 0 ?_);obtain ⟨o,hl,h⟩:=bind_some h;rcases o with v5_4 | r
 ·try dsimp only at h
  refine S0 (z76 (L:=L) (E:=E) (m:=m) (H:=H)) (L.ok hl) 1 ?_;clear hl;refine fun a w hs=>bkE ((o0 ?_ a w hs));refine A0 (C0 (m0 1 [kI 4 (-1)] (B0 (o0 (I0 ?_)))));cases h;exact fun a w hs=>rtR (rS hs)
 ·try dsimp only at h
  refine R0 (z76 (L:=L) (E:=E) (m:=m) (H:=H)) (L.ok hl) 1 ?_;cases h;exact fun a w hq=>bkR (sqR (rtR hq))
def zb9:Bool→Value
 | r0=>(vB r0)
def zcd (H:AH):Bool→AH:=fun _=>H
noncomputable def B69:Code:=(Tryz.f69.body).getD .skip
noncomputable def k9 (_L:LC) (H:AH) (a0:Sl3) (a1:ByteArray):Int→Option (Lp Int Bool):=fun v5_1 =>
 if v5_1<(a0.n:Int) then
  (idxA 1 a0 v5_1).bind fun p2 => (rd deS H p2).bind fun x3 => if (x3.toList == a1.toList)=true then
   some (.ret true)
  else
   some (.next (IntKind.i64.wrap (v5_1+1)))
 else
  some (.brk v5_1)
def zgh (_L:LC) (_H:AH) (a0:Sl3) (a1:ByteArray):Int→KN×Lcs:=fun v5_1=>([kI 5 v5_1,kS 0 a0,kT 1 a1],[])
noncomputable def z36 (L:LC) (H:AH) (a0:Sl3) (a1:ByteArray):Option Bool :=
 (L.run (k9 L H a0 a1) 0).bind fun o=>match o with
 | .inl _ =>
  some false
 | .inr r=>some r
theorem z8h {E m L H a0 a1} :LoopF Tryz.prog (NE.plain 1000) m E Tryz.f69 ((cfst (csnd (cfst (csnd B69))))) (zgh L H a0 a1) (fun _=>H) 0 zb9 (zcd H) (k9 L H a0 a1):=by
 rintro v5_1 o h
 unfold k9 at h;try dsimp only at h
 refine A0 (A0 (C0 (m0 4 [kB 9 (decide (v5_1<(a0.n:Int))),kI 8 (a0.n:Int),kS 7 a0,kI 6 v5_1] (B0 (o0 ?_)))));rcases Q1 h with ⟨hp,h⟩ | ⟨hp,h⟩
 ·refine D0 9 true (decide_eq_true hp) (E0 (G0 (o0 (A0 (J0 1 (A0 (C0 (m0 2 [kI 13 v5_1,kS 12 a0] ?_))))))));obtain ⟨p2,hx,h⟩:=bind_some h;refine O0 14 26 9 (.tmp 12) (.tmp 13) hx ?_;obtain ⟨x3,hx,h⟩:=bind_some h;refine T0 15 9 (.tmp 14) (O1 hx T1) (m0 2 [kB 17 (x3.toList == a1.toList),kT 16 a1] (B0 (o0 ?_)));rcases Q1 h with ⟨hp,h⟩ | ⟨hp,h⟩
  ·refine D0 17 true hp (E0 (A0 (C0 (m0 1 [kB 4 true] (B0 (o0 (I0 ?_)))))));cases h;exact fun a w hs=>bkR (sqR (lsR rfl (rS hs)))
  ·refine D0 17 false (b_not hp) (F0 (G0 ?_));refine fun a w hs=>bkN ((o0 ?_ a w hs));refine C0 (m0 3 [kI 5 (IntKind.i64.wrap (v5_1+1)),kI 11 (IntKind.i64.wrap (v5_1+1)),kI 10 v5_1] (B0 ?_));cases h;exact fun a w hs=>lsN rfl (hs.sb 0)
 ·refine D0 9 false (decide_eq_false hp) (F0 (WS.ex 0 ?_));cases h;exact fun a w hs=>sqE (lsB rfl (hs.sb 0))
theorem zd6 {L:LC} {m:Nat} {H:AH} {a0:Sl3} {a1:ByteArray} {r:Bool} (h:z36 L H a0 a1=some r) :
  CallS Tryz.prog (NE.plain 1000) m 69 #[(Sl3.v a0),(vS a1)] H (zb9 r) (zcd H r):=by
 refine CallS.mk (args:=[(Sl3.v a0),(vS a1)]) Tryz.func69 (B:=B69) (by kernel_rfl) (fun E _=>?_);unfold z36 at h;refine A0 (C0 (m0 1 [kB 4 false] (B0 (o0 (A0 (A0 (C0 (m0 1 [kI 5 0] (B0 ?_)))))))));refine o0 (J0 0 ?_);obtain ⟨o,hl,h⟩:=bind_some h;rcases o with v5_4 | r
 ·try dsimp only at h
  refine S0 (z8h (L:=L) (E:=E) (m:=m) (H:=H)) (L.ok hl) 0 ?_;clear hl;refine fun a w hs=>bkE ((o0 ?_ a w hs));refine A0 (C0 (m0 1 [kB 4 false] (B0 (o0 (I0 ?_)))));cases h;exact fun a w hs=>rtR (rS hs)
 ·try dsimp only at h
  refine R0 (z8h (L:=L) (E:=E) (m:=m) (H:=H)) (L.ok hl) 0 ?_;cases h;exact fun a w hq=>bkR (sqR (rtR hq))
def j8:Bool→Value
 | r0=>(vB r0)
def V8 (H:AH):Bool→AH:=fun _=>H
noncomputable def B43:Code:=(Tryz.f43.body).getD .skip
noncomputable def J5 (_L:LC) (rec_ref04_known:AH→Int→Int→ByteArray→Sl3→Sl3→Sl3→Sl3→Option Bool) (H:AH) (_a0_0 _a0_1:Int) (_a0_2:ByteArray) (a0_3 a1_0:Sl3) (a1_1 a1_2:Sl3):Int→Option (Lp Int Bool):=fun v5_5 =>
 if v5_5<(a0_3.n:Int) then
  (idxA 4 a0_3 v5_5).bind fun p6 => (rd (deI .i64) H (Addr.add p6 0)).bind fun x7_0 => (rd (deI .i64) H (Addr.add p6 1)).bind fun x7_1 => (rd deS H (Addr.add p6 2)).bind fun x7_2 => (rd deSl H (Addr.add p6 3)).bind fun x7_3 => (rec_ref04_known H x7_0 x7_1 x7_2 x7_3 a1_0 a1_1 a1_2).bind fun x8 => if x8=true then
   some (.next (IntKind.i64.wrap (v5_5+1)))
  else
   some (.ret false)
 else
  some (.brk v5_5)
def zdo (_L:LC) (_rec_ref04_known:AH→Int→Int→ByteArray→Sl3→Sl3→Sl3→Sl3→Option Bool) (_H:AH) (a0_0 a0_1:Int) (a0_2:ByteArray) (a0_3 a1_0:Sl3) (a1_1 a1_2:Sl3):Int→KN×Lcs:=fun v5_5=>([kI 5 v5_5,kL 2 0 0,kL 3 1 0],[some (25,[(vI .i64 a0_0),(vI .i64 a0_1),(vS a0_2),(Sl3.v a0_3)]),some (30,[(Sl3.v a1_0),(Sl3.v a1_1),(Sl3.v a1_2)])])
noncomputable def y9 (L:LC) (rec_ref04_known:AH→Int→Int→ByteArray→Sl3→Sl3→Sl3→Sl3→Option Bool) (H:AH) (a0_0 a0_1:Int) (a0_2:ByteArray) (a0_3 a1_0:Sl3) (a1_1 a1_2:Sl3):Option Bool :=
 Option.bind (α:=Bool) (
  if a0_0=5 then
   (z36 L H a1_0 a0_2).bind fun x2 => if x2=true then
    if a0_0=6 then
     (S3 L H a1_0 a1_1 a1_2 a0_2).bind fun x3 => some (decide (x3<0))
    else
     some false
   else
    some true
  else
   if a0_0=6 then
    (S3 L H a1_0 a1_1 a1_2 a0_2).bind fun x4 => some (decide (x4<0))
   else
    some false) fun v28_1 =>
 if v28_1=true then
  some false
 else
  (L.run (J5 L rec_ref04_known H a0_0 a0_1 a0_2 a0_3 a1_0 a1_1 a1_2) 0).bind fun o=>match o with
  | .inl _ =>
   some true
  | .inr r=>some r
noncomputable def R5 (L:LC) (n:Nat):(AH→Int→Int→ByteArray→Sl3→Sl3→Sl3→Sl3→Option Bool):=Nat.rec (motive:=fun _=>(AH→Int→Int→ByteArray→Sl3→Sl3→Sl3→Sl3→Option Bool)) (fun _ _ _ _ _ _ _ _=>none) (fun _ p=>y9 L p) n
noncomputable def z8x (L:LC) (H:AH) (a0_0 a0_1:Int) (a0_2:ByteArray) (a0_3 a1_0:Sl3) (a1_1 a1_2:Sl3):Option Bool:=(R5 L L.fuel) H a0_0 a0_1 a0_2 a0_3 a1_0 a1_1 a1_2
theorem z5u {E m L rec_ref04_known H a0_0 a0_1 a0_2 a0_3 a1_0 a1_1 a1_2} (hrec_ref04_known:∀(m:Nat) (H:AH) (a0_0 a0_1:Int) (a0_2:ByteArray) (a0_3 a1_0:Sl3) (a1_1 a1_2:Sl3) (r:Bool),rec_ref04_known H a0_0 a0_1 a0_2 a0_3 a1_0 a1_1 a1_2=some r→CallS Tryz.prog (NE.plain 1000) m 43 #[(vA #[(vI .i64 a0_0),(vI .i64 a0_1),(vS a0_2),(Sl3.v a0_3)]),(vA #[(Sl3.v a1_0),(Sl3.v a1_1),(Sl3.v a1_2)])] H (j8 r) (V8 H r)):LoopF Tryz.prog (NE.plain 1000) m E Tryz.f43 ((cfst (csnd (cfst (csnd (csnd B43)))))) (zdo L rec_ref04_known H a0_0 a0_1 a0_2 a0_3 a1_0 a1_1 a1_2) (fun _=>H) 0 j8 (V8 H) (J5 L rec_ref04_known H a0_0 a0_1 a0_2 a0_3 a1_0 a1_1 a1_2):=by
 rintro v5_5 o h
 unfold J5 at h;try dsimp only at h
 refine A0 (A0 (C0 (m0 5 [kB 33 (decide (v5_5<(a0_3.n:Int))),kI 32 (a0_3.n:Int),kS 31 a0_3,kL 30 0 3,kI 29 v5_5] (B0 (o0 ?_)))));rcases Q1 h with ⟨hp,h⟩ | ⟨hp,h⟩
 ·refine D0 33 true (decide_eq_true hp) (E0 (G0 (o0 (A0 (J0 1 (A0 ?_))))));refine D1 [0,1,2,3,4,5] [0,1,0,7,15,0,63,127] 8 (fun hcl=>?_);refine V0 0 (some 36) (.loc 0 3) (V0 1 (some 37) (.val (Sl3.v a0_3)) (U0 2 (some 38) (vI .i64 v5_5) ?_));obtain ⟨p6,hx,h⟩:=bind_some h;refine Z0 3 (some 39) (vP (some p6)) (Abs.det_idx (s:=a0_3) (k:=.i64) (t:=23) (e:=25) (x:=.tmp 37) (y:=.tmp 38) (by kernel_rfl) (by kernel_rfl) (by kernel_rfl) (by kernel_rfl) (by kernel_rfl) hx) ?_;obtain ⟨x7_0,hx0,h⟩:=bind_some h;obtain ⟨x7_1,hx1,h⟩:=bind_some h;obtain ⟨x7_2,hx2,h⟩:=bind_some h;obtain ⟨x7_3,hx3,h⟩:=bind_some h;refine Z0 4 (some 40) (vA #[(vI .i64 x7_0),(vI .i64 x7_1),(vS x7_2),(Sl3.v x7_3)]) (Abs.det_loadA (t:=25) (x:=.tmp 39) (a:=p6) (k:=4) (by kernel_rfl) (by kernel_rfl) (by kernel_rfl) (by kernel_rfl) (P1 (O1 hx0 S1) (P1 (O1 hx1 S1) (P1 (O1 hx2 T1) (P1 (O1 hx3 R1) U1))))) (V0 5 (some 41) (.val (vA #[(Sl3.v a1_0),(Sl3.v a1_1),(Sl3.v a1_2)])) ?_);obtain ⟨x8,hx,h⟩:=bind_some h;refine DA.on 6 (X0 6 (some 42) (v:=(vB x8)) 43 _ (hrec_ref04_known _ _ _ _ _ _ _ _ _ _ hx) (M0 7 (some 43) (vB (!x8)) (W0 (o0 ?_))));rcases Q1 h with ⟨hp,h⟩ | ⟨hp,h⟩
  ·refine D0 43 false (nb_not hp) (F0 (G0 ?_));refine fun a w hs=>bkN ((o0 ?_ a w hs));refine C0 (m0 3 [kI 5 (IntKind.i64.wrap (v5_5+1)),kI 35 (IntKind.i64.wrap (v5_5+1)),kI 34 v5_5] (B0 ?_));cases h;exact fun a w hs=>lsN rfl (hs.sb 2)
  ·refine D0 43 true (W2 hp) (E0 (A0 (C0 (m0 1 [kB 4 false] (B0 (o0 (I0 ?_)))))));cases h;exact fun a w hs=>bkR (sqR (lsR rfl (rS hs)))
 ·refine D0 33 false (decide_eq_false hp) (F0 (WS.ex 0 ?_));cases h;exact fun a w hs=>sqE (lsB rfl (hs.sb 2))
theorem zbl {L:LC} {rec_ref04_known:AH→Int→Int→ByteArray→Sl3→Sl3→Sl3→Sl3→Option Bool} (hrec_ref04_known:∀(m:Nat) (H:AH) (a0_0 a0_1:Int) (a0_2:ByteArray) (a0_3 a1_0:Sl3) (a1_1 a1_2:Sl3) (r:Bool),rec_ref04_known H a0_0 a0_1 a0_2 a0_3 a1_0 a1_1 a1_2=some r→CallS Tryz.prog (NE.plain 1000) m 43 #[(vA #[(vI .i64 a0_0),(vI .i64 a0_1),(vS a0_2),(Sl3.v a0_3)]),(vA #[(Sl3.v a1_0),(Sl3.v a1_1),(Sl3.v a1_2)])] H (j8 r) (V8 H r)) {m:Nat} {H:AH} {a0_0 a0_1:Int} {a0_2:ByteArray} {a0_3 a1_0:Sl3} {a1_1 a1_2:Sl3} {r:Bool} (h:y9 L rec_ref04_known H a0_0 a0_1 a0_2 a0_3 a1_0 a1_1 a1_2=some r) :
  CallS Tryz.prog (NE.plain 1000) m 43 #[(vA #[(vI .i64 a0_0),(vI .i64 a0_1),(vS a0_2),(Sl3.v a0_3)]),(vA #[(Sl3.v a1_0),(Sl3.v a1_1),(Sl3.v a1_2)])] H (j8 r) (V8 H r):=by
 refine CallS.mk (args:=[(vA #[(vI .i64 a0_0),(vI .i64 a0_1),(vS a0_2),(Sl3.v a0_3)]),(vA #[(Sl3.v a1_0),(Sl3.v a1_1),(Sl3.v a1_2)])]) Tryz.func43 (B:=B43) (by kernel_rfl) (fun E _=>?_);unfold y9 at h;refine A0 (C0 (Q0 3 [kB 4 false,kL 3 1 0,kL 2 0 0] ([some (25,[(vI .i64 a0_0),(vI .i64 a0_1),(vS a0_2),(Sl3.v a0_3)]),some (30,[(Sl3.v a1_0),(Sl3.v a1_1),(Sl3.v a1_2)])]) (B0 (o0 (A0 ?_)))));obtain ⟨v28_1,hx,h⟩:=bind_some h;refine A0 ?_;refine A1 ([kB 28 v28_1,kL 2 0 0,kL 3 1 0]) ([some (25,[(vI .i64 a0_0),(vI .i64 a0_1),(vS a0_2),(Sl3.v a0_3)]),some (30,[(Sl3.v a1_0),(Sl3.v a1_1),(Sl3.v a1_2)])]) H ?_ (fun a w hs=>o0 ?_ a w hs)
 ·clear h; rename _=>h;refine C0 (m0 4 [kB 9 (decide (a0_0=5)),kB 8 (decide (a0_0=5)),kI 7 a0_0,kL 6 0 0] ?_);rcases Q1 h with ⟨hp,h⟩ | ⟨hp,h⟩
  ·refine K0 9 true (decide_eq_true hp) (m0 4 [kT 13 a0_2,kL 12 0 2,kS 11 a1_0,kL 10 1 0] ?_);obtain ⟨x2,hx,h⟩:=bind_some h;refine N0 (some 14) (v:=(vB x2)) 69 _ (zd6 hx) (m0 3 [kB 17 (!x2),kB 16 (!x2),kB 15 (!x2)] ?_);rcases Q1 h with ⟨hp,h⟩ | ⟨hp,h⟩
   ·refine K0 17 false (nb_not hp) (m0 4 [kB 21 (decide (a0_0=6)),kB 20 (decide (a0_0=6)),kI 19 a0_0,kL 18 0 0] ?_);rcases Q1 h with ⟨hp,h⟩ | ⟨hp,h⟩
    ·refine K0 21 true (decide_eq_true hp) (m0 3 [kT 24 a0_2,kL 23 0 2,kA 22 #[(Sl3.v a1_0),(Sl3.v a1_1),(Sl3.v a1_2)]] ?_);obtain ⟨x3,hx,h⟩:=bind_some h;refine N0 (some 25) (v:=(vI .i64 x3)) 46 _ (I8 hx) (m0 3 [kB 28 (decide (x3<0)),kB 27 (decide (x3<0)),kB 26 (decide (x3<0))] (B0 ?_));cases h;exact fun a w hs=>(jsN (hs.sb 2))
    ·refine K0 21 false (decide_eq_false hp) (m0 7 [kB 28 false,kB 27 false,kU 26,kU 25,kU 24,kU 23,kU 22] (B0 ?_));cases h;exact fun a w hs=>(jsN (hs.sb 2))
   ·refine K0 17 true (W2 hp) (m0 11 [kB 28 true,kU 27,kU 26,kU 25,kU 24,kU 23,kU 22,kU 21,kU 20,kU 19,kU 18] (B0 ?_));cases h;exact fun a w hs=>(jsN (hs.sb 2))
  ·refine K0 9 false (decide_eq_false hp) (m0 12 [kB 21 (decide (a0_0=6)),kB 20 (decide (a0_0=6)),kI 19 a0_0,kL 18 0 0,kB 17 false,kB 16 false,kU 15,kU 14,kU 13,kU 12,kU 11,kU 10] ?_);rcases Q1 h with ⟨hp,h⟩ | ⟨hp,h⟩
   ·refine K0 21 true (decide_eq_true hp) (m0 3 [kT 24 a0_2,kL 23 0 2,kA 22 #[(Sl3.v a1_0),(Sl3.v a1_1),(Sl3.v a1_2)]] ?_);obtain ⟨x4,hx,h⟩:=bind_some h;refine N0 (some 25) (v:=(vI .i64 x4)) 46 _ (I8 hx) (m0 3 [kB 28 (decide (x4<0)),kB 27 (decide (x4<0)),kB 26 (decide (x4<0))] (B0 ?_));cases h;exact fun a w hs=>(jsN (hs.sb 2))
   ·refine K0 21 false (decide_eq_false hp) (m0 7 [kB 28 false,kB 27 false,kU 26,kU 25,kU 24,kU 23,kU 22] (B0 ?_));cases h;exact fun a w hs=>(jsN (hs.sb 2))
 ·clear hx;rcases Q1 h with ⟨hp,h⟩ | ⟨hp,h⟩
  ·refine D0 28 true hp (E0 (A0 (C0 (m0 1 [kB 4 false] (B0 (o0 (I0 ?_)))))));cases h;exact fun a w hs=>sqR (rtR (rS hs))
  ·refine D0 28 false (b_not hp) (F0 (G0 (o0 (A0 (A0 (C0 (m0 1 [kI 5 0] (B0 (o0 ?_)))))))));refine J0 0 ?_;obtain ⟨o,hl,h⟩:=bind_some h;rcases o with v5_9 | r
   ·try dsimp only at h
    refine S0 (z5u (L:=L) (E:=E) (m:=m) (H:=H) hrec_ref04_known) (L.ok hl) 2 ?_;clear hl;refine fun a w hs=>bkE ((o0 ?_ a w hs));refine A0 (C0 (m0 1 [kB 4 true] (B0 (o0 (I0 ?_)))));cases h;exact fun a w hs=>rtR (rS hs)
   ·try dsimp only at h
    refine R0 (z5u (L:=L) (E:=E) (m:=m) (H:=H) hrec_ref04_known) (L.ok hl) 2 ?_;cases h;exact fun a w hq=>bkR (sqR (rtR hq))
theorem zck {L:LC}:∀n,(∀(m:Nat) (H:AH) (a0_0 a0_1:Int) (a0_2:ByteArray) (a0_3 a1_0:Sl3) (a1_1 a1_2:Sl3) (r:Bool),((R5 L n)) H a0_0 a0_1 a0_2 a0_3 a1_0 a1_1 a1_2=some r→CallS Tryz.prog (NE.plain 1000) m 43 #[(vA #[(vI .i64 a0_0),(vI .i64 a0_1),(vS a0_2),(Sl3.v a0_3)]),(vA #[(Sl3.v a1_0),(Sl3.v a1_1),(Sl3.v a1_2)])] H (j8 r) (V8 H r)):=by
 intro n;induction n with
 | zero=>exact (fun _ _ _ _ _ _ _ _ _ _ h=>(Option.some_ne_none _ h.symm).elim)
 | succ n ih=>exact (fun _ _ _ _ _ _ _ _ _ _ h=>zbl (L:=L) ih h)
theorem zgm {L:LC} {m:Nat} {H:AH} {a0_0 a0_1:Int} {a0_2:ByteArray} {a0_3 a1_0:Sl3} {a1_1 a1_2:Sl3} {r:Bool} (h:z8x L H a0_0 a0_1 a0_2 a0_3 a1_0 a1_1 a1_2=some r) :
  CallS Tryz.prog (NE.plain 1000) m 43 #[(vA #[(vI .i64 a0_0),(vI .i64 a0_1),(vS a0_2),(Sl3.v a0_3)]),(vA #[(Sl3.v a1_0),(Sl3.v a1_1),(Sl3.v a1_2)])] H (j8 r) (V8 H r) :=
 (zck _) _ _ _ _ _ _ _ _ _ _ h
def zfq:Int→Value
 | r0=>(vI .i64 r0)
def zhh (H:AH):Int→AH:=fun _=>H
noncomputable def B14:Code:=(Tryz.f14.body).getD .skip
noncomputable def z8 (L:LC) (H:AH) (a0_0 a0_1:Int) (a0_2:ByteArray) (a0_3 a1_0:Sl3) (a1_1 a1_2:Sl3):Option Int :=
 (z3x L H a0_0 a0_1 a0_2 a0_3).bind fun x1 => if x1=0 then
  (z8x L H a0_0 a0_1 a0_2 a0_3 a1_0 a1_1 a1_2).bind fun x2 => if x2=true then
   some 0
  else
   some 40
 else
  some x1
theorem z4m {L:LC} {m:Nat} {H:AH} {a0_0 a0_1:Int} {a0_2:ByteArray} {a0_3 a1_0:Sl3} {a1_1 a1_2:Sl3} {r:Int} (h:z8 L H a0_0 a0_1 a0_2 a0_3 a1_0 a1_1 a1_2=some r) :
  CallS Tryz.prog (NE.plain 1000) m 14 #[(vA #[(vI .i64 a0_0),(vI .i64 a0_1),(vS a0_2),(Sl3.v a0_3)]),(vA #[(Sl3.v a1_0),(Sl3.v a1_1),(Sl3.v a1_2)])] H (zfq r) (zhh H r):=by
 refine CallS.mk (args:=[(vA #[(vI .i64 a0_0),(vI .i64 a0_1),(vS a0_2),(Sl3.v a0_3)]),(vA #[(Sl3.v a1_0),(Sl3.v a1_1),(Sl3.v a1_2)])]) Tryz.func14 (B:=B14) (by kernel_rfl) (fun E _=>?_);unfold z8 at h;refine A0 (C0 (Q0 3 [kI 4 0,kL 3 1 0,kL 2 0 0] ([some (25,[(vI .i64 a0_0),(vI .i64 a0_1),(vS a0_2),(Sl3.v a0_3)]),some (30,[(Sl3.v a1_0),(Sl3.v a1_1),(Sl3.v a1_2)])]) (B0 (o0 (A0 (C0 (m0 1 [kA 6 #[(vI .i64 a0_0),(vI .i64 a0_1),(vS a0_2),(Sl3.v a0_3)]] ?_)))))));obtain ⟨x1,hx,h⟩:=bind_some h;refine N0 (some 7) (v:=(vI .i64 x1)) 42 _ (zie hx) (m0 1 [kI 5 x1] (B0 (o0 (A0 (A0 (C0 (m0 2 [kB 9 (!decide (x1=0)),kI 8 x1] (B0 (o0 ?_)))))))));rcases Q1 h with ⟨hp,h⟩ | ⟨hp,h⟩
 ·refine D0 9 false (e9 hp) (F0 (G0 (o0 (A0 (A0 (C0 (m0 2 [kA 12 #[(Sl3.v a1_0),(Sl3.v a1_1),(Sl3.v a1_2)],kA 11 #[(vI .i64 a0_0),(vI .i64 a0_1),(vS a0_2),(Sl3.v a0_3)]] ?_)))))));obtain ⟨x2,hx,h⟩:=bind_some h;refine N0 (some 13) (v:=(vB x2)) 43 _ (zgm hx) (m0 1 [kB 14 (!x2)] (B0 (o0 ?_)));rcases Q1 h with ⟨hp,h⟩ | ⟨hp,h⟩
  ·refine D0 14 false (nb_not hp) (F0 (G0 (o0 (A0 (C0 (m0 1 [kI 4 0] (B0 (o0 (I0 ?_)))))))));cases h;exact fun a w hs=>rtR (rS hs)
  ·refine D0 14 true (W2 hp) (E0 (A0 (C0 (m0 1 [kI 4 40] (B0 (o0 (I0 ?_)))))));cases h;exact fun a w hs=>sqR (rtR (rS hs))
 ·refine D0 9 true (N7 hp) (E0 (A0 (C0 (m0 2 [kI 4 x1,kI 10 x1] (B0 (o0 (I0 ?_)))))));cases h;exact fun a w hs=>sqR (rtR (rS hs))
def W8:Bool→Value
 | r0=>(vB r0)
def J9 (H:AH):Bool→AH:=fun _=>H
noncomputable def B37:Code:=(Tryz.f37.body).getD .skip
noncomputable def T3 (_L:LC) (H:AH) (_a0_0 _a0_1 _a0_2:Sl3) (_v4_2:Int) (_x4_0:ByteArray) (x4_1:Sl3):(Int×Int)→Option (Lp (Int×Int) Bool):=fun (v3_5,v6_6) =>
 if v6_6<(x4_1.n:Int) then
  (idxA 2 x4_1 v6_6).bind fun p7 => (rd deSl H (Addr.add p7 1)).bind fun x8 => some (.next ((IntKind.i64.wrap (v3_5+(x8.n:Int))),(IntKind.i64.wrap (v6_6+1))))
 else
  some (.brk (v3_5,v6_6))
def zf1 (_L:LC) (_H:AH) (a0_0 a0_1 a0_2:Sl3) (v4_2:Int) (x4_0:ByteArray) (x4_1:Sl3):(Int×Int)→KN×Lcs:=fun (v3_5,v6_6)=>([kI 3 v3_5,kI 6 v6_6,kL 1 0 0,kI 4 v4_2,kL 5 1 0],[some (30,[(Sl3.v a0_0),(Sl3.v a0_1),(Sl3.v a0_2)]),some (93,[(vS x4_0),(Sl3.v x4_1)])])
noncomputable def U3 (L:LC) (H:AH) (a0_0 a0_1 a0_2:Sl3):(Int×Int)→Option (Lp (Int×Int) Bool):=fun (v3_1,v4_2) =>
 if v4_2<(a0_1.n:Int) then
  (idxA 2 a0_1 v4_2).bind fun p3 => (rd deS H (Addr.add p3 0)).bind fun x4_0 => (rd deSl H (Addr.add p3 1)).bind fun x4_1 => Option.bind (L.run (T3 L H a0_0 a0_1 a0_2 v4_2 x4_0 x4_1) ((IntKind.i64.wrap (v3_1+(x4_1.n:Int))),0)) fun o=>match o with
  | .inl (v3_9,_) =>
   some (.next (v3_9,(IntKind.i64.wrap (v4_2+1))))
  | .inr r=>some (.ret r)
 else
  some (.brk (v3_1,v4_2))
def zfb (_L:LC) (_H:AH) (a0_0 a0_1 a0_2:Sl3):(Int×Int)→KN×Lcs:=fun (v3_1,v4_2)=>([kI 3 v3_1,kI 4 v4_2,kL 1 0 0],[some (30,[(Sl3.v a0_0),(Sl3.v a0_1),(Sl3.v a0_2)])])
noncomputable def C8 (_L:LC) (H:AH) (_a0_0 _a0_1 _a0_2:Sl3) (_v7_13:Int) (_x15_0:ByteArray) (x15_1:Sl3):Int→Option (Lp Int Bool):=fun v9_17 =>
 if v9_17<(x15_1.n:Int) then
  (idxA 2 x15_1 v9_17).bind fun p18 => (rd deSl H (Addr.add p18 1)).bind fun x19 => if (x19.n:Int) > 64 then
   some (.ret true)
  else
   some (.next (IntKind.i64.wrap (v9_17+1)))
 else
  some (.brk v9_17)
def zf8 (_L:LC) (_H:AH) (a0_0 a0_1 a0_2:Sl3) (v7_13:Int) (x15_0:ByteArray) (x15_1:Sl3):Int→KN×Lcs:=fun v9_17=>([kI 9 v9_17,kL 1 0 0,kI 7 v7_13,kL 8 1 0],[some (30,[(Sl3.v a0_0),(Sl3.v a0_1),(Sl3.v a0_2)]),some (93,[(vS x15_0),(Sl3.v x15_1)])])
noncomputable def D7 (L:LC) (H:AH) (a0_0 a0_1 a0_2:Sl3):Int→Option (Lp Int Bool):=fun v7_13 =>
 if v7_13<(a0_1.n:Int) then
  (idxA 2 a0_1 v7_13).bind fun p14 => (rd deS H (Addr.add p14 0)).bind fun x15_0 => (rd deSl H (Addr.add p14 1)).bind fun x15_1 => Option.bind (α:=Bool) (
   if (x15_1.n:Int)<1 then
    some true
   else
    some (decide ((x15_1.n:Int) > 64))) fun v78_16 =>
  if v78_16=true then
   some (.ret true)
  else
   (L.run (C8 L H a0_0 a0_1 a0_2 v7_13 x15_0 x15_1) 0).bind fun o=>match o with
   | .inl _ =>
    some (.next (IntKind.i64.wrap (v7_13+1)))
   | .inr r=>some (.ret r)
 else
  some (.brk v7_13)
def zf0 (_L:LC) (_H:AH) (a0_0 a0_1 a0_2:Sl3):Int→KN×Lcs:=fun v7_13=>([kI 7 v7_13,kL 1 0 0],[some (30,[(Sl3.v a0_0),(Sl3.v a0_1),(Sl3.v a0_2)])])
noncomputable def n7 (_L:LC) (H:AH) (_a0_0 _a0_1 a0_2:Sl3):Int→Option (Lp Int Bool):=fun v10_22 =>
 if v10_22<(a0_2.n:Int) then
  (idxA 6 a0_2 v10_22).bind fun p23 => (rd deSl H (Addr.add p23 1)).bind fun x24 => if (x24.n:Int) > 64 then
   some (.ret true)
  else
   some (.next (IntKind.i64.wrap (v10_22+1)))
 else
  some (.brk v10_22)
def zeu (_L:LC) (_H:AH) (a0_0 a0_1 a0_2:Sl3):Int→KN×Lcs:=fun v10_22=>([kI 10 v10_22,kL 1 0 0],[some (30,[(Sl3.v a0_0),(Sl3.v a0_1),(Sl3.v a0_2)])])
noncomputable def z3i (L:LC) (H:AH) (a0_0 a0_1 a0_2:Sl3):Option Bool :=
 Option.bind (L.run (U3 L H a0_0 a0_1 a0_2) ((IntKind.i64.wrap ((IntKind.i64.wrap ((a0_0.n:Int)+(a0_1.n:Int)))+(a0_2.n:Int))),0)) fun o=>match o with
 | .inl (v3_11,_) =>
  if v3_11 > 4096 then
   some true
  else
   (L.run (D7 L H a0_0 a0_1 a0_2) 0).bind fun o=>match o with
   | .inl _ =>
    (L.run (n7 L H a0_0 a0_1 a0_2) 0).bind fun o=>match o with
    | .inl _ =>
     some false
    | .inr r=>some r
   | .inr r=>some r
 | .inr r=>some r
theorem z7g {E m L H a0_0 a0_1 a0_2 v4_2 x4_0 x4_1} :LoopF Tryz.prog (NE.plain 1000) m E Tryz.f37 ((cfst (csnd (csnd (csnd (cfst (cfst (csnd (cfst (cfst (csnd (cfst (csnd (csnd B37)))))))))))))) (zf1 L H a0_0 a0_1 a0_2 v4_2 x4_0 x4_1) (fun _=>H) 2 W8 (J9 H) (T3 L H a0_0 a0_1 a0_2 v4_2 x4_0 x4_1):=by
 rintro ⟨v3_5,v6_6⟩ o h
 unfold T3 at h;try dsimp only at h
 refine A0 (A0 (C0 (m0 5 [kB 43 (decide (v6_6<(x4_1.n:Int))),kI 42 (x4_1.n:Int),kS 41 x4_1,kL 40 1 1,kI 39 v6_6] (B0 (o0 ?_)))));rcases Q1 h with ⟨hp,h⟩ | ⟨hp,h⟩
 ·refine D0 43 true (decide_eq_true hp) (E0 (G0 (o0 (A0 (J0 3 (C0 (m0 4 [kI 49 v6_6,kS 48 x4_1,kL 47 1 1,kI 46 v3_5] ?_)))))));obtain ⟨p7,hx,h⟩:=bind_some h;refine O0 50 91 103 (.tmp 48) (.tmp 49) hx (m0 1 [(51,.val (vP (some (Addr.add p7 1))))] ?_);obtain ⟨x8,hx,h⟩:=bind_some h;refine T0 52 101 (.tmp 51) (O1 hx R1) (m0 3 [kI 3 (IntKind.i64.wrap (v3_5+(x8.n:Int))),kI 54 (IntKind.i64.wrap (v3_5+(x8.n:Int))),kI 53 (x8.n:Int)] (B0 ?_));refine fun a w hs=>bkN ((o0 ?_ a w hs));refine C0 (m0 3 [kI 6 (IntKind.i64.wrap (v6_6+1)),kI 45 (IntKind.i64.wrap (v6_6+1)),kI 44 v6_6] (B0 ?_));cases h;exact fun a w hs=>lsN rfl (hs.sb 2)
 ·refine D0 43 false (decide_eq_false hp) (F0 (WS.ex 2 ?_));cases h;exact fun a w hs=>sqE (lsB rfl (hs.sb 2))
theorem z77 {E m L H a0_0 a0_1 a0_2} :LoopF Tryz.prog (NE.plain 1000) m E Tryz.f37 ((cfst (csnd (cfst (csnd (csnd B37)))))) (zfb L H a0_0 a0_1 a0_2) (fun _=>H) 0 W8 (J9 H) (U3 L H a0_0 a0_1 a0_2):=by
 rintro ⟨v3_1,v4_2⟩ o h
 unfold U3 at h;try dsimp only at h
 refine A0 (A0 (C0 (m0 5 [kB 26 (decide (v4_2<(a0_1.n:Int))),kI 25 (a0_1.n:Int),kS 24 a0_1,kL 23 0 1,kI 22 v4_2] (B0 (o0 ?_)))));rcases Q1 h with ⟨hp,h⟩ | ⟨hp,h⟩
 ·refine D0 26 true (decide_eq_true hp) (E0 (G0 (o0 (A0 (J0 1 (A0 (C0 (m0 3 [kI 31 v4_2,kS 30 a0_1,kL 29 0 1] ?_))))))));obtain ⟨p3,hx,h⟩:=bind_some h;refine O0 32 27 93 (.tmp 30) (.tmp 31) hx ?_;obtain ⟨x4_0,hx0,h⟩:=bind_some h;obtain ⟨x4_1,hx1,h⟩:=bind_some h;refine RS.la 33 93 (.tmp 32) 2 (P1 (O1 hx0 T1) (P1 (O1 hx1 R1) U1)) (Q0 2 [kL 5 1 0] ([some (30,[(Sl3.v a0_0),(Sl3.v a0_1),(Sl3.v a0_2)]),some (93,[(vS x4_0),(Sl3.v x4_1)])]) (B0 (o0 (A0 (C0 (m0 6 [kI 3 (IntKind.i64.wrap (v3_1+(x4_1.n:Int))),kI 38 (IntKind.i64.wrap (v3_1+(x4_1.n:Int))),kI 37 (x4_1.n:Int),kS 36 x4_1,kL 35 1 1,kI 34 v3_1] (B0 (o0 (A0 ?_)))))))));refine C0 (m0 1 [kI 6 0] (B0 (o0 (J0 2 ?_))));obtain ⟨o,hl,h⟩:=bind_some h;rcases o with ⟨v3_9,v6_10⟩ | r
  ·try dsimp only at h
   refine S0 (z7g (L:=L) (E:=E) (m:=m) (H:=H)) (L.ok hl) 2 ?_;clear hl;refine fun a w hs=>bkE (bkN ((o0 ?_ a w hs)));refine C0 (m0 3 [kI 4 (IntKind.i64.wrap (v4_2+1)),kI 28 (IntKind.i64.wrap (v4_2+1)),kI 27 v4_2] (B0 ?_));cases h;exact fun a w hs=>lsN rfl (hs.sb 1)
  ·try dsimp only at h
   refine R0 (z7g (L:=L) (E:=E) (m:=m) (H:=H)) (L.ok hl) 2 ?_;cases h;exact fun a w hq=>bkR (bkR (sqR (lsR rfl hq)))
 ·refine D0 26 false (decide_eq_false hp) (F0 (WS.ex 0 ?_));cases h;exact fun a w hs=>sqE (lsB rfl (hs.sb 1))
theorem z6o {E m L H a0_0 a0_1 a0_2 v7_13 x15_0 x15_1} :LoopF Tryz.prog (NE.plain 1000) m E Tryz.f37 ((cfst (csnd (csnd (csnd (cfst (cfst (csnd (cfst (cfst (csnd (cfst (csnd (csnd (csnd (csnd B37)))))))))))))))) (zf8 L H a0_0 a0_1 a0_2 v7_13 x15_0 x15_1) (fun _=>H) 6 W8 (J9 H) (C8 L H a0_0 a0_1 a0_2 v7_13 x15_0 x15_1):=by
 rintro v9_17 o h
 unfold C8 at h;try dsimp only at h
 refine A0 (A0 (C0 (m0 5 [kB 83 (decide (v9_17<(x15_1.n:Int))),kI 82 (x15_1.n:Int),kS 81 x15_1,kL 80 1 1,kI 79 v9_17] (B0 (o0 ?_)))));rcases Q1 h with ⟨hp,h⟩ | ⟨hp,h⟩
 ·refine D0 83 true (decide_eq_true hp) (E0 (G0 (o0 (A0 (J0 7 (A0 (C0 (m0 3 [kI 88 v9_17,kS 87 x15_1,kL 86 1 1] ?_))))))));obtain ⟨p18,hx,h⟩:=bind_some h;refine O0 89 91 103 (.tmp 87) (.tmp 88) hx (m0 1 [(90,.val (vP (some (Addr.add p18 1))))] ?_);obtain ⟨x19,hx,h⟩:=bind_some h;refine T0 91 101 (.tmp 90) (O1 hx R1) (m0 2 [kB 93 (decide ((x19.n:Int) > 64)),kI 92 (x19.n:Int)] (B0 (o0 ?_)));rcases Q1 h with ⟨hp,h⟩ | ⟨hp,h⟩
  ·refine D0 93 true (decide_eq_true hp) (E0 (A0 (C0 (m0 1 [kB 2 true] (B0 (o0 (I0 ?_)))))));cases h;exact fun a w hs=>bkR (sqR (lsR rfl (rS hs)))
  ·refine D0 93 false (decide_eq_false hp) (F0 (G0 ?_));refine fun a w hs=>bkN ((o0 ?_ a w hs));refine C0 (m0 3 [kI 9 (IntKind.i64.wrap (v9_17+1)),kI 85 (IntKind.i64.wrap (v9_17+1)),kI 84 v9_17] (B0 ?_));cases h;exact fun a w hs=>lsN rfl (hs.sb 2)
 ·refine D0 83 false (decide_eq_false hp) (F0 (WS.ex 6 ?_));cases h;exact fun a w hs=>sqE (lsB rfl (hs.sb 2))
theorem z6i {E m L H a0_0 a0_1 a0_2} :LoopF Tryz.prog (NE.plain 1000) m E Tryz.f37 ((cfst (csnd (cfst (csnd (csnd (csnd (csnd B37)))))))) (zf0 L H a0_0 a0_1 a0_2) (fun _=>H) 4 W8 (J9 H) (D7 L H a0_0 a0_1 a0_2):=by
 rintro v7_13 o h
 unfold D7 at h;try dsimp only at h
 refine A0 (A0 (C0 (m0 5 [kB 61 (decide (v7_13<(a0_1.n:Int))),kI 60 (a0_1.n:Int),kS 59 a0_1,kL 58 0 1,kI 57 v7_13] (B0 (o0 ?_)))));rcases Q1 h with ⟨hp,h⟩ | ⟨hp,h⟩
 ·refine D0 61 true (decide_eq_true hp) (E0 (G0 (o0 (A0 (J0 5 (A0 (C0 (m0 3 [kI 66 v7_13,kS 65 a0_1,kL 64 0 1] ?_))))))));obtain ⟨p14,hx,h⟩:=bind_some h;refine O0 67 27 93 (.tmp 65) (.tmp 66) hx ?_;obtain ⟨x15_0,hx0,h⟩:=bind_some h;obtain ⟨x15_1,hx1,h⟩:=bind_some h;refine RS.la 68 93 (.tmp 67) 2 (P1 (O1 hx0 T1) (P1 (O1 hx1 R1) U1)) (Q0 2 [kL 8 1 0] ([some (30,[(Sl3.v a0_0),(Sl3.v a0_1),(Sl3.v a0_2)]),some (93,[(vS x15_0),(Sl3.v x15_1)])]) (B0 (o0 (A0 ?_))));obtain ⟨v78_16,hx,h⟩:=bind_some h;refine A0 ?_;refine A1 ([kB 78 v78_16,kL 1 0 0,kI 7 v7_13,kL 8 1 0]) ([some (30,[(Sl3.v a0_0),(Sl3.v a0_1),(Sl3.v a0_2)]),some (93,[(vS x15_0),(Sl3.v x15_1)])]) H ?_ (fun a w hs=>o0 ?_ a w hs)
  ·clear h; rename _=>h;refine C0 (m0 5 [kB 73 (decide ((x15_1.n:Int)<1)),kB 72 (decide ((x15_1.n:Int)<1)),kI 71 (x15_1.n:Int),kS 70 x15_1,kL 69 1 1] ?_);rcases Q1 h with ⟨hp,h⟩ | ⟨hp,h⟩
   ·refine K0 73 true (decide_eq_true hp) (m0 5 [kB 78 true,kU 77,kU 76,kU 75,kU 74] (B0 ?_));cases h;exact fun a w hs=>(jsN (hs.sb 2))
   ·refine K0 73 false (decide_eq_false hp) (m0 5 [kB 78 (decide ((x15_1.n:Int) > 64)),kB 77 (decide ((x15_1.n:Int) > 64)),kI 76 (x15_1.n:Int),kS 75 x15_1,kL 74 1 1] (B0 ?_));cases h;exact fun a w hs=>(jsN (hs.sb 2))
  ·clear hx;rcases Q1 h with ⟨hp,h⟩ | ⟨hp,h⟩
   ·refine D0 78 true hp (E0 (A0 (C0 (m0 1 [kB 2 true] (B0 (o0 (I0 ?_)))))));cases h;exact fun a w hs=>sqR (bkR (sqR (lsR rfl (rS hs))))
   ·refine D0 78 false (b_not hp) (F0 (G0 (o0 (A0 (C0 (m0 1 [kI 9 0] (B0 (o0 (J0 6 ?_)))))))));obtain ⟨o,hl,h⟩:=bind_some h;rcases o with v9_20 | r
    ·try dsimp only at h
     refine S0 (z6o (L:=L) (E:=E) (m:=m) (H:=H)) (L.ok hl) 2 ?_;clear hl;refine fun a w hs=>bkE (bkN ((o0 ?_ a w hs)));refine C0 (m0 3 [kI 7 (IntKind.i64.wrap (v7_13+1)),kI 63 (IntKind.i64.wrap (v7_13+1)),kI 62 v7_13] (B0 ?_));cases h;exact fun a w hs=>lsN rfl (hs.sb 1)
    ·try dsimp only at h
     refine R0 (z6o (L:=L) (E:=E) (m:=m) (H:=H)) (L.ok hl) 2 ?_;cases h;exact fun a w hq=>bkR (bkR (sqR (lsR rfl hq)))
 ·refine D0 61 false (decide_eq_false hp) (F0 (WS.ex 4 ?_));cases h;exact fun a w hs=>sqE (lsB rfl (hs.sb 1))
theorem z78 {E m L H a0_0 a0_1 a0_2} :LoopF Tryz.prog (NE.plain 1000) m E Tryz.f37 ((cfst (csnd (cfst (csnd (csnd (csnd (csnd (csnd B37))))))))) (zeu L H a0_0 a0_1 a0_2) (fun _=>H) 8 W8 (J9 H) (n7 L H a0_0 a0_1 a0_2):=by
 rintro v10_22 o h
 unfold n7 at h;try dsimp only at h
 refine A0 (A0 (C0 (m0 5 [kB 98 (decide (v10_22<(a0_2.n:Int))),kI 97 (a0_2.n:Int),kS 96 a0_2,kL 95 0 2,kI 94 v10_22] (B0 (o0 ?_)))));rcases Q1 h with ⟨hp,h⟩ | ⟨hp,h⟩
 ·refine D0 98 true (decide_eq_true hp) (E0 (G0 (o0 (A0 (J0 9 (A0 (C0 (m0 3 [kI 103 v10_22,kS 102 a0_2,kL 101 0 2] ?_))))))));obtain ⟨p23,hx,h⟩:=bind_some h;refine O0 104 28 108 (.tmp 102) (.tmp 103) hx (m0 1 [(105,.val (vP (some (Addr.add p23 1))))] ?_);obtain ⟨x24,hx,h⟩:=bind_some h;refine T0 106 23 (.tmp 105) (O1 hx R1) (m0 2 [kB 108 (decide ((x24.n:Int) > 64)),kI 107 (x24.n:Int)] (B0 (o0 ?_)));rcases Q1 h with ⟨hp,h⟩ | ⟨hp,h⟩
  ·refine D0 108 true (decide_eq_true hp) (E0 (A0 (C0 (m0 1 [kB 2 true] (B0 (o0 (I0 ?_)))))));cases h;exact fun a w hs=>bkR (sqR (lsR rfl (rS hs)))
  ·refine D0 108 false (decide_eq_false hp) (F0 (G0 ?_));refine fun a w hs=>bkN ((o0 ?_ a w hs));refine C0 (m0 3 [kI 10 (IntKind.i64.wrap (v10_22+1)),kI 100 (IntKind.i64.wrap (v10_22+1)),kI 99 v10_22] (B0 ?_));cases h;exact fun a w hs=>lsN rfl (hs.sb 1)
 ·refine D0 98 false (decide_eq_false hp) (F0 (WS.ex 8 ?_));cases h;exact fun a w hs=>sqE (lsB rfl (hs.sb 1))
theorem zi9 {L:LC} {m:Nat} {H:AH} {a0_0 a0_1 a0_2:Sl3} {r:Bool} (h:z3i L H a0_0 a0_1 a0_2=some r) :
  CallS Tryz.prog (NE.plain 1000) m 37 #[(vA #[(Sl3.v a0_0),(Sl3.v a0_1),(Sl3.v a0_2)])] H (W8 r) (J9 H r):=by
 refine CallS.mk (args:=[(vA #[(Sl3.v a0_0),(Sl3.v a0_1),(Sl3.v a0_2)])]) Tryz.func37 (B:=B37) (by kernel_rfl) (fun E _=>?_);unfold z3i at h;refine A0 (C0 (Q0 2 [kB 2 false,kL 1 0 0] ([some (30,[(Sl3.v a0_0),(Sl3.v a0_1),(Sl3.v a0_2)])]) (B0 (o0 (A0 (C0 (m0 12 [kI 3 (IntKind.i64.wrap ((IntKind.i64.wrap ((a0_0.n:Int)+(a0_1.n:Int)))+(a0_2.n:Int))),kI 21 (IntKind.i64.wrap ((IntKind.i64.wrap ((a0_0.n:Int)+(a0_1.n:Int)))+(a0_2.n:Int))),kI 20 (a0_2.n:Int),kS 19 a0_2,kL 18 0 2,kI 17 (IntKind.i64.wrap ((a0_0.n:Int)+(a0_1.n:Int))),kI 16 (a0_1.n:Int),kS 15 a0_1,kL 14 0 1,kI 13 (a0_0.n:Int),kS 12 a0_0,kL 11 0 0] (B0 (o0 ?_)))))))));refine A0 (A0 (C0 (m0 1 [kI 4 0] (B0 (o0 (J0 0 ?_))))));obtain ⟨o,hl,h⟩:=bind_some h;rcases o with ⟨v3_11,v4_12⟩ | r
 ·try dsimp only at h
  refine S0 (z77 (L:=L) (E:=E) (m:=m) (H:=H)) (L.ok hl) 1 ?_;clear hl;refine fun a w hs=>bkE ((o0 ?_ a w hs));refine A0 (A0 (C0 (m0 2 [kB 56 (decide (v3_11 > 4096)),kI 55 v3_11] (B0 (o0 ?_)))));rcases Q1 h with ⟨hp,h⟩ | ⟨hp,h⟩
  ·refine D0 56 true (decide_eq_true hp) (E0 (A0 (C0 (m0 1 [kB 2 true] (B0 (o0 (I0 ?_)))))));cases h;exact fun a w hs=>sqR (rtR (rS hs))
  ·refine D0 56 false (decide_eq_false hp) (F0 (G0 (o0 (A0 (A0 (C0 (m0 1 [kI 7 0] (B0 (o0 ?_)))))))));refine J0 4 ?_;obtain ⟨o,hl,h⟩:=bind_some h;rcases o with v7_21 | r
   ·try dsimp only at h
    refine S0 (z6i (L:=L) (E:=E) (m:=m) (H:=H)) (L.ok hl) 1 ?_;clear hl;refine fun a w hs=>bkE ((o0 ?_ a w hs));refine A0 (A0 (C0 (m0 1 [kI 10 0] (B0 (o0 (J0 8 ?_))))));obtain ⟨o,hl,h⟩:=bind_some h;rcases o with v10_25 | r
    ·try dsimp only at h
     refine S0 (z78 (L:=L) (E:=E) (m:=m) (H:=H)) (L.ok hl) 1 ?_;clear hl;refine fun a w hs=>bkE ((o0 ?_ a w hs));refine A0 (C0 (m0 1 [kB 2 false] (B0 (o0 (I0 ?_)))));cases h;exact fun a w hs=>rtR (rS hs)
    ·try dsimp only at h
     refine R0 (z78 (L:=L) (E:=E) (m:=m) (H:=H)) (L.ok hl) 1 ?_;cases h;exact fun a w hq=>bkR (sqR (rtR hq))
   ·try dsimp only at h
    refine R0 (z6i (L:=L) (E:=E) (m:=m) (H:=H)) (L.ok hl) 1 ?_;cases h;exact fun a w hq=>bkR (sqR (rtR hq))
 ·try dsimp only at h
  refine R0 (z77 (L:=L) (E:=E) (m:=m) (H:=H)) (L.ok hl) 1 ?_;cases h;exact fun a w hq=>bkR (sqR (rtR hq))
def z4a:(Sl3×AH)→Value
 | (r0,_)=>(Sl3.v r0)
def z4y (_:AH):(Sl3×AH)→AH:=fun r=>r.2
noncomputable def B59:Code:=(Tryz.f59.body).getD .skip
noncomputable def F4 (_L:LC) (m:Nat) (_a0_0 a0_1 _a0_2:Sl3):(AH×Sl3×Int)→Option (Lp (AH×Sl3×Int) (Sl3×AH)):=fun (H5,v3_6,v4_7) =>
 if v4_7<(a0_1.n:Int) then
  (idxA 2 a0_1 v4_7).bind fun p8 => (rd deS H5 (Addr.add p8 0)).bind fun x9 => (newR 9 1 #[(vS x9)] H5).bind fun (s10,H11) => (appS m 9 1 16 H11 v3_6 s10).bind fun (s12,H13) => some (.next (H13,s12,(IntKind.i64.wrap (v4_7+1))))
 else
  some (.brk (H5,v3_6,v4_7))
def z9a (_L:LC) (_m:Nat) (a0_0 a0_1 a0_2:Sl3):(AH×Sl3×Int)→KN×Lcs:=fun (_,v3_6,v4_7)=>([kS 3 v3_6,kI 4 v4_7,kL 1 0 0],[some (30,[(Sl3.v a0_0),(Sl3.v a0_1),(Sl3.v a0_2)])])
noncomputable def U9 (L:LC) (m:Nat) (H:AH) (a0_0 a0_1 a0_2:Sl3):Option (Sl3×AH) :=
 (newR 9 0 #[] H).bind fun (s1,H2) => (appS m 9 1 16 H2 s1 a0_0).bind fun (s3,H4) => (L.run (F4 L m a0_0 a0_1 a0_2) (H4,s3,0)).bind fun o=>match o with
 | .inl (H14,v3_15,_) =>
  some (v3_15,H14)
 | .inr r=>some r
theorem z37 {E H L m a0_0 a0_1 a0_2} :LoopF Tryz.prog (NE.plain 1000) m E Tryz.f59 ((cfst (csnd (cfst (csnd (csnd B59)))))) (z9a L m a0_0 a0_1 a0_2) (fun s=>s.1) 0 z4a (z4y H) (F4 L m a0_0 a0_1 a0_2):=by
 rintro ⟨H5,v3_6,v4_7⟩ o h
 unfold F4 at h;try dsimp only at h
 refine A0 (A0 (C0 (m0 5 [kB 13 (decide (v4_7<(a0_1.n:Int))),kI 12 (a0_1.n:Int),kS 11 a0_1,kL 10 0 1,kI 9 v4_7] (B0 (o0 ?_)))));rcases Q1 h with ⟨hp,h⟩ | ⟨hp,h⟩
 ·refine D0 13 true (decide_eq_true hp) (E0 (G0 (o0 (A0 (J0 1 (C0 (m0 4 [kI 19 v4_7,kS 18 a0_1,kL 17 0 1,kS 16 v3_6] ?_)))))));obtain ⟨p8,hx,h⟩:=bind_some h;refine O0 20 27 93 (.tmp 18) (.tmp 19) hx (m0 1 [(21,.val (vP (some (Addr.add p8 0))))] ?_);obtain ⟨x9,hx,h⟩:=bind_some h;refine T0 22 9 (.tmp 21) (O1 hx T1) ?_;obtain ⟨⟨s10,H11⟩,hx,h⟩:=bind_some h;try dsimp only at h
  refine P0 (H':=H11) (some 23) (Sl3.v s10) (Abs.run_newR (by kernel_rfl) (by kernel_rfl) hx) ?_;obtain ⟨⟨s12,H13⟩,hx,h⟩:=bind_some h;try dsimp only at h
  refine P0 (H':=H13) (some 24) (Sl3.v s12) (Abs.run_app (x:=.tmp 16) (y:=.tmp 23) (ts:=#[26,26]) (s:=v3_6) (z:=s10) (by kernel_rfl) (by kernel_rfl) (by kernel_rfl) (by kernel_rfl) hx) (m0 1 [kS 3 s12] (B0 ?_));refine fun a w hs=>bkN ((o0 ?_ a w hs));refine C0 (m0 3 [kI 4 (IntKind.i64.wrap (v4_7+1)),kI 15 (IntKind.i64.wrap (v4_7+1)),kI 14 v4_7] (B0 ?_));cases h;exact fun a w hs=>lsN rfl (hs.sb 1)
 ·refine D0 13 false (decide_eq_false hp) (F0 (WS.ex 0 ?_));cases h;exact fun a w hs=>sqE (lsB rfl (hs.sb 1))
theorem zcz {L:LC} {m:Nat} {H:AH} {a0_0 a0_1 a0_2:Sl3} {r:(Sl3×AH)} (h:U9 L m H a0_0 a0_1 a0_2=some r) :
  CallS Tryz.prog (NE.plain 1000) m 59 #[(vA #[(Sl3.v a0_0),(Sl3.v a0_1),(Sl3.v a0_2)])] H (z4a r) (z4y H r):=by
 refine CallS.mk (args:=[(vA #[(Sl3.v a0_0),(Sl3.v a0_1),(Sl3.v a0_2)])]) Tryz.func59 (B:=B59) (by kernel_rfl) (fun E _=>?_);unfold U9 at h;refine A0 (C0 (Q0 2 [kS 2 Sl3.nil,kL 1 0 0] ([some (30,[(Sl3.v a0_0),(Sl3.v a0_1),(Sl3.v a0_2)])]) (B0 (o0 (A0 (C0 ?_))))));obtain ⟨⟨s1,H2⟩,hx,h⟩:=bind_some h;try dsimp only at h
 refine P0 (H':=H2) (some 5) (Sl3.v s1) (Abs.run_newR (by kernel_rfl) (by kernel_rfl) hx) (m0 2 [kS 7 a0_0,kL 6 0 0] ?_);obtain ⟨⟨s3,H4⟩,hx,h⟩:=bind_some h;try dsimp only at h
 refine P0 (H':=H4) (some 8) (Sl3.v s3) (Abs.run_app (x:=.tmp 5) (y:=.tmp 7) (ts:=#[26,26]) (s:=s1) (z:=a0_0) (by kernel_rfl) (by kernel_rfl) (by kernel_rfl) (by kernel_rfl) hx) (m0 1 [kS 3 s3] (B0 (o0 (A0 (A0 (C0 (m0 1 [kI 4 0] (B0 (o0 ?_)))))))));refine J0 0 ?_;obtain ⟨o,hl,h⟩:=bind_some h;rcases o with ⟨H14,v3_15,v4_16⟩ | r
 ·try dsimp only at h
  refine S0 (z37 (L:=L) (E:=E) (m:=m) (H:=H)) (L.ok hl) 1 ?_;clear hl;refine fun a w hs=>bkE ((o0 ?_ a w hs));refine A0 (C0 (m0 2 [kS 2 v3_15,kS 25 v3_15] (B0 (o0 (I0 ?_)))));cases h;exact fun a w hs=>rtR (rS hs)
 ·try dsimp only at h
  refine R0 (z37 (L:=L) (E:=E) (m:=m) (H:=H)) (L.ok hl) 1 ?_;cases h;exact fun a w hq=>bkR (sqR (rtR hq))
def V7:(Sl3×AH)→Value
 | (r0,_)=>(Sl3.v r0)
def N8 (_:AH):(Sl3×AH)→AH:=fun r=>r.2
noncomputable def B60:Code:=(Tryz.f60.body).getD .skip
noncomputable def P4 (_L:LC) (m:Nat) (_a0_0 _a0_1 _a0_2:Sl3) (_v4_3 _v5_6:Int) (_x12_0:ByteArray) (x12_1:Sl3):(AH×Sl3×Int)→Option (Lp (AH×Sl3×Int) (Sl3×AH)):=fun (H17,v3_18,v7_19) =>
 if v7_19<(x12_1.n:Int) then
  (idxA 5 x12_1 v7_19).bind fun p20 => (rd deS H17 (Addr.add p20 0)).bind fun x21 => (newR 9 1 #[(vS x21)] H17).bind fun (s22,H23) => (appS m 9 1 16 H23 v3_18 s22).bind fun (s24,H25) => some (.next (H25,s24,(IntKind.i64.wrap (v7_19+1))))
 else
  some (.brk (H17,v3_18,v7_19))
def zac (_L:LC) (_m:Nat) (a0_0 a0_1 a0_2:Sl3) (v4_3 v5_6:Int) (x12_0:ByteArray) (x12_1:Sl3):(AH×Sl3×Int)→KN×Lcs:=fun (_,v3_18,v7_19)=>([kS 3 v3_18,kI 7 v7_19,kL 1 0 0,kI 4 v4_3,kI 5 v5_6,kL 6 1 0],[some (30,[(Sl3.v a0_0),(Sl3.v a0_1),(Sl3.v a0_2)]),some (103,[(vS x12_0),(Sl3.v x12_1)])])
noncomputable def S4 (L:LC) (m:Nat) (a0_0 a0_1 a0_2:Sl3) (v4_3:Int):(AH×Sl3×Int)→Option (Lp (AH×Sl3×Int) (Sl3×AH)):=fun (H4,v3_5,v5_6) =>
 (idxA 2 a0_1 v4_3).bind fun p7 => (rd deSl H4 (Addr.add p7 1)).bind fun x8 => if v5_6<(x8.n:Int) then
  (idxA 2 a0_1 v4_3).bind fun p9 => (rd deSl H4 (Addr.add p9 1)).bind fun x10 => (idxA 2 x10 v5_6).bind fun p11 => (rd deS H4 (Addr.add p11 0)).bind fun x12_0 => (rd deSl H4 (Addr.add p11 1)).bind fun x12_1 => (newR 9 1 #[(vS x12_0)] H4).bind fun (s13,H14) => (appS m 9 1 16 H14 v3_5 s13).bind fun (s15,H16) => (L.run (P4 L m a0_0 a0_1 a0_2 v4_3 v5_6 x12_0 x12_1) (H16,s15,0)).bind fun o=>match o with
  | .inl (H26,v3_27,_) =>
   some (.next (H26,v3_27,(IntKind.i64.wrap (v5_6+1))))
  | .inr r=>some (.ret r)
 else
  some (.brk (H4,v3_5,v5_6))
def zad (_L:LC) (_m:Nat) (a0_0 a0_1 a0_2:Sl3) (v4_3:Int):(AH×Sl3×Int)→KN×Lcs:=fun (_,v3_5,v5_6)=>([kS 3 v3_5,kI 5 v5_6,kL 1 0 0,kI 4 v4_3],[some (30,[(Sl3.v a0_0),(Sl3.v a0_1),(Sl3.v a0_2)])])
noncomputable def U4 (L:LC) (m:Nat) (a0_0 a0_1 a0_2:Sl3):(AH×Sl3×Int)→Option (Lp (AH×Sl3×Int) (Sl3×AH)):=fun (H1,v3_2,v4_3) =>
 if v4_3<(a0_1.n:Int) then
  (L.run (S4 L m a0_0 a0_1 a0_2 v4_3) (H1,v3_2,0)).bind fun o=>match o with
  | .inl (H29,v3_30,_) =>
   some (.next (H29,v3_30,(IntKind.i64.wrap (v4_3+1))))
  | .inr r=>some (.ret r)
 else
  some (.brk (H1,v3_2,v4_3))
def za8 (_L:LC) (_m:Nat) (a0_0 a0_1 a0_2:Sl3):(AH×Sl3×Int)→KN×Lcs:=fun (_,v3_2,v4_3)=>([kS 3 v3_2,kI 4 v4_3,kL 1 0 0],[some (30,[(Sl3.v a0_0),(Sl3.v a0_1),(Sl3.v a0_2)])])
noncomputable def Q4 (_L:LC) (m:Nat) (_a0_0 _a0_1 a0_2:Sl3):(AH×Sl3×Int)→Option (Lp (AH×Sl3×Int) (Sl3×AH)):=fun (H35,v3_36,v8_37) =>
 if v8_37<(a0_2.n:Int) then
  (idxA 6 a0_2 v8_37).bind fun p38 => (rd deS H35 (Addr.add p38 0)).bind fun x39 => (newR 9 1 #[(vS x39)] H35).bind fun (s40,H41) => (appS m 9 1 16 H41 v3_36 s40).bind fun (s42,H43) => some (.next (H43,s42,(IntKind.i64.wrap (v8_37+1))))
 else
  some (.brk (H35,v3_36,v8_37))
def zas (_L:LC) (_m:Nat) (a0_0 a0_1 a0_2:Sl3):(AH×Sl3×Int)→KN×Lcs:=fun (_,v3_36,v8_37)=>([kS 3 v3_36,kI 8 v8_37,kL 1 0 0],[some (30,[(Sl3.v a0_0),(Sl3.v a0_1),(Sl3.v a0_2)])])
noncomputable def zh (L:LC) (m:Nat) (H:AH) (a0_0 a0_1 a0_2:Sl3):Option (Sl3×AH) :=
 (L.run (U4 L m a0_0 a0_1 a0_2) (H,Sl3.nil,0)).bind fun o=>match o with
 | .inl (H32,v3_33,_) =>
  (L.run (Q4 L m a0_0 a0_1 a0_2) (H32,v3_33,0)).bind fun o=>match o with
  | .inl (H44,v3_45,_) =>
   some (v3_45,H44)
  | .inr r=>some r
 | .inr r=>some r
theorem z40 {E H L m a0_0 a0_1 a0_2 v4_3 v5_6 x12_0 x12_1} :LoopF Tryz.prog (NE.plain 1000) m E Tryz.f60 ((cfst (csnd (csnd (csnd (cfst (cfst (csnd (cfst (cfst (csnd (cfst (cfst (csnd (cfst (cfst (csnd (cfst (csnd (csnd B60)))))))))))))))))))) (zac L m a0_0 a0_1 a0_2 v4_3 v5_6 x12_0 x12_1) (fun s=>s.1) 4 V7 (N8 H) (P4 L m a0_0 a0_1 a0_2 v4_3 v5_6 x12_0 x12_1):=by
 rintro ⟨H17,v3_18,v7_19⟩ o h
 unfold P4 at h;try dsimp only at h
 refine A0 (A0 (C0 (m0 5 [kB 45 (decide (v7_19<(x12_1.n:Int))),kI 44 (x12_1.n:Int),kS 43 x12_1,kL 42 1 1,kI 41 v7_19] (B0 (o0 ?_)))));rcases Q1 h with ⟨hp,h⟩ | ⟨hp,h⟩
 ·refine D0 45 true (decide_eq_true hp) (E0 (G0 (o0 (A0 (J0 5 (C0 (m0 4 [kI 51 v7_19,kS 50 x12_1,kL 49 1 1,kS 48 v3_18] ?_)))))));obtain ⟨p20,hx,h⟩:=bind_some h;refine O0 52 101 105 (.tmp 50) (.tmp 51) hx (m0 1 [(53,.val (vP (some (Addr.add p20 0))))] ?_);obtain ⟨x21,hx,h⟩:=bind_some h;refine T0 54 9 (.tmp 53) (O1 hx T1) ?_;obtain ⟨⟨s22,H23⟩,hx,h⟩:=bind_some h;try dsimp only at h
  refine P0 (H':=H23) (some 55) (Sl3.v s22) (Abs.run_newR (by kernel_rfl) (by kernel_rfl) hx) ?_;obtain ⟨⟨s24,H25⟩,hx,h⟩:=bind_some h;try dsimp only at h
  refine P0 (H':=H25) (some 56) (Sl3.v s24) (Abs.run_app (x:=.tmp 48) (y:=.tmp 55) (ts:=#[26,26]) (s:=v3_18) (z:=s22) (by kernel_rfl) (by kernel_rfl) (by kernel_rfl) (by kernel_rfl) hx) (m0 1 [kS 3 s24] (B0 ?_));refine fun a w hs=>bkN ((o0 ?_ a w hs));refine C0 (m0 3 [kI 7 (IntKind.i64.wrap (v7_19+1)),kI 47 (IntKind.i64.wrap (v7_19+1)),kI 46 v7_19] (B0 ?_));cases h;exact fun a w hs=>lsN rfl (hs.sb 2)
 ·refine D0 45 false (decide_eq_false hp) (F0 (WS.ex 4 ?_));cases h;exact fun a w hs=>sqE (lsB rfl (hs.sb 2))
theorem z3h {E H L m a0_0 a0_1 a0_2 v4_3} :LoopF Tryz.prog (NE.plain 1000) m E Tryz.f60 ((cfst (csnd (cfst (cfst (csnd (cfst (cfst (csnd (cfst (csnd (csnd B60)))))))))))) (zad L m a0_0 a0_1 a0_2 v4_3) (fun s=>s.1) 2 V7 (N8 H) (S4 L m a0_0 a0_1 a0_2 v4_3):=by
 rintro ⟨H4,v3_5,v5_6⟩ o h
 unfold S4 at h;try dsimp only at h
 refine A0 (A0 (C0 (m0 4 [kI 19 v4_3,kS 18 a0_1,kL 17 0 1,kI 16 v5_6] ?_)));obtain ⟨p7,hx,h⟩:=bind_some h;refine O0 20 27 93 (.tmp 18) (.tmp 19) hx (m0 1 [(21,.val (vP (some (Addr.add p7 1))))] ?_);obtain ⟨x8,hx,h⟩:=bind_some h;refine T0 22 91 (.tmp 21) (O1 hx R1) (m0 2 [kB 24 (decide (v5_6<(x8.n:Int))),kI 23 (x8.n:Int)] (B0 (o0 ?_)));rcases Q1 h with ⟨hp,h⟩ | ⟨hp,h⟩
 ·refine D0 24 true (decide_eq_true hp) (E0 (G0 (o0 (A0 (J0 3 (A0 (C0 (m0 3 [kI 29 v4_3,kS 28 a0_1,kL 27 0 1] ?_))))))));obtain ⟨p9,hx,h⟩:=bind_some h;refine O0 30 27 93 (.tmp 28) (.tmp 29) hx (m0 1 [(31,.val (vP (some (Addr.add p9 1))))] ?_);obtain ⟨x10,hx,h⟩:=bind_some h;refine T0 32 91 (.tmp 31) (O1 hx R1) (m0 1 [kI 33 v5_6] ?_);obtain ⟨p11,hx,h⟩:=bind_some h;refine O0 34 91 103 (.tmp 32) (.tmp 33) hx ?_;obtain ⟨x12_0,hx0,h⟩:=bind_some h;obtain ⟨x12_1,hx1,h⟩:=bind_some h;refine RS.la 35 103 (.tmp 34) 2 (P1 (O1 hx0 T1) (P1 (O1 hx1 R1) U1)) (Q0 2 [kL 6 1 0] ([some (30,[(Sl3.v a0_0),(Sl3.v a0_1),(Sl3.v a0_2)]),some (103,[(vS x12_0),(Sl3.v x12_1)])]) (B0 (o0 (A0 (C0 (m0 3 [kT 38 x12_0,kL 37 1 0,kS 36 v3_5] ?_))))));obtain ⟨⟨s13,H14⟩,hx,h⟩:=bind_some h;try dsimp only at h
  refine P0 (H':=H14) (some 39) (Sl3.v s13) (Abs.run_newR (by kernel_rfl) (by kernel_rfl) hx) ?_;obtain ⟨⟨s15,H16⟩,hx,h⟩:=bind_some h;try dsimp only at h
  refine P0 (H':=H16) (some 40) (Sl3.v s15) (Abs.run_app (x:=.tmp 36) (y:=.tmp 39) (ts:=#[26,26]) (s:=v3_5) (z:=s13) (by kernel_rfl) (by kernel_rfl) (by kernel_rfl) (by kernel_rfl) hx) (m0 1 [kS 3 s15] (B0 (o0 (A0 (C0 (m0 1 [kI 7 0] (B0 (o0 (J0 4 ?_)))))))));obtain ⟨o,hl,h⟩:=bind_some h;rcases o with ⟨H26,v3_27,v7_28⟩ | r
  ·try dsimp only at h
   refine S0 (z40 (L:=L) (E:=E) (m:=m) (H:=H)) (L.ok hl) 2 ?_;clear hl;refine fun a w hs=>bkE (bkN ((o0 ?_ a w hs)));refine C0 (m0 3 [kI 5 (IntKind.i64.wrap (v5_6+1)),kI 26 (IntKind.i64.wrap (v5_6+1)),kI 25 v5_6] (B0 ?_));cases h;exact fun a w hs=>lsN rfl (hs.sb 1)
  ·try dsimp only at h
   refine R0 (z40 (L:=L) (E:=E) (m:=m) (H:=H)) (L.ok hl) 2 ?_;cases h;exact fun a w hq=>bkR (bkR (sqR (lsR rfl hq)))
 ·refine D0 24 false (decide_eq_false hp) (F0 (WS.ex 2 ?_));cases h;exact fun a w hs=>sqE (lsB rfl (hs.sb 1))
theorem z3f {E H L m a0_0 a0_1 a0_2} :LoopF Tryz.prog (NE.plain 1000) m E Tryz.f60 ((cfst (csnd (cfst (csnd (csnd B60)))))) (za8 L m a0_0 a0_1 a0_2) (fun s=>s.1) 0 V7 (N8 H) (U4 L m a0_0 a0_1 a0_2):=by
 rintro ⟨H1,v3_2,v4_3⟩ o h
 unfold U4 at h;try dsimp only at h
 refine A0 (A0 (C0 (m0 5 [kB 13 (decide (v4_3<(a0_1.n:Int))),kI 12 (a0_1.n:Int),kS 11 a0_1,kL 10 0 1,kI 9 v4_3] (B0 (o0 ?_)))));rcases Q1 h with ⟨hp,h⟩ | ⟨hp,h⟩
 ·refine D0 13 true (decide_eq_true hp) (E0 (G0 (o0 (A0 (J0 1 (A0 (C0 (m0 1 [kI 5 0] (B0 ?_)))))))));refine o0 (J0 2 ?_);obtain ⟨o,hl,h⟩:=bind_some h;rcases o with ⟨H29,v3_30,v5_31⟩ | r
  ·try dsimp only at h
   refine S0 (z3h (L:=L) (E:=E) (m:=m) (H:=H)) (L.ok hl) 1 ?_;clear hl;refine fun a w hs=>bkE (bkN ((o0 ?_ a w hs)));refine C0 (m0 3 [kI 4 (IntKind.i64.wrap (v4_3+1)),kI 15 (IntKind.i64.wrap (v4_3+1)),kI 14 v4_3] (B0 ?_));cases h;exact fun a w hs=>lsN rfl (hs.sb 1)
  ·try dsimp only at h
   refine R0 (z3h (L:=L) (E:=E) (m:=m) (H:=H)) (L.ok hl) 1 ?_;cases h;exact fun a w hq=>bkR (bkR (sqR (lsR rfl hq)))
 ·refine D0 13 false (decide_eq_false hp) (F0 (WS.ex 0 ?_));cases h;exact fun a w hs=>sqE (lsB rfl (hs.sb 1))
theorem z3p {E H L m a0_0 a0_1 a0_2} :LoopF Tryz.prog (NE.plain 1000) m E Tryz.f60 ((cfst (csnd (cfst (csnd (csnd (csnd B60))))))) (zas L m a0_0 a0_1 a0_2) (fun s=>s.1) 6 V7 (N8 H) (Q4 L m a0_0 a0_1 a0_2):=by
 rintro ⟨H35,v3_36,v8_37⟩ o h
 unfold Q4 at h;try dsimp only at h
 refine A0 (A0 (C0 (m0 5 [kB 61 (decide (v8_37<(a0_2.n:Int))),kI 60 (a0_2.n:Int),kS 59 a0_2,kL 58 0 2,kI 57 v8_37] (B0 (o0 ?_)))));rcases Q1 h with ⟨hp,h⟩ | ⟨hp,h⟩
 ·refine D0 61 true (decide_eq_true hp) (E0 (G0 (o0 (A0 (J0 7 (C0 (m0 4 [kI 67 v8_37,kS 66 a0_2,kL 65 0 2,kS 64 v3_36] ?_)))))));obtain ⟨p38,hx,h⟩:=bind_some h;refine O0 68 28 108 (.tmp 66) (.tmp 67) hx (m0 1 [(69,.val (vP (some (Addr.add p38 0))))] ?_);obtain ⟨x39,hx,h⟩:=bind_some h;refine T0 70 9 (.tmp 69) (O1 hx T1) ?_;obtain ⟨⟨s40,H41⟩,hx,h⟩:=bind_some h;try dsimp only at h
  refine P0 (H':=H41) (some 71) (Sl3.v s40) (Abs.run_newR (by kernel_rfl) (by kernel_rfl) hx) ?_;obtain ⟨⟨s42,H43⟩,hx,h⟩:=bind_some h;try dsimp only at h
  refine P0 (H':=H43) (some 72) (Sl3.v s42) (Abs.run_app (x:=.tmp 64) (y:=.tmp 71) (ts:=#[26,26]) (s:=v3_36) (z:=s40) (by kernel_rfl) (by kernel_rfl) (by kernel_rfl) (by kernel_rfl) hx) (m0 1 [kS 3 s42] (B0 ?_));refine fun a w hs=>bkN ((o0 ?_ a w hs));refine C0 (m0 3 [kI 8 (IntKind.i64.wrap (v8_37+1)),kI 63 (IntKind.i64.wrap (v8_37+1)),kI 62 v8_37] (B0 ?_));cases h;exact fun a w hs=>lsN rfl (hs.sb 1)
 ·refine D0 61 false (decide_eq_false hp) (F0 (WS.ex 6 ?_));cases h;exact fun a w hs=>sqE (lsB rfl (hs.sb 1))
theorem ze5 {L:LC} {m:Nat} {H:AH} {a0_0 a0_1 a0_2:Sl3} {r:(Sl3×AH)} (h:zh L m H a0_0 a0_1 a0_2=some r) :
  CallS Tryz.prog (NE.plain 1000) m 60 #[(vA #[(Sl3.v a0_0),(Sl3.v a0_1),(Sl3.v a0_2)])] H (V7 r) (N8 H r):=by
 refine CallS.mk (args:=[(vA #[(Sl3.v a0_0),(Sl3.v a0_1),(Sl3.v a0_2)])]) Tryz.func60 (B:=B60) (by kernel_rfl) (fun E _=>?_);unfold zh at h;refine A0 (C0 (Q0 2 [kS 2 Sl3.nil,kL 1 0 0] ([some (30,[(Sl3.v a0_0),(Sl3.v a0_1),(Sl3.v a0_2)])]) (B0 (o0 (A0 (C0 (m0 1 [kS 3 Sl3.nil] (B0 (o0 ?_)))))))));refine A0 (A0 (C0 (m0 1 [kI 4 0] (B0 (o0 (J0 0 ?_))))));obtain ⟨o,hl,h⟩:=bind_some h;rcases o with ⟨H32,v3_33,v4_34⟩ | r
 ·try dsimp only at h
  refine S0 (z3f (L:=L) (E:=E) (m:=m) (H:=H)) (L.ok hl) 1 ?_;clear hl;refine fun a w hs=>bkE ((o0 ?_ a w hs));refine A0 (A0 (C0 (m0 1 [kI 8 0] (B0 (o0 (J0 6 ?_))))));obtain ⟨o,hl,h⟩:=bind_some h;rcases o with ⟨H44,v3_45,v8_46⟩ | r
  ·try dsimp only at h
   refine S0 (z3p (L:=L) (E:=E) (m:=m) (H:=H)) (L.ok hl) 1 ?_;clear hl;refine fun a w hs=>bkE ((o0 ?_ a w hs));refine A0 (C0 (m0 2 [kS 2 v3_45,kS 73 v3_45] (B0 (o0 (I0 ?_)))));cases h;exact fun a w hs=>rtR (rS hs)
  ·try dsimp only at h
   refine R0 (z3p (L:=L) (E:=E) (m:=m) (H:=H)) (L.ok hl) 1 ?_;cases h;exact fun a w hq=>bkR (sqR (rtR hq))
 ·try dsimp only at h
  refine R0 (z3f (L:=L) (E:=E) (m:=m) (H:=H)) (L.ok hl) 1 ?_;cases h;exact fun a w hq=>bkR (sqR (rtR hq))
def z8j:Bool→Value
 | r0=>(vB r0)
def z9d (H:AH):Bool→AH:=fun _=>H
noncomputable def B62:Code:=(Tryz.f62.body).getD .skip
noncomputable def P7 (L:LC) (H:AH) (a0:Sl3):Int→Option (Lp Int Bool):=fun v3_1 =>
 if v3_1<(a0.n:Int) then
  (idxA 1 a0 v3_1).bind fun p2 => (rd deS H p2).bind fun x3 => (slc 1 H a0 none (some v3_1) none).bind fun s4 => (z36 L H s4 x3).bind fun x5 => if x5=true then
   some (.ret true)
  else
   some (.next (IntKind.i64.wrap (v3_1+1)))
 else
  some (.brk v3_1)
def zdp (_L:LC) (_H:AH) (a0:Sl3):Int→KN×Lcs:=fun v3_1=>([kI 3 v3_1,kS 0 a0],[])
noncomputable def z11 (L:LC) (H:AH) (a0:Sl3):Option Bool :=
 (L.run (P7 L H a0) 0).bind fun o=>match o with
 | .inl _ =>
  some false
 | .inr r=>some r
theorem z5w {E m L H a0} :LoopF Tryz.prog (NE.plain 1000) m E Tryz.f62 ((cfst (csnd (cfst (csnd B62))))) (zdp L H a0) (fun _=>H) 0 z8j (z9d H) (P7 L H a0):=by
 rintro v3_1 o h
 unfold P7 at h;try dsimp only at h
 refine A0 (A0 (C0 (m0 4 [kB 7 (decide (v3_1<(a0.n:Int))),kI 6 (a0.n:Int),kS 5 a0,kI 4 v3_1] (B0 (o0 ?_)))));rcases Q1 h with ⟨hp,h⟩ | ⟨hp,h⟩
 ·refine D0 7 true (decide_eq_true hp) (E0 (G0 (o0 (A0 (J0 1 (A0 ?_))))));refine D1 [3,4,5,6] [0,0,3,0,0,24,56,127] 8 (fun hcl=>?_);refine U0 3 (some 13) (Sl3.v a0) (U0 4 (some 14) (vI .i64 v3_1) ?_);obtain ⟨p2,hx,h⟩:=bind_some h;refine Z0 5 (some 15) (vP (some p2)) (Abs.det_idx (s:=a0) (k:=.i64) (t:=26) (e:=9) (x:=.tmp 13) (y:=.tmp 14) (by kernel_rfl) (by kernel_rfl) (by kernel_rfl) (by kernel_rfl) (by kernel_rfl) hx) ?_;obtain ⟨x3,hx,h⟩:=bind_some h;refine Z0 6 (some 16) (vS x3) (Abs.det_load (t:=9) (x:=.tmp 15) (a:=p2) (by kernel_rfl) (by kernel_rfl) (by kernel_rfl) (by kernel_rfl) (O1 hx T1)) (M0 0 (some 10) (Sl3.v a0) (M0 1 (some 11) (vI .i64 v3_1) ?_));obtain ⟨s4,hx,h⟩:=bind_some h;refine DA.on 2 (DA.aHk (H':=H) 2 (some 12) false (Sl3.v s4) (Abs.run_slice (t:=26) (e:=9) (x:=.tmp 10) (lo:=none) (hi:=(some (.tmp 11))) (mx:=none) (s:=a0) (k1:=.i64) (k2:=.i64) (k3:=.i64) (by kernel_rfl) (by kernel_rfl) (by kernel_rfl) (by kernel_rfl) (by kernel_rfl) (by kernel_rfl) (by kernel_rfl) hx) ?_);obtain ⟨x5,hx,h⟩:=bind_some h;refine DA.on 7 (X0 7 (some 17) (v:=(vB x5)) 69 _ (zd6 hx) (W0 (o0 ?_)));rcases Q1 h with ⟨hp,h⟩ | ⟨hp,h⟩
  ·refine D0 17 true hp (E0 (A0 (C0 (m0 1 [kB 2 true] (B0 (o0 (I0 ?_)))))));cases h;exact fun a w hs=>bkR (sqR (lsR rfl (rS hs)))
  ·refine D0 17 false (b_not hp) (F0 (G0 ?_));refine fun a w hs=>bkN ((o0 ?_ a w hs));refine C0 (m0 3 [kI 3 (IntKind.i64.wrap (v3_1+1)),kI 9 (IntKind.i64.wrap (v3_1+1)),kI 8 v3_1] (B0 ?_));cases h;exact fun a w hs=>lsN rfl (hs.sb 0)
 ·refine D0 7 false (decide_eq_false hp) (F0 (WS.ex 0 ?_));cases h;exact fun a w hs=>sqE (lsB rfl (hs.sb 0))
theorem z9k {L:LC} {m:Nat} {H:AH} {a0:Sl3} {r:Bool} (h:z11 L H a0=some r) :
  CallS Tryz.prog (NE.plain 1000) m 62 #[(Sl3.v a0)] H (z8j r) (z9d H r):=by
 refine CallS.mk (args:=[(Sl3.v a0)]) Tryz.func62 (B:=B62) (by kernel_rfl) (fun E _=>?_);unfold z11 at h;refine A0 (C0 (m0 1 [kB 2 false] (B0 (o0 (A0 (A0 (C0 (m0 1 [kI 3 0] (B0 ?_)))))))));refine o0 (J0 0 ?_);obtain ⟨o,hl,h⟩:=bind_some h;rcases o with v3_6 | r
 ·try dsimp only at h
  refine S0 (z5w (L:=L) (E:=E) (m:=m) (H:=H)) (L.ok hl) 0 ?_;clear hl;refine fun a w hs=>bkE ((o0 ?_ a w hs));refine A0 (C0 (m0 1 [kB 2 false] (B0 (o0 (I0 ?_)))));cases h;exact fun a w hs=>rtR (rS hs)
 ·try dsimp only at h
  refine R0 (z5w (L:=L) (E:=E) (m:=m) (H:=H)) (L.ok hl) 0 ?_;cases h;exact fun a w hq=>bkR (sqR (rtR hq))
def z8d:(Int×AH)→Value
 | (r0,_)=>(vI .i64 r0)
def z99 (_:AH):(Int×AH)→AH:=fun r=>r.2
noncomputable def B38:Code:=(Tryz.f38.body).getD .skip
noncomputable def L7 (L:LC) (_a0_0 _a0_1:Sl3) (_a0_2 _x1:Sl3) (_x3 s9:Sl3) (H10:AH):Int→Option (Lp Int (Int×AH)):=fun v6_11 =>
 if v6_11<(s9.n:Int) then
  (idxA 1 s9 v6_11).bind fun p12 => (rd deS H10 p12).bind fun x13 => (z20 L x13).bind fun x14 => if x14=true then
   some (.next (IntKind.i64.wrap (v6_11+1)))
  else
   some (.ret (42,H10))
 else
  some (.brk v6_11)
def ze7 (_L:LC) (a0_0 a0_1:Sl3) (a0_2 x1:Sl3) (x3 s9:Sl3) (_H10:AH):Int→KN×Lcs:=fun v6_11=>([kI 6 v6_11,kS 3 x1,kS 4 x3,kS 5 s9],[some (30,[(Sl3.v a0_0),(Sl3.v a0_1),(Sl3.v a0_2)])])
noncomputable def z2d (L:LC) (m:Nat) (H:AH) (a0_0 a0_1 a0_2:Sl3):Option (Int×AH) :=
 (U9 L m H a0_0 a0_1 a0_2).bind fun (x1,H2) => (zh L m H2 a0_0 a0_1 a0_2).bind fun (x3,H4) => (newR 9 0 #[] H4).bind fun (s5,H6) => (appS m 9 1 16 H6 s5 x1).bind fun (s7,H8) => (appS m 9 1 16 H8 s7 x3).bind fun (s9,H10) => (L.run (L7 L a0_0 a0_1 a0_2 x1 x3 s9 H10) 0).bind fun o=>match o with
 | .inl _ =>
  Option.bind (α:=Bool) (
   (z11 L H10 x1).bind fun x17 => if x17=true then
    some true
   else
    (z11 L H10 x3).bind fun x18 => some x18) fun v35_16 =>
  if v35_16=true then
   some (41,H10)
  else
   some (0,H10)
 | .inr r=>some r
theorem z5n {E m H L a0_0 a0_1 a0_2 x1 x3 s9 H10} :LoopF Tryz.prog (NE.plain 1000) m E Tryz.f38 ((cfst (csnd (cfst (csnd (csnd (csnd (csnd B38)))))))) (ze7 L a0_0 a0_1 a0_2 x1 x3 s9 H10) (fun _=>H10) 0 z8d (z99 H) (L7 L a0_0 a0_1 a0_2 x1 x3 s9 H10):=by
 rintro v6_11 o h
 unfold L7 at h;try dsimp only at h
 refine A0 (A0 (C0 (m0 4 [kB 20 (decide (v6_11<(s9.n:Int))),kI 19 (s9.n:Int),kS 18 s9,kI 17 v6_11] (B0 (o0 ?_)))));rcases Q1 h with ⟨hp,h⟩ | ⟨hp,h⟩
 ·refine D0 20 true (decide_eq_true hp) (E0 (G0 (o0 (A0 (J0 1 (A0 (C0 (m0 2 [kI 24 v6_11,kS 23 s9] ?_))))))));obtain ⟨p12,hx,h⟩:=bind_some h;refine O0 25 26 9 (.tmp 23) (.tmp 24) hx ?_;obtain ⟨x13,hx,h⟩:=bind_some h;refine T0 26 9 (.tmp 25) (O1 hx T1) ?_;obtain ⟨x14,hx,h⟩:=bind_some h;refine N0 (some 27) (v:=(vB x14)) 61 _ (zbb hx) (m0 1 [kB 7 x14] (B0 (o0 (A0 (C0 (m0 2 [kB 29 (!x14),kB 28 x14] (B0 (o0 ?_))))))));rcases Q1 h with ⟨hp,h⟩ | ⟨hp,h⟩
  ·refine D0 29 false (nb_not hp) (F0 (G0 ?_));refine fun a w hs=>bkN ((o0 ?_ a w hs));refine C0 (m0 3 [kI 6 (IntKind.i64.wrap (v6_11+1)),kI 22 (IntKind.i64.wrap (v6_11+1)),kI 21 v6_11] (B0 ?_));cases h;exact fun a w hs=>lsN rfl (hs.sb 1)
  ·refine D0 29 true (W2 hp) (E0 (A0 (C0 (m0 1 [kI 2 42] (B0 (o0 (I0 ?_)))))));cases h;exact fun a w hs=>bkR (sqR (lsR rfl (rS hs)))
 ·refine D0 20 false (decide_eq_false hp) (F0 (WS.ex 0 ?_));cases h;exact fun a w hs=>sqE (lsB rfl (hs.sb 1))
theorem zgz {L:LC} {m:Nat} {H:AH} {a0_0 a0_1 a0_2:Sl3} {r:(Int×AH)} (h:z2d L m H a0_0 a0_1 a0_2=some r) :
  CallS Tryz.prog (NE.plain 1000) m 38 #[(vA #[(Sl3.v a0_0),(Sl3.v a0_1),(Sl3.v a0_2)])] H (z8d r) (z99 H r):=by
 refine CallS.mk (args:=[(vA #[(Sl3.v a0_0),(Sl3.v a0_1),(Sl3.v a0_2)])]) Tryz.func38 (B:=B38) (by kernel_rfl) (fun E _=>?_);unfold z2d at h;refine A0 (C0 (Q0 2 [kI 2 0,kL 1 0 0] ([some (30,[(Sl3.v a0_0),(Sl3.v a0_1),(Sl3.v a0_2)])]) (B0 (o0 (A0 (C0 (m0 1 [kA 8 #[(Sl3.v a0_0),(Sl3.v a0_1),(Sl3.v a0_2)]] ?_)))))));obtain ⟨⟨x1,H2⟩,hx,h⟩:=bind_some h;try dsimp only at h
 refine N0 (some 9) (v:=(Sl3.v x1)) 59 _ (zcz hx) (m0 1 [kS 3 x1] (B0 (o0 (A0 (C0 (m0 1 [kA 10 #[(Sl3.v a0_0),(Sl3.v a0_1),(Sl3.v a0_2)]] ?_))))));obtain ⟨⟨x3,H4⟩,hx,h⟩:=bind_some h;try dsimp only at h
 refine N0 (some 11) (v:=(Sl3.v x3)) 60 _ (ze5 hx) (m0 1 [kS 4 x3] (B0 (o0 (A0 (C0 ?_)))));obtain ⟨⟨s5,H6⟩,hx,h⟩:=bind_some h;try dsimp only at h
 refine P0 (H':=H6) (some 12) (Sl3.v s5) (Abs.run_newR (by kernel_rfl) (by kernel_rfl) hx) (m0 1 [kS 13 x1] ?_);obtain ⟨⟨s7,H8⟩,hx,h⟩:=bind_some h;try dsimp only at h
 refine P0 (H':=H8) (some 14) (Sl3.v s7) (Abs.run_app (x:=.tmp 12) (y:=.tmp 13) (ts:=#[26,26]) (s:=s5) (z:=x1) (by kernel_rfl) (by kernel_rfl) (by kernel_rfl) (by kernel_rfl) hx) (m0 1 [kS 15 x3] ?_);obtain ⟨⟨s9,H10⟩,hx,h⟩:=bind_some h;try dsimp only at h
 refine P0 (H':=H10) (some 16) (Sl3.v s9) (Abs.run_app (x:=.tmp 14) (y:=.tmp 15) (ts:=#[26,26]) (s:=s7) (z:=x3) (by kernel_rfl) (by kernel_rfl) (by kernel_rfl) (by kernel_rfl) hx) (m0 1 [kS 5 s9] (B0 (o0 (A0 (A0 (C0 (m0 1 [kI 6 0] (B0 (o0 ?_)))))))));refine J0 0 ?_;obtain ⟨o,hl,h⟩:=bind_some h;rcases o with v6_15 | r
 ·try dsimp only at h
  refine S0 (z5n (L:=L) (E:=E) (m:=m) (H:=H)) (L.ok hl) 1 ?_;clear hl;refine fun a w hs=>bkE ((o0 ?_ a w hs));refine A0 ?_;obtain ⟨v35_16,hx,h⟩:=bind_some h;refine A0 ?_;refine A1 ([kB 35 v35_16]) ([some (30,[(Sl3.v a0_0),(Sl3.v a0_1),(Sl3.v a0_2)])]) H10 ?_ (fun a w hs=>o0 ?_ a w hs)
  ·clear h; rename _=>h;refine C0 (m0 1 [kS 30 x1] ?_);obtain ⟨x17,hx,h⟩:=bind_some h;refine N0 (some 31) (v:=(vB x17)) 62 _ (z9k hx) (m0 1 [kB 32 x17] ?_);rcases Q1 h with ⟨hp,h⟩ | ⟨hp,h⟩
   ·refine K0 32 true hp (m0 3 [kB 35 true,kU 34,kU 33] (B0 ?_));cases h;exact fun a w hs=>(jsN (hs.sb 1))
   ·refine K0 32 false (b_not hp) (m0 1 [kS 33 x3] ?_);obtain ⟨x18,hx,h⟩:=bind_some h;refine N0 (some 34) (v:=(vB x18)) 62 _ (z9k hx) (m0 1 [kB 35 x18] (B0 ?_));cases h;exact fun a w hs=>(jsN (hs.sb 1))
  ·clear hx;rcases Q1 h with ⟨hp,h⟩ | ⟨hp,h⟩
   ·refine D0 35 true hp (E0 (A0 (C0 (m0 1 [kI 2 41] (B0 (o0 (I0 ?_)))))));cases h;exact fun a w hs=>sqR (rtR (rS hs))
   ·refine D0 35 false (b_not hp) (F0 (G0 (o0 (A0 (C0 (m0 1 [kI 2 0] (B0 (o0 (I0 ?_)))))))));cases h;exact fun a w hs=>rtR (rS hs)
 ·try dsimp only at h
  refine R0 (z5n (L:=L) (E:=E) (m:=m) (H:=H)) (L.ok hl) 1 ?_;cases h;exact fun a w hq=>bkR (sqR (rtR hq))
def P9:(Sl3×AH)→Value
 | (r0,_)=>(Sl3.v r0)
def zf (_:AH):(Sl3×AH)→AH:=fun r=>r.2
noncomputable def B39:Code:=(Tryz.f39.body).getD .skip
noncomputable def R6 (_L:LC) (m:Nat) (_a0_0 _a0_1 _a0_2:Sl3) (_v4_3 _v5_6:Int) (_x12_0:ByteArray) (x12_1:Sl3):(AH×Sl3×Int)→Option (Lp (AH×Sl3×Int) (Sl3×AH)):=fun (H13,v3_14,v7_15) =>
 if v7_15<(x12_1.n:Int) then
  (idxA 5 x12_1 v7_15).bind fun p16 => (rd (deI .i64) H13 (Addr.add (Addr.add p16 1) 0)).bind fun x17_0 => (rd (deI .i64) H13 (Addr.add (Addr.add p16 1) 1)).bind fun x17_1 => (rd deS H13 (Addr.add (Addr.add p16 1) 2)).bind fun x17_2 => (rd deSl H13 (Addr.add (Addr.add p16 1) 3)).bind fun x17_3 => (newR 25 1 #[(vI .i64 x17_0),(vI .i64 x17_1),(vS x17_2),(Sl3.v x17_3)] H13).bind fun (s18,H19) => (appS m 25 4 56 H19 v3_14 s18).bind fun (s20,H21) => some (.next (H21,s20,(IntKind.i64.wrap (v7_15+1))))
 else
  some (.brk (H13,v3_14,v7_15))
def ze0 (_L:LC) (_m:Nat) (a0_0 a0_1 a0_2:Sl3) (v4_3 v5_6:Int) (x12_0:ByteArray) (x12_1:Sl3):(AH×Sl3×Int)→KN×Lcs:=fun (_,v3_14,v7_15)=>([kS 3 v3_14,kI 7 v7_15,kL 1 0 0,kI 4 v4_3,kI 5 v5_6,kL 6 1 0],[some (30,[(Sl3.v a0_0),(Sl3.v a0_1),(Sl3.v a0_2)]),some (103,[(vS x12_0),(Sl3.v x12_1)])])
noncomputable def O6 (L:LC) (m:Nat) (a0_0 a0_1 a0_2:Sl3) (v4_3:Int):(AH×Sl3×Int)→Option (Lp (AH×Sl3×Int) (Sl3×AH)):=fun (H4,v3_5,v5_6) =>
 (idxA 2 a0_1 v4_3).bind fun p7 => (rd deSl H4 (Addr.add p7 1)).bind fun x8 => if v5_6<(x8.n:Int) then
  (idxA 2 a0_1 v4_3).bind fun p9 => (rd deSl H4 (Addr.add p9 1)).bind fun x10 => (idxA 2 x10 v5_6).bind fun p11 => (rd deS H4 (Addr.add p11 0)).bind fun x12_0 => (rd deSl H4 (Addr.add p11 1)).bind fun x12_1 => (L.run (R6 L m a0_0 a0_1 a0_2 v4_3 v5_6 x12_0 x12_1) (H4,v3_5,0)).bind fun o=>match o with
  | .inl (H22,v3_23,_) =>
   some (.next (H22,v3_23,(IntKind.i64.wrap (v5_6+1))))
  | .inr r=>some (.ret r)
 else
  some (.brk (H4,v3_5,v5_6))
def ze4 (_L:LC) (_m:Nat) (a0_0 a0_1 a0_2:Sl3) (v4_3:Int):(AH×Sl3×Int)→KN×Lcs:=fun (_,v3_5,v5_6)=>([kS 3 v3_5,kI 5 v5_6,kL 1 0 0,kI 4 v4_3],[some (30,[(Sl3.v a0_0),(Sl3.v a0_1),(Sl3.v a0_2)])])
noncomputable def C6 (L:LC) (m:Nat) (a0_0 a0_1 a0_2:Sl3):(AH×Sl3×Int)→Option (Lp (AH×Sl3×Int) (Sl3×AH)):=fun (H1,v3_2,v4_3) =>
 if v4_3<(a0_1.n:Int) then
  (L.run (O6 L m a0_0 a0_1 a0_2 v4_3) (H1,v3_2,0)).bind fun o=>match o with
  | .inl (H25,v3_26,_) =>
   some (.next (H25,v3_26,(IntKind.i64.wrap (v4_3+1))))
  | .inr r=>some (.ret r)
 else
  some (.brk (H1,v3_2,v4_3))
def zdu (_L:LC) (_m:Nat) (a0_0 a0_1 a0_2:Sl3):(AH×Sl3×Int)→KN×Lcs:=fun (_,v3_2,v4_3)=>([kS 3 v3_2,kI 4 v4_3,kL 1 0 0],[some (30,[(Sl3.v a0_0),(Sl3.v a0_1),(Sl3.v a0_2)])])
noncomputable def L6 (_L:LC) (m:Nat) (_a0_0 _a0_1 a0_2:Sl3):(AH×Sl3×Int)→Option (Lp (AH×Sl3×Int) (Sl3×AH)):=fun (H31,v3_32,v8_33) =>
 if v8_33<(a0_2.n:Int) then
  (idxA 6 a0_2 v8_33).bind fun p34 => (rd deSl H31 (Addr.add p34 1)).bind fun x35 => (appS m 25 4 56 H31 v3_32 x35).bind fun (s36,H37) => (idxA 6 a0_2 v8_33).bind fun p38 => (rd (deI .i64) H37 (Addr.add (Addr.add p38 2) 0)).bind fun x39_0 => (rd (deI .i64) H37 (Addr.add (Addr.add p38 2) 1)).bind fun x39_1 => (rd deS H37 (Addr.add (Addr.add p38 2) 2)).bind fun x39_2 => (rd deSl H37 (Addr.add (Addr.add p38 2) 3)).bind fun x39_3 => (newR 25 1 #[(vI .i64 x39_0),(vI .i64 x39_1),(vS x39_2),(Sl3.v x39_3)] H37).bind fun (s40,H41) => (appS m 25 4 56 H41 s36 s40).bind fun (s42,H43) => some (.next (H43,s42,(IntKind.i64.wrap (v8_33+1))))
 else
  some (.brk (H31,v3_32,v8_33))
def zdw (_L:LC) (_m:Nat) (a0_0 a0_1 a0_2:Sl3):(AH×Sl3×Int)→KN×Lcs:=fun (_,v3_32,v8_33)=>([kS 3 v3_32,kI 8 v8_33,kL 1 0 0],[some (30,[(Sl3.v a0_0),(Sl3.v a0_1),(Sl3.v a0_2)])])
noncomputable def z2s (L:LC) (m:Nat) (H:AH) (a0_0 a0_1 a0_2:Sl3):Option (Sl3×AH) :=
 (L.run (C6 L m a0_0 a0_1 a0_2) (H,Sl3.nil,0)).bind fun o=>match o with
 | .inl (H28,v3_29,_) =>
  (L.run (L6 L m a0_0 a0_1 a0_2) (H28,v3_29,0)).bind fun o=>match o with
  | .inl (H44,v3_45,_) =>
   some (v3_45,H44)
  | .inr r=>some r
 | .inr r=>some r
theorem z5y {E H L m a0_0 a0_1 a0_2 v4_3 v5_6 x12_0 x12_1} :LoopF Tryz.prog (NE.plain 1000) m E Tryz.f39 ((cfst (csnd (csnd (cfst (cfst (csnd (cfst (cfst (csnd (cfst (cfst (csnd (cfst (cfst (csnd (cfst (csnd (csnd B39))))))))))))))))))) (ze0 L m a0_0 a0_1 a0_2 v4_3 v5_6 x12_0 x12_1) (fun s=>s.1) 4 P9 (zf H) (R6 L m a0_0 a0_1 a0_2 v4_3 v5_6 x12_0 x12_1):=by
 rintro ⟨H13,v3_14,v7_15⟩ o h
 unfold R6 at h;try dsimp only at h
 refine A0 (A0 (C0 (m0 5 [kB 40 (decide (v7_15<(x12_1.n:Int))),kI 39 (x12_1.n:Int),kS 38 x12_1,kL 37 1 1,kI 36 v7_15] (B0 (o0 ?_)))));rcases Q1 h with ⟨hp,h⟩ | ⟨hp,h⟩
 ·refine D0 40 true (decide_eq_true hp) (E0 (G0 (o0 (A0 (J0 5 (C0 (m0 4 [kI 46 v7_15,kS 45 x12_1,kL 44 1 1,kS 43 v3_14] ?_)))))));obtain ⟨p16,hx,h⟩:=bind_some h;refine O0 47 101 105 (.tmp 45) (.tmp 46) hx (m0 1 [(48,.val (vP (some (Addr.add p16 1))))] ?_);obtain ⟨x17_0,hx0,h⟩:=bind_some h;obtain ⟨x17_1,hx1,h⟩:=bind_some h;obtain ⟨x17_2,hx2,h⟩:=bind_some h;obtain ⟨x17_3,hx3,h⟩:=bind_some h;refine RS.la 49 25 (.tmp 48) 4 (P1 (O1 hx0 S1) (P1 (O1 hx1 S1) (P1 (O1 hx2 T1) (P1 (O1 hx3 R1) U1)))) ?_;obtain ⟨⟨s18,H19⟩,hx,h⟩:=bind_some h;try dsimp only at h
  refine P0 (H':=H19) (some 50) (Sl3.v s18) (Abs.run_newR (by kernel_rfl) (by kernel_rfl) hx) ?_;obtain ⟨⟨s20,H21⟩,hx,h⟩:=bind_some h;try dsimp only at h
  refine P0 (H':=H21) (some 51) (Sl3.v s20) (Abs.run_app (x:=.tmp 43) (y:=.tmp 50) (ts:=#[23,23]) (s:=v3_14) (z:=s18) (by kernel_rfl) (by kernel_rfl) (by kernel_rfl) (by kernel_rfl) hx) (m0 1 [kS 3 s20] (B0 ?_));refine fun a w hs=>bkN ((o0 ?_ a w hs));refine C0 (m0 3 [kI 7 (IntKind.i64.wrap (v7_15+1)),kI 42 (IntKind.i64.wrap (v7_15+1)),kI 41 v7_15] (B0 ?_));cases h;exact fun a w hs=>lsN rfl (hs.sb 2)
 ·refine D0 40 false (decide_eq_false hp) (F0 (WS.ex 4 ?_));cases h;exact fun a w hs=>sqE (lsB rfl (hs.sb 2))
theorem z5v {E H L m a0_0 a0_1 a0_2 v4_3} :LoopF Tryz.prog (NE.plain 1000) m E Tryz.f39 ((cfst (csnd (cfst (cfst (csnd (cfst (cfst (csnd (cfst (csnd (csnd B39)))))))))))) (ze4 L m a0_0 a0_1 a0_2 v4_3) (fun s=>s.1) 2 P9 (zf H) (O6 L m a0_0 a0_1 a0_2 v4_3):=by
 rintro ⟨H4,v3_5,v5_6⟩ o h
 unfold O6 at h;try dsimp only at h
 refine A0 (A0 (C0 (m0 4 [kI 19 v4_3,kS 18 a0_1,kL 17 0 1,kI 16 v5_6] ?_)));obtain ⟨p7,hx,h⟩:=bind_some h;refine O0 20 27 93 (.tmp 18) (.tmp 19) hx (m0 1 [(21,.val (vP (some (Addr.add p7 1))))] ?_);obtain ⟨x8,hx,h⟩:=bind_some h;refine T0 22 91 (.tmp 21) (O1 hx R1) (m0 2 [kB 24 (decide (v5_6<(x8.n:Int))),kI 23 (x8.n:Int)] (B0 (o0 ?_)));rcases Q1 h with ⟨hp,h⟩ | ⟨hp,h⟩
 ·refine D0 24 true (decide_eq_true hp) (E0 (G0 (o0 (A0 (J0 3 (A0 (C0 (m0 3 [kI 29 v4_3,kS 28 a0_1,kL 27 0 1] ?_))))))));obtain ⟨p9,hx,h⟩:=bind_some h;refine O0 30 27 93 (.tmp 28) (.tmp 29) hx (m0 1 [(31,.val (vP (some (Addr.add p9 1))))] ?_);obtain ⟨x10,hx,h⟩:=bind_some h;refine T0 32 91 (.tmp 31) (O1 hx R1) (m0 1 [kI 33 v5_6] ?_);obtain ⟨p11,hx,h⟩:=bind_some h;refine O0 34 91 103 (.tmp 32) (.tmp 33) hx ?_;obtain ⟨x12_0,hx0,h⟩:=bind_some h;obtain ⟨x12_1,hx1,h⟩:=bind_some h;refine RS.la 35 103 (.tmp 34) 2 (P1 (O1 hx0 T1) (P1 (O1 hx1 R1) U1)) (Q0 2 [kL 6 1 0] ([some (30,[(Sl3.v a0_0),(Sl3.v a0_1),(Sl3.v a0_2)]),some (103,[(vS x12_0),(Sl3.v x12_1)])]) (B0 (o0 (A0 (C0 (m0 1 [kI 7 0] (B0 (o0 (J0 4 ?_)))))))));obtain ⟨o,hl,h⟩:=bind_some h;rcases o with ⟨H22,v3_23,v7_24⟩ | r
  ·try dsimp only at h
   refine S0 (z5y (L:=L) (E:=E) (m:=m) (H:=H)) (L.ok hl) 2 ?_;clear hl;refine fun a w hs=>bkE (bkN ((o0 ?_ a w hs)));refine C0 (m0 3 [kI 5 (IntKind.i64.wrap (v5_6+1)),kI 26 (IntKind.i64.wrap (v5_6+1)),kI 25 v5_6] (B0 ?_));cases h;exact fun a w hs=>lsN rfl (hs.sb 1)
  ·try dsimp only at h
   refine R0 (z5y (L:=L) (E:=E) (m:=m) (H:=H)) (L.ok hl) 2 ?_;cases h;exact fun a w hq=>bkR (bkR (sqR (lsR rfl hq)))
 ·refine D0 24 false (decide_eq_false hp) (F0 (WS.ex 2 ?_));cases h;exact fun a w hs=>sqE (lsB rfl (hs.sb 1))
theorem z61 {E H L m a0_0 a0_1 a0_2} :LoopF Tryz.prog (NE.plain 1000) m E Tryz.f39 ((cfst (csnd (cfst (csnd (csnd B39)))))) (zdu L m a0_0 a0_1 a0_2) (fun s=>s.1) 0 P9 (zf H) (C6 L m a0_0 a0_1 a0_2):=by
 rintro ⟨H1,v3_2,v4_3⟩ o h
 unfold C6 at h;try dsimp only at h
 refine A0 (A0 (C0 (m0 5 [kB 13 (decide (v4_3<(a0_1.n:Int))),kI 12 (a0_1.n:Int),kS 11 a0_1,kL 10 0 1,kI 9 v4_3] (B0 (o0 ?_)))));rcases Q1 h with ⟨hp,h⟩ | ⟨hp,h⟩
 ·refine D0 13 true (decide_eq_true hp) (E0 (G0 (o0 (A0 (J0 1 (A0 (C0 (m0 1 [kI 5 0] (B0 ?_)))))))));refine o0 (J0 2 ?_);obtain ⟨o,hl,h⟩:=bind_some h;rcases o with ⟨H25,v3_26,v5_27⟩ | r
  ·try dsimp only at h
   refine S0 (z5v (L:=L) (E:=E) (m:=m) (H:=H)) (L.ok hl) 1 ?_;clear hl;refine fun a w hs=>bkE (bkN ((o0 ?_ a w hs)));refine C0 (m0 3 [kI 4 (IntKind.i64.wrap (v4_3+1)),kI 15 (IntKind.i64.wrap (v4_3+1)),kI 14 v4_3] (B0 ?_));cases h;exact fun a w hs=>lsN rfl (hs.sb 1)
  ·try dsimp only at h
   refine R0 (z5v (L:=L) (E:=E) (m:=m) (H:=H)) (L.ok hl) 1 ?_;cases h;exact fun a w hq=>bkR (bkR (sqR (lsR rfl hq)))
 ·refine D0 13 false (decide_eq_false hp) (F0 (WS.ex 0 ?_));cases h;exact fun a w hs=>sqE (lsB rfl (hs.sb 1))
theorem z5s {E H L m a0_0 a0_1 a0_2} :LoopF Tryz.prog (NE.plain 1000) m E Tryz.f39 ((cfst (csnd (cfst (csnd (csnd (csnd B39))))))) (zdw L m a0_0 a0_1 a0_2) (fun s=>s.1) 6 P9 (zf H) (L6 L m a0_0 a0_1 a0_2):=by
 rintro ⟨H31,v3_32,v8_33⟩ o h
 unfold L6 at h;try dsimp only at h
 refine A0 (A0 (C0 (m0 5 [kB 56 (decide (v8_33<(a0_2.n:Int))),kI 55 (a0_2.n:Int),kS 54 a0_2,kL 53 0 2,kI 52 v8_33] (B0 (o0 ?_)))));rcases Q1 h with ⟨hp,h⟩ | ⟨hp,h⟩
 ·refine D0 56 true (decide_eq_true hp) (E0 (G0 (o0 (A0 (J0 7 (A0 (C0 (m0 4 [kI 62 v8_33,kS 61 a0_2,kL 60 0 2,kS 59 v3_32] ?_))))))));obtain ⟨p34,hx,h⟩:=bind_some h;refine O0 63 28 108 (.tmp 61) (.tmp 62) hx (m0 1 [(64,.val (vP (some (Addr.add p34 1))))] ?_);obtain ⟨x35,hx,h⟩:=bind_some h;refine T0 65 23 (.tmp 64) (O1 hx R1) ?_;obtain ⟨⟨s36,H37⟩,hx,h⟩:=bind_some h;try dsimp only at h
  refine P0 (H':=H37) (some 66) (Sl3.v s36) (Abs.run_app (x:=.tmp 59) (y:=.tmp 65) (ts:=#[23,23]) (s:=v3_32) (z:=x35) (by kernel_rfl) (by kernel_rfl) (by kernel_rfl) (by kernel_rfl) hx) (m0 1 [kS 3 s36] (B0 (o0 (C0 (m0 4 [kI 70 v8_33,kS 69 a0_2,kL 68 0 2,kS 67 s36] ?_)))));obtain ⟨p38,hx,h⟩:=bind_some h;refine O0 71 28 108 (.tmp 69) (.tmp 70) hx (m0 1 [(72,.val (vP (some (Addr.add p38 2))))] ?_);obtain ⟨x39_0,hx0,h⟩:=bind_some h;obtain ⟨x39_1,hx1,h⟩:=bind_some h;obtain ⟨x39_2,hx2,h⟩:=bind_some h;obtain ⟨x39_3,hx3,h⟩:=bind_some h;refine RS.la 73 25 (.tmp 72) 4 (P1 (O1 hx0 S1) (P1 (O1 hx1 S1) (P1 (O1 hx2 T1) (P1 (O1 hx3 R1) U1)))) ?_;obtain ⟨⟨s40,H41⟩,hx,h⟩:=bind_some h;try dsimp only at h
  refine P0 (H':=H41) (some 74) (Sl3.v s40) (Abs.run_newR (by kernel_rfl) (by kernel_rfl) hx) ?_;obtain ⟨⟨s42,H43⟩,hx,h⟩:=bind_some h;try dsimp only at h
  refine P0 (H':=H43) (some 75) (Sl3.v s42) (Abs.run_app (x:=.tmp 67) (y:=.tmp 74) (ts:=#[23,23]) (s:=s36) (z:=s40) (by kernel_rfl) (by kernel_rfl) (by kernel_rfl) (by kernel_rfl) hx) (m0 1 [kS 3 s42] (B0 ?_));refine fun a w hs=>bkN ((o0 ?_ a w hs));refine C0 (m0 3 [kI 8 (IntKind.i64.wrap (v8_33+1)),kI 58 (IntKind.i64.wrap (v8_33+1)),kI 57 v8_33] (B0 ?_));cases h;exact fun a w hs=>lsN rfl (hs.sb 1)
 ·refine D0 56 false (decide_eq_false hp) (F0 (WS.ex 6 ?_));cases h;exact fun a w hs=>sqE (lsB rfl (hs.sb 1))
theorem zh9 {L:LC} {m:Nat} {H:AH} {a0_0 a0_1 a0_2:Sl3} {r:(Sl3×AH)} (h:z2s L m H a0_0 a0_1 a0_2=some r) :
  CallS Tryz.prog (NE.plain 1000) m 39 #[(vA #[(Sl3.v a0_0),(Sl3.v a0_1),(Sl3.v a0_2)])] H (P9 r) (zf H r):=by
 refine CallS.mk (args:=[(vA #[(Sl3.v a0_0),(Sl3.v a0_1),(Sl3.v a0_2)])]) Tryz.func39 (B:=B39) (by kernel_rfl) (fun E _=>?_);unfold z2s at h;refine A0 (C0 (Q0 2 [kS 2 Sl3.nil,kL 1 0 0] ([some (30,[(Sl3.v a0_0),(Sl3.v a0_1),(Sl3.v a0_2)])]) (B0 (o0 (A0 (C0 (m0 1 [kS 3 Sl3.nil] (B0 (o0 ?_)))))))));refine A0 (A0 (C0 (m0 1 [kI 4 0] (B0 (o0 (J0 0 ?_))))));obtain ⟨o,hl,h⟩:=bind_some h;rcases o with ⟨H28,v3_29,v4_30⟩ | r
 ·try dsimp only at h
  refine S0 (z61 (L:=L) (E:=E) (m:=m) (H:=H)) (L.ok hl) 1 ?_;clear hl;refine fun a w hs=>bkE ((o0 ?_ a w hs));refine A0 (A0 (C0 (m0 1 [kI 8 0] (B0 (o0 (J0 6 ?_))))));obtain ⟨o,hl,h⟩:=bind_some h;rcases o with ⟨H44,v3_45,v8_46⟩ | r
  ·try dsimp only at h
   refine S0 (z5s (L:=L) (E:=E) (m:=m) (H:=H)) (L.ok hl) 1 ?_;clear hl;refine fun a w hs=>bkE ((o0 ?_ a w hs));refine A0 (C0 (m0 2 [kS 2 v3_45,kS 76 v3_45] (B0 (o0 (I0 ?_)))));cases h;exact fun a w hs=>rtR (rS hs)
  ·try dsimp only at h
   refine R0 (z5s (L:=L) (E:=E) (m:=m) (H:=H)) (L.ok hl) 1 ?_;cases h;exact fun a w hq=>bkR (sqR (rtR hq))
 ·try dsimp only at h
  refine R0 (z61 (L:=L) (E:=E) (m:=m) (H:=H)) (L.ok hl) 1 ?_;cases h;exact fun a w hq=>bkR (sqR (rtR hq))
def a8:AH→Value
 | _=>(Value.tuple #[])
def c9 (_:AH):AH→AH:=fun r=>r
noncomputable def B75:Code:=(Tryz.f75.body).getD .skip
noncomputable def D6 (_L:LC) (rec_ref04_stand:Nat→AH→Int→Int→ByteArray→Sl3→Sl3→Sl3→Sl3→Bool→Bool→Sl3→Option AH) (m:Nat) (a0_0 _a0_1:Int) (_a0_2:ByteArray) (a0_3 a1_0:Sl3) (a1_1 a1_2:Sl3) (a2 a3:Bool) (a4:Sl3):(AH×Int)→Option (Lp (AH×Int) AH):=fun (H6,v10_7) =>
 if v10_7<(a0_3.n:Int) then
  Option.bind (α:=AH) (
   (idxA 4 a0_3 v10_7).bind fun p9 => (rd (deI .i64) H6 (Addr.add p9 0)).bind fun x10_0 => (rd (deI .i64) H6 (Addr.add p9 1)).bind fun x10_1 => (rd deS H6 (Addr.add p9 2)).bind fun x10_2 => (rd deSl H6 (Addr.add p9 3)).bind fun x10_3 => if a3=true then
    (rec_ref04_stand m H6 x10_0 x10_1 x10_2 x10_3 a1_0 a1_1 a1_2 a2 true a4).bind fun H11 => some H11
   else
    (rec_ref04_stand m H6 x10_0 x10_1 x10_2 x10_3 a1_0 a1_1 a1_2 a2 (decide (a0_0=4)) a4).bind fun H12 => some H12) fun H8 =>
  some (.next (H8,(IntKind.i64.wrap (v10_7+1))))
 else
  some (.brk (H6,v10_7))
def zds (_L:LC) (_rec_ref04_stand:Nat→AH→Int→Int→ByteArray→Sl3→Sl3→Sl3→Sl3→Bool→Bool→Sl3→Option AH) (_m:Nat) (a0_0 a0_1:Int) (a0_2:ByteArray) (a0_3 a1_0:Sl3) (a1_1 a1_2:Sl3) (a2 a3:Bool) (a4:Sl3):(AH×Int)→KN×Lcs:=fun (_,v10_7)=>([kI 10 v10_7,kB 2 a2,kB 3 a3,kS 4 a4,kL 5 0 0,kL 6 1 0],[some (25,[(vI .i64 a0_0),(vI .i64 a0_1),(vS a0_2),(Sl3.v a0_3)]),some (30,[(Sl3.v a1_0),(Sl3.v a1_1),(Sl3.v a1_2)])])
noncomputable def l9 (L:LC) (rec_ref04_stand:Nat→AH→Int→Int→ByteArray→Sl3→Sl3→Sl3→Sl3→Bool→Bool→Sl3→Option AH) (m:Nat) (H:AH) (a0_0 a0_1:Int) (a0_2:ByteArray) (a0_3 a1_0:Sl3) (a1_1 a1_2:Sl3) (a2 a3:Bool) (a4:Sl3):Option AH :=
 Option.bind (α:=AH) (
  Option.bind (α:=Bool) (
   if a0_0=6 then
    if a2=true then
     some a3
    else
     some true
   else
    some false) fun v20_2 =>
  if v20_2=true then
   (S3 L H a1_0 a1_1 a1_2 a0_2).bind fun x3 => (idxA 1 a4 x3).bind fun p4 => (H.setCell m p4 (vB true)).bind fun H5 => some H5
  else
   some H) fun H1 =>
 (L.run (D6 L rec_ref04_stand m a0_0 a0_1 a0_2 a0_3 a1_0 a1_1 a1_2 a2 a3 a4) (H1,0)).bind fun o=>match o with
 | .inl (H13,_) =>
  some H13
 | .inr r=>some r
noncomputable def X6 (L:LC) (n:Nat):(Nat→AH→Int→Int→ByteArray→Sl3→Sl3→Sl3→Sl3→Bool→Bool→Sl3→Option AH):=Nat.rec (motive:=fun _=>(Nat→AH→Int→Int→ByteArray→Sl3→Sl3→Sl3→Sl3→Bool→Bool→Sl3→Option AH)) (fun _ _ _ _ _ _ _ _ _ _ _ _=>none) (fun _ p=>l9 L p) n
noncomputable def z94 (L:LC) (m:Nat) (H:AH) (a0_0 a0_1:Int) (a0_2:ByteArray) (a0_3 a1_0:Sl3) (a1_1 a1_2:Sl3) (a2 a3:Bool) (a4:Sl3):Option AH:=(X6 L L.fuel) m H a0_0 a0_1 a0_2 a0_3 a1_0 a1_1 a1_2 a2 a3 a4
theorem z5m {E H L rec_ref04_stand m a0_0 a0_1 a0_2 a0_3 a1_0 a1_1 a1_2 a2 a3 a4} (hrec_ref04_stand:∀(m:Nat) (H:AH) (a0_0 a0_1:Int) (a0_2:ByteArray) (a0_3 a1_0:Sl3) (a1_1 a1_2:Sl3) (a2 a3:Bool) (a4:Sl3) (r:AH),rec_ref04_stand m H a0_0 a0_1 a0_2 a0_3 a1_0 a1_1 a1_2 a2 a3 a4=some r→CallS Tryz.prog (NE.plain 1000) m 75 #[(vA #[(vI .i64 a0_0),(vI .i64 a0_1),(vS a0_2),(Sl3.v a0_3)]),(vA #[(Sl3.v a1_0),(Sl3.v a1_1),(Sl3.v a1_2)]),(vB a2),(vB a3),(Sl3.v a4)] H (a8 r) (c9 H r)):LoopF Tryz.prog (NE.plain 1000) m E Tryz.f75 ((cfst (csnd (csnd (csnd B75))))) (zds L rec_ref04_stand m a0_0 a0_1 a0_2 a0_3 a1_0 a1_1 a1_2 a2 a3 a4) (fun s=>s.1) 0 a8 (c9 H) (D6 L rec_ref04_stand m a0_0 a0_1 a0_2 a0_3 a1_0 a1_1 a1_2 a2 a3 a4):=by
 rintro ⟨H6,v10_7⟩ o h
 unfold D6 at h;try dsimp only at h
 refine A0 (A0 (C0 (m0 5 [kB 31 (decide (v10_7<(a0_3.n:Int))),kI 30 (a0_3.n:Int),kS 29 a0_3,kL 28 0 3,kI 27 v10_7] (B0 (o0 ?_)))));rcases Q1 h with ⟨hp,h⟩ | ⟨hp,h⟩
 ·refine D0 31 true (decide_eq_true hp) (E0 (G0 (o0 ?_)));obtain ⟨H8,hx,h⟩:=bind_some h;refine A0 ?_;refine A1 ([kB 2 a2,kB 3 a3,kS 4 a4,kL 5 0 0,kL 6 1 0,kI 10 v10_7]) ([some (25,[(vI .i64 a0_0),(vI .i64 a0_1),(vS a0_2),(Sl3.v a0_3)]),some (30,[(Sl3.v a1_0),(Sl3.v a1_1),(Sl3.v a1_2)])]) H8 ?_ (fun a w hs=>o0 ?_ a w hs)
  ·clear h; rename _=>h;refine J0 1 ?_;refine D1 [0,1,2,3,4,5,7,8,9,10] [0,1,0,7,15,0,0,0,128,384,896,1920,3968,0,16383] 15 (fun hcl=>?_);refine V0 0 (some 34) (.loc 0 3) (V0 1 (some 35) (.val (Sl3.v a0_3)) (U0 2 (some 36) (vI .i64 v10_7) ?_));obtain ⟨p9,hx,h⟩:=bind_some h;refine Z0 3 (some 37) (vP (some p9)) (Abs.det_idx (s:=a0_3) (k:=.i64) (t:=23) (e:=25) (x:=.tmp 35) (y:=.tmp 36) (by kernel_rfl) (by kernel_rfl) (by kernel_rfl) (by kernel_rfl) (by kernel_rfl) hx) ?_;obtain ⟨x10_0,hx0,h⟩:=bind_some h;obtain ⟨x10_1,hx1,h⟩:=bind_some h;obtain ⟨x10_2,hx2,h⟩:=bind_some h;obtain ⟨x10_3,hx3,h⟩:=bind_some h;refine Z0 4 (some 38) (vA #[(vI .i64 x10_0),(vI .i64 x10_1),(vS x10_2),(Sl3.v x10_3)]) (Abs.det_loadA (t:=25) (x:=.tmp 37) (a:=p9) (k:=4) (by kernel_rfl) (by kernel_rfl) (by kernel_rfl) (by kernel_rfl) (P1 (O1 hx0 S1) (P1 (O1 hx1 S1) (P1 (O1 hx2 T1) (P1 (O1 hx3 R1) U1))))) (V0 5 (some 39) (.val (vA #[(Sl3.v a1_0),(Sl3.v a1_1),(Sl3.v a1_2)])) (U0 7 (some 41) (vB a3) (U0 8 (some 42) (vB a3) ?_)));rcases Q1 h with ⟨hp,h⟩ | ⟨hp,h⟩
   ·refine N1 42 true hp ?_;refine DA.tskipD 9 (some 43) (by kernel_rfl) (by kernel_rfl) (by kernel_rfl) hcl (fun _ _ _ h=>h) (by kernel_rfl) ?_;refine DA.tskipD 10 (some 44) (by kernel_rfl) (by kernel_rfl) (by kernel_rfl) hcl (fun _ _ _ h=>h) (by kernel_rfl) ?_;refine M0 6 (some 40) (vB a2) (M0 13 (some 47) (Sl3.v a4) (DA.on 11 (DA.askipD 11 (some 45) (by kernel_rfl) (by kernel_rfl) (by kernel_rfl) hcl (by kernel_rfl) (by kernel_rfl) (M0 12 (some 46) (vB true) ?_))));obtain ⟨H11,hx,h⟩:=bind_some h;refine DA.on 14 (X0 14 (some 48) (v:=(Value.tuple #[])) 75 _ (hrec_ref04_stand _ _ _ _ _ _ _ _ _ _ _ _ _ hx) (W0 ?_));cases h;exact fun a w hs=>bkN ((jsN (hs.sb 2)))
   ·refine N1 42 false (b_not hp) (V0 9 (some 43) (.loc 0 0) (V0 10 (some 44) (.val (vI .i64 a0_0)) (M0 6 (some 40) (vB a2) (M0 13 (some 47) (Sl3.v a4) (DA.on 11 (DA.aHk (H':=H6) 11 (some 45) false (vB (decide (a0_0=4))) (by kernel_rfl) (M0 12 (some 46) (vB (decide (a0_0=4))) ?_)))))));obtain ⟨H12,hx,h⟩:=bind_some h;refine DA.on 14 (X0 14 (some 48) (v:=(Value.tuple #[])) 75 _ (hrec_ref04_stand _ _ _ _ _ _ _ _ _ _ _ _ _ hx) (W0 ?_));cases h;exact fun a w hs=>bkN ((jsN (hs.sb 2)))
  ·clear hx;refine C0 (m0 3 [kI 10 (IntKind.i64.wrap (v10_7+1)),kI 33 (IntKind.i64.wrap (v10_7+1)),kI 32 v10_7] (B0 ?_));cases h;exact fun a w hs=>lsN rfl (hs.sb 2)
 ·refine D0 31 false (decide_eq_false hp) (F0 (WS.ex 0 ?_));cases h;exact fun a w hs=>sqE (lsB rfl (hs.sb 2))
theorem zbi {L:LC} {rec_ref04_stand:Nat→AH→Int→Int→ByteArray→Sl3→Sl3→Sl3→Sl3→Bool→Bool→Sl3→Option AH} (hrec_ref04_stand:∀(m:Nat) (H:AH) (a0_0 a0_1:Int) (a0_2:ByteArray) (a0_3 a1_0:Sl3) (a1_1 a1_2:Sl3) (a2 a3:Bool) (a4:Sl3) (r:AH),rec_ref04_stand m H a0_0 a0_1 a0_2 a0_3 a1_0 a1_1 a1_2 a2 a3 a4=some r→CallS Tryz.prog (NE.plain 1000) m 75 #[(vA #[(vI .i64 a0_0),(vI .i64 a0_1),(vS a0_2),(Sl3.v a0_3)]),(vA #[(Sl3.v a1_0),(Sl3.v a1_1),(Sl3.v a1_2)]),(vB a2),(vB a3),(Sl3.v a4)] H (a8 r) (c9 H r)) {m:Nat} {H:AH} {a0_0 a0_1:Int} {a0_2:ByteArray} {a0_3 a1_0:Sl3} {a1_1 a1_2:Sl3} {a2 a3:Bool} {a4:Sl3} {r:AH} (h:l9 L rec_ref04_stand m H a0_0 a0_1 a0_2 a0_3 a1_0 a1_1 a1_2 a2 a3 a4=some r) :
  CallS Tryz.prog (NE.plain 1000) m 75 #[(vA #[(vI .i64 a0_0),(vI .i64 a0_1),(vS a0_2),(Sl3.v a0_3)]),(vA #[(Sl3.v a1_0),(Sl3.v a1_1),(Sl3.v a1_2)]),(vB a2),(vB a3),(Sl3.v a4)] H (a8 r) (c9 H r):=by
 refine CallS.mk (args:=[(vA #[(vI .i64 a0_0),(vI .i64 a0_1),(vS a0_2),(Sl3.v a0_3)]),(vA #[(Sl3.v a1_0),(Sl3.v a1_1),(Sl3.v a1_2)]),(vB a2),(vB a3),(Sl3.v a4)]) Tryz.func75 (B:=B75) (by kernel_rfl) (fun E _=>?_);unfold l9 at h;refine A0 (C0 (Q0 2 [kL 6 1 0,kL 5 0 0] ([some (25,[(vI .i64 a0_0),(vI .i64 a0_1),(vS a0_2),(Sl3.v a0_3)]),some (30,[(Sl3.v a1_0),(Sl3.v a1_1),(Sl3.v a1_2)])]) (B0 (o0 ?_))));obtain ⟨H1,hx,h⟩:=bind_some h;refine A0 ?_;refine A1 ([kB 2 a2,kB 3 a3,kS 4 a4,kL 5 0 0,kL 6 1 0]) ([some (25,[(vI .i64 a0_0),(vI .i64 a0_1),(vS a0_2),(Sl3.v a0_3)]),some (30,[(Sl3.v a1_0),(Sl3.v a1_1),(Sl3.v a1_2)])]) H1 ?_ (fun a w hs=>o0 ?_ a w hs)
 ·clear h; rename _=>h;obtain ⟨v20_2,hx,h⟩:=bind_some h;refine A0 ?_;refine A1 ([kB 20 v20_2,kB 2 a2,kB 3 a3,kS 4 a4,kL 5 0 0,kL 6 1 0]) ([some (25,[(vI .i64 a0_0),(vI .i64 a0_1),(vS a0_2),(Sl3.v a0_3)]),some (30,[(Sl3.v a1_0),(Sl3.v a1_1),(Sl3.v a1_2)])]) H ?_ (fun a w hs=>o0 ?_ a w hs)
  ·clear h; rename _=>h;refine C0 (m0 4 [kB 14 (decide (a0_0=6)),kB 13 (decide (a0_0=6)),kI 12 a0_0,kL 11 0 0] ?_);rcases Q1 h with ⟨hp,h⟩ | ⟨hp,h⟩
   ·refine K0 14 true (decide_eq_true hp) (m0 3 [kB 17 (!a2),kB 16 (!a2),kB 15 a2] ?_);rcases Q1 h with ⟨hp,h⟩ | ⟨hp,h⟩
    ·refine K0 17 false (nb_not hp) (m0 3 [kB 20 a3,kB 19 a3,kB 18 a3] (B0 ?_));cases h;exact fun a w hs=>(jsN (hs.sb 2))
    ·refine K0 17 true (W2 hp) (m0 3 [kB 20 true,kB 19 true,kU 18] (B0 ?_));cases h;exact fun a w hs=>(jsN (hs.sb 2))
   ·refine K0 14 false (decide_eq_false hp) (m0 6 [kB 20 false,kU 19,kU 18,kU 17,kU 16,kU 15] (B0 ?_));cases h;exact fun a w hs=>(jsN (hs.sb 2))
  ·clear hx;rcases Q1 h with ⟨hp,h⟩ | ⟨hp,h⟩
   ·refine D0 20 true hp (E0 (C0 (m0 4 [kT 24 a0_2,kL 23 0 2,kA 22 #[(Sl3.v a1_0),(Sl3.v a1_1),(Sl3.v a1_2)],kS 21 a4] ?_)));obtain ⟨x3,hx,h⟩:=bind_some h;refine N0 (some 25) (v:=(vI .i64 x3)) 46 _ (I8 hx) ?_;obtain ⟨p4,hx,h⟩:=bind_some h;refine O0 26 70 4 (.tmp 21) (.tmp 25) hx ?_;obtain ⟨H5,hx,h⟩:=bind_some h;refine P0 (H':=H5) none undef (Abs.run_store1 (t:=4) (x:=.tmp 26) (y:=.const (vB true)) (a:=p4) (v:=(vB true)) (by kernel_rfl) (by kernel_rfl) (by kernel_rfl) (by kernel_rfl) (by kernel_rfl) hx) (B0 ?_);cases h;exact fun a w hs=>(jsN (hs.sb 2))
   ·refine D0 20 false (b_not hp) (F0 (G0 ?_));cases h;exact fun a w hs=>(jsN (hs.sb 2))
 ·clear hx;refine A0 (C0 (m0 1 [kI 10 0] (B0 (o0 (J0 0 ?_)))));obtain ⟨o,hl,h⟩:=bind_some h;rcases o with ⟨H13,v10_14⟩ | r
  ·try dsimp only at h
   refine S0 (z5m (L:=L) (E:=E) (m:=m) (H:=H) hrec_ref04_stand) (L.ok hl) 2 ?_;clear hl;cases h;exact fun a w hs=>bkE (rtN (rS hs))
  ·try dsimp only at h
   refine R0 (z5m (L:=L) (E:=E) (m:=m) (H:=H) hrec_ref04_stand) (L.ok hl) 2 ?_;cases h;exact fun a w hq=>bkR (rtR hq)
theorem zcu {L:LC}:∀n,(∀(m:Nat) (H:AH) (a0_0 a0_1:Int) (a0_2:ByteArray) (a0_3 a1_0:Sl3) (a1_1 a1_2:Sl3) (a2 a3:Bool) (a4:Sl3) (r:AH),((X6 L n)) m H a0_0 a0_1 a0_2 a0_3 a1_0 a1_1 a1_2 a2 a3 a4=some r→CallS Tryz.prog (NE.plain 1000) m 75 #[(vA #[(vI .i64 a0_0),(vI .i64 a0_1),(vS a0_2),(Sl3.v a0_3)]),(vA #[(Sl3.v a1_0),(Sl3.v a1_1),(Sl3.v a1_2)]),(vB a2),(vB a3),(Sl3.v a4)] H (a8 r) (c9 H r)):=by
 intro n;induction n with
 | zero=>exact (fun _ _ _ _ _ _ _ _ _ _ _ _ _ h=>(Option.some_ne_none _ h.symm).elim)
 | succ n ih=>exact (fun _ _ _ _ _ _ _ _ _ _ _ _ _ h=>zbi (L:=L) ih h)
theorem zha {L:LC} {m:Nat} {H:AH} {a0_0 a0_1:Int} {a0_2:ByteArray} {a0_3 a1_0:Sl3} {a1_1 a1_2:Sl3} {a2 a3:Bool} {a4:Sl3} {r:AH} (h:z94 L m H a0_0 a0_1 a0_2 a0_3 a1_0 a1_1 a1_2 a2 a3 a4=some r) :
  CallS Tryz.prog (NE.plain 1000) m 75 #[(vA #[(vI .i64 a0_0),(vI .i64 a0_1),(vS a0_2),(Sl3.v a0_3)]),(vA #[(Sl3.v a1_0),(Sl3.v a1_1),(Sl3.v a1_2)]),(vB a2),(vB a3),(Sl3.v a4)] H (a8 r) (c9 H r) :=
 (zcu _) _ _ _ _ _ _ _ _ _ _ _ _ _ h
def z31:(Sl3×AH)→Value
 | (r0,_)=>(Sl3.v r0)
def z3t (_:AH):(Sl3×AH)→AH:=fun r=>r.2
noncomputable def B63:Code:=(Tryz.f63.body).getD .skip
noncomputable def T5 (L:LC) (m:Nat) (a0_0 a0_1 a0_2:Sl3) (_a1:Int) (a2:Bool) (s1:Sl3) (_v8_4:Int) (_x10_0:ByteArray) (x10_1:Sl3):(AH×Int)→Option (Lp (AH×Int) (Sl3×AH)):=fun (H11,v10_12) =>
 if v10_12<(x10_1.n:Int) then
  (idxA 5 x10_1 v10_12).bind fun p13 => (rd (deI .i64) H11 (Addr.add (Addr.add p13 1) 0)).bind fun x14_0 => (rd (deI .i64) H11 (Addr.add (Addr.add p13 1) 1)).bind fun x14_1 => (rd deS H11 (Addr.add (Addr.add p13 1) 2)).bind fun x14_2 => (rd deSl H11 (Addr.add (Addr.add p13 1) 3)).bind fun x14_3 => (z94 L m H11 x14_0 x14_1 x14_2 x14_3 a0_0 a0_1 a0_2 a2 false s1).bind fun H15 => some (.next (H15,(IntKind.i64.wrap (v10_12+1))))
 else
  some (.brk (H11,v10_12))
def zcb (_L:LC) (_m:Nat) (a0_0 a0_1 a0_2:Sl3) (a1:Int) (a2:Bool) (s1:Sl3) (v8_4:Int) (x10_0:ByteArray) (x10_1:Sl3):(AH×Int)→KN×Lcs:=fun (_,v10_12)=>([kI 10 v10_12,kI 1 a1,kB 2 a2,kL 3 0 0,kS 7 s1,kI 8 v8_4,kL 9 1 0],[some (30,[(Sl3.v a0_0),(Sl3.v a0_1),(Sl3.v a0_2)]),some (103,[(vS x10_0),(Sl3.v x10_1)])])
noncomputable def S5 (L:LC) (m:Nat) (a0_0 a0_1 a0_2:Sl3) (a1:Int) (a2:Bool) (s1:Sl3):(AH×Int)→Option (Lp (AH×Int) (Sl3×AH)):=fun (H3,v8_4) =>
 (idxA 2 a0_1 a1).bind fun p5 => (rd deSl H3 (Addr.add p5 1)).bind fun x6 => if v8_4<(x6.n:Int) then
  (idxA 2 a0_1 a1).bind fun p7 => (rd deSl H3 (Addr.add p7 1)).bind fun x8 => (idxA 2 x8 v8_4).bind fun p9 => (rd deS H3 (Addr.add p9 0)).bind fun x10_0 => (rd deSl H3 (Addr.add p9 1)).bind fun x10_1 => (L.run (T5 L m a0_0 a0_1 a0_2 a1 a2 s1 v8_4 x10_0 x10_1) (H3,0)).bind fun o=>match o with
  | .inl (H16,_) =>
   some (.next (H16,(IntKind.i64.wrap (v8_4+1))))
  | .inr r=>some (.ret r)
 else
  some (.brk (H3,v8_4))
def zde (_L:LC) (_m:Nat) (a0_0 a0_1 a0_2:Sl3) (a1:Int) (a2:Bool) (s1:Sl3):(AH×Int)→KN×Lcs:=fun (_,v8_4)=>([kI 8 v8_4,kI 1 a1,kB 2 a2,kL 3 0 0,kS 7 s1],[some (30,[(Sl3.v a0_0),(Sl3.v a0_1),(Sl3.v a0_2)])])
noncomputable def r9 (L:LC) (m:Nat) (H:AH) (a0_0 a0_1 a0_2:Sl3) (a1:Int) (a2:Bool):Option (Sl3×AH) :=
 (mkS 4 1 1 #[(vB false)] H (a0_1.n:Int) (a0_1.n:Int)).bind fun (s1,H2) => (L.run (S5 L m a0_0 a0_1 a0_2 a1 a2 s1) (H2,0)).bind fun o=>match o with
 | .inl (H18,_) =>
  some (s1,H18)
 | .inr r=>some r
theorem z4w {E H L m a0_0 a0_1 a0_2 a1 a2 s1 v8_4 x10_0 x10_1} :LoopF Tryz.prog (NE.plain 1000) m E Tryz.f63 ((cfst (csnd (csnd (cfst (cfst (csnd (cfst (cfst (csnd (cfst (csnd (csnd B63))))))))))))) (zcb L m a0_0 a0_1 a0_2 a1 a2 s1 v8_4 x10_0 x10_1) (fun s=>s.1) 2 z31 (z3t H) (T5 L m a0_0 a0_1 a0_2 a1 a2 s1 v8_4 x10_0 x10_1):=by
 rintro ⟨H11,v10_12⟩ o h
 unfold T5 at h;try dsimp only at h
 refine A0 (A0 (C0 (m0 5 [kB 39 (decide (v10_12<(x10_1.n:Int))),kI 38 (x10_1.n:Int),kS 37 x10_1,kL 36 1 1,kI 35 v10_12] (B0 (o0 ?_)))));rcases Q1 h with ⟨hp,h⟩ | ⟨hp,h⟩
 ·refine D0 39 true (decide_eq_true hp) (E0 (G0 (o0 (A0 (J0 3 ?_)))));refine D1 [0,1,2,3,4,5,6] [0,1,0,7,15,31,0,0,0,511] 10 (fun hcl=>?_);refine V0 0 (some 42) (.loc 1 1) (V0 1 (some 43) (.val (Sl3.v x10_1)) (U0 2 (some 44) (vI .i64 v10_12) ?_));obtain ⟨p13,hx,h⟩:=bind_some h;refine Z0 3 (some 45) (vP (some p13)) (Abs.det_idx (s:=x10_1) (k:=.i64) (t:=101) (e:=105) (x:=.tmp 43) (y:=.tmp 44) (by kernel_rfl) (by kernel_rfl) (by kernel_rfl) (by kernel_rfl) (by kernel_rfl) hx) (U0 4 (some 46) (vP (some (Addr.add p13 1))) ?_);obtain ⟨x14_0,hx0,h⟩:=bind_some h;obtain ⟨x14_1,hx1,h⟩:=bind_some h;obtain ⟨x14_2,hx2,h⟩:=bind_some h;obtain ⟨x14_3,hx3,h⟩:=bind_some h;refine Z0 5 (some 47) (vA #[(vI .i64 x14_0),(vI .i64 x14_1),(vS x14_2),(Sl3.v x14_3)]) (Abs.det_loadA (t:=25) (x:=.tmp 46) (a:=(Addr.add p13 1)) (k:=4) (by kernel_rfl) (by kernel_rfl) (by kernel_rfl) (by kernel_rfl) (P1 (O1 hx0 S1) (P1 (O1 hx1 S1) (P1 (O1 hx2 T1) (P1 (O1 hx3 R1) U1))))) (V0 6 (some 48) (.val (vA #[(Sl3.v a0_0),(Sl3.v a0_1),(Sl3.v a0_2)])) (M0 7 (some 49) (vB a2) (M0 8 (some 50) (Sl3.v s1) ?_)));obtain ⟨H15,hx,h⟩:=bind_some h;refine DA.on 9 (X0 9 (some 51) (v:=(Value.tuple #[])) 75 _ (zha hx) (W0 ?_));refine fun a w hs=>bkN ((o0 ?_ a w hs));refine C0 (m0 3 [kI 10 (IntKind.i64.wrap (v10_12+1)),kI 41 (IntKind.i64.wrap (v10_12+1)),kI 40 v10_12] (B0 ?_));cases h;exact fun a w hs=>lsN rfl (hs.sb 2)
 ·refine D0 39 false (decide_eq_false hp) (F0 (WS.ex 2 ?_));cases h;exact fun a w hs=>sqE (lsB rfl (hs.sb 2))
theorem z4u {E H L m a0_0 a0_1 a0_2 a1 a2 s1} :LoopF Tryz.prog (NE.plain 1000) m E Tryz.f63 ((cfst (csnd (cfst (csnd (csnd B63)))))) (zde L m a0_0 a0_1 a0_2 a1 a2 s1) (fun s=>s.1) 0 z31 (z3t H) (S5 L m a0_0 a0_1 a0_2 a1 a2 s1):=by
 rintro ⟨H3,v8_4⟩ o h
 unfold S5 at h;try dsimp only at h
 refine A0 (A0 (C0 (m0 4 [kI 18 a1,kS 17 a0_1,kL 16 0 1,kI 15 v8_4] ?_)));obtain ⟨p5,hx,h⟩:=bind_some h;refine O0 19 27 93 (.tmp 17) (.tmp 18) hx (m0 1 [(20,.val (vP (some (Addr.add p5 1))))] ?_);obtain ⟨x6,hx,h⟩:=bind_some h;refine T0 21 91 (.tmp 20) (O1 hx R1) (m0 2 [kB 23 (decide (v8_4<(x6.n:Int))),kI 22 (x6.n:Int)] (B0 (o0 ?_)));rcases Q1 h with ⟨hp,h⟩ | ⟨hp,h⟩
 ·refine D0 23 true (decide_eq_true hp) (E0 (G0 (o0 (A0 (J0 1 (A0 (C0 (m0 3 [kI 28 a1,kS 27 a0_1,kL 26 0 1] ?_))))))));obtain ⟨p7,hx,h⟩:=bind_some h;refine O0 29 27 93 (.tmp 27) (.tmp 28) hx (m0 1 [(30,.val (vP (some (Addr.add p7 1))))] ?_);obtain ⟨x8,hx,h⟩:=bind_some h;refine T0 31 91 (.tmp 30) (O1 hx R1) (m0 1 [kI 32 v8_4] ?_);obtain ⟨p9,hx,h⟩:=bind_some h;refine O0 33 91 103 (.tmp 31) (.tmp 32) hx ?_;obtain ⟨x10_0,hx0,h⟩:=bind_some h;obtain ⟨x10_1,hx1,h⟩:=bind_some h;refine RS.la 34 103 (.tmp 33) 2 (P1 (O1 hx0 T1) (P1 (O1 hx1 R1) U1)) (Q0 2 [kL 9 1 0] ([some (30,[(Sl3.v a0_0),(Sl3.v a0_1),(Sl3.v a0_2)]),some (103,[(vS x10_0),(Sl3.v x10_1)])]) (B0 (o0 (A0 (C0 (m0 1 [kI 10 0] (B0 (o0 (J0 2 ?_)))))))));obtain ⟨o,hl,h⟩:=bind_some h;rcases o with ⟨H16,v10_17⟩ | r
  ·try dsimp only at h
   refine S0 (z4w (L:=L) (E:=E) (m:=m) (H:=H)) (L.ok hl) 2 ?_;clear hl;refine fun a w hs=>bkE (bkN ((o0 ?_ a w hs)));refine C0 (m0 3 [kI 8 (IntKind.i64.wrap (v8_4+1)),kI 25 (IntKind.i64.wrap (v8_4+1)),kI 24 v8_4] (B0 ?_));cases h;exact fun a w hs=>lsN rfl (hs.sb 1)
  ·try dsimp only at h
   refine R0 (z4w (L:=L) (E:=E) (m:=m) (H:=H)) (L.ok hl) 2 ?_;cases h;exact fun a w hq=>bkR (bkR (sqR (lsR rfl hq)))
 ·refine D0 23 false (decide_eq_false hp) (F0 (WS.ex 0 ?_));cases h;exact fun a w hs=>sqE (lsB rfl (hs.sb 1))
theorem z3u {L:LC} {m:Nat} {H:AH} {a0_0 a0_1 a0_2:Sl3} {a1:Int} {a2:Bool} {r:(Sl3×AH)} (h:r9 L m H a0_0 a0_1 a0_2 a1 a2=some r) :
  CallS Tryz.prog (NE.plain 1000) m 63 #[(vA #[(Sl3.v a0_0),(Sl3.v a0_1),(Sl3.v a0_2)]),(vI .i64 a1),(vB a2)] H (z31 r) (z3t H r):=by
 refine CallS.mk (args:=[(vA #[(Sl3.v a0_0),(Sl3.v a0_1),(Sl3.v a0_2)]),(vI .i64 a1),(vB a2)]) Tryz.func63 (B:=B63) (by kernel_rfl) (fun E _=>?_);unfold r9 at h;refine A0 (C0 (Q0 2 [kS 6 Sl3.nil,kL 3 0 0] ([some (30,[(Sl3.v a0_0),(Sl3.v a0_1),(Sl3.v a0_2)])]) (B0 (o0 (A0 (C0 (m0 3 [kI 13 (a0_1.n:Int),kS 12 a0_1,kL 11 0 1] ?_)))))));obtain ⟨⟨s1,H2⟩,hx,h⟩:=bind_some h;try dsimp only at h
 refine P0 (H':=H2) (some 14) (Sl3.v s1) (Abs.run_mk (t:=70) (x:=.tmp 13) (y:=.tmp 13) (k1:=.i64) (k2:=.i64) (by kernel_rfl) (by kernel_rfl) (by kernel_rfl) (by kernel_rfl) hx) (m0 1 [kS 7 s1] (B0 (o0 (A0 (A0 (C0 (m0 1 [kI 8 0] (B0 (o0 ?_)))))))));refine J0 0 ?_;obtain ⟨o,hl,h⟩:=bind_some h;rcases o with ⟨H18,v8_19⟩ | r
 ·try dsimp only at h
  refine S0 (z4u (L:=L) (E:=E) (m:=m) (H:=H)) (L.ok hl) 1 ?_;clear hl;refine fun a w hs=>bkE ((o0 ?_ a w hs));refine A0 (C0 (m0 2 [kS 6 s1,kS 52 s1] (B0 (o0 (I0 ?_)))));cases h;exact fun a w hs=>rtR (rS hs)
 ·try dsimp only at h
  refine R0 (z4u (L:=L) (E:=E) (m:=m) (H:=H)) (L.ok hl) 1 ?_;cases h;exact fun a w hq=>bkR (sqR (rtR hq))
def z16:(Sl3×AH)→Value
 | (r0,_)=>(Sl3.v r0)
def z1z (_:AH):(Sl3×AH)→AH:=fun r=>r.2
noncomputable def B64:Code:=(Tryz.f64.body).getD .skip
noncomputable def Z3 (_L:LC) (m:Nat) (_a0_0 _a0_1:Sl3) (_a0_2 x1:Sl3) (_v7_7:Int) (x12:Sl3):(AH×Bool×Int)→Option (Lp (AH×Bool×Int) (Sl3×AH)):=fun (H14,v6_15,v9_16) =>
 if v9_16<(x12.n:Int) then
  Option.bind (α:=(AH×Bool)) (
   Option.bind (α:=Bool) (
    (idxA 1 x12 v9_16).bind fun p20 => (rd deB H14 p20).bind fun x21 => if x21=true then
     (idxA 1 x1 v9_16).bind fun p22 => (rd deB H14 p22).bind fun x23 => some (!x23)
    else
     some false) fun v44_19 =>
   if v44_19=true then
    (idxA 1 x1 v9_16).bind fun p24 => (H14.setCell m p24 (vB true)).bind fun H25 => some (H25,true)
   else
    some (H14,v6_15)) fun (H17,v6_18) =>
  some (.next (H17,v6_18,(IntKind.i64.wrap (v9_16+1))))
 else
  some (.brk (H14,v6_15,v9_16))
def zdy (_L:LC) (_m:Nat) (a0_0 a0_1:Sl3) (a0_2 x1:Sl3) (v7_7:Int) (x12:Sl3):(AH×Bool×Int)→KN×Lcs:=fun (_,v6_15,v9_16)=>([kB 6 v6_15,kI 9 v9_16,kL 2 0 0,kS 5 x1,kI 7 v7_7,kS 8 x12],[some (30,[(Sl3.v a0_0),(Sl3.v a0_1),(Sl3.v a0_2)])])
noncomputable def Y3 (L:LC) (m:Nat) (a0_0 a0_1:Sl3) (a0_2 x1:Sl3):(AH×Bool×Int)→Option (Lp (AH×Bool×Int) (Sl3×AH)):=fun (H5,v6_6,v7_7) =>
 if v7_7<(x1.n:Int) then
  Option.bind (α:=(AH×Bool)) (
   (idxA 1 x1 v7_7).bind fun p10 => (rd deB H5 p10).bind fun x11 => if x11=true then
    (r9 L m H5 a0_0 a0_1 a0_2 v7_7 false).bind fun (x12,H13) => (L.run (Z3 L m a0_0 a0_1 a0_2 x1 v7_7 x12) (H13,v6_6,0)).bind fun o=>match o with
    | .inl (H26,v6_27,_) =>
     some (H26,v6_27)
    | .inr _=>none
   else
    some (H5,v6_6)) fun (H8,v6_9) =>
  some (.next (H8,v6_9,(IntKind.i64.wrap (v7_7+1))))
 else
  some (.brk (H5,v6_6,v7_7))
def zdt (_L:LC) (_m:Nat) (a0_0 a0_1:Sl3) (a0_2 x1:Sl3):(AH×Bool×Int)→KN×Lcs:=fun (_,v6_6,v7_7)=>([kB 6 v6_6,kI 7 v7_7,kL 2 0 0,kS 5 x1],[some (30,[(Sl3.v a0_0),(Sl3.v a0_1),(Sl3.v a0_2)])])
noncomputable def I6 (L:LC) (m:Nat) (a0_0 a0_1:Sl3) (a0_2 x1:Sl3):(AH×Bool)→Option (Lp (AH×Bool) (Sl3×AH)):=fun (H3,v6_4) =>
 if v6_4=true then
  (L.run (Y3 L m a0_0 a0_1 a0_2 x1) (H3,false,0)).bind fun o=>match o with
  | .inl (H29,v6_30,_) =>
   some (.next (H29,v6_30))
  | .inr r=>some (.ret r)
 else
  some (.brk (H3,v6_4))
def zdv (_L:LC) (_m:Nat) (a0_0 a0_1:Sl3) (a0_2 x1:Sl3):(AH×Bool)→KN×Lcs:=fun (_,v6_4)=>([kB 6 v6_4,kL 2 0 0,kS 5 x1],[some (30,[(Sl3.v a0_0),(Sl3.v a0_1),(Sl3.v a0_2)])])
noncomputable def z2q (L:LC) (m:Nat) (H:AH) (a0_0 a0_1 a0_2:Sl3) (a1:Int):Option (Sl3×AH) :=
 (r9 L m H a0_0 a0_1 a0_2 a1 false).bind fun (x1,H2) => (L.run (I6 L m a0_0 a0_1 a0_2 x1) (H2,true)).bind fun o=>match o with
 | .inl (H32,_) =>
  some (x1,H32)
 | .inr r=>some r
theorem z5q {E H L m a0_0 a0_1 a0_2 x1 v7_7 x12} :LoopF Tryz.prog (NE.plain 1000) m E Tryz.f64 ((cfst (csnd (csnd (csnd (cfst (cfst (csnd (cfst (cfst (csnd (csnd (cfst (csnd (cfst (cfst (cfst (csnd (csnd (csnd B64)))))))))))))))))))) (zdy L m a0_0 a0_1 a0_2 x1 v7_7 x12) (fun s=>s.1) 4 z16 (z1z H) (Z3 L m a0_0 a0_1 a0_2 x1 v7_7 x12):=by
 rintro ⟨H14,v6_15,v9_16⟩ o h
 unfold Z3 at h;try dsimp only at h
 refine A0 (A0 (C0 (m0 4 [kB 31 (decide (v9_16<(x12.n:Int))),kI 30 (x12.n:Int),kS 29 x12,kI 28 v9_16] (B0 (o0 ?_)))));rcases Q1 h with ⟨hp,h⟩ | ⟨hp,h⟩
 ·refine D0 31 true (decide_eq_true hp) (E0 (G0 (o0 ?_)));obtain ⟨⟨H17,v6_18⟩,hx,h⟩:=bind_some h;try dsimp only at h
  refine A0 ?_;refine A1 ([kB 6 v6_18,kL 2 0 0,kS 5 x1,kI 7 v7_7,kS 8 x12,kI 9 v9_16]) ([some (30,[(Sl3.v a0_0),(Sl3.v a0_1),(Sl3.v a0_2)])]) H17 ?_ (fun a w hs=>o0 ?_ a w hs)
  ·clear h; rename _=>h;refine J0 5 ?_;obtain ⟨v44_19,hx,h⟩:=bind_some h;refine A0 ?_;refine A1 ([kB 44 v44_19,kL 2 0 0,kS 5 x1,kB 6 v6_15,kI 7 v7_7,kS 8 x12,kI 9 v9_16]) ([some (30,[(Sl3.v a0_0),(Sl3.v a0_1),(Sl3.v a0_2)])]) H14 ?_ (fun a w hs=>o0 ?_ a w hs)
   ·clear h; rename _=>h;refine C0 (m0 2 [kI 35 v9_16,kS 34 x12] ?_);obtain ⟨p20,hx,h⟩:=bind_some h;refine O0 36 70 4 (.tmp 34) (.tmp 35) hx ?_;obtain ⟨x21,hx,h⟩:=bind_some h;refine T0 37 4 (.tmp 36) (O1 hx F6) (m0 1 [kB 38 x21] ?_);rcases Q1 h with ⟨hp,h⟩ | ⟨hp,h⟩
    ·refine K0 38 true hp (m0 2 [kI 40 v9_16,kS 39 x1] ?_);obtain ⟨p22,hx,h⟩:=bind_some h;refine O0 41 70 4 (.tmp 39) (.tmp 40) hx ?_;obtain ⟨x23,hx,h⟩:=bind_some h;refine T0 42 4 (.tmp 41) (O1 hx F6) (m0 2 [kB 44 (!x23),kB 43 (!x23)] (B0 ?_));cases h;exact fun a w hs=>(jsN (hs.sb 1))
    ·refine K0 38 false (b_not hp) (m0 6 [kB 44 false,kU 43,kU 42,kU 41,kU 40,kU 39] (B0 ?_));cases h;exact fun a w hs=>(jsN (hs.sb 1))
   ·clear hx;rcases Q1 h with ⟨hp,h⟩ | ⟨hp,h⟩
    ·refine D0 44 true hp (E0 (A0 (C0 (m0 2 [kI 46 v9_16,kS 45 x1] ?_))));obtain ⟨p24,hx,h⟩:=bind_some h;refine O0 47 70 4 (.tmp 45) (.tmp 46) hx ?_;obtain ⟨H25,hx,h⟩:=bind_some h;refine P0 (H':=H25) none undef (Abs.run_store1 (t:=4) (x:=.tmp 47) (y:=.const (vB true)) (a:=p24) (v:=(vB true)) (by kernel_rfl) (by kernel_rfl) (by kernel_rfl) (by kernel_rfl) (by kernel_rfl) hx) (B0 (o0 (C0 (m0 1 [kB 6 true] (B0 ?_)))));cases h;exact fun a w hs=>bkN ((jsN (hs.sb 1)))
    ·refine D0 44 false (b_not hp) (F0 (G0 ?_));cases h;exact fun a w hs=>bkN ((jsN (hs.sb 1)))
  ·clear hx;refine C0 (m0 3 [kI 9 (IntKind.i64.wrap (v9_16+1)),kI 33 (IntKind.i64.wrap (v9_16+1)),kI 32 v9_16] (B0 ?_));cases h;exact fun a w hs=>lsN rfl (hs.sb 1)
 ·refine D0 31 false (decide_eq_false hp) (F0 (WS.ex 4 ?_));cases h;exact fun a w hs=>sqE (lsB rfl (hs.sb 1))
theorem z5o {E H L m a0_0 a0_1 a0_2 x1} :LoopF Tryz.prog (NE.plain 1000) m E Tryz.f64 ((cfst (csnd (csnd (cfst (csnd (cfst (cfst (cfst (csnd (csnd (csnd B64)))))))))))) (zdt L m a0_0 a0_1 a0_2 x1) (fun s=>s.1) 2 z16 (z1z H) (Y3 L m a0_0 a0_1 a0_2 x1):=by
 rintro ⟨H5,v6_6,v7_7⟩ o h
 unfold Y3 at h;try dsimp only at h
 refine A0 (A0 (C0 (m0 4 [kB 17 (decide (v7_7<(x1.n:Int))),kI 16 (x1.n:Int),kS 15 x1,kI 14 v7_7] (B0 (o0 ?_)))));rcases Q1 h with ⟨hp,h⟩ | ⟨hp,h⟩
 ·refine D0 17 true (decide_eq_true hp) (E0 (G0 (o0 ?_)));obtain ⟨⟨H8,v6_9⟩,hx,h⟩:=bind_some h;try dsimp only at h
  refine A0 ?_;refine A1 ([kB 6 v6_9,kL 2 0 0,kS 5 x1,kI 7 v7_7]) ([some (30,[(Sl3.v a0_0),(Sl3.v a0_1),(Sl3.v a0_2)])]) H8 ?_ (fun a w hs=>o0 ?_ a w hs)
  ·clear h; rename _=>h;refine J0 3 (A0 (A0 (C0 (m0 2 [kI 21 v7_7,kS 20 x1] ?_))));obtain ⟨p10,hx,h⟩:=bind_some h;refine O0 22 70 4 (.tmp 20) (.tmp 21) hx ?_;obtain ⟨x11,hx,h⟩:=bind_some h;refine T0 23 4 (.tmp 22) (O1 hx F6) (m0 1 [kB 24 (!x11)] (B0 (o0 ?_)));rcases Q1 h with ⟨hp,h⟩ | ⟨hp,h⟩
   ·refine D0 24 false (nb_not hp) (F0 (G0 (o0 (A0 (C0 (m0 2 [kI 26 v7_7,kA 25 #[(Sl3.v a0_0),(Sl3.v a0_1),(Sl3.v a0_2)]] ?_))))));obtain ⟨⟨x12,H13⟩,hx,h⟩:=bind_some h;try dsimp only at h
    refine N0 (some 27) (v:=(Sl3.v x12)) 63 _ (z3u hx) (m0 1 [kS 8 x12] (B0 (o0 (A0 (C0 (m0 1 [kI 9 0] (B0 (o0 (J0 4 ?_)))))))));obtain ⟨o,hl,h⟩:=bind_some h;rcases o with ⟨H26,v6_27,v9_28⟩ | r
    ·try dsimp only at h
     refine S0 (z5q (L:=L) (E:=E) (m:=m) (H:=H)) (L.ok hl) 1 ?_;clear hl;cases h;exact fun a w hs=>bkE (bkN ((jsN (hs.sb 1))))
    ·try dsimp only at h
     refine R0 (z5q (L:=L) (E:=E) (m:=m) (H:=H)) (L.ok hl) 1 ?_;cases h
   ·refine D0 24 true (W2 hp) (E0 (WS.ex 3 ?_));cases h;exact fun a w hs=>sqE (bkE ((jsN (hs.sb 1))))
  ·clear hx;refine C0 (m0 3 [kI 7 (IntKind.i64.wrap (v7_7+1)),kI 19 (IntKind.i64.wrap (v7_7+1)),kI 18 v7_7] (B0 ?_));cases h;exact fun a w hs=>lsN rfl (hs.sb 1)
 ·refine D0 17 false (decide_eq_false hp) (F0 (WS.ex 2 ?_));cases h;exact fun a w hs=>sqE (lsB rfl (hs.sb 1))
theorem z5x {E H L m a0_0 a0_1 a0_2 x1} :LoopF Tryz.prog (NE.plain 1000) m E Tryz.f64 ((cfst (cfst (csnd (csnd (csnd B64)))))) (zdv L m a0_0 a0_1 a0_2 x1) (fun s=>s.1) 0 z16 (z1z H) (I6 L m a0_0 a0_1 a0_2 x1):=by
 rintro ⟨H3,v6_4⟩ o h
 unfold I6 at h;try dsimp only at h
 refine A0 (A0 (C0 (m0 1 [kB 13 v6_4] (B0 (o0 ?_)))));rcases Q1 h with ⟨hp,h⟩ | ⟨hp,h⟩
 ·refine D0 13 true hp (E0 (G0 (o0 (J0 1 (A0 (C0 (m0 1 [kB 6 false] (B0 (o0 ?_)))))))));refine A0 (C0 (m0 1 [kI 7 0] (B0 (o0 (J0 2 ?_)))));obtain ⟨o,hl,h⟩:=bind_some h;rcases o with ⟨H29,v6_30,v7_31⟩ | r
  ·try dsimp only at h
   refine S0 (z5o (L:=L) (E:=E) (m:=m) (H:=H)) (L.ok hl) 1 ?_;clear hl;cases h;exact fun a w hs=>bkE (bkN (lsN rfl (hs.sb 1)))
  ·try dsimp only at h
   refine R0 (z5o (L:=L) (E:=E) (m:=m) (H:=H)) (L.ok hl) 1 ?_;cases h;exact fun a w hq=>bkR (bkR (lsR rfl hq))
 ·refine D0 13 false (b_not hp) (F0 (WS.ex 0 ?_));cases h;exact fun a w hs=>sqE (lsB rfl (hs.sb 1))
theorem zgo {L:LC} {m:Nat} {H:AH} {a0_0 a0_1 a0_2:Sl3} {a1:Int} {r:(Sl3×AH)} (h:z2q L m H a0_0 a0_1 a0_2 a1=some r) :
  CallS Tryz.prog (NE.plain 1000) m 64 #[(vA #[(Sl3.v a0_0),(Sl3.v a0_1),(Sl3.v a0_2)]),(vI .i64 a1)] H (z16 r) (z1z H r):=by
 refine CallS.mk (args:=[(vA #[(Sl3.v a0_0),(Sl3.v a0_1),(Sl3.v a0_2)]),(vI .i64 a1)]) Tryz.func64 (B:=B64) (by kernel_rfl) (fun E _=>?_);unfold z2q at h;refine A0 (C0 (Q0 2 [kS 4 Sl3.nil,kL 2 0 0] ([some (30,[(Sl3.v a0_0),(Sl3.v a0_1),(Sl3.v a0_2)])]) (B0 (o0 (A0 (C0 (m0 2 [kI 11 a1,kA 10 #[(Sl3.v a0_0),(Sl3.v a0_1),(Sl3.v a0_2)]] ?_)))))));obtain ⟨⟨x1,H2⟩,hx,h⟩:=bind_some h;try dsimp only at h
 refine N0 (some 12) (v:=(Sl3.v x1)) 63 _ (z3u hx) (m0 1 [kS 5 x1] (B0 (o0 (A0 (C0 (m0 1 [kB 6 true] (B0 (o0 (A0 ?_)))))))));refine J0 0 ?_;obtain ⟨o,hl,h⟩:=bind_some h;rcases o with ⟨H32,v6_33⟩ | r
 ·try dsimp only at h
  refine S0 (z5x (L:=L) (E:=E) (m:=m) (H:=H)) (L.ok hl) 1 ?_;clear hl;refine fun a w hs=>bkE ((o0 ?_ a w hs));refine A0 (C0 (m0 2 [kS 4 x1,kS 48 x1] (B0 (o0 (I0 ?_)))));cases h;exact fun a w hs=>rtR (rS hs)
 ·try dsimp only at h
  refine R0 (z5x (L:=L) (E:=E) (m:=m) (H:=H)) (L.ok hl) 1 ?_;cases h;exact fun a w hq=>bkR (sqR (rtR hq))
def z6n:(Bool×AH)→Value
 | (r0,_)=>(vB r0)
def z8c (_:AH):(Bool×AH)→AH:=fun r=>r.2
noncomputable def B40:Code:=(Tryz.f40.body).getD .skip
noncomputable def C4 (L:LC) (m:Nat) (a0_0 a0_1 a0_2:Sl3) (a1:Int) (x1:Sl3):(AH×Int)→Option (Lp (AH×Int) (Bool×AH)):=fun (H3,v6_4) =>
 if v6_4<(x1.n:Int) then
  Option.bind (α:=(AH×Bool)) (
   (idxA 1 x1 v6_4).bind fun p7 => (rd deB H3 p7).bind fun x8 => if x8=true then
    if v6_4=a1 then
     some (H3,true)
    else
     (z2q L m H3 a0_0 a0_1 a0_2 v6_4).bind fun (x9,H10) => (idxA 1 x9 a1).bind fun p11 => (rd deB H10 p11).bind fun x12 => some (H10,x12)
   else
    some (H3,false)) fun (H5,v32_6) =>
  if v32_6=true then
   some (.ret (true,H5))
  else
   some (.next (H5,(IntKind.i64.wrap (v6_4+1))))
 else
  some (.brk (H3,v6_4))
def zch (_L:LC) (_m:Nat) (a0_0 a0_1 a0_2:Sl3) (a1:Int) (x1:Sl3):(AH×Int)→KN×Lcs:=fun (_,v6_4)=>([kI 6 v6_4,kI 1 a1,kL 2 0 0,kS 5 x1],[some (30,[(Sl3.v a0_0),(Sl3.v a0_1),(Sl3.v a0_2)])])
noncomputable def z1m (L:LC) (m:Nat) (H:AH) (a0_0 a0_1 a0_2:Sl3) (a1:Int):Option (Bool×AH) :=
 (r9 L m H a0_0 a0_1 a0_2 a1 true).bind fun (x1,H2) => (L.run (C4 L m a0_0 a0_1 a0_2 a1 x1) (H2,0)).bind fun o=>match o with
 | .inl (H13,_) =>
  some (false,H13)
 | .inr r=>some r
theorem z4q {E H L m a0_0 a0_1 a0_2 a1 x1} :LoopF Tryz.prog (NE.plain 1000) m E Tryz.f40 ((cfst (csnd (cfst (csnd (csnd B40)))))) (zch L m a0_0 a0_1 a0_2 a1 x1) (fun s=>s.1) 0 z6n (z8c H) (C4 L m a0_0 a0_1 a0_2 a1 x1):=by
 rintro ⟨H3,v6_4⟩ o h
 unfold C4 at h;try dsimp only at h
 refine A0 (A0 (C0 (m0 4 [kB 13 (decide (v6_4<(x1.n:Int))),kI 12 (x1.n:Int),kS 11 x1,kI 10 v6_4] (B0 (o0 ?_)))));rcases Q1 h with ⟨hp,h⟩ | ⟨hp,h⟩
 ·refine D0 13 true (decide_eq_true hp) (E0 (G0 (o0 (A0 (J0 1 ?_)))));obtain ⟨⟨H5,v32_6⟩,hx,h⟩:=bind_some h;try dsimp only at h
  refine A0 ?_;refine A1 ([kB 32 v32_6,kI 1 a1,kL 2 0 0,kS 5 x1,kI 6 v6_4]) ([some (30,[(Sl3.v a0_0),(Sl3.v a0_1),(Sl3.v a0_2)])]) H5 ?_ (fun a w hs=>o0 ?_ a w hs)
  ·clear h; rename _=>h;refine C0 (m0 2 [kI 17 v6_4,kS 16 x1] ?_);obtain ⟨p7,hx,h⟩:=bind_some h;refine O0 18 70 4 (.tmp 16) (.tmp 17) hx ?_;obtain ⟨x8,hx,h⟩:=bind_some h;refine T0 19 4 (.tmp 18) (O1 hx F6) (m0 1 [kB 20 x8] ?_);rcases Q1 h with ⟨hp,h⟩ | ⟨hp,h⟩
   ·refine K0 20 true hp (m0 4 [kB 24 (decide (v6_4=a1)),kB 23 (decide (v6_4=a1)),kI 22 a1,kI 21 v6_4] ?_);rcases Q1 h with ⟨hp,h⟩ | ⟨hp,h⟩
    ·refine K0 24 true (decide_eq_true hp) (m0 8 [kB 32 true,kB 31 true,kU 30,kU 29,kU 28,kU 27,kU 26,kU 25] (B0 ?_));cases h;exact fun a w hs=>(jsN (hs.sb 1))
    ·refine K0 24 false (decide_eq_false hp) (m0 2 [kI 26 v6_4,kA 25 #[(Sl3.v a0_0),(Sl3.v a0_1),(Sl3.v a0_2)]] ?_);obtain ⟨⟨x9,H10⟩,hx,h⟩:=bind_some h;try dsimp only at h
     refine N0 (some 27) (v:=(Sl3.v x9)) 64 _ (zgo hx) (m0 1 [kI 28 a1] ?_);obtain ⟨p11,hx,h⟩:=bind_some h;refine O0 29 70 4 (.tmp 27) (.tmp 28) hx ?_;obtain ⟨x12,hx,h⟩:=bind_some h;refine T0 30 4 (.tmp 29) (O1 hx F6) (m0 2 [kB 32 x12,kB 31 x12] (B0 ?_));cases h;exact fun a w hs=>(jsN (hs.sb 1))
   ·refine K0 20 false (b_not hp) (m0 12 [kB 32 false,kU 31,kU 30,kU 29,kU 28,kU 27,kU 26,kU 25,kU 24,kU 23,kU 22,kU 21] (B0 ?_));cases h;exact fun a w hs=>(jsN (hs.sb 1))
  ·clear hx;rcases Q1 h with ⟨hp,h⟩ | ⟨hp,h⟩
   ·refine D0 32 true hp (E0 (A0 (C0 (m0 1 [kB 4 true] (B0 (o0 (I0 ?_)))))));cases h;exact fun a w hs=>bkR (sqR (lsR rfl (rS hs)))
   ·refine D0 32 false (b_not hp) (F0 (G0 ?_));refine fun a w hs=>bkN ((o0 ?_ a w hs));refine C0 (m0 3 [kI 6 (IntKind.i64.wrap (v6_4+1)),kI 15 (IntKind.i64.wrap (v6_4+1)),kI 14 v6_4] (B0 ?_));cases h;exact fun a w hs=>lsN rfl (hs.sb 1)
 ·refine D0 13 false (decide_eq_false hp) (F0 (WS.ex 0 ?_));cases h;exact fun a w hs=>sqE (lsB rfl (hs.sb 1))
theorem zfh {L:LC} {m:Nat} {H:AH} {a0_0 a0_1 a0_2:Sl3} {a1:Int} {r:(Bool×AH)} (h:z1m L m H a0_0 a0_1 a0_2 a1=some r) :
  CallS Tryz.prog (NE.plain 1000) m 40 #[(vA #[(Sl3.v a0_0),(Sl3.v a0_1),(Sl3.v a0_2)]),(vI .i64 a1)] H (z6n r) (z8c H r):=by
 refine CallS.mk (args:=[(vA #[(Sl3.v a0_0),(Sl3.v a0_1),(Sl3.v a0_2)]),(vI .i64 a1)]) Tryz.func40 (B:=B40) (by kernel_rfl) (fun E _=>?_);unfold z1m at h;refine A0 (C0 (Q0 2 [kB 4 false,kL 2 0 0] ([some (30,[(Sl3.v a0_0),(Sl3.v a0_1),(Sl3.v a0_2)])]) (B0 (o0 (A0 (C0 (m0 2 [kI 8 a1,kA 7 #[(Sl3.v a0_0),(Sl3.v a0_1),(Sl3.v a0_2)]] ?_)))))));obtain ⟨⟨x1,H2⟩,hx,h⟩:=bind_some h;try dsimp only at h
 refine N0 (some 9) (v:=(Sl3.v x1)) 63 _ (z3u hx) (m0 1 [kS 5 x1] (B0 (o0 (A0 (A0 (C0 (m0 1 [kI 6 0] (B0 (o0 ?_)))))))));refine J0 0 ?_;obtain ⟨o,hl,h⟩:=bind_some h;rcases o with ⟨H13,v6_14⟩ | r
 ·try dsimp only at h
  refine S0 (z4q (L:=L) (E:=E) (m:=m) (H:=H)) (L.ok hl) 1 ?_;clear hl;refine fun a w hs=>bkE ((o0 ?_ a w hs));refine A0 (C0 (m0 1 [kB 4 false] (B0 (o0 (I0 ?_)))));cases h;exact fun a w hs=>rtR (rS hs)
 ·try dsimp only at h
  refine R0 (z4q (L:=L) (E:=E) (m:=m) (H:=H)) (L.ok hl) 1 ?_;cases h;exact fun a w hq=>bkR (sqR (rtR hq))
def zq:Bool→Value
 | r0=>(vB r0)
def z19 (H:AH):Bool→AH:=fun _=>H
noncomputable def B76:Code:=(Tryz.f76.body).getD .skip
noncomputable def P8 (L:LC) (rec_ref04_ground:AH→Int→Int→ByteArray→Sl3→Sl3→Sl3→Sl3→Sl3→Option Bool) (H:AH) (a0_0 _a0_1:Int) (a0_2:ByteArray) (a0_3 a1_0:Sl3) (a1_1 a1_2 a2:Sl3):Option Bool :=
 if a0_0=4 then
  (idxA 4 a0_3 1).bind fun p1 => (rd (deI .i64) H (Addr.add p1 0)).bind fun x2_0 => (rd (deI .i64) H (Addr.add p1 1)).bind fun x2_1 => (rd deS H (Addr.add p1 2)).bind fun x2_2 => (rd deSl H (Addr.add p1 3)).bind fun x2_3 => (rec_ref04_ground H x2_0 x2_1 x2_2 x2_3 a1_0 a1_1 a1_2 a2).bind fun x3 => some x3
 else
  if a0_0=6 then
   (S3 L H a1_0 a1_1 a1_2 a0_2).bind fun x4 => (idxA 1 a2 x4).bind fun p5 => (rd deB H p5).bind fun x6 => some x6
  else
   some true
noncomputable def zr (L:LC) (n:Nat):(AH→Int→Int→ByteArray→Sl3→Sl3→Sl3→Sl3→Sl3→Option Bool):=Nat.rec (motive:=fun _=>(AH→Int→Int→ByteArray→Sl3→Sl3→Sl3→Sl3→Sl3→Option Bool)) (fun _ _ _ _ _ _ _ _ _=>none) (fun _ p=>P8 L p) n
noncomputable def z7e (L:LC) (H:AH) (a0_0 a0_1:Int) (a0_2:ByteArray) (a0_3 a1_0:Sl3) (a1_1 a1_2 a2:Sl3):Option Bool:=(zr L L.fuel) H a0_0 a0_1 a0_2 a0_3 a1_0 a1_1 a1_2 a2
theorem za6 {L:LC} {rec_ref04_ground:AH→Int→Int→ByteArray→Sl3→Sl3→Sl3→Sl3→Sl3→Option Bool} (hrec_ref04_ground:∀(m:Nat) (H:AH) (a0_0 a0_1:Int) (a0_2:ByteArray) (a0_3 a1_0:Sl3) (a1_1 a1_2 a2:Sl3) (r:Bool),rec_ref04_ground H a0_0 a0_1 a0_2 a0_3 a1_0 a1_1 a1_2 a2=some r→CallS Tryz.prog (NE.plain 1000) m 76 #[(vA #[(vI .i64 a0_0),(vI .i64 a0_1),(vS a0_2),(Sl3.v a0_3)]),(vA #[(Sl3.v a1_0),(Sl3.v a1_1),(Sl3.v a1_2)]),(Sl3.v a2)] H (zq r) (z19 H r)) {m:Nat} {H:AH} {a0_0 a0_1:Int} {a0_2:ByteArray} {a0_3 a1_0:Sl3} {a1_1 a1_2 a2:Sl3} {r:Bool} (h:P8 L rec_ref04_ground H a0_0 a0_1 a0_2 a0_3 a1_0 a1_1 a1_2 a2=some r) :
  CallS Tryz.prog (NE.plain 1000) m 76 #[(vA #[(vI .i64 a0_0),(vI .i64 a0_1),(vS a0_2),(Sl3.v a0_3)]),(vA #[(Sl3.v a1_0),(Sl3.v a1_1),(Sl3.v a1_2)]),(Sl3.v a2)] H (zq r) (z19 H r):=by
 refine CallS.mk (args:=[(vA #[(vI .i64 a0_0),(vI .i64 a0_1),(vS a0_2),(Sl3.v a0_3)]),(vA #[(Sl3.v a1_0),(Sl3.v a1_1),(Sl3.v a1_2)]),(Sl3.v a2)]) Tryz.func76 (B:=B76) (by kernel_rfl) (fun E _=>?_);unfold P8 at h;refine A0 (C0 (Q0 3 [kB 6 false,kL 4 1 0,kL 3 0 0] ([some (25,[(vI .i64 a0_0),(vI .i64 a0_1),(vS a0_2),(Sl3.v a0_3)]),some (30,[(Sl3.v a1_0),(Sl3.v a1_1),(Sl3.v a1_2)])]) (B0 (o0 (A0 (A0 (C0 (m0 3 [kB 9 (decide (a0_0=4)),kI 8 a0_0,kL 7 0 0] (B0 ?_)))))))));refine o0 ?_;rcases Q1 h with ⟨hp,h⟩ | ⟨hp,h⟩
 ·refine D0 9 true (decide_eq_true hp) (E0 (A0 ?_));refine D1 [0,1,2,3,4] [0,1,3,7,0,0,63,127] 8 (fun hcl=>?_);refine V0 0 (some 10) (.loc 0 3) (V0 1 (some 11) (.val (Sl3.v a0_3)) ?_);obtain ⟨p1,hx,h⟩:=bind_some h;refine Z0 2 (some 12) (vP (some p1)) (Abs.det_idx (s:=a0_3) (k:=.i64) (t:=23) (e:=25) (x:=.tmp 11) (y:=.const (vI .i64 1)) (by kernel_rfl) (by kernel_rfl) (by kernel_rfl) (by kernel_rfl) (by kernel_rfl) hx) ?_;obtain ⟨x2_0,hx0,h⟩:=bind_some h;obtain ⟨x2_1,hx1,h⟩:=bind_some h;obtain ⟨x2_2,hx2,h⟩:=bind_some h;obtain ⟨x2_3,hx3,h⟩:=bind_some h;refine Z0 3 (some 13) (vA #[(vI .i64 x2_0),(vI .i64 x2_1),(vS x2_2),(Sl3.v x2_3)]) (Abs.det_loadA (t:=25) (x:=.tmp 12) (a:=p1) (k:=4) (by kernel_rfl) (by kernel_rfl) (by kernel_rfl) (by kernel_rfl) (P1 (O1 hx0 S1) (P1 (O1 hx1 S1) (P1 (O1 hx2 T1) (P1 (O1 hx3 R1) U1))))) (V0 4 (some 14) (.val (vA #[(Sl3.v a1_0),(Sl3.v a1_1),(Sl3.v a1_2)])) (M0 5 (some 15) (Sl3.v a2) ?_));obtain ⟨x3,hx,h⟩:=bind_some h;refine DA.on 6 (X0 6 (some 16) (v:=(vB x3)) 76 _ (hrec_ref04_ground _ _ _ _ _ _ _ _ _ _ _ hx) (M0 7 (some 6) (vB x3) (W0 (o0 (I0 ?_)))));cases h;exact fun a w hs=>sqR (rtR (rS hs))
 ·refine D0 9 false (decide_eq_false hp) (F0 (G0 (o0 (A0 (C0 (m0 4 [kB 20 (!decide (a0_0=6)),kB 19 (!decide (a0_0=6)),kI 18 a0_0,kL 17 0 0] ?_))))));rcases Q1 h with ⟨hp,h⟩ | ⟨hp,h⟩
  ·refine K0 20 false (e9 hp) (m0 4 [kT 24 a0_2,kL 23 0 2,kA 22 #[(Sl3.v a1_0),(Sl3.v a1_1),(Sl3.v a1_2)],kS 21 a2] ?_);obtain ⟨x4,hx,h⟩:=bind_some h;refine N0 (some 25) (v:=(vI .i64 x4)) 46 _ (I8 hx) ?_;obtain ⟨p5,hx,h⟩:=bind_some h;refine O0 26 70 4 (.tmp 21) (.tmp 25) hx ?_;obtain ⟨x6,hx,h⟩:=bind_some h;refine T0 27 4 (.tmp 26) (O1 hx F6) (m0 2 [kB 6 x6,kB 28 x6] (B0 (o0 (I0 ?_))));cases h;exact fun a w hs=>rtR (rS hs)
  ·refine K0 20 true (N7 hp) (m0 9 [kB 6 true,kB 28 true,kU 27,kU 26,kU 25,kU 24,kU 23,kU 22,kU 21] (B0 (o0 (I0 ?_))));cases h;exact fun a w hs=>rtR (rS hs)
theorem zc5 {L:LC}:∀n,(∀(m:Nat) (H:AH) (a0_0 a0_1:Int) (a0_2:ByteArray) (a0_3 a1_0:Sl3) (a1_1 a1_2 a2:Sl3) (r:Bool),((zr L n)) H a0_0 a0_1 a0_2 a0_3 a1_0 a1_1 a1_2 a2=some r→CallS Tryz.prog (NE.plain 1000) m 76 #[(vA #[(vI .i64 a0_0),(vI .i64 a0_1),(vS a0_2),(Sl3.v a0_3)]),(vA #[(Sl3.v a1_0),(Sl3.v a1_1),(Sl3.v a1_2)]),(Sl3.v a2)] H (zq r) (z19 H r)):=by
 intro n;induction n with
 | zero=>exact (fun _ _ _ _ _ _ _ _ _ _ _ h=>(Option.some_ne_none _ h.symm).elim)
 | succ n ih=>exact (fun _ _ _ _ _ _ _ _ _ _ _ h=>za6 (L:=L) ih h)
theorem zfp {L:LC} {m:Nat} {H:AH} {a0_0 a0_1:Int} {a0_2:ByteArray} {a0_3 a1_0:Sl3} {a1_1 a1_2 a2:Sl3} {r:Bool} (h:z7e L H a0_0 a0_1 a0_2 a0_3 a1_0 a1_1 a1_2 a2=some r) :
  CallS Tryz.prog (NE.plain 1000) m 76 #[(vA #[(vI .i64 a0_0),(vI .i64 a0_1),(vS a0_2),(Sl3.v a0_3)]),(vA #[(Sl3.v a1_0),(Sl3.v a1_1),(Sl3.v a1_2)]),(Sl3.v a2)] H (zq r) (z19 H r) :=
 (zc5 _) _ _ _ _ _ _ _ _ _ _ _ h
def z5k:Bool→Value
 | r0=>(vB r0)
def z71 (H:AH):Bool→AH:=fun _=>H
noncomputable def B65:Code:=(Tryz.f65.body).getD .skip
noncomputable def W7 (L:LC) (H:AH) (_a0_0:ByteArray) (a0_1 a1_0:Sl3) (a1_1 a1_2 a2:Sl3) (v7_1:Int):(Bool×Int)→Option (Lp (Bool×Int) Bool):=fun (v8_2,v9_3) =>
 (idxA 2 a0_1 v7_1).bind fun p4 => (rd deSl H (Addr.add p4 1)).bind fun x5 => if v9_3<(x5.n:Int) then
  Option.bind (α:=Bool) (
   if v8_2=true then
    (idxA 2 a0_1 v7_1).bind fun p7 => (rd deSl H (Addr.add p7 1)).bind fun x8 => (idxA 5 x8 v9_3).bind fun p9 => (rd (deI .i64) H (Addr.add (Addr.add p9 1) 0)).bind fun x10_0 => (rd (deI .i64) H (Addr.add (Addr.add p9 1) 1)).bind fun x10_1 => (rd deS H (Addr.add (Addr.add p9 1) 2)).bind fun x10_2 => (rd deSl H (Addr.add (Addr.add p9 1) 3)).bind fun x10_3 => (z7e L H x10_0 x10_1 x10_2 x10_3 a1_0 a1_1 a1_2 a2).bind fun x11 => some x11
   else
    some false) fun v8_6 =>
  some (.next (v8_6,(IntKind.i64.wrap (v9_3+1))))
 else
  some (.brk (v8_2,v9_3))
def zge (_L:LC) (_H:AH) (a0_0:ByteArray) (a0_1 a1_0:Sl3) (a1_1 a1_2 a2:Sl3) (v7_1:Int):(Bool×Int)→KN×Lcs:=fun (v8_2,v9_3)=>([kB 8 v8_2,kI 9 v9_3,kS 2 a2,kL 3 0 0,kL 4 1 0,kI 7 v7_1],[some (93,[(vS a0_0),(Sl3.v a0_1)]),some (30,[(Sl3.v a1_0),(Sl3.v a1_1),(Sl3.v a1_2)])])
noncomputable def m9 (L:LC) (H:AH) (a0_0:ByteArray) (a0_1 a1_0:Sl3) (a1_1 a1_2 a2:Sl3):Int→Option (Lp Int Bool):=fun v7_1 =>
 if v7_1<(a0_1.n:Int) then
  (L.run (W7 L H a0_0 a0_1 a1_0 a1_1 a1_2 a2 v7_1) (true,0)).bind fun o=>match o with
  | .inl (v8_12,_) =>
   if v8_12=true then
    some (.ret true)
   else
    some (.next (IntKind.i64.wrap (v7_1+1)))
  | .inr r=>some (.ret r)
 else
  some (.brk v7_1)
def zgb (_L:LC) (_H:AH) (a0_0:ByteArray) (a0_1 a1_0:Sl3) (a1_1 a1_2 a2:Sl3):Int→KN×Lcs:=fun v7_1=>([kI 7 v7_1,kS 2 a2,kL 3 0 0,kL 4 1 0],[some (93,[(vS a0_0),(Sl3.v a0_1)]),some (30,[(Sl3.v a1_0),(Sl3.v a1_1),(Sl3.v a1_2)])])
noncomputable def z54 (L:LC) (H:AH) (a0_0:ByteArray) (a0_1 a1_0:Sl3) (a1_1 a1_2 a2:Sl3):Option Bool :=
 (L.run (m9 L H a0_0 a0_1 a1_0 a1_1 a1_2 a2) 0).bind fun o=>match o with
 | .inl _ =>
  some false
 | .inr r=>some r
theorem z89 {E m L H a0_0 a0_1 a1_0 a1_1 a1_2 a2 v7_1} :LoopF Tryz.prog (NE.plain 1000) m E Tryz.f65 ((cfst (csnd (cfst (csnd (cfst (cfst (csnd (cfst (cfst (csnd (cfst (csnd B65))))))))))))) (zge L H a0_0 a0_1 a1_0 a1_1 a1_2 a2 v7_1) (fun _=>H) 2 z5k (z71 H) (W7 L H a0_0 a0_1 a1_0 a1_1 a1_2 a2 v7_1):=by
 rintro ⟨v8_2,v9_3⟩ o h
 unfold W7 at h;try dsimp only at h
 refine A0 (A0 (C0 (m0 4 [kI 20 v7_1,kS 19 a0_1,kL 18 0 1,kI 17 v9_3] ?_)));obtain ⟨p4,hx,h⟩:=bind_some h;refine O0 21 91 103 (.tmp 19) (.tmp 20) hx (m0 1 [(22,.val (vP (some (Addr.add p4 1))))] ?_);obtain ⟨x5,hx,h⟩:=bind_some h;refine T0 23 101 (.tmp 22) (O1 hx R1) (m0 2 [kB 25 (decide (v9_3<(x5.n:Int))),kI 24 (x5.n:Int)] (B0 (o0 ?_)));rcases Q1 h with ⟨hp,h⟩ | ⟨hp,h⟩
 ·refine D0 25 true (decide_eq_true hp) (E0 (G0 (o0 ?_)));obtain ⟨v8_6,hx,h⟩:=bind_some h;refine A0 ?_;refine A1 ([kB 8 v8_6,kS 2 a2,kL 3 0 0,kL 4 1 0,kI 7 v7_1,kI 9 v9_3]) ([some (93,[(vS a0_0),(Sl3.v a0_1)]),some (30,[(Sl3.v a1_0),(Sl3.v a1_1),(Sl3.v a1_2)])]) H ?_ (fun a w hs=>o0 ?_ a w hs)
  ·clear h; rename _=>h;refine J0 3 ?_;refine D1 [] [0,1,3,7,3,31,63,127,3,511,1023,2047,3,3,16383,32767,65535] 17 (fun hcl=>?_);refine M0 0 (some 28) (vB v8_2) (M0 1 (some 29) (vB v8_2) ?_);rcases Q1 h with ⟨hp,h⟩ | ⟨hp,h⟩
   ·refine N1 29 true hp (F1 2 (some 30) (.loc 0 1) (M0 4 (some 32) (vI .i64 v7_1) (M0 8 (some 36) (vI .i64 v9_3) (M0 13 (some 41) (Sl3.v a2) (DA.restart [3,5,6,7,9,10,11,12] (by kernel_rfl) (V0 3 (some 31) (.val (Sl3.v a0_1)) ?_))))));obtain ⟨p7,hx,h⟩:=bind_some h;refine Z0 5 (some 33) (vP (some p7)) (Abs.det_idx (s:=a0_1) (k:=.i64) (t:=91) (e:=103) (x:=.tmp 31) (y:=.tmp 32) (by kernel_rfl) (by kernel_rfl) (by kernel_rfl) (by kernel_rfl) (by kernel_rfl) hx) (U0 6 (some 34) (vP (some (Addr.add p7 1))) ?_);obtain ⟨x8,hx,h⟩:=bind_some h;refine Z0 7 (some 35) (Sl3.v x8) (Abs.det_load (t:=101) (x:=.tmp 34) (a:=(Addr.add p7 1)) (by kernel_rfl) (by kernel_rfl) (by kernel_rfl) (by kernel_rfl) (O1 hx R1)) ?_;obtain ⟨p9,hx,h⟩:=bind_some h;refine Z0 9 (some 37) (vP (some p9)) (Abs.det_idx (s:=x8) (k:=.i64) (t:=101) (e:=105) (x:=.tmp 35) (y:=.tmp 36) (by kernel_rfl) (by kernel_rfl) (by kernel_rfl) (by kernel_rfl) (by kernel_rfl) hx) (U0 10 (some 38) (vP (some (Addr.add p9 1))) ?_);obtain ⟨x10_0,hx0,h⟩:=bind_some h;obtain ⟨x10_1,hx1,h⟩:=bind_some h;obtain ⟨x10_2,hx2,h⟩:=bind_some h;obtain ⟨x10_3,hx3,h⟩:=bind_some h;refine Z0 11 (some 39) (vA #[(vI .i64 x10_0),(vI .i64 x10_1),(vS x10_2),(Sl3.v x10_3)]) (Abs.det_loadA (t:=25) (x:=.tmp 38) (a:=(Addr.add p9 1)) (k:=4) (by kernel_rfl) (by kernel_rfl) (by kernel_rfl) (by kernel_rfl) (P1 (O1 hx0 S1) (P1 (O1 hx1 S1) (P1 (O1 hx2 T1) (P1 (O1 hx3 R1) U1))))) (V0 12 (some 40) (.val (vA #[(Sl3.v a1_0),(Sl3.v a1_1),(Sl3.v a1_2)])) ?_);obtain ⟨x11,hx,h⟩:=bind_some h;refine DA.on 14 (X0 14 (some 42) (v:=(vB x11)) 76 _ (zfp hx) (M0 15 (some 43) (vB x11) (M0 16 (some 8) (vB x11) (W0 ?_))));cases h;exact fun a w hs=>bkN ((jsN (hs.sb 2)))
   ·refine N1 29 false (b_not hp) ?_;refine C1 2 (some 30) (by kernel_rfl) (by kernel_rfl) (by kernel_rfl) hcl (fun _ _ _ h=>h) (by kernel_rfl) ?_;refine C1 3 (some 31) (by kernel_rfl) (by kernel_rfl) (by kernel_rfl) hcl (fun _ _ _ h=>h) (by kernel_rfl) ?_;refine C1 4 (some 32) (by kernel_rfl) (by kernel_rfl) (by kernel_rfl) hcl (fun _ _ _ h=>h) (by kernel_rfl) ?_;refine C1 5 (some 33) (by kernel_rfl) (by kernel_rfl) (by kernel_rfl) hcl (fun _ _ _ h=>h) (by kernel_rfl) ?_;refine C1 6 (some 34) (by kernel_rfl) (by kernel_rfl) (by kernel_rfl) hcl (fun _ _ _ h=>h) (by kernel_rfl) ?_;refine C1 7 (some 35) (by kernel_rfl) (by kernel_rfl) (by kernel_rfl) hcl (fun _ _ _ h=>h) (by kernel_rfl) ?_;refine C1 8 (some 36) (by kernel_rfl) (by kernel_rfl) (by kernel_rfl) hcl (fun _ _ _ h=>h) (by kernel_rfl) ?_;refine C1 9 (some 37) (by kernel_rfl) (by kernel_rfl) (by kernel_rfl) hcl (fun _ _ _ h=>h) (by kernel_rfl) ?_;refine C1 10 (some 38) (by kernel_rfl) (by kernel_rfl) (by kernel_rfl) hcl (fun _ _ _ h=>h) (by kernel_rfl) ?_;refine C1 11 (some 39) (by kernel_rfl) (by kernel_rfl) (by kernel_rfl) hcl (fun _ _ _ h=>h) (by kernel_rfl) ?_;refine C1 12 (some 40) (by kernel_rfl) (by kernel_rfl) (by kernel_rfl) hcl (fun _ _ _ h=>h) (by kernel_rfl) ?_;refine C1 13 (some 41) (by kernel_rfl) (by kernel_rfl) (by kernel_rfl) hcl (fun _ _ _ h=>h) (by kernel_rfl) ?_;refine C1 14 (some 42) (by kernel_rfl) (by kernel_rfl) (by kernel_rfl) hcl (fun _ _ _ h=>h) (by kernel_rfl) ?_;refine M0 15 (some 43) (vB false) (M0 16 (some 8) (vB false) (W0 ?_));cases h;exact fun a w hs=>bkN ((jsN (hs.sb 2)))
  ·clear hx;refine C0 (m0 3 [kI 9 (IntKind.i64.wrap (v9_3+1)),kI 27 (IntKind.i64.wrap (v9_3+1)),kI 26 v9_3] (B0 ?_));cases h;exact fun a w hs=>lsN rfl (hs.sb 2)
 ·refine D0 25 false (decide_eq_false hp) (F0 (WS.ex 2 ?_));cases h;exact fun a w hs=>sqE (lsB rfl (hs.sb 2))
theorem z82 {E m L H a0_0 a0_1 a1_0 a1_1 a1_2 a2} :LoopF Tryz.prog (NE.plain 1000) m E Tryz.f65 ((cfst (csnd (cfst (csnd B65))))) (zgb L H a0_0 a0_1 a1_0 a1_1 a1_2 a2) (fun _=>H) 0 z5k (z71 H) (m9 L H a0_0 a0_1 a1_0 a1_1 a1_2 a2):=by
 rintro v7_1 o h
 unfold m9 at h;try dsimp only at h
 refine A0 (A0 (C0 (m0 5 [kB 14 (decide (v7_1<(a0_1.n:Int))),kI 13 (a0_1.n:Int),kS 12 a0_1,kL 11 0 1,kI 10 v7_1] (B0 (o0 ?_)))));rcases Q1 h with ⟨hp,h⟩ | ⟨hp,h⟩
 ·refine D0 14 true (decide_eq_true hp) (E0 (G0 (o0 (A0 (J0 1 (A0 (C0 (m0 1 [kB 8 true] (B0 ?_)))))))));refine o0 (A0 (A0 (C0 (m0 1 [kI 9 0] (B0 (o0 (J0 2 ?_)))))));obtain ⟨o,hl,h⟩:=bind_some h;rcases o with ⟨v8_12,v9_13⟩ | r
  ·try dsimp only at h
   refine S0 (z89 (L:=L) (E:=E) (m:=m) (H:=H)) (L.ok hl) 2 ?_;clear hl;refine fun a w hs=>bkE ((o0 ?_ a w hs));refine A0 (C0 (m0 1 [kB 44 v8_12] (B0 (o0 ?_))));rcases Q1 h with ⟨hp,h⟩ | ⟨hp,h⟩
   ·refine D0 44 true hp (E0 (A0 (C0 (m0 1 [kB 6 true] (B0 (o0 (I0 ?_)))))));cases h;exact fun a w hs=>bkR (sqR (lsR rfl (rS hs)))
   ·refine D0 44 false (b_not hp) (F0 (G0 ?_));refine fun a w hs=>bkN ((o0 ?_ a w hs));refine C0 (m0 3 [kI 7 (IntKind.i64.wrap (v7_1+1)),kI 16 (IntKind.i64.wrap (v7_1+1)),kI 15 v7_1] (B0 ?_));cases h;exact fun a w hs=>lsN rfl (hs.sb 2)
  ·try dsimp only at h
   refine R0 (z89 (L:=L) (E:=E) (m:=m) (H:=H)) (L.ok hl) 2 ?_;cases h;exact fun a w hq=>bkR (sqR (bkR (sqR (lsR rfl hq))))
 ·refine D0 14 false (decide_eq_false hp) (F0 (WS.ex 0 ?_));cases h;exact fun a w hs=>sqE (lsB rfl (hs.sb 2))
theorem zjj {L:LC} {m:Nat} {H:AH} {a0_0:ByteArray} {a0_1 a1_0:Sl3} {a1_1 a1_2 a2:Sl3} {r:Bool} (h:z54 L H a0_0 a0_1 a1_0 a1_1 a1_2 a2=some r) :
  CallS Tryz.prog (NE.plain 1000) m 65 #[(vA #[(vS a0_0),(Sl3.v a0_1)]),(vA #[(Sl3.v a1_0),(Sl3.v a1_1),(Sl3.v a1_2)]),(Sl3.v a2)] H (z5k r) (z71 H r):=by
 refine CallS.mk (args:=[(vA #[(vS a0_0),(Sl3.v a0_1)]),(vA #[(Sl3.v a1_0),(Sl3.v a1_1),(Sl3.v a1_2)]),(Sl3.v a2)]) Tryz.func65 (B:=B65) (by kernel_rfl) (fun E _=>?_);unfold z54 at h;refine A0 (C0 (Q0 3 [kB 6 false,kL 4 1 0,kL 3 0 0] ([some (93,[(vS a0_0),(Sl3.v a0_1)]),some (30,[(Sl3.v a1_0),(Sl3.v a1_1),(Sl3.v a1_2)])]) (B0 (o0 (A0 (A0 (C0 (m0 1 [kI 7 0] (B0 ?_)))))))));refine o0 (J0 0 ?_);obtain ⟨o,hl,h⟩:=bind_some h;rcases o with v7_14 | r
 ·try dsimp only at h
  refine S0 (z82 (L:=L) (E:=E) (m:=m) (H:=H)) (L.ok hl) 2 ?_;clear hl;refine fun a w hs=>bkE ((o0 ?_ a w hs));refine A0 (C0 (m0 1 [kB 6 false] (B0 (o0 (I0 ?_)))));cases h;exact fun a w hs=>rtR (rS hs)
 ·try dsimp only at h
  refine R0 (z82 (L:=L) (E:=E) (m:=m) (H:=H)) (L.ok hl) 2 ?_;cases h;exact fun a w hq=>bkR (sqR (rtR hq))
def z29:(Sl3×AH)→Value
 | (r0,_)=>(Sl3.v r0)
def z2w (_:AH):(Sl3×AH)→AH:=fun r=>r.2
noncomputable def B41:Code:=(Tryz.f41.body).getD .skip
noncomputable def O3 (L:LC) (m:Nat) (a0_0 a0_1:Sl3) (a0_2 s1:Sl3) (_v4_4:Int):(AH×Int)→Option (Lp (AH×Int) (Sl3×AH)):=fun (H5,v5_6) =>
 if v5_6<(a0_1.n:Int) then
  Option.bind (α:=AH) (
   (idxA 2 a0_1 v5_6).bind fun p8 => (rd deS H5 (Addr.add p8 0)).bind fun x9_0 => (rd deSl H5 (Addr.add p8 1)).bind fun x9_1 => (z54 L H5 x9_0 x9_1 a0_0 a0_1 a0_2 s1).bind fun x10 => if x10=true then
    (idxA 1 s1 v5_6).bind fun p11 => (H5.setCell m p11 (vB true)).bind fun H12 => some H12
   else
    some H5) fun H7 =>
  some (.next (H7,(IntKind.i64.wrap (v5_6+1))))
 else
  some (.brk (H5,v5_6))
def zbs (_L:LC) (_m:Nat) (a0_0 a0_1:Sl3) (a0_2 s1:Sl3) (v4_4:Int):(AH×Int)→KN×Lcs:=fun (_,v5_6)=>([kI 5 v5_6,kL 1 0 0,kS 3 s1,kI 4 v4_4],[some (30,[(Sl3.v a0_0),(Sl3.v a0_1),(Sl3.v a0_2)])])
noncomputable def A5 (L:LC) (m:Nat) (a0_0 a0_1:Sl3) (a0_2 s1:Sl3):(AH×Int)→Option (Lp (AH×Int) (Sl3×AH)):=fun (H3,v4_4) =>
 if v4_4<(a0_1.n:Int) then
  (L.run (O3 L m a0_0 a0_1 a0_2 s1 v4_4) (H3,0)).bind fun o=>match o with
  | .inl (H13,_) =>
   some (.next (H13,(IntKind.i64.wrap (v4_4+1))))
  | .inr r=>some (.ret r)
 else
  some (.brk (H3,v4_4))
def zbn (_L:LC) (_m:Nat) (a0_0 a0_1:Sl3) (a0_2 s1:Sl3):(AH×Int)→KN×Lcs:=fun (_,v4_4)=>([kI 4 v4_4,kL 1 0 0,kS 3 s1],[some (30,[(Sl3.v a0_0),(Sl3.v a0_1),(Sl3.v a0_2)])])
noncomputable def zz (L:LC) (m:Nat) (H:AH) (a0_0 a0_1 a0_2:Sl3):Option (Sl3×AH) :=
 (mkS 4 1 1 #[(vB false)] H (a0_1.n:Int) (a0_1.n:Int)).bind fun (s1,H2) => (L.run (A5 L m a0_0 a0_1 a0_2 s1) (H2,0)).bind fun o=>match o with
 | .inl (H15,_) =>
  some (s1,H15)
 | .inr r=>some r
theorem z4c {E H L m a0_0 a0_1 a0_2 s1 v4_4} :LoopF Tryz.prog (NE.plain 1000) m E Tryz.f41 ((cfst (csnd (cfst (cfst (csnd (cfst (cfst (csnd (cfst (csnd (csnd B41)))))))))))) (zbs L m a0_0 a0_1 a0_2 s1 v4_4) (fun s=>s.1) 2 z29 (z2w H) (O3 L m a0_0 a0_1 a0_2 s1 v4_4):=by
 rintro ⟨H5,v5_6⟩ o h
 unfold O3 at h;try dsimp only at h
 refine A0 (A0 (C0 (m0 5 [kB 21 (decide (v5_6<(a0_1.n:Int))),kI 20 (a0_1.n:Int),kS 19 a0_1,kL 18 0 1,kI 17 v5_6] (B0 (o0 ?_)))));rcases Q1 h with ⟨hp,h⟩ | ⟨hp,h⟩
 ·refine D0 21 true (decide_eq_true hp) (E0 (G0 (o0 ?_)));obtain ⟨H7,hx,h⟩:=bind_some h;refine A0 ?_;refine A1 ([kL 1 0 0,kS 3 s1,kI 4 v4_4,kI 5 v5_6]) ([some (30,[(Sl3.v a0_0),(Sl3.v a0_1),(Sl3.v a0_2)])]) H7 ?_ (fun a w hs=>o0 ?_ a w hs)
  ·clear h; rename _=>h;refine J0 3 (A0 ?_);refine D1 [0,1,2,3,4,5] [0,1,0,7,15,0,0,127] 8 (fun hcl=>?_);refine V0 0 (some 24) (.loc 0 1) (V0 1 (some 25) (.val (Sl3.v a0_1)) (U0 2 (some 26) (vI .i64 v5_6) ?_));obtain ⟨p8,hx,h⟩:=bind_some h;refine Z0 3 (some 27) (vP (some p8)) (Abs.det_idx (s:=a0_1) (k:=.i64) (t:=27) (e:=93) (x:=.tmp 25) (y:=.tmp 26) (by kernel_rfl) (by kernel_rfl) (by kernel_rfl) (by kernel_rfl) (by kernel_rfl) hx) ?_;obtain ⟨x9_0,hx0,h⟩:=bind_some h;obtain ⟨x9_1,hx1,h⟩:=bind_some h;refine Z0 4 (some 28) (vA #[(vS x9_0),(Sl3.v x9_1)]) (Abs.det_loadA (t:=93) (x:=.tmp 27) (a:=p8) (k:=2) (by kernel_rfl) (by kernel_rfl) (by kernel_rfl) (by kernel_rfl) (P1 (O1 hx0 T1) (P1 (O1 hx1 R1) U1))) (V0 5 (some 29) (.val (vA #[(Sl3.v a0_0),(Sl3.v a0_1),(Sl3.v a0_2)])) (M0 6 (some 30) (Sl3.v s1) ?_));obtain ⟨x10,hx,h⟩:=bind_some h;refine DA.on 7 (X0 7 (some 31) (v:=(vB x10)) 65 _ (zjj hx) (W0 (o0 ?_)));rcases Q1 h with ⟨hp,h⟩ | ⟨hp,h⟩
   ·refine D0 31 true hp (E0 (C0 (m0 2 [kI 33 v5_6,kS 32 s1] ?_)));obtain ⟨p11,hx,h⟩:=bind_some h;refine O0 34 70 4 (.tmp 32) (.tmp 33) hx ?_;obtain ⟨H12,hx,h⟩:=bind_some h;refine P0 (H':=H12) none undef (Abs.run_store1 (t:=4) (x:=.tmp 34) (y:=.const (vB true)) (a:=p11) (v:=(vB true)) (by kernel_rfl) (by kernel_rfl) (by kernel_rfl) (by kernel_rfl) (by kernel_rfl) hx) (B0 ?_);cases h;exact fun a w hs=>bkN ((jsN (hs.sb 1)))
   ·refine D0 31 false (b_not hp) (F0 (G0 ?_));cases h;exact fun a w hs=>bkN ((jsN (hs.sb 1)))
  ·clear hx;refine C0 (m0 3 [kI 5 (IntKind.i64.wrap (v5_6+1)),kI 23 (IntKind.i64.wrap (v5_6+1)),kI 22 v5_6] (B0 ?_));cases h;exact fun a w hs=>lsN rfl (hs.sb 1)
 ·refine D0 21 false (decide_eq_false hp) (F0 (WS.ex 2 ?_));cases h;exact fun a w hs=>sqE (lsB rfl (hs.sb 1))
theorem z49 {E H L m a0_0 a0_1 a0_2 s1} :LoopF Tryz.prog (NE.plain 1000) m E Tryz.f41 ((cfst (csnd (cfst (csnd (csnd B41)))))) (zbn L m a0_0 a0_1 a0_2 s1) (fun s=>s.1) 0 z29 (z2w H) (A5 L m a0_0 a0_1 a0_2 s1):=by
 rintro ⟨H3,v4_4⟩ o h
 unfold A5 at h;try dsimp only at h
 refine A0 (A0 (C0 (m0 5 [kB 14 (decide (v4_4<(a0_1.n:Int))),kI 13 (a0_1.n:Int),kS 12 a0_1,kL 11 0 1,kI 10 v4_4] (B0 (o0 ?_)))));rcases Q1 h with ⟨hp,h⟩ | ⟨hp,h⟩
 ·refine D0 14 true (decide_eq_true hp) (E0 (G0 (o0 (A0 (J0 1 (A0 (C0 (m0 1 [kI 5 0] (B0 ?_)))))))));refine o0 (J0 2 ?_);obtain ⟨o,hl,h⟩:=bind_some h;rcases o with ⟨H13,v5_14⟩ | r
  ·try dsimp only at h
   refine S0 (z4c (L:=L) (E:=E) (m:=m) (H:=H)) (L.ok hl) 1 ?_;clear hl;refine fun a w hs=>bkE (bkN ((o0 ?_ a w hs)));refine C0 (m0 3 [kI 4 (IntKind.i64.wrap (v4_4+1)),kI 16 (IntKind.i64.wrap (v4_4+1)),kI 15 v4_4] (B0 ?_));cases h;exact fun a w hs=>lsN rfl (hs.sb 1)
  ·try dsimp only at h
   refine R0 (z4c (L:=L) (E:=E) (m:=m) (H:=H)) (L.ok hl) 1 ?_;cases h;exact fun a w hq=>bkR (bkR (sqR (lsR rfl hq)))
 ·refine D0 14 false (decide_eq_false hp) (F0 (WS.ex 0 ?_));cases h;exact fun a w hs=>sqE (lsB rfl (hs.sb 1))
theorem zet {L:LC} {m:Nat} {H:AH} {a0_0 a0_1 a0_2:Sl3} {r:(Sl3×AH)} (h:zz L m H a0_0 a0_1 a0_2=some r) :
  CallS Tryz.prog (NE.plain 1000) m 41 #[(vA #[(Sl3.v a0_0),(Sl3.v a0_1),(Sl3.v a0_2)])] H (z29 r) (z2w H r):=by
 refine CallS.mk (args:=[(vA #[(Sl3.v a0_0),(Sl3.v a0_1),(Sl3.v a0_2)])]) Tryz.func41 (B:=B41) (by kernel_rfl) (fun E _=>?_);unfold zz at h;refine A0 (C0 (Q0 2 [kS 2 Sl3.nil,kL 1 0 0] ([some (30,[(Sl3.v a0_0),(Sl3.v a0_1),(Sl3.v a0_2)])]) (B0 (o0 (A0 (C0 (m0 3 [kI 8 (a0_1.n:Int),kS 7 a0_1,kL 6 0 1] ?_)))))));obtain ⟨⟨s1,H2⟩,hx,h⟩:=bind_some h;try dsimp only at h
 refine P0 (H':=H2) (some 9) (Sl3.v s1) (Abs.run_mk (t:=70) (x:=.tmp 8) (y:=.tmp 8) (k1:=.i64) (k2:=.i64) (by kernel_rfl) (by kernel_rfl) (by kernel_rfl) (by kernel_rfl) hx) (m0 1 [kS 3 s1] (B0 (o0 (A0 (A0 (C0 (m0 1 [kI 4 0] (B0 (o0 ?_)))))))));refine J0 0 ?_;obtain ⟨o,hl,h⟩:=bind_some h;rcases o with ⟨H15,v4_16⟩ | r
 ·try dsimp only at h
  refine S0 (z49 (L:=L) (E:=E) (m:=m) (H:=H)) (L.ok hl) 1 ?_;clear hl;refine fun a w hs=>bkE ((o0 ?_ a w hs));refine A0 (C0 (m0 2 [kS 2 s1,kS 35 s1] (B0 (o0 (I0 ?_)))));cases h;exact fun a w hs=>rtR (rS hs)
 ·try dsimp only at h
  refine R0 (z49 (L:=L) (E:=E) (m:=m) (H:=H)) (L.ok hl) 1 ?_;cases h;exact fun a w hq=>bkR (sqR (rtR hq))
def Q9:(Int×AH)→Value
 | (r0,_)=>(vI .i64 r0)
def zb (_:AH):(Int×AH)→AH:=fun r=>r.2
noncomputable def B13:Code:=(Tryz.f13.body).getD .skip
noncomputable def O4 (L:LC) (a0_0 a0_1:Sl3) (a0_2 x4:Sl3) (H5:AH):Int→Option (Lp Int (Int×AH)):=fun v5_6 =>
 if v5_6<(x4.n:Int) then
  (idxA 4 x4 v5_6).bind fun p7 => (rd (deI .i64) H5 (Addr.add p7 0)).bind fun x8_0 => (rd (deI .i64) H5 (Addr.add p7 1)).bind fun x8_1 => (rd deS H5 (Addr.add p7 2)).bind fun x8_2 => (rd deSl H5 (Addr.add p7 3)).bind fun x8_3 => (z8 L H5 x8_0 x8_1 x8_2 x8_3 a0_0 a0_1 a0_2).bind fun x9 => if x9=0 then
   some (.next (IntKind.i64.wrap (v5_6+1)))
  else
   some (.ret (x9,H5))
 else
  some (.brk v5_6)
def zaf (_L:LC) (a0_0 a0_1:Sl3) (a0_2 x4:Sl3) (_H5:AH):Int→KN×Lcs:=fun v5_6=>([kI 5 v5_6,kL 1 0 0,kS 4 x4],[some (30,[(Sl3.v a0_0),(Sl3.v a0_1),(Sl3.v a0_2)])])
noncomputable def F3 (L:LC) (m:Nat) (a0_0 a0_1 a0_2:Sl3):(AH×Int)→Option (Lp (AH×Int) (Int×AH)):=fun (H11,v6_12) =>
 if v6_12<(a0_1.n:Int) then
  (z1m L m H11 a0_0 a0_1 a0_2 v6_12).bind fun (x13,H14) => if x13=true then
   some (.ret (44,H14))
  else
   some (.next (H14,(IntKind.i64.wrap (v6_12+1))))
 else
  some (.brk (H11,v6_12))
def zau (_L:LC) (_m:Nat) (a0_0 a0_1 a0_2:Sl3):(AH×Int)→KN×Lcs:=fun (_,v6_12)=>([kI 6 v6_12,kL 1 0 0],[some (30,[(Sl3.v a0_0),(Sl3.v a0_1),(Sl3.v a0_2)])])
noncomputable def T4 (_L:LC) (_a0_0 _a0_1:Sl3) (_a0_2 x17:Sl3) (H18:AH):Int→Option (Lp Int (Int×AH)):=fun v8_19 =>
 if v8_19<(x17.n:Int) then
  (idxA 1 x17 v8_19).bind fun p20 => (rd deB H18 p20).bind fun x21 => if x21=true then
   some (.next (IntKind.i64.wrap (v8_19+1)))
  else
   some (.ret (43,H18))
 else
  some (.brk v8_19)
def zag (_L:LC) (a0_0 a0_1:Sl3) (a0_2 x17:Sl3) (_H18:AH):Int→KN×Lcs:=fun v8_19=>([kI 8 v8_19,kS 7 x17],[some (30,[(Sl3.v a0_0),(Sl3.v a0_1),(Sl3.v a0_2)])])
noncomputable def d9 (L:LC) (m:Nat) (H:AH) (a0_0 a0_1 a0_2:Sl3):Option (Int×AH) :=
 (z3i L H a0_0 a0_1 a0_2).bind fun x1 => if x1=true then
  some (3,H)
 else
  (z2d L m H a0_0 a0_1 a0_2).bind fun (x2,H3) => if x2=0 then
   (z2s L m H3 a0_0 a0_1 a0_2).bind fun (x4,H5) => (L.run (O4 L a0_0 a0_1 a0_2 x4 H5) 0).bind fun o=>match o with
   | .inl _ =>
    (L.run (F3 L m a0_0 a0_1 a0_2) (H5,0)).bind fun o=>match o with
    | .inl (H15,_) =>
     (zz L m H15 a0_0 a0_1 a0_2).bind fun (x17,H18) => (L.run (T4 L a0_0 a0_1 a0_2 x17 H18) 0).bind fun o=>match o with
     | .inl _ =>
      some (0,H18)
     | .inr r=>some r
    | .inr r=>some r
   | .inr r=>some r
  else
   some (x2,H3)
theorem z3k {E m H L a0_0 a0_1 a0_2 x4 H5} :LoopF Tryz.prog (NE.plain 1000) m E Tryz.f13 ((cfst (csnd (cfst (csnd (csnd (csnd (csnd (csnd B13))))))))) (zaf L a0_0 a0_1 a0_2 x4 H5) (fun _=>H5) 0 Q9 (zb H) (O4 L a0_0 a0_1 a0_2 x4 H5):=by
 rintro v5_6 o h
 unfold O4 at h;try dsimp only at h
 refine A0 (A0 (C0 (m0 4 [kB 21 (decide (v5_6<(x4.n:Int))),kI 20 (x4.n:Int),kS 19 x4,kI 18 v5_6] (B0 (o0 ?_)))));rcases Q1 h with ⟨hp,h⟩ | ⟨hp,h⟩
 ·refine D0 21 true (decide_eq_true hp) (E0 (G0 (o0 (A0 (J0 1 (A0 ?_))))));refine D1 [0,1,2,3,4] [0,0,3,7,0,31,63] 7 (fun hcl=>?_);refine U0 0 (some 24) (Sl3.v x4) (U0 1 (some 25) (vI .i64 v5_6) ?_);obtain ⟨p7,hx,h⟩:=bind_some h;refine Z0 2 (some 26) (vP (some p7)) (Abs.det_idx (s:=x4) (k:=.i64) (t:=23) (e:=25) (x:=.tmp 24) (y:=.tmp 25) (by kernel_rfl) (by kernel_rfl) (by kernel_rfl) (by kernel_rfl) (by kernel_rfl) hx) ?_;obtain ⟨x8_0,hx0,h⟩:=bind_some h;obtain ⟨x8_1,hx1,h⟩:=bind_some h;obtain ⟨x8_2,hx2,h⟩:=bind_some h;obtain ⟨x8_3,hx3,h⟩:=bind_some h;refine Z0 3 (some 27) (vA #[(vI .i64 x8_0),(vI .i64 x8_1),(vS x8_2),(Sl3.v x8_3)]) (Abs.det_loadA (t:=25) (x:=.tmp 26) (a:=p7) (k:=4) (by kernel_rfl) (by kernel_rfl) (by kernel_rfl) (by kernel_rfl) (P1 (O1 hx0 S1) (P1 (O1 hx1 S1) (P1 (O1 hx2 T1) (P1 (O1 hx3 R1) U1))))) (V0 4 (some 28) (.val (vA #[(Sl3.v a0_0),(Sl3.v a0_1),(Sl3.v a0_2)])) ?_);obtain ⟨x9,hx,h⟩:=bind_some h;refine DA.on 5 (X0 5 (some 29) (v:=(vI .i64 x9)) 14 _ (z4m hx) (M0 6 (some 3) (vI .i64 x9) (W0 (o0 (A0 (C0 (m0 2 [kB 31 (!decide (x9=0)),kI 30 x9] (B0 (o0 ?_)))))))));rcases Q1 h with ⟨hp,h⟩ | ⟨hp,h⟩
  ·refine D0 31 false (e9 hp) (F0 (G0 ?_));refine fun a w hs=>bkN ((o0 ?_ a w hs));refine C0 (m0 3 [kI 5 (IntKind.i64.wrap (v5_6+1)),kI 23 (IntKind.i64.wrap (v5_6+1)),kI 22 v5_6] (B0 ?_));cases h;exact fun a w hs=>lsN rfl (hs.sb 1)
  ·refine D0 31 true (N7 hp) (E0 (A0 (C0 (m0 2 [kI 2 x9,kI 32 x9] (B0 (o0 (I0 ?_)))))));cases h;exact fun a w hs=>bkR (sqR (lsR rfl (rS hs)))
 ·refine D0 21 false (decide_eq_false hp) (F0 (WS.ex 0 ?_));cases h;exact fun a w hs=>sqE (lsB rfl (hs.sb 1))
theorem z3q {E H L m a0_0 a0_1 a0_2} :LoopF Tryz.prog (NE.plain 1000) m E Tryz.f13 ((cfst (csnd (cfst (csnd (csnd (csnd (csnd (csnd (csnd B13)))))))))) (zau L m a0_0 a0_1 a0_2) (fun s=>s.1) 2 Q9 (zb H) (F3 L m a0_0 a0_1 a0_2):=by
 rintro ⟨H11,v6_12⟩ o h
 unfold F3 at h;try dsimp only at h
 refine A0 (A0 (C0 (m0 5 [kB 37 (decide (v6_12<(a0_1.n:Int))),kI 36 (a0_1.n:Int),kS 35 a0_1,kL 34 0 1,kI 33 v6_12] (B0 (o0 ?_)))));rcases Q1 h with ⟨hp,h⟩ | ⟨hp,h⟩
 ·refine D0 37 true (decide_eq_true hp) (E0 (G0 (o0 (A0 (J0 3 (A0 (C0 (m0 2 [kI 41 v6_12,kA 40 #[(Sl3.v a0_0),(Sl3.v a0_1),(Sl3.v a0_2)]] ?_))))))));obtain ⟨⟨x13,H14⟩,hx,h⟩:=bind_some h;try dsimp only at h
  refine N0 (some 42) (v:=(vB x13)) 40 _ (zfh hx) (B0 (o0 ?_));rcases Q1 h with ⟨hp,h⟩ | ⟨hp,h⟩
  ·refine D0 42 true hp (E0 (A0 (C0 (m0 1 [kI 2 44] (B0 (o0 (I0 ?_)))))));cases h;exact fun a w hs=>bkR (sqR (lsR rfl (rS hs)))
  ·refine D0 42 false (b_not hp) (F0 (G0 ?_));refine fun a w hs=>bkN ((o0 ?_ a w hs));refine C0 (m0 3 [kI 6 (IntKind.i64.wrap (v6_12+1)),kI 39 (IntKind.i64.wrap (v6_12+1)),kI 38 v6_12] (B0 ?_));cases h;exact fun a w hs=>lsN rfl (hs.sb 1)
 ·refine D0 37 false (decide_eq_false hp) (F0 (WS.ex 2 ?_));cases h;exact fun a w hs=>sqE (lsB rfl (hs.sb 1))
theorem z3z {E m H L a0_0 a0_1 a0_2 x17 H18} :LoopF Tryz.prog (NE.plain 1000) m E Tryz.f13 ((cfst (csnd (cfst (csnd (csnd (csnd (csnd (csnd (csnd (csnd (csnd B13)))))))))))) (zag L a0_0 a0_1 a0_2 x17 H18) (fun _=>H18) 4 Q9 (zb H) (T4 L a0_0 a0_1 a0_2 x17 H18):=by
 rintro v8_19 o h
 unfold T4 at h;try dsimp only at h
 refine A0 (A0 (C0 (m0 4 [kB 48 (decide (v8_19<(x17.n:Int))),kI 47 (x17.n:Int),kS 46 x17,kI 45 v8_19] (B0 (o0 ?_)))));rcases Q1 h with ⟨hp,h⟩ | ⟨hp,h⟩
 ·refine D0 48 true (decide_eq_true hp) (E0 (G0 (o0 (A0 (J0 5 (A0 (C0 (m0 2 [kI 52 v8_19,kS 51 x17] ?_))))))));obtain ⟨p20,hx,h⟩:=bind_some h;refine O0 53 70 4 (.tmp 51) (.tmp 52) hx ?_;obtain ⟨x21,hx,h⟩:=bind_some h;refine T0 54 4 (.tmp 53) (O1 hx F6) (m0 1 [kB 55 (!x21)] (B0 (o0 ?_)));rcases Q1 h with ⟨hp,h⟩ | ⟨hp,h⟩
  ·refine D0 55 false (nb_not hp) (F0 (G0 ?_));refine fun a w hs=>bkN ((o0 ?_ a w hs));refine C0 (m0 3 [kI 8 (IntKind.i64.wrap (v8_19+1)),kI 50 (IntKind.i64.wrap (v8_19+1)),kI 49 v8_19] (B0 ?_));cases h;exact fun a w hs=>lsN rfl (hs.sb 1)
  ·refine D0 55 true (W2 hp) (E0 (A0 (C0 (m0 1 [kI 2 43] (B0 (o0 (I0 ?_)))))));cases h;exact fun a w hs=>bkR (sqR (lsR rfl (rS hs)))
 ·refine D0 48 false (decide_eq_false hp) (F0 (WS.ex 4 ?_));cases h;exact fun a w hs=>sqE (lsB rfl (hs.sb 1))
theorem z5t {L:LC} {m:Nat} {H:AH} {a0_0 a0_1 a0_2:Sl3} {r:(Int×AH)} (h:d9 L m H a0_0 a0_1 a0_2=some r) :
  CallS Tryz.prog (NE.plain 1000) m 13 #[(vA #[(Sl3.v a0_0),(Sl3.v a0_1),(Sl3.v a0_2)])] H (Q9 r) (zb H r):=by
 refine CallS.mk (args:=[(vA #[(Sl3.v a0_0),(Sl3.v a0_1),(Sl3.v a0_2)])]) Tryz.func13 (B:=B13) (by kernel_rfl) (fun E _=>?_);unfold d9 at h;refine A0 (C0 (Q0 2 [kI 2 0,kL 1 0 0] ([some (30,[(Sl3.v a0_0),(Sl3.v a0_1),(Sl3.v a0_2)])]) (B0 (o0 (A0 (A0 (C0 (m0 1 [kA 9 #[(Sl3.v a0_0),(Sl3.v a0_1),(Sl3.v a0_2)]] ?_))))))));obtain ⟨x1,hx,h⟩:=bind_some h;refine N0 (some 10) (v:=(vB x1)) 37 _ (zi9 hx) (B0 (o0 ?_));rcases Q1 h with ⟨hp,h⟩ | ⟨hp,h⟩
 ·refine D0 10 true hp (E0 (A0 (C0 (m0 1 [kI 2 3] (B0 (o0 (I0 ?_)))))));cases h;exact fun a w hs=>sqR (rtR (rS hs))
 ·refine D0 10 false (b_not hp) (F0 (G0 (o0 (A0 (C0 (m0 1 [kA 11 #[(Sl3.v a0_0),(Sl3.v a0_1),(Sl3.v a0_2)]] ?_))))));obtain ⟨⟨x2,H3⟩,hx,h⟩:=bind_some h;try dsimp only at h
  refine N0 (some 12) (v:=(vI .i64 x2)) 38 _ (zgz hx) (m0 1 [kI 3 x2] (B0 (o0 (A0 (A0 (C0 (m0 2 [kB 14 (!decide (x2=0)),kI 13 x2] (B0 (o0 ?_)))))))));rcases Q1 h with ⟨hp,h⟩ | ⟨hp,h⟩
  ·refine D0 14 false (e9 hp) (F0 (G0 (o0 (A0 (C0 (m0 1 [kA 16 #[(Sl3.v a0_0),(Sl3.v a0_1),(Sl3.v a0_2)]] ?_))))));obtain ⟨⟨x4,H5⟩,hx,h⟩:=bind_some h;try dsimp only at h
   refine N0 (some 17) (v:=(Sl3.v x4)) 39 _ (zh9 hx) (m0 1 [kS 4 x4] (B0 (o0 (A0 (A0 (C0 (m0 1 [kI 5 0] (B0 (o0 ?_)))))))));refine J0 0 ?_;obtain ⟨o,hl,h⟩:=bind_some h;rcases o with v5_10 | r
   ·try dsimp only at h
    refine S0 (z3k (L:=L) (E:=E) (m:=m) (H:=H)) (L.ok hl) 1 ?_;clear hl;refine fun a w hs=>bkE ((o0 ?_ a w hs));refine A0 (A0 (C0 (m0 1 [kI 6 0] (B0 (o0 (J0 2 ?_))))));obtain ⟨o,hl,h⟩:=bind_some h;rcases o with ⟨H15,v6_16⟩ | r
    ·try dsimp only at h
     refine S0 (z3q (L:=L) (E:=E) (m:=m) (H:=H)) (L.ok hl) 1 ?_;clear hl;refine fun a w hs=>bkE ((o0 ?_ a w hs));refine A0 (C0 (m0 1 [kA 43 #[(Sl3.v a0_0),(Sl3.v a0_1),(Sl3.v a0_2)]] ?_));obtain ⟨⟨x17,H18⟩,hx,h⟩:=bind_some h;try dsimp only at h
     refine N0 (some 44) (v:=(Sl3.v x17)) 41 _ (zet hx) (m0 1 [kS 7 x17] (B0 (o0 (A0 (A0 (C0 (m0 1 [kI 8 0] (B0 (o0 ?_)))))))));refine J0 4 ?_;obtain ⟨o,hl,h⟩:=bind_some h;rcases o with v8_22 | r
     ·try dsimp only at h
      refine S0 (z3z (L:=L) (E:=E) (m:=m) (H:=H)) (L.ok hl) 1 ?_;clear hl;refine fun a w hs=>bkE ((o0 ?_ a w hs));refine A0 (C0 (m0 1 [kI 2 0] (B0 (o0 (I0 ?_)))));cases h;exact fun a w hs=>rtR (rS hs)
     ·try dsimp only at h
      refine R0 (z3z (L:=L) (E:=E) (m:=m) (H:=H)) (L.ok hl) 1 ?_;cases h;exact fun a w hq=>bkR (sqR (rtR hq))
    ·try dsimp only at h
     refine R0 (z3q (L:=L) (E:=E) (m:=m) (H:=H)) (L.ok hl) 1 ?_;cases h;exact fun a w hq=>bkR (sqR (rtR hq))
   ·try dsimp only at h
    refine R0 (z3k (L:=L) (E:=E) (m:=m) (H:=H)) (L.ok hl) 1 ?_;cases h;exact fun a w hq=>bkR (sqR (rtR hq))
  ·refine D0 14 true (N7 hp) (E0 (A0 (C0 (m0 2 [kI 2 x2,kI 15 x2] (B0 (o0 (I0 ?_)))))));cases h;exact fun a w hs=>sqR (rtR (rS hs))
def z86:(Int×Bool)→Value
 | (r0,r1)=>(Value.tuple #[(vI .i64 r0),(vB r1)])
def z9p (H:AH):(Int×Bool)→AH:=fun _=>H
noncomputable def B45:Code:=(Tryz.f45.body).getD .skip
noncomputable def i4 (_L:LC) (a0 a1 a2:Int):(Int×Int)→Option (Lp (Int×Int) (Int×Bool)):=fun (v8_1,v9_2) =>
 Option.bind (α:=Bool) (
  if v9_2<a1 then
   some (decide (a0 > 1))
  else
   some false) fun v16_3 =>
 if v16_3=true then
  if a0=0 then none else
  if v8_1 > (IntKind.i64.wrap (Int.tdiv a2 a0)) then
   some (.ret (0,false))
  else
   some (.next ((IntKind.i64.wrap (v8_1*a0)),(IntKind.i64.wrap (v9_2+1))))
 else
  some (.brk (v8_1,v9_2))
def ze8 (_L:LC) (a0 a1 a2:Int):(Int×Int)→KN×Lcs:=fun (v8_1,v9_2)=>([kI 8 v8_1,kI 9 v9_2,kI 0 a0,kI 1 a1,kI 2 a2],[])
noncomputable def za (L:LC) (a0 a1 a2:Int):Option (Int×Bool) :=
 (L.run (i4 L a0 a1 a2) (1,0)).bind fun o=>match o with
 | .inl (v8_4,_) =>
  some (v8_4,(decide (v8_4≤a2)))
 | .inr r=>some r
theorem z60 {E m H L a0 a1 a2} :LoopF Tryz.prog (NE.plain 1000) m E Tryz.f45 ((cfst (csnd (cfst (csnd (csnd B45)))))) (ze8 L a0 a1 a2) (fun _=>H) 0 z86 (z9p H) (i4 L a0 a1 a2):=by
 rintro ⟨v8_1,v9_2⟩ o h
 unfold i4 at h;try dsimp only at h
 refine A0 ?_;obtain ⟨v16_3,hx,h⟩:=bind_some h;refine A0 ?_;refine A1 ([kB 16 v16_3,kI 0 a0,kI 1 a1,kI 2 a2,kI 8 v8_1,kI 9 v9_2]) ([]) H ?_ (fun a w hs=>o0 ?_ a w hs)
 ·clear h; rename _=>h;refine C0 (m0 4 [kB 13 (decide (v9_2<a1)),kB 12 (decide (v9_2<a1)),kI 11 a1,kI 10 v9_2] ?_);rcases Q1 h with ⟨hp,h⟩ | ⟨hp,h⟩
  ·refine K0 13 true (decide_eq_true hp) (m0 3 [kB 16 (decide (a0 > 1)),kB 15 (decide (a0 > 1)),kI 14 a0] (B0 ?_));cases h;exact fun a w hs=>(jsN (hs.sb 0))
  ·refine K0 13 false (decide_eq_false hp) (m0 3 [kB 16 false,kU 15,kU 14] (B0 ?_));cases h;exact fun a w hs=>(jsN (hs.sb 0))
 ·clear hx;rcases Q1 h with ⟨hp,h⟩ | ⟨hp,h⟩
  ·refine D0 16 true hp (E0 (G0 (o0 (A0 (J0 1 (A0 (A0 (C0 (m0 3 [kI 21 a0,kI 20 a2,kI 19 v8_1] ?_)))))))));rcases Q1 h with ⟨_,h⟩ | ⟨hx,h⟩
   ·cases h
   ·refine P0 (H':=H) (some 22) (vI .i64 (IntKind.i64.wrap (Int.tdiv a2 a0))) (Abs.run_quo (t:=3) (u:=3) (x:=.tmp 20) (y:=.tmp 21) (by kernel_rfl) (by kernel_rfl) (by kernel_rfl) hx) (m0 1 [kB 23 (decide (v8_1 > (IntKind.i64.wrap (Int.tdiv a2 a0))))] (B0 (o0 ?_)));rcases Q1 h with ⟨hp,h⟩ | ⟨hp,h⟩
    ·refine D0 23 true (decide_eq_true hp) (E0 (A0 (C0 (m0 2 [kB 7 false,kI 6 0] (B0 (o0 (I0 ?_)))))));cases h;exact fun a w hs=>sqR (bkR (sqR (lsR rfl (rS hs))))
    ·refine D0 23 false (decide_eq_false hp) (F0 (G0 (o0 (C0 (m0 4 [kI 8 (IntKind.i64.wrap (v8_1*a0)),kI 26 (IntKind.i64.wrap (v8_1*a0)),kI 25 a0,kI 24 v8_1] (B0 ?_))))));refine fun a w hs=>bkN ((o0 ?_ a w hs));refine C0 (m0 3 [kI 9 (IntKind.i64.wrap (v9_2+1)),kI 18 (IntKind.i64.wrap (v9_2+1)),kI 17 v9_2] (B0 ?_));cases h;exact fun a w hs=>lsN rfl (hs.sb 0)
  ·refine D0 16 false (b_not hp) (F0 (WS.ex 0 ?_));cases h;exact fun a w hs=>sqE (lsB rfl (hs.sb 0))
theorem z9u {L:LC} {m:Nat} {H:AH} {a0 a1 a2:Int} {r:(Int×Bool)} (h:za L a0 a1 a2=some r) :
  CallS Tryz.prog (NE.plain 1000) m 45 #[(vI .i64 a0),(vI .i64 a1),(vI .i64 a2)] H (z86 r) (z9p H r):=by
 refine CallS.mk (args:=[(vI .i64 a0),(vI .i64 a1),(vI .i64 a2)]) Tryz.func45 (B:=B45) (by kernel_rfl) (fun E _=>?_);unfold za at h;refine A0 (C0 (m0 2 [kB 7 false,kI 6 0] (B0 (o0 (A0 (C0 (m0 1 [kI 8 1] (B0 (o0 ?_)))))))));refine A0 (A0 (C0 (m0 1 [kI 9 0] (B0 (o0 (J0 0 ?_))))));obtain ⟨o,hl,h⟩:=bind_some h;rcases o with ⟨v8_4,v9_5⟩ | r
 ·try dsimp only at h
  refine S0 (z60 (L:=L) (E:=E) (m:=m) (H:=H)) (L.ok hl) 0 ?_;clear hl;refine fun a w hs=>bkE ((o0 ?_ a w hs));refine A0 (C0 (m0 6 [kB 7 (decide (v8_4≤a2)),kI 6 v8_4,kB 30 (decide (v8_4≤a2)),kI 29 a2,kI 28 v8_4,kI 27 v8_4] (B0 (o0 (I0 ?_)))));cases h;exact fun a w hs=>rtR (rS hs)
 ·try dsimp only at h
  refine R0 (z60 (L:=L) (E:=E) (m:=m) (H:=H)) (L.ok hl) 0 ?_;cases h;exact fun a w hq=>bkR (sqR (rtR hq))
def G9:(Int×Bool)→Value
 | (r0,r1)=>(Value.tuple #[(vI .i64 r0),(vB r1)])
def M9 (H:AH):(Int×Bool)→AH:=fun _=>H
noncomputable def B16:Code:=(Tryz.f16.body).getD .skip
noncomputable def d7 (L:LC) (rec_ref04_Counts_of:AH→(Option Addr)→Int→Int→ByteArray→Sl3→Bool→Option (Int×Bool)) (H:AH) (a0:Option Addr) (a1_0 a1_1:Int) (a1_2:ByteArray) (a1_3:Sl3) (a2:Bool):Option (Int×Bool) :=
 a0.bind fun q1 => (rd (deI .i64) H (Addr.add q1 3)).bind fun x2 => Option.bind (α:=Int) (
  if a2=true then
   some 63
  else
   some x2) fun v8_3 =>
 if a1_0=1 then
  some (2,(decide (v8_3≥2)))
 else
  if a1_0=3 then
   (za L 2 a1_1 v8_3).bind fun (x4,x5) => some (x4,x5)
  else
   if a1_0=4 then
    (idxA 4 a1_3 1).bind fun p6 => (rd (deI .i64) H (Addr.add p6 0)).bind fun x7_0 => (rd (deI .i64) H (Addr.add p6 1)).bind fun x7_1 => (rd deS H (Addr.add p6 2)).bind fun x7_2 => (rd deSl H (Addr.add p6 3)).bind fun x7_3 => (rec_ref04_Counts_of H (some q1) x7_0 x7_1 x7_2 x7_3 a2).bind fun (x8,x9) => Option.bind (α:=Bool) (
     if x9=true then
      some (decide (x8=1))
     else
      some true) fun v49_10 =>
    if v49_10=true then
     some (x8,x9)
    else
     (idxA 4 a1_3 0).bind fun p11 => (rd (deI .i64) H (Addr.add p11 0)).bind fun x12_0 => (rd (deI .i64) H (Addr.add p11 1)).bind fun x12_1 => (rd deS H (Addr.add p11 2)).bind fun x12_2 => (rd deSl H (Addr.add p11 3)).bind fun x12_3 => (rec_ref04_Counts_of H (some q1) x12_0 x12_1 x12_2 x12_3 true).bind fun (x13,x14) => if x14=true then
      (za L x8 x13 v8_3).bind fun (x15,x16) => some (x15,x16)
     else
      some (0,false)
   else
    if a1_0=6 then
     (rd deSl H (Addr.add q1 4)).bind fun x17 => (rd deSl H (Addr.add (Addr.add q1 0) 0)).bind fun x18_0 => (rd deSl H (Addr.add (Addr.add q1 0) 1)).bind fun x18_1 => (rd deSl H (Addr.add (Addr.add q1 0) 2)).bind fun x18_2 => (S3 L H x18_0 x18_1 x18_2 a1_2).bind fun x19 => (idxA 1 x17 x19).bind fun p20 => (rd (deI .i64) H p20).bind fun x21 => Option.bind (α:=Int) (
      if a2=true then
       (rd deSl H (Addr.add q1 5)).bind fun x23 => (rd deSl H (Addr.add (Addr.add q1 0) 0)).bind fun x24_0 => (rd deSl H (Addr.add (Addr.add q1 0) 1)).bind fun x24_1 => (rd deSl H (Addr.add (Addr.add q1 0) 2)).bind fun x24_2 => (S3 L H x24_0 x24_1 x24_2 a1_2).bind fun x25 => (idxA 1 x23 x25).bind fun p26 => (rd (deI .i64) H p26).bind fun x27 => some x27
      else
       some x21) fun v12_22 =>
     some (v12_22,(decide (v12_22 > 0)))
    else
     some (0,false)
noncomputable def D9 (L:LC) (n:Nat):(AH→(Option Addr)→Int→Int→ByteArray→Sl3→Bool→Option (Int×Bool)):=Nat.rec (motive:=fun _=>(AH→(Option Addr)→Int→Int→ByteArray→Sl3→Bool→Option (Int×Bool))) (fun _ _ _ _ _ _ _=>none) (fun _ p=>d7 L p) n
noncomputable def d8 (L:LC) (H:AH) (a0:Option Addr) (a1_0 a1_1:Int) (a1_2:ByteArray) (a1_3:Sl3) (a2:Bool):Option (Int×Bool):=(D9 L L.fuel) H a0 a1_0 a1_1 a1_2 a1_3 a2
theorem z7o {L:LC} {rec_ref04_Counts_of:AH→(Option Addr)→Int→Int→ByteArray→Sl3→Bool→Option (Int×Bool)} (hrec_ref04_Counts_of:∀(m:Nat) (H:AH) (a0:Option Addr) (a1_0 a1_1:Int) (a1_2:ByteArray) (a1_3:Sl3) (a2:Bool) (r:(Int×Bool)),rec_ref04_Counts_of H a0 a1_0 a1_1 a1_2 a1_3 a2=some r→CallS Tryz.prog (NE.plain 1000) m 16 #[(vP a0),(vA #[(vI .i64 a1_0),(vI .i64 a1_1),(vS a1_2),(Sl3.v a1_3)]),(vB a2)] H (G9 r) (M9 H r)) {m:Nat} {H:AH} {a0:Option Addr} {a1_0 a1_1:Int} {a1_2:ByteArray} {a1_3:Sl3} {a2:Bool} {r:(Int×Bool)} (h:d7 L rec_ref04_Counts_of H a0 a1_0 a1_1 a1_2 a1_3 a2=some r) :
  CallS Tryz.prog (NE.plain 1000) m 16 #[(vP a0),(vA #[(vI .i64 a1_0),(vI .i64 a1_1),(vS a1_2),(Sl3.v a1_3)]),(vB a2)] H (G9 r) (M9 H r):=by
 refine CallS.mk (args:=[(vP a0),(vA #[(vI .i64 a1_0),(vI .i64 a1_1),(vS a1_2),(Sl3.v a1_3)]),(vB a2)]) Tryz.func16 (B:=B16) (by kernel_rfl) (fun E _=>?_);unfold d7 at h;refine A0 (C0 (Q0 3 [kB 7 false,kI 6 0,kL 4 0 0] ([some (25,[(vI .i64 a1_0),(vI .i64 a1_1),(vS a1_2),(Sl3.v a1_3)])]) (B0 (o0 (A0 (C0 (m0 1 [(13,.val (vP a0))] ?_)))))));obtain ⟨q1,hx,hq1⟩:=bind_some h;subst hx;have h:=hq1;refine m0 2 [(15,.val (vP (some (Addr.add q1 3)))),kP 14 q1] ?_;obtain ⟨x2,hx,h⟩:=bind_some h;refine T0 16 3 (.tmp 15) (O1 hx S1) (m0 1 [kI 8 x2] (B0 (o0 ?_)));obtain ⟨v8_3,hx,h⟩:=bind_some h;refine A0 ?_;refine A1 ([kI 8 v8_3,kP 0 q1,kB 2 a2,kL 4 0 0]) ([some (25,[(vI .i64 a1_0),(vI .i64 a1_1),(vS a1_2),(Sl3.v a1_3)])]) H ?_ (fun a w hs=>o0 ?_ a w hs)
 ·clear h; rename _=>h;refine A0 (C0 (m0 1 [kB 17 a2] (B0 (o0 ?_))));rcases Q1 h with ⟨hp,h⟩ | ⟨hp,h⟩
  ·refine D0 17 true hp (E0 (C0 (m0 1 [kI 8 63] (B0 ?_))));cases h;exact fun a w hs=>(jsN (hs.sb 1))
  ·refine D0 17 false (b_not hp) (F0 (G0 ?_));cases h;exact fun a w hs=>(jsN (hs.sb 1))
 ·clear hx;refine A0 (A0 (C0 (m0 2 [kI 19 a1_0,kL 18 0 0] (B0 (o0 (J0 0 (A0 (C0 (m0 2 [kB 20 (decide (a1_0=1)),kB 21 (decide (a1_0=1))] ?_)))))))));refine B0 (o0 ?_);rcases Q1 h with ⟨hp,h⟩ | ⟨hp,h⟩
  ·refine D0 20 true (decide_eq_true hp) (E0 (A0 (C0 (m0 4 [kB 7 (decide (v8_3≥2)),kI 6 2,kB 23 (decide (v8_3≥2)),kI 22 v8_3] (B0 (o0 (I0 ?_)))))));cases h;exact fun a w hs=>bkR (sqR (rtR (rS hs)))
  ·refine D0 20 false (decide_eq_false hp) (F0 (A0 (C0 (m0 2 [kB 24 (decide (a1_0=3)),kB 25 (decide (a1_0=3))] (B0 (o0 ?_))))));rcases Q1 h with ⟨hp,h⟩ | ⟨hp,h⟩
   ·refine D0 24 true (decide_eq_true hp) (E0 (A0 (C0 (m0 3 [kI 28 v8_3,kI 27 a1_1,kL 26 0 1] ?_))));obtain ⟨⟨x4,x5⟩,hx,h⟩:=bind_some h;try dsimp only at h
    refine N0 (some 29) (v:=(Value.tuple #[(vI .i64 x4),(vB x5)])) 45 _ (z9u hx) (m0 4 [kB 7 x5,kI 6 x4,kB 31 x5,kI 30 x4] (B0 (o0 (I0 ?_))));cases h;exact fun a w hs=>bkR (sqR (rtR (rS hs)))
   ·refine D0 24 false (decide_eq_false hp) (F0 (A0 (C0 (m0 2 [kB 32 (decide (a1_0=4)),kB 33 (decide (a1_0=4))] (B0 (o0 ?_))))));rcases Q1 h with ⟨hp,h⟩ | ⟨hp,h⟩
    ·refine D0 32 true (decide_eq_true hp) (E0 (A0 (C0 (m0 3 [kS 37 a1_3,kL 36 0 3,kP 35 q1] ?_))));obtain ⟨p6,hx,h⟩:=bind_some h;refine O0 38 23 25 (.tmp 37) (.const (vI .i64 1)) hx ?_;obtain ⟨x7_0,hx0,h⟩:=bind_some h;obtain ⟨x7_1,hx1,h⟩:=bind_some h;obtain ⟨x7_2,hx2,h⟩:=bind_some h;obtain ⟨x7_3,hx3,h⟩:=bind_some h;refine RS.la 39 25 (.tmp 38) 4 (P1 (O1 hx0 S1) (P1 (O1 hx1 S1) (P1 (O1 hx2 T1) (P1 (O1 hx3 R1) U1)))) (m0 1 [kB 40 a2] ?_);obtain ⟨⟨x8,x9⟩,hx,h⟩:=bind_some h;try dsimp only at h
     refine N0 (some 41) (v:=(Value.tuple #[(vI .i64 x8),(vB x9)])) 16 _ (hrec_ref04_Counts_of _ _ _ _ _ _ _ _ _ hx) (m0 5 [kB 10 x9,kI 9 x8,kB 43 x9,kI 42 x8,(34,.val (Value.tuple #[(vI .i64 x8),(vB x9)]))] (B0 (o0 (A0 ?_))));obtain ⟨v49_10,hx,h⟩:=bind_some h;refine A0 ?_;refine A1 ([kB 49 v49_10,kP 0 q1,kL 4 0 0,kI 8 v8_3,kI 9 x8,kB 10 x9]) ([some (25,[(vI .i64 a1_0),(vI .i64 a1_1),(vS a1_2),(Sl3.v a1_3)])]) H ?_ (fun a w hs=>o0 ?_ a w hs)
     ·clear h; rename _=>h;refine C0 (m0 3 [kB 46 (!x9),kB 45 (!x9),kB 44 x9] ?_);rcases Q1 h with ⟨hp,h⟩ | ⟨hp,h⟩
      ·refine K0 46 false (nb_not hp) (m0 3 [kB 49 (decide (x8=1)),kB 48 (decide (x8=1)),kI 47 x8] (B0 ?_));cases h;exact fun a w hs=>(jsN (hs.sb 1))
      ·refine K0 46 true (W2 hp) (m0 3 [kB 49 true,kU 48,kU 47] (B0 ?_));cases h;exact fun a w hs=>(jsN (hs.sb 1))
     ·clear hx;rcases Q1 h with ⟨hp,h⟩ | ⟨hp,h⟩
      ·refine D0 49 true hp (E0 (A0 (C0 (m0 4 [kB 7 x9,kI 6 x8,kB 51 x9,kI 50 x8] (B0 (o0 (I0 ?_)))))));cases h;exact fun a w hs=>sqR (bkR (sqR (rtR (rS hs))))
      ·refine D0 49 false (b_not hp) (F0 (G0 (o0 (A0 (C0 (m0 3 [kS 55 a1_3,kL 54 0 3,kP 53 q1] ?_))))));obtain ⟨p11,hx,h⟩:=bind_some h;refine O0 56 23 25 (.tmp 55) (.const (vI .i64 0)) hx ?_;obtain ⟨x12_0,hx0,h⟩:=bind_some h;obtain ⟨x12_1,hx1,h⟩:=bind_some h;obtain ⟨x12_2,hx2,h⟩:=bind_some h;obtain ⟨x12_3,hx3,h⟩:=bind_some h;refine RS.la 57 25 (.tmp 56) 4 (P1 (O1 hx0 S1) (P1 (O1 hx1 S1) (P1 (O1 hx2 T1) (P1 (O1 hx3 R1) U1)))) ?_;obtain ⟨⟨x13,x14⟩,hx,h⟩:=bind_some h;try dsimp only at h
       refine N0 (some 58) (v:=(Value.tuple #[(vI .i64 x13),(vB x14)])) 16 _ (hrec_ref04_Counts_of _ _ _ _ _ _ _ _ _ hx) (m0 5 [kB 10 x14,kI 11 x13,kB 60 x14,kI 59 x13,(52,.val (Value.tuple #[(vI .i64 x13),(vB x14)]))] (B0 (o0 (A0 (A0 (C0 (m0 2 [kB 62 (!x14),kB 61 x14] (B0 (o0 ?_)))))))));rcases Q1 h with ⟨hp,h⟩ | ⟨hp,h⟩
       ·refine D0 62 false (nb_not hp) (F0 (G0 (o0 (A0 (C0 (m0 3 [kI 65 v8_3,kI 64 x13,kI 63 x8] ?_))))));obtain ⟨⟨x15,x16⟩,hx,h⟩:=bind_some h;try dsimp only at h
        refine N0 (some 66) (v:=(Value.tuple #[(vI .i64 x15),(vB x16)])) 45 _ (z9u hx) (m0 4 [kB 7 x16,kI 6 x15,kB 68 x16,kI 67 x15] (B0 (o0 (I0 ?_))));cases h;exact fun a w hs=>bkR (sqR (rtR (rS hs)))
       ·refine D0 62 true (W2 hp) (E0 (A0 (C0 (m0 2 [kB 7 false,kI 6 0] (B0 (o0 (I0 ?_)))))));cases h;exact fun a w hs=>sqR (bkR (sqR (rtR (rS hs))))
    ·refine D0 32 false (decide_eq_false hp) (F0 (A0 (C0 (m0 2 [kB 69 (decide (a1_0=6)),kB 70 (decide (a1_0=6))] (B0 (o0 ?_))))));rcases Q1 h with ⟨hp,h⟩ | ⟨hp,h⟩
     ·refine D0 69 true (decide_eq_true hp) (E0 (A0 ?_));refine D1 [0,1,2,3,4,5,6,7,8,9] [0,1,3,7,0,16,48,112,0,256,1008,2047,4095,8191] 14 (fun hcl=>?_);refine U0 0 (some 71) (vP (some q1)) (U0 1 (some 72) (vP (some q1)) (U0 2 (some 73) (vP (some (Addr.add q1 4))) ?_));obtain ⟨x17,hx,h⟩:=bind_some h;refine Z0 3 (some 74) (Sl3.v x17) (Abs.det_load (t:=87) (x:=.tmp 73) (a:=(Addr.add q1 4)) (by kernel_rfl) (by kernel_rfl) (by kernel_rfl) (by kernel_rfl) (O1 hx R1)) (U0 4 (some 75) (vP (some q1)) (U0 5 (some 76) (vP (some q1)) (U0 6 (some 77) (vP (some (Addr.add q1 0))) ?_)));obtain ⟨x18_0,hx0,h⟩:=bind_some h;obtain ⟨x18_1,hx1,h⟩:=bind_some h;obtain ⟨x18_2,hx2,h⟩:=bind_some h;refine Z0 7 (some 78) (vA #[(Sl3.v x18_0),(Sl3.v x18_1),(Sl3.v x18_2)]) (Abs.det_loadA (t:=30) (x:=.tmp 77) (a:=(Addr.add q1 0)) (k:=3) (by kernel_rfl) (by kernel_rfl) (by kernel_rfl) (by kernel_rfl) (P1 (O1 hx0 R1) (P1 (O1 hx1 R1) (P1 (O1 hx2 R1) U1)))) (V0 8 (some 79) (.loc 0 2) (V0 9 (some 80) (.val (vS a1_2)) ?_));obtain ⟨x19,hx,h⟩:=bind_some h;refine DA.on 10 (I1 10 (some 81) false (v:=(vI .i64 x19)) 46 _ (I8 hx) ?_);obtain ⟨p20,hx,h⟩:=bind_some h;refine J1 11 (some 82) (vP (some p20)) (Abs.det_idx (s:=x17) (k:=.i64) (t:=87) (e:=3) (x:=.tmp 74) (y:=.tmp 81) (by kernel_rfl) (by kernel_rfl) (by kernel_rfl) (by kernel_rfl) (by kernel_rfl) hx) ?_;obtain ⟨x21,hx,h⟩:=bind_some h;refine DA.on 12 (Y0 (H':=H) 12 (some 83) (vI .i64 x21) (Abs.run_load (t:=3) (x:=.tmp 82) (a:=p20) (by kernel_rfl) (by kernel_rfl) (by kernel_rfl) (O1 hx S1)) (M0 13 (some 12) (vI .i64 x21) (W0 (o0 ?_))));obtain ⟨v12_22,hx,h⟩:=bind_some h;refine A0 ?_;refine A1 ([kI 12 v12_22]) ([some (25,[(vI .i64 a1_0),(vI .i64 a1_1),(vS a1_2),(Sl3.v a1_3)])]) H ?_ (fun a w hs=>o0 ?_ a w hs)
      ·clear h; rename _=>h;refine A0 (C0 (m0 1 [kB 84 a2] (B0 (o0 ?_))));rcases Q1 h with ⟨hp,h⟩ | ⟨hp,h⟩
       ·refine D0 84 true hp (E0 ?_);refine D1 [0,1,2,3,4,5,6,7,8,9] [0,1,3,7,0,16,48,112,0,256,1008,2047,4095,8191] 14 (fun hcl=>?_);refine U0 0 (some 85) (vP (some q1)) (U0 1 (some 86) (vP (some q1)) (U0 2 (some 87) (vP (some (Addr.add q1 5))) ?_));obtain ⟨x23,hx,h⟩:=bind_some h;refine Z0 3 (some 88) (Sl3.v x23) (Abs.det_load (t:=87) (x:=.tmp 87) (a:=(Addr.add q1 5)) (by kernel_rfl) (by kernel_rfl) (by kernel_rfl) (by kernel_rfl) (O1 hx R1)) (U0 4 (some 89) (vP (some q1)) (U0 5 (some 90) (vP (some q1)) (U0 6 (some 91) (vP (some (Addr.add q1 0))) ?_)));obtain ⟨x24_0,hx0,h⟩:=bind_some h;obtain ⟨x24_1,hx1,h⟩:=bind_some h;obtain ⟨x24_2,hx2,h⟩:=bind_some h;refine Z0 7 (some 92) (vA #[(Sl3.v x24_0),(Sl3.v x24_1),(Sl3.v x24_2)]) (Abs.det_loadA (t:=30) (x:=.tmp 91) (a:=(Addr.add q1 0)) (k:=3) (by kernel_rfl) (by kernel_rfl) (by kernel_rfl) (by kernel_rfl) (P1 (O1 hx0 R1) (P1 (O1 hx1 R1) (P1 (O1 hx2 R1) U1)))) (V0 8 (some 93) (.loc 0 2) (V0 9 (some 94) (.val (vS a1_2)) ?_));obtain ⟨x25,hx,h⟩:=bind_some h;refine DA.on 10 (I1 10 (some 95) false (v:=(vI .i64 x25)) 46 _ (I8 hx) ?_);obtain ⟨p26,hx,h⟩:=bind_some h;refine J1 11 (some 96) (vP (some p26)) (Abs.det_idx (s:=x23) (k:=.i64) (t:=87) (e:=3) (x:=.tmp 88) (y:=.tmp 95) (by kernel_rfl) (by kernel_rfl) (by kernel_rfl) (by kernel_rfl) (by kernel_rfl) hx) ?_;obtain ⟨x27,hx,h⟩:=bind_some h;refine DA.on 12 (Y0 (H':=H) 12 (some 97) (vI .i64 x27) (Abs.run_load (t:=3) (x:=.tmp 96) (a:=p26) (by kernel_rfl) (by kernel_rfl) (by kernel_rfl) (O1 hx S1)) (M0 13 (some 12) (vI .i64 x27) (W0 ?_)));cases h;exact fun a w hs=>(jsN (hs.sb 1))
       ·refine D0 84 false (b_not hp) (F0 (G0 ?_));cases h;exact fun a w hs=>(jsN (hs.sb 1))
      ·clear hx;refine A0 (C0 (m0 5 [kB 7 (decide (v12_22 > 0)),kI 6 v12_22,kB 100 (decide (v12_22 > 0)),kI 99 v12_22,kI 98 v12_22] (B0 (o0 (I0 ?_)))));cases h;exact fun a w hs=>bkR (sqR (rtR (rS hs)))
     ·refine D0 69 false (decide_eq_false hp) (F0 (G0 ?_));refine fun a w hs=>bkN ((o0 ?_ a w hs));refine A0 (C0 (m0 2 [kB 7 false,kI 6 0] (B0 (o0 (I0 ?_)))));cases h;exact fun a w hs=>rtR (rS hs)
theorem z8o {L:LC}:∀n,(∀(m:Nat) (H:AH) (a0:Option Addr) (a1_0 a1_1:Int) (a1_2:ByteArray) (a1_3:Sl3) (a2:Bool) (r:(Int×Bool)),((D9 L n)) H a0 a1_0 a1_1 a1_2 a1_3 a2=some r→CallS Tryz.prog (NE.plain 1000) m 16 #[(vP a0),(vA #[(vI .i64 a1_0),(vI .i64 a1_1),(vS a1_2),(Sl3.v a1_3)]),(vB a2)] H (G9 r) (M9 H r)):=by
 intro n;induction n with
 | zero=>exact (fun _ _ _ _ _ _ _ _ _ h=>(Option.some_ne_none _ h.symm).elim)
 | succ n ih=>exact (fun _ _ _ _ _ _ _ _ _ h=>z7o (L:=L) ih h)
theorem z1t {L:LC} {m:Nat} {H:AH} {a0:Option Addr} {a1_0 a1_1:Int} {a1_2:ByteArray} {a1_3:Sl3} {a2:Bool} {r:(Int×Bool)} (h:d8 L H a0 a1_0 a1_1 a1_2 a1_3 a2=some r) :
  CallS Tryz.prog (NE.plain 1000) m 16 #[(vP a0),(vA #[(vI .i64 a1_0),(vI .i64 a1_1),(vS a1_2),(Sl3.v a1_3)]),(vB a2)] H (G9 r) (M9 H r) :=
 (z8o _) _ _ _ _ _ _ _ _ _ h
def zw:Int→Value
 | r0=>(vI .i64 r0)
def z13 (H:AH):Int→AH:=fun _=>H
noncomputable def B44:Code:=(Tryz.f44.body).getD .skip
noncomputable def D2 (L:LC) (H:AH) (_a1_0:ByteArray) (a1_1:Sl3) (a2:Bool) (q1:Addr) (v7_3 _v8_4 v9_5:Int):(Int×Int)→Option (Lp (Int×Int) Int):=fun (v10_6,v11_7) =>
 (idxA 2 a1_1 v9_5).bind fun p8 => (rd deSl H (Addr.add p8 1)).bind fun x9 => if v11_7<(x9.n:Int) then
  (idxA 2 a1_1 v9_5).bind fun p10 => (rd deSl H (Addr.add p10 1)).bind fun x11 => (idxA 5 x11 v11_7).bind fun p12 => (rd (deI .i64) H (Addr.add (Addr.add p12 1) 0)).bind fun x13_0 => (rd (deI .i64) H (Addr.add (Addr.add p12 1) 1)).bind fun x13_1 => (rd deS H (Addr.add (Addr.add p12 1) 2)).bind fun x13_2 => (rd deSl H (Addr.add (Addr.add p12 1) 3)).bind fun x13_3 => (d8 L H (some q1) x13_0 x13_1 x13_2 x13_3 a2).bind fun (x14,x15) => Option.bind (α:=Bool) (
   if x15=true then
    if x14=0 then none else
    some (decide (v10_6 > (IntKind.i64.wrap (Int.tdiv v7_3 x14))))
   else
    some true) fun v61_16 =>
  if v61_16=true then
   some (.ret 0)
  else
   some (.next ((IntKind.i64.wrap (v10_6*x14)),(IntKind.i64.wrap (v11_7+1))))
 else
  some (.brk (v10_6,v11_7))
def z8r (_L:LC) (_H:AH) (a1_0:ByteArray) (a1_1:Sl3) (a2:Bool) (q1:Addr) (v7_3 v8_4 v9_5:Int):(Int×Int)→KN×Lcs:=fun (v10_6,v11_7)=>([kI 10 v10_6,kI 11 v11_7,kP 0 q1,kB 2 a2,kL 4 0 0,kI 7 v7_3,kI 8 v8_4,kI 9 v9_5],[some (93,[(vS a1_0),(Sl3.v a1_1)])])
noncomputable def E2 (L:LC) (H:AH) (a1_0:ByteArray) (a1_1:Sl3) (a2:Bool) (q1:Addr) (v7_3:Int):(Int×Int)→Option (Lp (Int×Int) Int):=fun (v8_4,v9_5) =>
 if v9_5<(a1_1.n:Int) then
  (L.run (D2 L H a1_0 a1_1 a2 q1 v7_3 v8_4 v9_5) (1,0)).bind fun o=>match o with
  | .inl (v10_17,_) =>
   if v8_4 > (IntKind.i64.wrap (v7_3 - v10_17)) then
    some (.ret 0)
   else
    some (.next ((IntKind.i64.wrap (v8_4+v10_17)),(IntKind.i64.wrap (v9_5+1))))
  | .inr r=>some (.ret r)
 else
  some (.brk (v8_4,v9_5))
def z8v (_L:LC) (_H:AH) (a1_0:ByteArray) (a1_1:Sl3) (a2:Bool) (q1:Addr) (v7_3:Int):(Int×Int)→KN×Lcs:=fun (v8_4,v9_5)=>([kI 8 v8_4,kI 9 v9_5,kP 0 q1,kB 2 a2,kL 4 0 0,kI 7 v7_3],[some (93,[(vS a1_0),(Sl3.v a1_1)])])
noncomputable def M7 (L:LC) (H:AH) (a0:Option Addr) (a1_0:ByteArray) (a1_1:Sl3) (a2:Bool):Option Int :=
 a0.bind fun q1 => (rd (deI .i64) H (Addr.add q1 3)).bind fun x2 => Option.bind (α:=Int) (
  if a2=true then
   some 63
  else
   some x2) fun v7_3 =>
 (L.run (E2 L H a1_0 a1_1 a2 q1 v7_3) (0,0)).bind fun o=>match o with
 | .inl (v8_19,_) =>
  some v8_19
 | .inr r=>some r
theorem z2f {E m L H a1_0 a1_1 a2 q1 v7_3 v8_4 v9_5} :LoopF Tryz.prog (NE.plain 1000) m E Tryz.f44 ((cfst (csnd (cfst (csnd (cfst (cfst (csnd (cfst (cfst (csnd (cfst (csnd (csnd (csnd (csnd B44)))))))))))))))) (z8r L H a1_0 a1_1 a2 q1 v7_3 v8_4 v9_5) (fun _=>H) 2 zw (z13 H) (D2 L H a1_0 a1_1 a2 q1 v7_3 v8_4 v9_5):=by
 rintro ⟨v10_6,v11_7⟩ o h
 unfold D2 at h;try dsimp only at h
 refine A0 (A0 (C0 (m0 4 [kI 29 v9_5,kS 28 a1_1,kL 27 0 1,kI 26 v11_7] ?_)));obtain ⟨p8,hx,h⟩:=bind_some h;refine O0 30 91 103 (.tmp 28) (.tmp 29) hx (m0 1 [(31,.val (vP (some (Addr.add p8 1))))] ?_);obtain ⟨x9,hx,h⟩:=bind_some h;refine T0 32 101 (.tmp 31) (O1 hx R1) (m0 2 [kB 34 (decide (v11_7<(x9.n:Int))),kI 33 (x9.n:Int)] (B0 (o0 ?_)));rcases Q1 h with ⟨hp,h⟩ | ⟨hp,h⟩
 ·refine D0 34 true (decide_eq_true hp) (E0 (G0 (o0 (A0 (J0 3 (A0 (C0 (m0 4 [kI 41 v9_5,kS 40 a1_1,kL 39 0 1,kP 38 q1] ?_))))))));obtain ⟨p10,hx,h⟩:=bind_some h;refine O0 42 91 103 (.tmp 40) (.tmp 41) hx (m0 1 [(43,.val (vP (some (Addr.add p10 1))))] ?_);obtain ⟨x11,hx,h⟩:=bind_some h;refine T0 44 101 (.tmp 43) (O1 hx R1) (m0 1 [kI 45 v11_7] ?_);obtain ⟨p12,hx,h⟩:=bind_some h;refine O0 46 101 105 (.tmp 44) (.tmp 45) hx (m0 1 [(47,.val (vP (some (Addr.add p12 1))))] ?_);obtain ⟨x13_0,hx0,h⟩:=bind_some h;obtain ⟨x13_1,hx1,h⟩:=bind_some h;obtain ⟨x13_2,hx2,h⟩:=bind_some h;obtain ⟨x13_3,hx3,h⟩:=bind_some h;refine RS.la 48 25 (.tmp 47) 4 (P1 (O1 hx0 S1) (P1 (O1 hx1 S1) (P1 (O1 hx2 T1) (P1 (O1 hx3 R1) U1)))) (m0 1 [kB 49 a2] ?_);obtain ⟨⟨x14,x15⟩,hx,h⟩:=bind_some h;try dsimp only at h
  refine N0 (some 50) (v:=(Value.tuple #[(vI .i64 x14),(vB x15)])) 16 _ (z1t hx) (m0 5 [kB 13 x15,kI 12 x14,kB 52 x15,kI 51 x14,(37,.val (Value.tuple #[(vI .i64 x14),(vB x15)]))] (B0 (o0 (A0 ?_))));obtain ⟨v61_16,hx,h⟩:=bind_some h;refine A0 ?_;refine A1 ([kB 61 v61_16,kP 0 q1,kB 2 a2,kL 4 0 0,kI 7 v7_3,kI 8 v8_4,kI 9 v9_5,kI 10 v10_6,kI 11 v11_7,kI 12 x14]) ([some (93,[(vS a1_0),(Sl3.v a1_1)])]) H ?_ (fun a w hs=>o0 ?_ a w hs)
  ·clear h; rename _=>h;refine C0 (m0 3 [kB 55 (!x15),kB 54 (!x15),kB 53 x15] ?_);rcases Q1 h with ⟨hp,h⟩ | ⟨hp,h⟩
   ·refine K0 55 false (nb_not hp) (m0 3 [kI 58 x14,kI 57 v7_3,kI 56 v10_6] ?_);rcases Q1 h with ⟨_,h⟩ | ⟨hx,h⟩
    ·cases h
    ·refine P0 (H':=H) (some 59) (vI .i64 (IntKind.i64.wrap (Int.tdiv v7_3 x14))) (Abs.run_quo (t:=3) (u:=3) (x:=.tmp 57) (y:=.tmp 58) (by kernel_rfl) (by kernel_rfl) (by kernel_rfl) hx) (m0 2 [kB 61 (decide (v10_6 > (IntKind.i64.wrap (Int.tdiv v7_3 x14)))),kB 60 (decide (v10_6 > (IntKind.i64.wrap (Int.tdiv v7_3 x14))))] (B0 ?_));cases h;exact fun a w hs=>(jsN (hs.sb 1))
   ·refine K0 55 true (W2 hp) (m0 6 [kB 61 true,kU 60,kU 59,kU 58,kU 57,kU 56] (B0 ?_));cases h;exact fun a w hs=>(jsN (hs.sb 1))
  ·clear hx;rcases Q1 h with ⟨hp,h⟩ | ⟨hp,h⟩
   ·refine D0 61 true hp (E0 (A0 (C0 (m0 1 [kI 6 0] (B0 (o0 (I0 ?_)))))));cases h;exact fun a w hs=>sqR (bkR (sqR (lsR rfl (rS hs))))
   ·refine D0 61 false (b_not hp) (F0 (G0 (o0 (C0 (m0 4 [kI 10 (IntKind.i64.wrap (v10_6*x14)),kI 64 (IntKind.i64.wrap (v10_6*x14)),kI 63 x14,kI 62 v10_6] (B0 ?_))))));refine fun a w hs=>bkN ((o0 ?_ a w hs));refine C0 (m0 3 [kI 11 (IntKind.i64.wrap (v11_7+1)),kI 36 (IntKind.i64.wrap (v11_7+1)),kI 35 v11_7] (B0 ?_));cases h;exact fun a w hs=>lsN rfl (hs.sb 1)
 ·refine D0 34 false (decide_eq_false hp) (F0 (WS.ex 2 ?_));cases h;exact fun a w hs=>sqE (lsB rfl (hs.sb 1))
theorem z2r {E m L H a1_0 a1_1 a2 q1 v7_3} :LoopF Tryz.prog (NE.plain 1000) m E Tryz.f44 ((cfst (csnd (cfst (csnd (csnd (csnd (csnd B44)))))))) (z8v L H a1_0 a1_1 a2 q1 v7_3) (fun _=>H) 0 zw (z13 H) (E2 L H a1_0 a1_1 a2 q1 v7_3):=by
 rintro ⟨v8_4,v9_5⟩ o h
 unfold E2 at h;try dsimp only at h
 refine A0 (A0 (C0 (m0 5 [kB 23 (decide (v9_5<(a1_1.n:Int))),kI 22 (a1_1.n:Int),kS 21 a1_1,kL 20 0 1,kI 19 v9_5] (B0 (o0 ?_)))));rcases Q1 h with ⟨hp,h⟩ | ⟨hp,h⟩
 ·refine D0 23 true (decide_eq_true hp) (E0 (G0 (o0 (A0 (J0 1 (A0 (C0 (m0 1 [kI 10 1] (B0 ?_)))))))));refine o0 (A0 (A0 (C0 (m0 1 [kI 11 0] (B0 (o0 (J0 2 ?_)))))));obtain ⟨o,hl,h⟩:=bind_some h;rcases o with ⟨v10_17,v11_18⟩ | r
  ·try dsimp only at h
   refine S0 (z2f (L:=L) (E:=E) (m:=m) (H:=H)) (L.ok hl) 1 ?_;clear hl;refine fun a w hs=>bkE ((o0 ?_ a w hs));refine A0 (A0 (C0 (m0 5 [kB 69 (decide (v8_4 > (IntKind.i64.wrap (v7_3 - v10_17)))),kI 68 (IntKind.i64.wrap (v7_3 - v10_17)),kI 67 v10_17,kI 66 v7_3,kI 65 v8_4] (B0 (o0 ?_)))));rcases Q1 h with ⟨hp,h⟩ | ⟨hp,h⟩
   ·refine D0 69 true (decide_eq_true hp) (E0 (A0 (C0 (m0 1 [kI 6 0] (B0 (o0 (I0 ?_)))))));cases h;exact fun a w hs=>sqR (bkR (sqR (lsR rfl (rS hs))))
   ·refine D0 69 false (decide_eq_false hp) (F0 (G0 (o0 (C0 (m0 4 [kI 8 (IntKind.i64.wrap (v8_4+v10_17)),kI 72 (IntKind.i64.wrap (v8_4+v10_17)),kI 71 v10_17,kI 70 v8_4] (B0 ?_))))));refine fun a w hs=>bkN ((o0 ?_ a w hs));refine C0 (m0 3 [kI 9 (IntKind.i64.wrap (v9_5+1)),kI 25 (IntKind.i64.wrap (v9_5+1)),kI 24 v9_5] (B0 ?_));cases h;exact fun a w hs=>lsN rfl (hs.sb 1)
  ·try dsimp only at h
   refine R0 (z2f (L:=L) (E:=E) (m:=m) (H:=H)) (L.ok hl) 1 ?_;cases h;exact fun a w hq=>bkR (sqR (bkR (sqR (lsR rfl hq))))
 ·refine D0 23 false (decide_eq_false hp) (F0 (WS.ex 0 ?_));cases h;exact fun a w hs=>sqE (lsB rfl (hs.sb 1))
theorem z45 {L:LC} {m:Nat} {H:AH} {a0:Option Addr} {a1_0:ByteArray} {a1_1:Sl3} {a2:Bool} {r:Int} (h:M7 L H a0 a1_0 a1_1 a2=some r) :
  CallS Tryz.prog (NE.plain 1000) m 44 #[(vP a0),(vA #[(vS a1_0),(Sl3.v a1_1)]),(vB a2)] H (zw r) (z13 H r):=by
 refine CallS.mk (args:=[(vP a0),(vA #[(vS a1_0),(Sl3.v a1_1)]),(vB a2)]) Tryz.func44 (B:=B44) (by kernel_rfl) (fun E _=>?_);unfold M7 at h;refine A0 (C0 (Q0 2 [kI 6 0,kL 4 0 0] ([some (93,[(vS a1_0),(Sl3.v a1_1)])]) (B0 (o0 (A0 (C0 (m0 1 [(14,.val (vP a0))] ?_)))))));obtain ⟨q1,hx,hq1⟩:=bind_some h;subst hx;have h:=hq1;refine m0 2 [(16,.val (vP (some (Addr.add q1 3)))),kP 15 q1] ?_;obtain ⟨x2,hx,h⟩:=bind_some h;refine T0 17 3 (.tmp 16) (O1 hx S1) (m0 1 [kI 7 x2] (B0 (o0 ?_)));obtain ⟨v7_3,hx,h⟩:=bind_some h;refine A0 ?_;refine A1 ([kI 7 v7_3,kP 0 q1,kB 2 a2,kL 4 0 0]) ([some (93,[(vS a1_0),(Sl3.v a1_1)])]) H ?_ (fun a w hs=>o0 ?_ a w hs)
 ·clear h; rename _=>h;refine A0 (C0 (m0 1 [kB 18 a2] (B0 (o0 ?_))));rcases Q1 h with ⟨hp,h⟩ | ⟨hp,h⟩
  ·refine D0 18 true hp (E0 (C0 (m0 1 [kI 7 63] (B0 ?_))));cases h;exact fun a w hs=>(jsN (hs.sb 1))
  ·refine D0 18 false (b_not hp) (F0 (G0 ?_));cases h;exact fun a w hs=>(jsN (hs.sb 1))
 ·clear hx;refine A0 (C0 (m0 1 [kI 8 0] (B0 (o0 (A0 (A0 (C0 (m0 1 [kI 9 0] (B0 ?_)))))))));refine o0 (J0 0 ?_);obtain ⟨o,hl,h⟩:=bind_some h;rcases o with ⟨v8_19,v9_20⟩ | r
  ·try dsimp only at h
   refine S0 (z2r (L:=L) (E:=E) (m:=m) (H:=H)) (L.ok hl) 1 ?_;clear hl;refine fun a w hs=>bkE ((o0 ?_ a w hs));refine A0 (C0 (m0 2 [kI 6 v8_19,kI 73 v8_19] (B0 (o0 (I0 ?_)))));cases h;exact fun a w hs=>rtR (rS hs)
  ·try dsimp only at h
   refine R0 (z2r (L:=L) (E:=E) (m:=m) (H:=H)) (L.ok hl) 1 ?_;cases h;exact fun a w hq=>bkR (sqR (rtR hq))
end Go.Proofs.YtccbilfbhecdaaaGreatDoor
