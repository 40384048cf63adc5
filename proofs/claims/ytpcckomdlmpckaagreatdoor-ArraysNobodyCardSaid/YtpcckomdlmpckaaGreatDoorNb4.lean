/- Parts of the proof: an abstract interpreter of the loaded program and its soundness, printed functions, the law's own texts; part 4. No condition. -/
import Derived.Test.YtpcckomdlmpckaaGreatDoorNb3
namespace Go.Proofs.YtpcckomdlmpckaaGreatDoor
open Go Go.Abs
set_option maxRecDepth 100000
noncomputable def B4:Code:=(Tryz.f4.body).getD .skip
def zmp:((Option Addr)×Int×AH)→Value
 | (r0,r1,_)=>(Value.tuple #[(Value.pointer r0),(Value.int .i64 r1)])
def zo6 (_:AH):((Option Addr)×Int×AH)→AH:=fun r=>r.2.2
noncomputable def zf1 (L:LC) (m:Nat) (H:AH) (a0_0 a0_1 a0_2:Sl3):Option ((Option Addr)×Int×AH) :=
 Option.bind (za1 L m H a0_0 a0_1 a0_2) fun (x1,H2) =>
 if x1=0 then
  Option.bind (z83 L m H2 a0_0 a0_1 a0_2) fun (x3_0,x3_1,x3_2,H4) =>
  Option.bind (newM H4) fun (p5,H6) =>
  Option.bind (newB 34 [(Sl3.v x3_0),(Sl3.v x3_1),(Sl3.v x3_2),(Sl3.v Sl3.nil),(Value.map (some p5))] H6) fun (p7,H8) =>
  some ((some p7),0,H8)
 else
  none
theorem zis {L:LC} {m:Nat} {H:AH} {a0_0 a0_1 a0_2:Sl3} {r:((Option Addr)×Int×AH)} (h:zf1 L m H a0_0 a0_1 a0_2=some r) :
  CallS Tryz.prog (NE.plain 148) m 4 #[(Value.agg #[(Sl3.v a0_0),(Sl3.v a0_1),(Sl3.v a0_2)])] H (zmp r) (zo6 H r):=by
 refine CallS.mk (args:=[(Value.agg #[(Sl3.v a0_0),(Sl3.v a0_1),(Sl3.v a0_2)])]) Tryz.func4 (B:=B4) (by kernel_rfl) (fun E _=>?_)
 unfold zf1 at h
 refine WS.sq (WS.rg (RS.mL 3 [kI 3 0,(2,.val (Value.pointer none)),kL 1 0 0] ([some (30,[(Sl3.v a0_0),(Sl3.v a0_1),(Sl3.v a0_2)])]) (RS.dn (WS.nxt (WS.sq (WS.sq (WS.rg (RS.mS 1 [kA 5 #[(Sl3.v a0_0),(Sl3.v a0_1),(Sl3.v a0_2)]] ?_))))))))
 obtain ⟨⟨x1,H2⟩,hx,h⟩:=bind_some h
 try dsimp only at h
 refine RS.cl (some 6) (v:=(Value.int .i64 x1)) 10 #[(Value.agg #[(Sl3.v a0_0),(Sl3.v a0_1),(Sl3.v a0_2)])] (zjd hx) (RS.mS 1 [kI 4 x1] (RS.dn (WS.nxt (WS.sq (WS.rg (RS.mS 2 [kB 8 (!decide (x1=0)),kI 7 x1] (RS.dn (WS.nxt ?_))))))))
 rcases z0 h with ⟨hp,h⟩ | ⟨hp,h⟩
 ·refine WS.fx 8 false (zj hp) (WS.cF (WS.sk (WS.nxt (WS.sq (WS.rg (RS.mS 1 [kA 10 #[(Sl3.v a0_0),(Sl3.v a0_1),(Sl3.v a0_2)]] ?_))))))
  obtain ⟨⟨x3_0,x3_1,x3_2,H4⟩,hx,h⟩:=bind_some h
  try dsimp only at h
  refine RS.cl (some 11) (v:=(Value.agg #[(Sl3.v x3_0),(Sl3.v x3_1),(Sl3.v x3_2)])) 11 #[(Value.agg #[(Sl3.v a0_0),(Sl3.v a0_1),(Sl3.v a0_2)])] (zco hx) ?_
  obtain ⟨⟨p5,H6⟩,hx,h⟩:=bind_some h
  try dsimp only at h
  refine RS.o (H':=H6) (some 12) (Value.map (some p5)) (Abs.run_newM (by kernel_rfl) hx) (RS.mS 1 [kA 13 #[(Sl3.v x3_0),(Sl3.v x3_1),(Sl3.v x3_2),(Sl3.v Sl3.nil),(Value.map (some p5))]] ?_)
  obtain ⟨⟨p7,H8⟩,hx,h⟩:=bind_some h
  try dsimp only at h
  refine RS.o (H':=H8) (some 14) (Value.pointer (some p7)) (Abs.run_newB (by kernel_rfl) hx) (RS.mS 2 [kI 3 0,kP 2 p7] (RS.dn (WS.nxt (WS.rt ?_))))
  cases h
  exact fun a w hs=>rtR (rS hs)
 ·refine WS.fx 8 true (ze hp) (WS.cT ?_)
  cases h
noncomputable def B46:Code:=(Tryz.f46.body).getD .skip
def zga:Bool→Value
 | r0=>(Value.bool r0)
def zgz (H:AH):Bool→AH:=fun _=>H
noncomputable def z17 (_L:LC) (H:AH) (a0:Option Addr):Option Bool :=
 match a0 with
 | none =>
  some false
 | some q1 =>
  Option.bind (rd deM H (Addr.add q1 4)) fun x2 =>
  match x2 with
  | none =>
   some false
  | some _ =>
   some true
theorem z1c {L:LC} {m:Nat} {H:AH} {a0:Option Addr} {r:Bool} (h:z17 L H a0=some r) :
  CallS Tryz.prog (NE.plain 148) m 46 #[(Value.pointer a0)] H (zga r) (zgz H r):=by
 refine CallS.mk (args:=[(Value.pointer a0)]) Tryz.func46 (B:=B46) (by kernel_rfl) (fun E _=>?_)
 unfold z17 at h
 refine WS.sq (WS.rg (RS.mS 1 [kB 2 false] (RS.dn (WS.nxt (WS.sq (WS.rg (RS.mS 1 [(3,.val (Value.pointer a0))] ?_)))))))
 rcases a0 with _ | q1
 ·try dsimp only at h
  refine RS.mS 9 [kB 2 false,kB 11 false,kU 10,kU 9,kU 8,kU 7,kU 6,kB 5 false,kB 4 false] (RS.dn (WS.nxt (WS.rt ?_)))
  cases h
  exact fun a w hs=>rtR (rS hs)
 ·try dsimp only at h
  refine RS.mS 5 [(8,.val (Value.pointer (some (Addr.add q1 4)))),kP 7 q1,kP 6 q1,kB 5 true,kB 4 true] ?_
  obtain ⟨x2,hx,h⟩:=bind_some h
  refine RS.ld 9 32 (.tmp 8) (z1 hx z6z) ?_
  rcases x2 with _ | q3
  ·try dsimp only at h
   refine RS.mS 3 [kB 2 false,kB 11 false,kB 10 false] (RS.dn (WS.nxt (WS.rt ?_)))
   cases h
   exact fun a w hs=>rtR (rS hs)
  ·try dsimp only at h
   refine RS.mS 3 [kB 2 true,kB 11 true,kB 10 true] (RS.dn (WS.nxt (WS.rt ?_)))
   cases h
   exact fun a w hs=>rtR (rS hs)
noncomputable def B50:Code:=(Tryz.f50.body).getD .skip
def zcb:Int→Value
 | r0=>(Value.int .i64 r0)
def zdf (H:AH):Int→AH:=fun _=>H
noncomputable def z1o (_L:LC) (H:AH) (a0:Option Addr):Option Int :=
 Option.bind a0 fun q1 =>
 Option.bind (rd deSl H (Addr.add q1 1)) fun x2 =>
 some (x2.n:Int)
theorem z36 {L:LC} {m:Nat} {H:AH} {a0:Option Addr} {r:Int} (h:z1o L H a0=some r) :
  CallS Tryz.prog (NE.plain 148) m 50 #[(Value.pointer a0)] H (zcb r) (zdf H r):=by
 refine CallS.mk (args:=[(Value.pointer a0)]) Tryz.func50 (B:=B50) (by kernel_rfl) (fun E _=>?_)
 unfold z1o at h
 refine WS.sq (WS.rg (RS.mS 1 [kI 2 0] (RS.dn (WS.nxt (WS.sq (WS.rg (RS.mS 1 [(3,.val (Value.pointer a0))] ?_)))))))
 obtain ⟨q1,hx,hq1⟩:=bind_some h
 subst hx
 have h:=hq1
 refine RS.mS 2 [(5,.val (Value.pointer (some (Addr.add q1 1)))),kP 4 q1] ?_
 obtain ⟨x2,hx,h⟩:=bind_some h
 refine RS.ld 6 129 (.tmp 5) (z1 hx z3) (RS.mS 2 [kI 2 (x2.n:Int),kI 7 (x2.n:Int)] (RS.dn (WS.nxt (WS.rt ?_))))
 cases h
 exact fun a w hs=>rtR (rS hs)
noncomputable def B94:Code:=(Tryz.f94.body).getD .skip
def z8b:AH→Value
 | _=>(Value.tuple #[])
def z8n (_:AH):AH→AH:=fun r=>r
noncomputable def z1d (_L:LC) (m:Nat) (H:AH) (a0:Option Addr):Option AH :=
 Option.bind a0 fun q1 =>
 Option.bind (rd deP H (Addr.add q1 0)) fun x2 =>
 match x2 with
 | none =>
  Option.bind (gOp Tryz.prog m (opsOf (cfst (csnd B94))) 2 [(8,.val (Value.pointer (some q1)))] deP H) fun (x7,H8) =>
  Option.bind x7 fun q9 =>
  Option.bind (gOp Tryz.prog m (opsOf (cfst (csnd B94))) 4 [(10,.val (Value.pointer (some q9)))] deP H8) fun (x10,H11) =>
  Option.bind (H11.setCell m (Addr.add q1 0) (Value.pointer x10)) fun H12 =>
  some H12
 | some _ =>
  Option.bind (rd deP H (Addr.add q1 0)) fun x4 =>
  match x4 with
  | none =>
   none
  | some q5 =>
   Option.bind (gOp1 Tryz.prog (opsOf (cfst (csnd (csnd B94)))) 5 [(17,.val (Value.pointer (some q5))),(18,.val (Value.pointer (some q1)))] deB H) fun x6 =>
   if x6=true then
    none
   else
    some H
theorem z3c {L:LC} {m:Nat} {H:AH} {a0:Option Addr} {r:AH} (h:z1d L m H a0=some r) :
  CallS Tryz.prog (NE.plain 148) m 94 #[(Value.pointer a0)] H (z8b r) (z8n H r):=by
 refine CallS.mk (args:=[(Value.pointer a0)]) Tryz.func94 (B:=B94) (by kernel_rfl) (fun E _=>?_)
 unfold z1d at h
 refine WS.sq (WS.rg (RS.mS 1 [(2,.val (Value.pointer a0))] ?_))
 obtain ⟨q1,hx,hq1⟩:=bind_some h
 subst hx
 have h:=hq1
 refine RS.mS 2 [(4,.val (Value.pointer (some (Addr.add q1 0)))),kP 3 q1] ?_
 obtain ⟨x2,hx,h⟩:=bind_some h
 refine RS.ld 5 128 (.tmp 4) (z1 hx zr) ?_
 rcases x2 with _ | q3
 ·try dsimp only at h
  refine RS.mS 1 [kB 6 true] (RS.dn (WS.nxt (WS.cT (WS.rg (RS.mS 2 [kP 8 q1,kP 7 q1] ?_)))))
  obtain ⟨⟨x7,H8⟩,hx,h⟩:=bind_some h
  try dsimp only at h
  refine RS.o (H':=H8) (some 9) (Value.pointer x7) (zec hx zr (by kernel_rfl)) ?_
  obtain ⟨q9,hx,hq9⟩:=bind_some h
  subst hx
  have h:=hq9
  refine RS.esc (H':=H8) (some 10) (Value.pointer (some q9)) (by kernel_rfl) (by kernel_rfl) (by kernel_rfl) (by kernel_rfl) ?_
  obtain ⟨⟨x10,H11⟩,hx,h⟩:=bind_some h
  try dsimp only at h
  refine RS.o (H':=H11) (some 11) (Value.pointer x10) (zec hx zr (by kernel_rfl)) (RS.mS 2 [(13,.val (Value.pointer (some (Addr.add q1 0)))),kP 12 q1] ?_)
  obtain ⟨H12,hx,h⟩:=bind_some h
  refine RS.o (H':=H12) none undef (Abs.run_store1 (t:=128) (x:=.tmp 13) (y:=.tmp 11) (a:=(Addr.add q1 0)) (v:=(Value.pointer x10)) (by kernel_rfl) (by kernel_rfl) (by kernel_rfl) (by kernel_rfl) (by kernel_rfl) hx) (RS.dn ?_)
  cases h
  exact fun a w hs=>rtN (rS hs)
 ·try dsimp only at h
  refine RS.mS 1 [kB 6 false] (RS.dn (WS.nxt (WS.cF (WS.sq (WS.rg (RS.mS 3 [(16,.val (Value.pointer (some (Addr.add q1 0)))),kP 15 q1,kP 14 q1] ?_))))))
  obtain ⟨x4,hx,h⟩:=bind_some h
  refine RS.ld 17 128 (.tmp 16) (z1 hx zr) (RS.mS 1 [kP 18 q1] ?_)
  rcases x4 with _ | q5
  ·try dsimp only at h
   cases h
  ·try dsimp only at h
   obtain ⟨x6,hx,h⟩:=bind_some h
   refine RS.o (H':=H) (some 19) (Value.bool x6) (znf hx zdz (by kernel_rfl) (by kernel_rfl)) (RS.dn (WS.nxt ?_))
   rcases z0 h with ⟨hp,h⟩ | ⟨hp,h⟩
   ·refine WS.fx 19 true hp (WS.cT ?_)
    cases h
   ·refine WS.fx 19 false (b_not hp) (WS.cF (WS.sk ?_))
    cases h
    exact fun a w hs=>rtN (rS hs)
noncomputable def B63:Code:=(Tryz.f63.body).getD .skip
def z2l:(Int×Value×AH)→Value
 | (r0,r1,_)=>(Value.tuple #[(Value.int .i64 r0),r1])
def z30 (_:AH):(Int×Value×AH)→AH:=fun r=>r.2.2
noncomputable def zh (L:LC) (m:Nat) (H:AH) (a0:Option Addr) (a1:ByteArray):Option (Int×Value×AH) :=
 Option.bind (z1d L m H a0) fun H1 =>
 Option.bind a0 fun q2 =>
 Option.bind (rd deSl H1 (Addr.add q2 1)) fun x3 =>
 Option.bind (gOp Tryz.prog m (opsOf (cfst (csnd (csnd B63)))) 6 [(12,.val (Sl3.v x3)),(13,.val (Value.string a1))] deSl H1) fun (x4,H5) =>
 Option.bind (H5.setCell m (Addr.add q2 1) (Sl3.v x4)) fun H6 =>
 some ((a1.size:Int),Value.nilIface,H6)
theorem zq {L:LC} {m:Nat} {H:AH} {a0:Option Addr} {a1:ByteArray} {r:(Int×Value×AH)} (h:zh L m H a0 a1=some r) :
  CallS Tryz.prog (NE.plain 148) m 63 #[(Value.pointer a0),(Value.string a1)] H (z2l r) (z30 H r):=by
 refine CallS.mk (args:=[(Value.pointer a0),(Value.string a1)]) Tryz.func63 (B:=B63) (by kernel_rfl) (fun E _=>?_)
 unfold zh at h
 refine WS.sq (WS.rg (RS.mS 2 [(5,.val Value.nilIface),kI 4 0] (RS.dn (WS.nxt (WS.sq (WS.rg (RS.mS 1 [(6,.val (Value.pointer a0))] ?_)))))))
 obtain ⟨H1,hx,h⟩:=bind_some h
 refine RS.cl (some 7) (v:=(Value.tuple #[])) 94 #[(Value.pointer a0)] (z3c hx) (RS.dn (WS.nxt (WS.sq (WS.rg (RS.mS 2 [(9,.val (Value.pointer a0)),(8,.val (Value.pointer a0))] ?_)))))
 obtain ⟨q2,hx,hq2⟩:=bind_some h
 subst hx
 have h:=hq2
 refine RS.mS 2 [(11,.val (Value.pointer (some (Addr.add q2 1)))),kP 10 q2] ?_
 obtain ⟨x3,hx,h⟩:=bind_some h
 refine RS.ld 12 129 (.tmp 11) (z1 hx z3) (RS.mS 1 [kT 13 a1] ?_)
 obtain ⟨⟨x4,H5⟩,hx,h⟩:=bind_some h
 try dsimp only at h
 refine RS.o (H':=H5) (some 14) (Sl3.v x4) (zec hx z3 (by kernel_rfl)) (RS.mS 2 [(16,.val (Value.pointer (some (Addr.add q2 1)))),kP 15 q2] ?_)
 obtain ⟨H6,hx,h⟩:=bind_some h
 refine RS.o (H':=H6) none undef (Abs.run_store1 (t:=129) (x:=.tmp 16) (y:=.tmp 14) (a:=(Addr.add q2 1)) (v:=(Sl3.v x4)) (by kernel_rfl) (by kernel_rfl) (by kernel_rfl) (by kernel_rfl) (by kernel_rfl) hx) (RS.dn (WS.nxt (WS.sq (WS.rg (RS.mS 4 [(5,.val Value.nilIface),kI 4 (a1.size:Int),kI 18 (a1.size:Int),kT 17 a1] (RS.dn (WS.nxt (WS.rt ?_))))))))
 cases h
 exact fun a w hs=>rtR (rS hs)
noncomputable def B188:Code:=(Tryz.f188.body).getD .skip
def zju:Bool→Value
 | r0=>(Value.bool r0)
def zl9 (H:AH):Bool→AH:=fun _=>H
noncomputable def zdx (_L:LC) (a0:Int):Option Bool :=
 if (ior .u8 a0 32)≥97 then
  some (decide ((ior .u8 a0 32)≤122))
 else
  none
theorem zky {L:LC} {m:Nat} {H:AH} {a0:Int} {r:Bool} (h:zdx L a0=some r) :
  CallS Tryz.prog (NE.plain 148) m 188 #[(Value.int .u8 a0)] H (zju r) (zl9 H r):=by
 refine CallS.mk (args:=[(Value.int .u8 a0)]) Tryz.func188 (B:=B188) (by kernel_rfl) (fun E _=>?_)
 unfold zdx at h
 refine WS.sq (WS.rg (RS.mS 1 [kB 2 false] (RS.dn (WS.nxt (WS.sq (WS.rg (RS.mS 4 [kB 6 (decide ((ior .u8 a0 32)≥97)),kB 5 (decide ((ior .u8 a0 32)≥97)),(4,.val (Value.int .u8 (ior .u8 a0 32))),(3,.val (Value.int .u8 a0))] ?_)))))))
 rcases z0 h with ⟨hp,h⟩ | ⟨hp,h⟩
 ·refine RS.fx 6 true (decide_eq_true hp) (RS.mS 5 [kB 2 (decide ((ior .u8 a0 32)≤122)),kB 10 (decide ((ior .u8 a0 32)≤122)),kB 9 (decide ((ior .u8 a0 32)≤122)),(8,.val (Value.int .u8 (ior .u8 a0 32))),(7,.val (Value.int .u8 a0))] (RS.dn (WS.nxt (WS.rt ?_))))
  cases h
  exact fun a w hs=>rtR (rS hs)
 ·refine RS.fx 6 false (decide_eq_false hp) ?_
  cases h
noncomputable def B163:Code:=(Tryz.f163.body).getD .skip
def z1w:(Sl3×AH)→Value
 | (r0,_)=>(Sl3.v r0)
def z24 (_:AH):(Sl3×AH)→AH:=fun r=>r.2
noncomputable def z5r (_L:LC) (H:AH) (a0:ByteArray):(Int×Int×Int×Int)→Option (Lp (Int×Int×Int×Int) (Sl3×AH)):=fun (v3_1,v4_2,v5_3,v6_4) =>
 if v6_4<(a0.size:Int) then
  Option.bind (bytA a0 v6_4) fun x5 =>
  Option.bind (idxR 1 256 (⟨1,0,none⟩:Addr) x5) fun p6 =>
  Option.bind (rd (deI .u8) H p6) fun x7 =>
  some (.next ((IntKind.i64.wrap (v3_1+(iand .i64 v4_2 (ixor .i64 (-1) (IntKind.i64.wrap x7))))),(IntKind.i64.wrap x7),(ior .u8 v5_3 x5),(IntKind.i64.wrap (v6_4+1))))
 else
  some (.brk (v3_1,v4_2,v5_3,v6_4))
def zez (_L:LC) (_H:AH) (a0:ByteArray):(Int×Int×Int×Int)→KN×Lcs:=fun (v3_1,v4_2,v5_3,v6_4)=>([kI 3 v3_1,kI 4 v4_2,(5,.val (Value.int .u8 v5_3)),kI 6 v6_4,kT 0 a0],[])
noncomputable def z5v (_L:LC) (a0:ByteArray) (_s12:Sl3) (H13:AH):Int→Option (Lp Int (Sl3×AH)):=fun v12_14 =>
 if v12_14<(a0.size:Int) then
  Option.bind (bytA a0 v12_14) fun x15 =>
  Option.bind (idxR 1 256 (⟨1,0,none⟩:Addr) x15) fun p16 =>
  Option.bind (rd (deI .u8) H13 p16) fun x17 =>
  if x17=0 then
   some (.brk v12_14)
  else
   none
 else
  none
def zfj (_L:LC) (a0:ByteArray) (s12:Sl3) (_H13:AH):Int→KN×Lcs:=fun v12_14=>([kI 12 v12_14,kT 0 a0,kS 9 s12,kI 10 0],[])
noncomputable def z5t (_L:LC) (a0:ByteArray) (_s12:Sl3) (_v10_20:Int) (H28:AH):Int→Option (Lp Int (Sl3×AH)):=fun v12_29 =>
 if v12_29<(a0.size:Int) then
  Option.bind (bytA a0 v12_29) fun x30 =>
  Option.bind (idxR 1 256 (⟨1,0,none⟩:Addr) x30) fun p31 =>
  Option.bind (rd (deI .u8) H28 p31) fun x32 =>
  if x32=0 then
   some (.brk v12_29)
  else
   none
 else
  none
def zfs (_L:LC) (a0:ByteArray) (s12:Sl3) (v10_20:Int) (_H28:AH):Int→KN×Lcs:=fun v12_29=>([kI 12 v12_29,kT 0 a0,kS 9 s12,kI 10 (IntKind.i64.wrap (v10_20+1))],[])
noncomputable def z5z (L:LC) (m:Nat) (a0:ByteArray) (s12:Sl3):(AH×Int×Int×Int)→Option (Lp (AH×Int×Int×Int) (Sl3×AH)):=fun (H19,v10_20,v11_21,v12_22) =>
 if v12_22<(a0.size:Int) then
  Option.bind (bytA a0 v12_22) fun x23 =>
  Option.bind (idxR 1 256 (⟨1,0,none⟩:Addr) x23) fun p24 =>
  Option.bind (rd (deI .u8) H19 p24) fun x25 =>
  if x25=0 then
   some (.next (H19,v10_20,v11_21,(IntKind.i64.wrap (v12_22+1))))
  else
   Option.bind (strC a0 (some v11_21) (some v12_22)) fun s26 =>
   Option.bind (idxA 1 s12 v10_20) fun p27 =>
   Option.bind (H19.setCell m p27 (Value.string s26)) fun H28 =>
   Option.bind (L.run (z5t L a0 s12 v10_20 H28) (IntKind.i64.wrap (v12_22+1))) fun o=>match o with
   | .inl v12_33 =>
    some (.next (H28,(IntKind.i64.wrap (v10_20+1)),v12_33,v12_33))
   | .inr r=>some (.ret r)
 else
  some (.brk (H19,v10_20,v11_21,v12_22))
def zf7 (_L:LC) (_m:Nat) (a0:ByteArray) (s12:Sl3):(AH×Int×Int×Int)→KN×Lcs:=fun (_,v10_20,v11_21,v12_22)=>([kI 10 v10_20,kI 11 v11_21,kI 12 v12_22,kT 0 a0,kS 9 s12],[])
noncomputable def z3l (L:LC) (m:Nat) (H:AH) (a0:ByteArray):Option (Sl3×AH) :=
 Option.bind (L.run (z5r L H a0) (0,1,0,0)) fun o=>match o with
 | .inl (v3_8,_,v5_10,_) =>
  if v5_10≥128 then
   none
  else
   Option.bind (mkS 9 1 16 #[(Value.string (⟨#[]⟩:ByteArray))] H v3_8 v3_8) fun (s12,H13) =>
   Option.bind (L.run (z5v L a0 s12 H13) 0) fun o=>match o with
   | .inl v12_18 =>
    Option.bind (L.run (z5z L m a0 s12) (H13,0,v12_18,v12_18)) fun o=>match o with
    | .inl (H34,v10_35,v11_36,_) =>
     if v11_36<(a0.size:Int) then
      Option.bind (strC a0 (some v11_36) none) fun s38 =>
      Option.bind (idxA 1 s12 v10_35) fun p39 =>
      Option.bind (H34.setCell m p39 (Value.string s38)) fun H40 =>
      some (s12,H40)
     else
      none
    | .inr r=>some r
   | .inr r=>some r
 | .inr r=>some r
theorem z7x {E m L H a0} :LoopF Tryz.prog (NE.plain 148) m E Tryz.f163 ((cfst (csnd (cfst (csnd (csnd (csnd (csnd B163)))))))) (zez L H a0) (fun _=>H) 0 z1w (z24 H) (z5r L H a0):=by
 rintro ⟨v3_1,v4_2,v5_3,v6_4⟩ o h
 unfold z5r at h
 try dsimp only at h
 refine WS.sq (WS.sq (WS.rg (RS.mS 4 [kB 16 (decide (v6_4<(a0.size:Int))),kI 15 (a0.size:Int),kT 14 a0,kI 13 v6_4] (RS.dn (WS.nxt ?_)))))
 rcases z0 h with ⟨hp,h⟩ | ⟨hp,h⟩
 ·refine WS.fx 16 true (decide_eq_true hp) (WS.cT (WS.sk (WS.nxt (WS.sq (WS.bk 1 (WS.sq (WS.rg (RS.mS 2 [kI 20 v6_4,kT 19 a0] ?_))))))))
  obtain ⟨x5,hx,h⟩:=bind_some h
  refine RS.o (H':=H) (some 21) (Value.int .u8 x5) (Abs.run_byt (t:=9) (x:=.tmp 19) (y:=.tmp 20) (s:=a0) (k:=.i64) (i:=v6_4) (by kernel_rfl) (by kernel_rfl) (by kernel_rfl) (by kernel_rfl) hx) (RS.mS 1 [(7,.val (Value.int .u8 x5))] (RS.dn (WS.nxt (WS.sq (WS.rg (RS.mS 4 [(5,.val (Value.int .u8 (ior .u8 v5_3 x5))),(24,.val (Value.int .u8 (ior .u8 v5_3 x5))),(23,.val (Value.int .u8 x5)),(22,.val (Value.int .u8 v5_3))] (RS.dn (WS.nxt (WS.sq ?_)))))))))
  refine WS.rg (RS.mS 1 [(25,.val (Value.int .u8 x5))] ?_)
  obtain ⟨p6,hx,h⟩:=bind_some h
  refine RS.o (H':=H) (some 26) (Value.pointer (some p6)) (Abs.run_idxR (a:=(⟨1,0,none⟩:Addr)) (k:=.u8) (t:=282) (e:=5) (x:=.global 1) (y:=.tmp 25) (by kernel_rfl) (by kernel_rfl) (by kernel_rfl) (by kernel_rfl) (by kernel_rfl) hx) ?_
  obtain ⟨x7,hx,h⟩:=bind_some h
  refine RS.ld 27 5 (.tmp 26) (z1 hx z5) (RS.mS 2 [kI 8 (IntKind.i64.wrap x7),kI 28 (IntKind.i64.wrap x7)] (RS.dn (WS.nxt (WS.sq (WS.rg (RS.mS 7 [kI 3 (IntKind.i64.wrap (v3_1+(iand .i64 v4_2 (ixor .i64 (-1) (IntKind.i64.wrap x7))))),kI 34 (IntKind.i64.wrap (v3_1+(iand .i64 v4_2 (ixor .i64 (-1) (IntKind.i64.wrap x7))))),kI 33 (iand .i64 v4_2 (ixor .i64 (-1) (IntKind.i64.wrap x7))),kI 32 (ixor .i64 (-1) (IntKind.i64.wrap x7)),kI 31 (IntKind.i64.wrap x7),kI 30 v4_2,kI 29 v3_1] (RS.dn (WS.nxt (WS.rg ?_)))))))))
  refine RS.mS 2 [kI 4 (IntKind.i64.wrap x7),kI 35 (IntKind.i64.wrap x7)] (RS.dn ?_)
  refine fun a w hs=>bkN ((WS.nxt ?_ a w hs))
  refine WS.rg (RS.mS 3 [kI 6 (IntKind.i64.wrap (v6_4+1)),kI 18 (IntKind.i64.wrap (v6_4+1)),kI 17 v6_4] (RS.dn ?_))
  cases h
  exact fun a w hs=>lsN rfl (hs.sb 0)
 ·refine WS.fx 16 false (decide_eq_false hp) (WS.cF (WS.ex 0 ?_))
  cases h
  exact fun a w hs=>sqE (lsB rfl (hs.sb 0))
theorem z79 {E m H L a0 s12 H13} :LoopF Tryz.prog (NE.plain 148) m E Tryz.f163 ((cfst (cfst (csnd (csnd (csnd (csnd (csnd (csnd (csnd (csnd (csnd (csnd B163))))))))))))) (zfj L a0 s12 H13) (fun _=>H13) 2 z1w (z24 H) (z5v L a0 s12 H13):=by
 rintro v12_14 o h
 unfold z5v at h
 try dsimp only at h
 refine WS.sq (WS.sq (WS.rg (RS.mS 5 [kB 46 (decide (v12_14<(a0.size:Int))),kB 45 (decide (v12_14<(a0.size:Int))),kI 44 (a0.size:Int),kT 43 a0,kI 42 v12_14] ?_)))
 rcases z0 h with ⟨hp,h⟩ | ⟨hp,h⟩
 ·refine RS.fx 46 true (decide_eq_true hp) (RS.mS 2 [kI 48 v12_14,kT 47 a0] ?_)
  obtain ⟨x15,hx,h⟩:=bind_some h
  refine RS.o (H':=H13) (some 49) (Value.int .u8 x15) (Abs.run_byt (t:=9) (x:=.tmp 47) (y:=.tmp 48) (s:=a0) (k:=.i64) (i:=v12_14) (by kernel_rfl) (by kernel_rfl) (by kernel_rfl) (by kernel_rfl) hx) ?_
  obtain ⟨p16,hx,h⟩:=bind_some h
  refine RS.o (H':=H13) (some 50) (Value.pointer (some p16)) (Abs.run_idxR (a:=(⟨1,0,none⟩:Addr)) (k:=.u8) (t:=282) (e:=5) (x:=.global 1) (y:=.tmp 49) (by kernel_rfl) (by kernel_rfl) (by kernel_rfl) (by kernel_rfl) (by kernel_rfl) hx) ?_
  obtain ⟨x17,hx,h⟩:=bind_some h
  refine RS.ld 51 5 (.tmp 50) (z1 hx z5) (RS.mS 2 [kB 53 (!decide (x17=0)),kB 52 (!decide (x17=0))] (RS.dn (WS.nxt ?_)))
  rcases z0 h with ⟨hp,h⟩ | ⟨hp,h⟩
  ·refine WS.fx 53 false (zj hp) (WS.cF (WS.ex 2 ?_))
   cases h
   exact fun a w hs=>sqE (lsB rfl (hs.sb 0))
  ·refine WS.fx 53 true (ze hp) (WS.cT ?_)
   cases h
 ·refine RS.fx 46 false (decide_eq_false hp) ?_
  cases h
theorem z75 {E m H L a0 s12 v10_20 H28} :LoopF Tryz.prog (NE.plain 148) m E Tryz.f163 ((cfst (cfst (csnd (csnd (csnd (csnd (cfst (csnd (cfst (cfst (cfst (csnd (csnd (csnd (csnd (csnd (csnd (csnd (csnd (csnd (csnd (csnd (csnd B163)))))))))))))))))))))))) (zfs L a0 s12 v10_20 H28) (fun _=>H28) 6 z1w (z24 H) (z5t L a0 s12 v10_20 H28):=by
 rintro v12_29 o h
 unfold z5t at h
 try dsimp only at h
 refine WS.sq (WS.sq (WS.rg (RS.mS 5 [kB 84 (decide (v12_29<(a0.size:Int))),kB 83 (decide (v12_29<(a0.size:Int))),kI 82 (a0.size:Int),kT 81 a0,kI 80 v12_29] ?_)))
 rcases z0 h with ⟨hp,h⟩ | ⟨hp,h⟩
 ·refine RS.fx 84 true (decide_eq_true hp) (RS.mS 2 [kI 86 v12_29,kT 85 a0] ?_)
  obtain ⟨x30,hx,h⟩:=bind_some h
  refine RS.o (H':=H28) (some 87) (Value.int .u8 x30) (Abs.run_byt (t:=9) (x:=.tmp 85) (y:=.tmp 86) (s:=a0) (k:=.i64) (i:=v12_29) (by kernel_rfl) (by kernel_rfl) (by kernel_rfl) (by kernel_rfl) hx) ?_
  obtain ⟨p31,hx,h⟩:=bind_some h
  refine RS.o (H':=H28) (some 88) (Value.pointer (some p31)) (Abs.run_idxR (a:=(⟨1,0,none⟩:Addr)) (k:=.u8) (t:=282) (e:=5) (x:=.global 1) (y:=.tmp 87) (by kernel_rfl) (by kernel_rfl) (by kernel_rfl) (by kernel_rfl) (by kernel_rfl) hx) ?_
  obtain ⟨x32,hx,h⟩:=bind_some h
  refine RS.ld 89 5 (.tmp 88) (z1 hx z5) (RS.mS 2 [kB 91 (!decide (x32=0)),kB 90 (!decide (x32=0))] (RS.dn (WS.nxt ?_)))
  rcases z0 h with ⟨hp,h⟩ | ⟨hp,h⟩
  ·refine WS.fx 91 false (zj hp) (WS.cF (WS.ex 6 ?_))
   cases h
   exact fun a w hs=>sqE (lsB rfl (hs.sb 0))
  ·refine WS.fx 91 true (ze hp) (WS.cT ?_)
   cases h
 ·refine RS.fx 84 false (decide_eq_false hp) ?_
  cases h
theorem z7y {E H L m a0 s12} :LoopF Tryz.prog (NE.plain 148) m E Tryz.f163 ((cfst (cfst (csnd (csnd (csnd (csnd (csnd (csnd (csnd (csnd (csnd (csnd (csnd (csnd B163))))))))))))))) (zf7 L m a0 s12) (fun s=>s.1) 4 z1w (z24 H) (z5z L m a0 s12):=by
 rintro ⟨H19,v10_20,v11_21,v12_22⟩ o h
 unfold z5z at h
 try dsimp only at h
 refine WS.sq (WS.sq (WS.rg (RS.mS 4 [kB 60 (decide (v12_22<(a0.size:Int))),kI 59 (a0.size:Int),kT 58 a0,kI 57 v12_22] (RS.dn (WS.nxt ?_)))))
 rcases z0 h with ⟨hp,h⟩ | ⟨hp,h⟩
 ·refine WS.fx 60 true (decide_eq_true hp) (WS.cT (WS.sk (WS.nxt (WS.bk 5 (WS.sq (WS.sq (WS.rg (RS.mS 2 [kI 62 v12_22,kT 61 a0] ?_))))))))
  obtain ⟨x23,hx,h⟩:=bind_some h
  refine RS.o (H':=H19) (some 63) (Value.int .u8 x23) (Abs.run_byt (t:=9) (x:=.tmp 61) (y:=.tmp 62) (s:=a0) (k:=.i64) (i:=v12_22) (by kernel_rfl) (by kernel_rfl) (by kernel_rfl) (by kernel_rfl) hx) ?_
  obtain ⟨p24,hx,h⟩:=bind_some h
  refine RS.o (H':=H19) (some 64) (Value.pointer (some p24)) (Abs.run_idxR (a:=(⟨1,0,none⟩:Addr)) (k:=.u8) (t:=282) (e:=5) (x:=.global 1) (y:=.tmp 63) (by kernel_rfl) (by kernel_rfl) (by kernel_rfl) (by kernel_rfl) (by kernel_rfl) hx) ?_
  obtain ⟨x25,hx,h⟩:=bind_some h
  refine RS.ld 65 5 (.tmp 64) (z1 hx z5) (RS.mS 1 [kB 66 (decide (x25=0))] (RS.dn (WS.nxt ?_)))
  rcases z0 h with ⟨hp,h⟩ | ⟨hp,h⟩
  ·refine WS.fx 66 true (decide_eq_true hp) (WS.cT (WS.sq (WS.rg (RS.mS 3 [kI 12 (IntKind.i64.wrap (v12_22+1)),kI 68 (IntKind.i64.wrap (v12_22+1)),kI 67 v12_22] (RS.dn (WS.nxt (WS.ex 5 ?_)))))))
   cases h
   exact fun a w hs=>sqE (bkE (lsN rfl (hs.sb 0)))
  ·refine WS.fx 66 false (decide_eq_false hp) (WS.cF (WS.sk (WS.nxt (WS.sq (WS.rg (RS.mS 5 [kI 73 v12_22,kI 72 v11_21,kT 71 a0,kI 70 v10_20,kS 69 s12] ?_))))))
   obtain ⟨s26,hx,h⟩:=bind_some h
   refine RS.o (H':=H19) (some 74) (Value.string s26) (Abs.run_strC (t:=9) (x:=.tmp 71) (lo:=(some (.tmp 72))) (hi:=(some (.tmp 73))) (s:=a0) (k1:=.i64) (k2:=.i64) (by kernel_rfl) (by kernel_rfl) (by kernel_rfl) (by kernel_rfl) (by kernel_rfl) hx) ?_
   obtain ⟨p27,hx,h⟩:=bind_some h
   refine RS.ix 75 26 9 (.tmp 69) (.tmp 70) hx ?_
   obtain ⟨H28,hx,h⟩:=bind_some h
   refine RS.o (H':=H28) none undef (Abs.run_store1 (t:=9) (x:=.tmp 75) (y:=.tmp 74) (a:=p27) (v:=(Value.string s26)) (by kernel_rfl) (by kernel_rfl) (by kernel_rfl) (by kernel_rfl) (by kernel_rfl) hx) (RS.dn (WS.nxt (WS.sq (WS.rg (RS.mS 3 [kI 10 (IntKind.i64.wrap (v10_20+1)),kI 77 (IntKind.i64.wrap (v10_20+1)),kI 76 v10_20] (RS.dn (WS.nxt (WS.sq (WS.rg ?_)))))))))
   refine RS.mS 3 [kI 12 (IntKind.i64.wrap (v12_22+1)),kI 79 (IntKind.i64.wrap (v12_22+1)),kI 78 v12_22] (RS.dn (WS.nxt (WS.sq (WS.bk 6 ?_))))
   obtain ⟨o,hl,h⟩:=bind_some h
   rcases o with v12_33 | r
   ·try dsimp only at h
    refine WS.lI (z75 (L:=L) (E:=E) (m:=m) (H:=H)) (L.ok hl) 0 ?_
    clear hl
    refine fun a w hs=>bkE ((WS.nxt ?_ a w hs))
    refine WS.rg (RS.mS 2 [kI 11 v12_33,kI 94 v12_33] (RS.dn ?_))
    cases h
    exact fun a w hs=>bkN (lsN rfl (hs.sb 0))
   ·try dsimp only at h
    refine WS.lR (z75 (L:=L) (E:=E) (m:=m) (H:=H)) (L.ok hl) 0 ?_
    cases h
    exact fun a w hq=>bkR (sqR (bkR (lsR rfl hq)))
 ·refine WS.fx 60 false (decide_eq_false hp) (WS.cF (WS.ex 4 ?_))
  cases h
  exact fun a w hs=>sqE (lsB rfl (hs.sb 0))
theorem z63 {L:LC} {m:Nat} {H:AH} {a0:ByteArray} {r:(Sl3×AH)} (h:z3l L m H a0=some r) :
  CallS Tryz.prog (NE.plain 148) m 163 #[(Value.string a0)] H (z1w r) (z24 H r):=by
 refine CallS.mk (args:=[(Value.string a0)]) Tryz.func163 (B:=B163) (by kernel_rfl) (fun E _=>?_)
 unfold z3l at h
 refine WS.sq (WS.rg (RS.mS 1 [kS 2 Sl3.nil] (RS.dn (WS.nxt (WS.sq (WS.rg (RS.mS 1 [kI 3 0] (RS.dn (WS.nxt ?_)))))))))
 refine WS.sq (WS.rg (RS.mS 1 [kI 4 1] (RS.dn (WS.nxt (WS.sq (WS.rg (RS.mS 1 [(5,.val (Value.int .u8 0))] (RS.dn (WS.nxt ?_)))))))))
 refine WS.sq (WS.sq (WS.rg (RS.mS 1 [kI 6 0] (RS.dn (WS.nxt (WS.bk 0 ?_))))))
 obtain ⟨o,hl,h⟩:=bind_some h
 rcases o with ⟨v3_8,v4_9,v5_10,v6_11⟩ | r
 ·try dsimp only at h
  refine WS.lI (z7x (L:=L) (E:=E) (m:=m) (H:=H)) (L.ok hl) 0 ?_
  clear hl
  refine fun a w hs=>bkE ((WS.nxt ?_ a w hs))
  refine WS.sq (WS.sq (WS.rg (RS.mS 2 [kB 37 (decide (v5_10≥128)),(36,.val (Value.int .u8 v5_10))] (RS.dn (WS.nxt ?_)))))
  rcases z0 h with ⟨hp,h⟩ | ⟨hp,h⟩
  ·refine WS.fx 37 true (decide_eq_true hp) (WS.cT ?_)
   cases h
  ·refine WS.fx 37 false (decide_eq_false hp) (WS.cF (WS.sk (WS.nxt (WS.sq (WS.rg (RS.mS 1 [kI 40 v3_8] ?_))))))
   obtain ⟨⟨s12,H13⟩,hx,h⟩:=bind_some h
   try dsimp only at h
   refine RS.o (H':=H13) (some 41) (Sl3.v s12) (Abs.run_mk (t:=26) (x:=.tmp 40) (y:=.tmp 40) (k1:=.i64) (k2:=.i64) (by kernel_rfl) (by kernel_rfl) (by kernel_rfl) (by kernel_rfl) hx) (RS.mS 1 [kS 9 s12] (RS.dn (WS.nxt (WS.sq (WS.rg (RS.mS 1 [kI 10 0] (RS.dn (WS.nxt (WS.sq ?_)))))))))
   refine WS.rg (RS.mS 1 [kI 11 0] (RS.dn (WS.nxt (WS.sq (WS.rg (RS.mS 1 [kI 12 0] (RS.dn (WS.nxt (WS.sq ?_)))))))))
   refine WS.bk 2 ?_
   obtain ⟨o,hl,h⟩:=bind_some h
   rcases o with v12_18 | r
   ·try dsimp only at h
    refine WS.lI (z79 (L:=L) (E:=E) (m:=m) (H:=H)) (L.ok hl) 0 ?_
    clear hl
    refine fun a w hs=>bkE ((WS.nxt ?_ a w hs))
    refine WS.sq (WS.rg (RS.mS 2 [kI 11 v12_18,kI 56 v12_18] (RS.dn (WS.nxt (WS.sq (WS.bk 4 ?_))))))
    obtain ⟨o,hl,h⟩:=bind_some h
    rcases o with ⟨H34,v10_35,v11_36,v12_37⟩ | r
    ·try dsimp only at h
     refine WS.lI (z7y (L:=L) (E:=E) (m:=m) (H:=H)) (L.ok hl) 0 ?_
     clear hl
     refine fun a w hs=>bkE ((WS.nxt ?_ a w hs))
     refine WS.sq (WS.sq (WS.rg (RS.mS 4 [kB 98 (decide (v11_36<(a0.size:Int))),kI 97 (a0.size:Int),kT 96 a0,kI 95 v11_36] (RS.dn (WS.nxt ?_)))))
     rcases z0 h with ⟨hp,h⟩ | ⟨hp,h⟩
     ·refine WS.fx 98 true (decide_eq_true hp) (WS.cT (WS.rg (RS.mS 4 [kI 102 v11_36,kT 101 a0,kI 100 v10_35,kS 99 s12] ?_)))
      obtain ⟨s38,hx,h⟩:=bind_some h
      refine RS.o (H':=H34) (some 103) (Value.string s38) (Abs.run_strC (t:=9) (x:=.tmp 101) (lo:=(some (.tmp 102))) (hi:=none) (s:=a0) (k1:=.i64) (k2:=.i64) (by kernel_rfl) (by kernel_rfl) (by kernel_rfl) (by kernel_rfl) (by kernel_rfl) hx) ?_
      obtain ⟨p39,hx,h⟩:=bind_some h
      refine RS.ix 104 26 9 (.tmp 99) (.tmp 100) hx ?_
      obtain ⟨H40,hx,h⟩:=bind_some h
      refine RS.o (H':=H40) none undef (Abs.run_store1 (t:=9) (x:=.tmp 104) (y:=.tmp 103) (a:=p39) (v:=(Value.string s38)) (by kernel_rfl) (by kernel_rfl) (by kernel_rfl) (by kernel_rfl) (by kernel_rfl) hx) (RS.dn (WS.nxt (WS.sq (WS.rg (RS.mS 2 [kS 2 s12,kS 105 s12] (RS.dn (WS.nxt (WS.rt ?_))))))))
      cases h
      exact fun a w hs=>rtR (rS hs)
     ·refine WS.fx 98 false (decide_eq_false hp) (WS.cF ?_)
      cases h
    ·try dsimp only at h
     refine WS.lR (z7y (L:=L) (E:=E) (m:=m) (H:=H)) (L.ok hl) 0 ?_
     cases h
     exact fun a w hq=>bkR (sqR (rtR hq))
   ·try dsimp only at h
    refine WS.lR (z79 (L:=L) (E:=E) (m:=m) (H:=H)) (L.ok hl) 0 ?_
    cases h
    exact fun a w hq=>bkR (sqR (rtR hq))
 ·try dsimp only at h
  refine WS.lR (z7x (L:=L) (E:=E) (m:=m) (H:=H)) (L.ok hl) 0 ?_
  cases h
  exact fun a w hq=>bkR (sqR (rtR hq))
noncomputable def B220:Code:=(Tryz.f220.body).getD .skip
def z7m:Int→Value
 | r0=>(Value.int .i64 r0)
def z8k (H:AH):Int→AH:=fun _=>H
noncomputable def z4d (_L:LC) (H:AH) (a0:Sl3) (a1:ByteArray):Int→Option (Lp Int Int):=fun v8_1 =>
 if v8_1<(a0.n:Int) then
  Option.bind (idxA 1 a0 v8_1) fun p2 =>
  Option.bind (rd deS H p2) fun x3 =>
  if (a1.toList == x3.toList)=true then
   none
  else
   some (.next (IntKind.i64.wrap (v8_1+1)))
 else
  some (.brk v8_1)
def zd8 (_L:LC) (_H:AH) (a0:Sl3) (a1:ByteArray):Int→KN×Lcs:=fun v8_1=>([kI 8 v8_1,kS 0 a0,kT 1 a1,kI 7 (a0.n:Int)],[])
noncomputable def z6k (L:LC) (H:AH) (a0:Sl3) (a1:ByteArray):Option Int :=
 Option.bind (L.run (z4d L H a0 a1) 0) fun o=>match o with
 | .inl _ =>
  some (-1)
 | .inr r=>some r
theorem z6c {E m L H a0 a1} :LoopF Tryz.prog (NE.plain 148) m E Tryz.f220 ((cfst (csnd (cfst (csnd B220))))) (zd8 L H a0 a1) (fun _=>H) 0 z7m (z8k H) (z4d L H a0 a1):=by
 rintro v8_1 o h
 unfold z4d at h
 try dsimp only at h
 refine WS.sq (WS.rg (RS.mS 1 [kB 9 (decide (v8_1<(a0.n:Int)))] (RS.dn (WS.nxt (WS.sq ?_)))))
 rcases z0 h with ⟨hp,h⟩ | ⟨hp,h⟩
 ·refine WS.fx 9 true (decide_eq_true hp) (WS.cT (WS.sk (WS.nxt (WS.sq (WS.bk 1 (WS.sq (WS.rg (RS.mS 2 [kI 5 v8_1,kI 10 v8_1] (RS.dn ?_)))))))))
  refine WS.nxt (WS.sq (WS.rg (RS.mS 3 [kI 13 v8_1,kS 12 a0,kT 11 a1] ?_)))
  obtain ⟨p2,hx,h⟩:=bind_some h
  refine RS.ix 14 26 9 (.tmp 12) (.tmp 13) hx ?_
  obtain ⟨x3,hx,h⟩:=bind_some h
  refine RS.ld 15 9 (.tmp 14) (z1 hx z9) (RS.mS 1 [kB 16 (a1.toList == x3.toList)] (RS.dn (WS.nxt ?_)))
  rcases z0 h with ⟨hp,h⟩ | ⟨hp,h⟩
  ·refine WS.fx 16 true hp (WS.cT ?_)
   cases h
  ·refine WS.fx 16 false (b_not hp) (WS.cF (WS.sk ?_))
   refine fun a w hs=>bkN ((WS.nxt ?_ a w hs))
   refine WS.rg (RS.mS 2 [kI 8 (IntKind.i64.wrap (v8_1+1)),kI 18 (IntKind.i64.wrap (v8_1+1))] (RS.dn ?_))
   cases h
   exact fun a w hs=>lsN rfl (hs.sb 0)
 ·refine WS.fx 9 false (decide_eq_false hp) (WS.cF (WS.ex 0 ?_))
  cases h
  exact fun a w hs=>sqE (lsB rfl (hs.sb 0))
theorem zgf {L:LC} {m:Nat} {H:AH} {a0:Sl3} {a1:ByteArray} {r:Int} (h:z6k L H a0 a1=some r) :
  CallS Tryz.prog (NE.plain 148) m 220 #[(Sl3.v a0),(Value.string a1)] H (z7m r) (z8k H r):=by
 refine CallS.mk (args:=[(Sl3.v a0),(Value.string a1)]) Tryz.func220 (B:=B220) (by kernel_rfl) (fun E _=>?_)
 unfold z6k at h
 refine WS.sq (WS.rg (RS.mS 1 [kI 4 0] (RS.dn (WS.nxt (WS.sq (WS.sq (WS.rg (RS.mS 3 [kI 8 0,kI 7 (a0.n:Int),kS 6 a0] (RS.dn ?_)))))))))
 refine WS.nxt (WS.bk 0 ?_)
 obtain ⟨o,hl,h⟩:=bind_some h
 rcases o with v8_4 | r
 ·try dsimp only at h
  refine WS.lI (z6c (L:=L) (E:=E) (m:=m) (H:=H)) (L.ok hl) 0 ?_
  clear hl
  refine fun a w hs=>bkE ((WS.nxt ?_ a w hs))
  refine WS.sq (WS.rg (RS.mS 1 [kI 4 (-1)] (RS.dn (WS.nxt (WS.rt ?_)))))
  cases h
  exact fun a w hs=>rtR (rS hs)
 ·try dsimp only at h
  refine WS.lR (z6c (L:=L) (E:=E) (m:=m) (H:=H)) (L.ok hl) 0 ?_
  cases h
  exact fun a w hq=>bkR (sqR (rtR hq))
noncomputable def B213:Code:=(Tryz.f213.body).getD .skip
def zcc:Bool→Value
 | r0=>(Value.bool r0)
def zdg (H:AH):Bool→AH:=fun _=>H
noncomputable def z49 (L:LC) (H:AH) (a0:Sl3) (a1:ByteArray):Option Bool :=
 Option.bind (z6k L H a0 a1) fun x1 =>
 some (decide (x1≥0))
theorem zdq {L:LC} {m:Nat} {H:AH} {a0:Sl3} {a1:ByteArray} {r:Bool} (h:z49 L H a0 a1=some r) :
  CallS Tryz.prog (NE.plain 148) m 213 #[(Sl3.v a0),(Value.string a1)] H (zcc r) (zdg H r):=by
 refine CallS.mk (args:=[(Sl3.v a0),(Value.string a1)]) Tryz.func213 (B:=B213) (by kernel_rfl) (fun E _=>?_)
 unfold z49 at h
 refine WS.sq (WS.rg (RS.mS 1 [kB 4 false] (RS.dn (WS.nxt (WS.sq (WS.rg (RS.mS 2 [kT 6 a1,kS 5 a0] ?_)))))))
 obtain ⟨x1,hx,h⟩:=bind_some h
 refine RS.cl (some 7) (v:=(Value.int .i64 x1)) 220 #[(Sl3.v a0),(Value.string a1)] (zgf hx) (RS.mS 2 [kB 4 (decide (x1≥0)),kB 8 (decide (x1≥0))] (RS.dn (WS.nxt (WS.rt ?_))))
 cases h
 exact fun a w hs=>rtR (rS hs)
noncomputable def B190:Code:=(Tryz.f190.body).getD .skip
def zia:(Bool×AH)→Value
 | (r0,_)=>(Value.bool r0)
def zj7 (_:AH):(Bool×AH)→AH:=fun r=>r.2
noncomputable def za4 (L:LC) (m:Nat) (H:AH) (a0:ByteArray):Option (Bool×AH) :=
 Option.bind (z3l L m H (⟨#[33,32,95,32,97,115,32,66,73,78,65,82,89,32,68,69,67,73,77,65,76,32,101,120,105,115,116,115,32,102,111,114,97,108,108,32,72,69,88,65,68,69,67,73,77,65,76,32,108,101,116,32,109,97,116,99,104,32,78,85,77,69,82,65,76,32,112,97,114,32,83,84,82,73,78,71,32,97,115,115,101,114,116,32,99,104,101,99,107,45,115,97,116,32,99,104,101,99,107,45,115,97,116,45,97,115,115,117,109,105,110,103,32,100,101,99,108,97,114,101,45,99,111,110,115,116,32,100,101,99,108,97,114,101,45,100,97,116,97,116,121,112,101,32,100,101,99,108,97,114,101,45,100,97,116,97,116,121,112,101,115,32,100,101,99,108,97,114,101,45,102,117,110,32,100,101,99,108,97,114,101,45,115,111,114,116,32,100,101,102,105,110,101,45,102,117,110,32,100,101,102,105,110,101,45,115,111,114,116,32,101,99,104,111,32,101,120,105,116,32,103,101,116,45,97,115,115,101,114,116,105,111,110,115,32,103,101,116,45,105,110,102,111,32,103,101,116,45,109,111,100,101,108,32,103,101,116,45,118,97,108,117,101,32,112,111,112,32,112,117,115,104,32,114,101,115,101,116,32,114,101,115,101,116,45,97,115,115,101,114,116,105,111,110,115,32,115,101,116,45,105,110,102,111,32,115,101,116,45,108,111,103,105,99,32,115,101,116,45,111,112,116,105,111,110]⟩:ByteArray)) fun (x1,H2) =>
 Option.bind (z49 L H2 x1 a0) fun x3 =>
 some (x3,H2)
theorem zjr {L:LC} {m:Nat} {H:AH} {a0:ByteArray} {r:(Bool×AH)} (h:za4 L m H a0=some r) :
  CallS Tryz.prog (NE.plain 148) m 190 #[(Value.string a0)] H (zia r) (zj7 H r):=by
 refine CallS.mk (args:=[(Value.string a0)]) Tryz.func190 (B:=B190) (by kernel_rfl) (fun E _=>?_)
 unfold za4 at h
 refine WS.sq (WS.rg (RS.mS 1 [kB 2 false] (RS.dn (WS.nxt (WS.sq (WS.rg (RS.mS 1 [kT 3 (⟨#[33,32,95,32,97,115,32,66,73,78,65,82,89,32,68,69,67,73,77,65,76,32,101,120,105,115,116,115,32,102,111,114,97,108,108,32,72,69,88,65,68,69,67,73,77,65,76,32,108,101,116,32,109,97,116,99,104,32,78,85,77,69,82,65,76,32,112,97,114,32,83,84,82,73,78,71,32,97,115,115,101,114,116,32,99,104,101,99,107,45,115,97,116,32,99,104,101,99,107,45,115,97,116,45,97,115,115,117,109,105,110,103,32,100,101,99,108,97,114,101,45,99,111,110,115,116,32,100,101,99,108,97,114,101,45,100,97,116,97,116,121,112,101,32,100,101,99,108,97,114,101,45,100,97,116,97,116,121,112,101,115,32,100,101,99,108,97,114,101,45,102,117,110,32,100,101,99,108,97,114,101,45,115,111,114,116,32,100,101,102,105,110,101,45,102,117,110,32,100,101,102,105,110,101,45,115,111,114,116,32,101,99,104,111,32,101,120,105,116,32,103,101,116,45,97,115,115,101,114,116,105,111,110,115,32,103,101,116,45,105,110,102,111,32,103,101,116,45,109,111,100,101,108,32,103,101,116,45,118,97,108,117,101,32,112,111,112,32,112,117,115,104,32,114,101,115,101,116,32,114,101,115,101,116,45,97,115,115,101,114,116,105,111,110,115,32,115,101,116,45,105,110,102,111,32,115,101,116,45,108,111,103,105,99,32,115,101,116,45,111,112,116,105,111,110]⟩:ByteArray)] (RS.dn (WS.nxt ?_)))))))))
 refine WS.sq (WS.rg (RS.mS 1 [kT 4 (⟨#[33,32,95,32,97,115,32,66,73,78,65,82,89,32,68,69,67,73,77,65,76,32,101,120,105,115,116,115,32,102,111,114,97,108,108,32,72,69,88,65,68,69,67,73,77,65,76,32,108,101,116,32,109,97,116,99,104,32,78,85,77,69,82,65,76,32,112,97,114,32,83,84,82,73,78,71,32,97,115,115,101,114,116,32,99,104,101,99,107,45,115,97,116,32,99,104,101,99,107,45,115,97,116,45,97,115,115,117,109,105,110,103,32,100,101,99,108,97,114,101,45,99,111,110,115,116,32,100,101,99,108,97,114,101,45,100,97,116,97,116,121,112,101,32,100,101,99,108,97,114,101,45,100,97,116,97,116,121,112,101,115,32,100,101,99,108,97,114,101,45,102,117,110,32,100,101,99,108,97,114,101,45,115,111,114,116,32,100,101,102,105,110,101,45,102,117,110,32,100,101,102,105,110,101,45,115,111,114,116,32,101,99,104,111,32,101,120,105,116,32,103,101,116,45,97,115,115,101,114,116,105,111,110,115,32,103,101,116,45,105,110,102,111,32,103,101,116,45,109,111,100,101,108,32,103,101,116,45,118,97,108,117,101,32,112,111,112,32,112,117,115,104,32,114,101,115,101,116,32,114,101,115,101,116,45,97,115,115,101,114,116,105,111,110,115,32,115,101,116,45,105,110,102,111,32,115,101,116,45,108,111,103,105,99,32,115,101,116,45,111,112,116,105,111,110]⟩:ByteArray)] ?_))
 obtain ⟨⟨x1,H2⟩,hx,h⟩:=bind_some h
 try dsimp only at h
 refine RS.cl (some 5) (v:=(Sl3.v x1)) 163 #[(Value.string (⟨#[33,32,95,32,97,115,32,66,73,78,65,82,89,32,68,69,67,73,77,65,76,32,101,120,105,115,116,115,32,102,111,114,97,108,108,32,72,69,88,65,68,69,67,73,77,65,76,32,108,101,116,32,109,97,116,99,104,32,78,85,77,69,82,65,76,32,112,97,114,32,83,84,82,73,78,71,32,97,115,115,101,114,116,32,99,104,101,99,107,45,115,97,116,32,99,104,101,99,107,45,115,97,116,45,97,115,115,117,109,105,110,103,32,100,101,99,108,97,114,101,45,99,111,110,115,116,32,100,101,99,108,97,114,101,45,100,97,116,97,116,121,112,101,32,100,101,99,108,97,114,101,45,100,97,116,97,116,121,112,101,115,32,100,101,99,108,97,114,101,45,102,117,110,32,100,101,99,108,97,114,101,45,115,111,114,116,32,100,101,102,105,110,101,45,102,117,110,32,100,101,102,105,110,101,45,115,111,114,116,32,101,99,104,111,32,101,120,105,116,32,103,101,116,45,97,115,115,101,114,116,105,111,110,115,32,103,101,116,45,105,110,102,111,32,103,101,116,45,109,111,100,101,108,32,103,101,116,45,118,97,108,117,101,32,112,111,112,32,112,117,115,104,32,114,101,115,101,116,32,114,101,115,101,116,45,97,115,115,101,114,116,105,111,110,115,32,115,101,116,45,105,110,102,111,32,115,101,116,45,108,111,103,105,99,32,115,101,116,45,111,112,116,105,111,110]⟩:ByteArray))] (z63 hx) (RS.mS 1 [kT 6 a0] ?_)
 obtain ⟨x3,hx,h⟩:=bind_some h
 refine RS.cl (some 7) (v:=(Value.bool x3)) 213 #[(Sl3.v x1),(Value.string a0)] (zdq hx) (RS.mS 1 [kB 2 x3] (RS.dn (WS.nxt (WS.rt ?_))))
 cases h
 exact fun a w hs=>rtR (rS hs)
noncomputable def B158:Code:=(Tryz.f158.body).getD .skip
def zcw:(Bool×AH)→Value
 | (r0,_)=>(Value.bool r0)
def zeh (_:AH):(Bool×AH)→AH:=fun r=>r.2
noncomputable def z8z (L:LC) (_H:AH) (a0:ByteArray):Int→Option (Lp Int (Bool×AH)):=fun v20_4 =>
 if v20_4<(a0.size:Int) then
  Option.bind (bytA a0 v20_4) fun x5 =>
  Option.bind (zdx L x5) fun x6 =>
  if x6=true then
   some (.next (IntKind.i64.wrap (v20_4+1)))
  else
   none
 else
  some (.brk v20_4)
def zii (_L:LC) (_H:AH) (a0:ByteArray):Int→KN×Lcs:=fun v20_4=>([kI 20 v20_4,kT 0 a0,kI 19 (a0.size:Int)],[])
noncomputable def zdd (L:LC) (m:Nat) (H:AH) (a0:ByteArray):Option (Bool×AH) :=
 Option.bind (zcz L a0) fun x1 =>
 if x1=true then
  Option.bind (bytA a0 0) fun x2 =>
  if x2≥48 then
   Option.bind (bytA a0 0) fun x3 =>
   if x3≤57 then
    none
   else
    Option.bind (L.run (z8z L H a0) 0) fun o=>match o with
    | .inl _ =>
     Option.bind (za4 L m H a0) fun (x8,H9) =>
     some ((!x8),H9)
    | .inr r=>some r
  else
   none
 else
  none
theorem zaq {E m L H a0} :LoopF Tryz.prog (NE.plain 148) m E Tryz.f158 ((cfst (csnd (cfst (csnd (csnd B158)))))) (zii L H a0) (fun _=>H) 0 zcw (zeh H) (z8z L H a0):=by
 rintro v20_4 o h
 unfold z8z at h
 try dsimp only at h
 refine WS.sq (WS.rg (RS.mS 1 [kB 21 (decide (v20_4<(a0.size:Int)))] (RS.dn (WS.nxt (WS.sq ?_)))))
 rcases z0 h with ⟨hp,h⟩ | ⟨hp,h⟩
 ·refine WS.fx 21 true (decide_eq_true hp) (WS.cT (WS.sk (WS.nxt (WS.sq (WS.bk 1 (WS.sq (WS.rg (RS.mS 2 [kI 3 v20_4,kI 22 v20_4] (RS.dn ?_)))))))))
  refine WS.nxt (WS.sq (WS.rg (RS.mS 2 [kI 24 v20_4,kT 23 a0] ?_)))
  obtain ⟨x5,hx,h⟩:=bind_some h
  refine RS.o (H':=H) (some 25) (Value.int .u8 x5) (Abs.run_byt (t:=9) (x:=.tmp 23) (y:=.tmp 24) (s:=a0) (k:=.i64) (i:=v20_4) (by kernel_rfl) (by kernel_rfl) (by kernel_rfl) (by kernel_rfl) hx) (RS.mS 1 [(4,.val (Value.int .u8 x5))] (RS.dn (WS.nxt (WS.sq (WS.rg (RS.mS 1 [(26,.val (Value.int .u8 x5))] ?_))))))
  obtain ⟨x6,hx,h⟩:=bind_some h
  refine RS.cl (some 27) (v:=(Value.bool x6)) 188 #[(Value.int .u8 x5)] (zky hx) (RS.mS 2 [kB 29 (!x6),kB 28 (!x6)] ?_)
  rcases z0 h with ⟨hp,h⟩ | ⟨hp,h⟩
  ·refine RS.fx 29 false (nb_not hp) (RS.mS 12 [kB 41 false,kU 40,kU 39,kU 38,kB 37 false,kB 36 false,kU 35,kU 34,kU 33,kU 32,kU 31,kU 30] (RS.dn (WS.nxt (WS.cF (WS.sk ?_)))))
   refine fun a w hs=>bkN ((WS.nxt ?_ a w hs))
   refine WS.rg (RS.mS 2 [kI 20 (IntKind.i64.wrap (v20_4+1)),kI 42 (IntKind.i64.wrap (v20_4+1))] (RS.dn ?_))
   cases h
   exact fun a w hs=>lsN rfl (hs.sb 0)
  ·refine RS.fx 29 true (zi hp) ?_
   cases h
 ·refine WS.fx 21 false (decide_eq_false hp) (WS.cF (WS.ex 0 ?_))
  cases h
  exact fun a w hs=>sqE (lsB rfl (hs.sb 0))
theorem zkt {L:LC} {m:Nat} {H:AH} {a0:ByteArray} {r:(Bool×AH)} (h:zdd L m H a0=some r) :
  CallS Tryz.prog (NE.plain 148) m 158 #[(Value.string a0)] H (zcw r) (zeh H r):=by
 refine CallS.mk (args:=[(Value.string a0)]) Tryz.func158 (B:=B158) (by kernel_rfl) (fun E _=>?_)
 unfold zdd at h
 refine WS.sq (WS.rg (RS.mS 1 [kB 2 false] (RS.dn (WS.nxt (WS.sq (WS.sq (WS.rg (RS.mS 1 [kT 5 a0] ?_))))))))
 obtain ⟨x1,hx,h⟩:=bind_some h
 refine RS.cl (some 6) (v:=(Value.bool x1)) 32 #[(Value.string a0)] (zhu hx) (RS.mS 2 [kB 8 (!x1),kB 7 (!x1)] ?_)
 rcases z0 h with ⟨hp,h⟩ | ⟨hp,h⟩
 ·refine RS.fx 8 false (nb_not hp) (RS.mS 1 [kT 9 a0] ?_)
  obtain ⟨x2,hx,h⟩:=bind_some h
  refine RS.o (H':=H) (some 10) (Value.int .u8 x2) (Abs.run_byt (t:=9) (x:=.tmp 9) (y:=.const (Value.int .i64 0)) (s:=a0) (k:=.i64) (i:=0) (by kernel_rfl) (by kernel_rfl) (by kernel_rfl) (by kernel_rfl) hx) (RS.mS 2 [kB 12 (decide (x2≥48)),kB 11 (decide (x2≥48))] ?_)
  rcases z0 h with ⟨hp,h⟩ | ⟨hp,h⟩
  ·refine RS.fx 12 true (decide_eq_true hp) (RS.mS 1 [kT 13 a0] ?_)
   obtain ⟨x3,hx,h⟩:=bind_some h
   refine RS.o (H':=H) (some 14) (Value.int .u8 x3) (Abs.run_byt (t:=9) (x:=.tmp 13) (y:=.const (Value.int .i64 0)) (s:=a0) (k:=.i64) (i:=0) (by kernel_rfl) (by kernel_rfl) (by kernel_rfl) (by kernel_rfl) hx) (RS.mS 3 [kB 17 (decide (x3≤57)),kB 16 (decide (x3≤57)),kB 15 (decide (x3≤57))] (RS.dn (WS.nxt ?_)))
   rcases z0 h with ⟨hp,h⟩ | ⟨hp,h⟩
   ·refine WS.fx 17 true (decide_eq_true hp) (WS.cT ?_)
    cases h
   ·refine WS.fx 17 false (decide_eq_false hp) (WS.cF (WS.sk (WS.nxt (WS.sq (WS.sq (WS.rg (RS.mS 3 [kI 20 0,kI 19 (a0.size:Int),kT 18 a0] (RS.dn (WS.nxt ?_)))))))))
    refine WS.bk 0 ?_
    obtain ⟨o,hl,h⟩:=bind_some h
    rcases o with v20_7 | r
    ·try dsimp only at h
     refine WS.lI (zaq (L:=L) (E:=E) (m:=m) (H:=H)) (L.ok hl) 0 ?_
     clear hl
     refine fun a w hs=>bkE ((WS.nxt ?_ a w hs))
     refine WS.sq (WS.rg (RS.mS 1 [kT 43 a0] ?_))
     obtain ⟨⟨x8,H9⟩,hx,h⟩:=bind_some h
     try dsimp only at h
     refine RS.cl (some 44) (v:=(Value.bool x8)) 190 #[(Value.string a0)] (zjr hx) (RS.mS 2 [kB 2 (!x8),kB 45 (!x8)] (RS.dn (WS.nxt (WS.rt ?_))))
     cases h
     exact fun a w hs=>rtR (rS hs)
    ·try dsimp only at h
     refine WS.lR (zaq (L:=L) (E:=E) (m:=m) (H:=H)) (L.ok hl) 0 ?_
     cases h
     exact fun a w hq=>bkR (sqR (rtR hq))
  ·refine RS.fx 12 false (decide_eq_false hp) ?_
   cases h
 ·refine RS.fx 8 true (zi hp) ?_
  cases h
noncomputable def B109:Code:=(Tryz.f109.body).getD .skip
def zle:(ByteArray×AH)→Value
 | (r0,_)=>(Value.string r0)
def zm5 (_:AH):(ByteArray×AH)→AH:=fun r=>r.2
noncomputable def zfi (L:LC) (m:Nat) (H:AH) (a0:ByteArray):Option (ByteArray×AH) :=
 Option.bind (zdd L m H a0) fun (x1,H2) =>
 if x1=true then
  some (a0,H2)
 else
  none
theorem zmg {L:LC} {m:Nat} {H:AH} {a0:ByteArray} {r:(ByteArray×AH)} (h:zfi L m H a0=some r) :
  CallS Tryz.prog (NE.plain 148) m 109 #[(Value.string a0)] H (zle r) (zm5 H r):=by
 refine CallS.mk (args:=[(Value.string a0)]) Tryz.func109 (B:=B109) (by kernel_rfl) (fun E _=>?_)
 unfold zfi at h
 refine WS.sq (WS.rg (RS.mS 1 [kT 2 (⟨#[]⟩:ByteArray)] (RS.dn (WS.nxt (WS.sq (WS.sq (WS.rg (RS.mS 1 [kT 3 a0] ?_))))))))
 obtain ⟨⟨x1,H2⟩,hx,h⟩:=bind_some h
 try dsimp only at h
 refine RS.cl (some 4) (v:=(Value.bool x1)) 158 #[(Value.string a0)] (zkt hx) (RS.dn (WS.nxt ?_))
 rcases z0 h with ⟨hp,h⟩ | ⟨hp,h⟩
 ·refine WS.fx 4 true hp (WS.cT (WS.sq (WS.rg (RS.mS 2 [kT 2 a0,kT 5 a0] (RS.dn (WS.nxt (WS.rt ?_)))))))
  cases h
  exact fun a w hs=>sqR (rtR (rS hs))
 ·refine WS.fx 4 false (b_not hp) (WS.cF ?_)
  cases h
end Go.Proofs.YtpcckomdlmpckaaGreatDoor
namespace Go.Proofs.YtpcckomdlmpckaaGreatDoor
open Go Go.Abs
set_option maxRecDepth 100000
noncomputable def B112:Code:=(Tryz.f112.body).getD .skip
def zlg:(ByteArray×AH)→Value
 | (r0,_)=>(Value.string r0)
def zm9 (_:AH):(ByteArray×AH)→AH:=fun r=>r.2
noncomputable def zf6 (L:LC) (m:Nat) (H:AH) (a0:Int):Option (ByteArray×AH) :=
 if a0≤10 then
  Option.bind (z3l L m H (⟨#[116,114,117,101,32,102,97,108,115,101,32,110,111,116,32,97,110,100,32,111,114,32,120,111,114,32,61,62,32,61,32,100,105,115,116,105,110,99,116,32,105,116,101]⟩:ByteArray)) fun (x1,H2) =>
  Option.bind (idxA 1 x1 (IntKind.i64.wrap (a0 - 1))) fun p3 =>
  Option.bind (rd deS H2 p3) fun x4 =>
  some (x4,H2)
 else
  if a0≤33 then
   Option.bind (z3l L m H (⟨#[45,32,43,32,45,32,42,32,100,105,118,32,109,111,100,32,97,98,115,32,60,61,32,60,32,62,61,32,62,32,115,101,108,101,99,116,32,115,116,111,114,101]⟩:ByteArray)) fun (x5,H6) =>
   Option.bind (idxA 1 x5 (IntKind.i64.wrap (a0 - 21))) fun p7 =>
   Option.bind (rd deS H6 p7) fun x8 =>
   some (x8,H6)
  else
   none
theorem zlw {L:LC} {m:Nat} {H:AH} {a0:Int} {r:(ByteArray×AH)} (h:zf6 L m H a0=some r) :
  CallS Tryz.prog (NE.plain 148) m 112 #[(Value.int .i64 a0)] H (zlg r) (zm9 H r):=by
 refine CallS.mk (args:=[(Value.int .i64 a0)]) Tryz.func112 (B:=B112) (by kernel_rfl) (fun E _=>?_)
 unfold zf6 at h
 refine WS.sq (WS.rg (RS.mS 1 [kT 2 (⟨#[]⟩:ByteArray)] (RS.dn (WS.nxt (WS.sq (WS.bk 0 (WS.sq (WS.rg (RS.mS 3 [kB 3 (decide (a0≤10)),kB 5 (decide (a0≤10)),kI 4 a0] ?_)))))))))
 refine RS.dn (WS.nxt ?_)
 rcases z0 h with ⟨hp,h⟩ | ⟨hp,h⟩
 ·refine WS.fx 3 true (decide_eq_true hp) (WS.cT (WS.sq (WS.rg ?_)))
  obtain ⟨⟨x1,H2⟩,hx,h⟩:=bind_some h
  try dsimp only at h
  refine RS.cl (some 6) (v:=(Sl3.v x1)) 163 #[(Value.string (⟨#[116,114,117,101,32,102,97,108,115,101,32,110,111,116,32,97,110,100,32,111,114,32,120,111,114,32,61,62,32,61,32,100,105,115,116,105,110,99,116,32,105,116,101]⟩:ByteArray))] (z63 hx) (RS.mS 2 [kI 8 (IntKind.i64.wrap (a0 - 1)),kI 7 a0] ?_)
  obtain ⟨p3,hx,h⟩:=bind_some h
  refine RS.ix 9 26 9 (.tmp 6) (.tmp 8) hx ?_
  obtain ⟨x4,hx,h⟩:=bind_some h
  refine RS.ld 10 9 (.tmp 9) (z1 hx z9) (RS.mS 1 [kT 2 x4] (RS.dn (WS.nxt (WS.rt ?_))))
  cases h
  exact fun a w hs=>bkR (sqR (rtR (rS hs)))
 ·refine WS.fx 3 false (decide_eq_false hp) (WS.cF (WS.sq (WS.rg (RS.mS 3 [kB 11 (decide (a0≤33)),kB 13 (decide (a0≤33)),kI 12 a0] (RS.dn (WS.nxt ?_))))))
  rcases z0 h with ⟨hp,h⟩ | ⟨hp,h⟩
  ·refine WS.fx 11 true (decide_eq_true hp) (WS.cT (WS.sq (WS.rg ?_)))
   obtain ⟨⟨x5,H6⟩,hx,h⟩:=bind_some h
   try dsimp only at h
   refine RS.cl (some 14) (v:=(Sl3.v x5)) 163 #[(Value.string (⟨#[45,32,43,32,45,32,42,32,100,105,118,32,109,111,100,32,97,98,115,32,60,61,32,60,32,62,61,32,62,32,115,101,108,101,99,116,32,115,116,111,114,101]⟩:ByteArray))] (z63 hx) (RS.mS 2 [kI 16 (IntKind.i64.wrap (a0 - 21)),kI 15 a0] ?_)
   obtain ⟨p7,hx,h⟩:=bind_some h
   refine RS.ix 17 26 9 (.tmp 14) (.tmp 16) hx ?_
   obtain ⟨x8,hx,h⟩:=bind_some h
   refine RS.ld 18 9 (.tmp 17) (z1 hx z9) (RS.mS 1 [kT 2 x8] (RS.dn (WS.nxt (WS.rt ?_))))
   cases h
   exact fun a w hs=>bkR (sqR (rtR (rS hs)))
  ·refine WS.fx 11 false (decide_eq_false hp) (WS.cF ?_)
   cases h
noncomputable def B77:Code:=(Tryz.f77.body).getD .skip
def zmb:(ByteArray×AH)→Value
 | (r0,_)=>(Value.string r0)
def zn8 (_:AH):(ByteArray×AH)→AH:=fun r=>r.2
noncomputable def zd5 (L:LC) (m:Nat) (H:AH) (a0_0:Int) (a0_1:ByteArray) (_a0_2:Bool) (_a0_3:Sl3) (_a0_4:Int) (_a0_5:Sl3) (_a0_6 _a0_7:Int) (_a0_8:ByteArray) (_a0_9 a0_10 _a0_11:Sl3):Option (ByteArray×AH) :=
 Option.bind (α:=Bool) (
  if a0_0=11 then
   some true
  else
   if a0_0=12 then
    none
   else
    some (decide (a0_0=13))) fun v10_1 =>
 if v10_1=true then
  Option.bind (zfi L m H a0_1) fun (x2,H3) =>
  some (x2,H3)
 else
  if a0_0=14 then
   none
  else
   if a0_0=20 then
    none
   else
    if a0_0=40 then
     none
    else
     if a0_0=34 then
      none
     else
      if (a0_10.n:Int)=0 then
       Option.bind (zf6 L m H a0_0) fun (x4,H5) =>
       some (x4,H5)
      else
       none
theorem zh8 {L:LC} {m:Nat} {H:AH} {a0_0:Int} {a0_1:ByteArray} {a0_2:Bool} {a0_3:Sl3} {a0_4:Int} {a0_5:Sl3} {a0_6 a0_7:Int} {a0_8:ByteArray} {a0_9 a0_10 a0_11:Sl3} {r:(ByteArray×AH)} (h:zd5 L m H a0_0 a0_1 a0_2 a0_3 a0_4 a0_5 a0_6 a0_7 a0_8 a0_9 a0_10 a0_11=some r) :
  CallS Tryz.prog (NE.plain 148) m 77 #[(Value.agg #[(Value.int .i64 a0_0),(Value.string a0_1),(Value.bool a0_2),(Sl3.v a0_3),(Value.int .i64 a0_4),(Sl3.v a0_5),(Value.int .i64 a0_6),(Value.int .i64 a0_7),(Value.string a0_8),(Sl3.v a0_9),(Sl3.v a0_10),(Sl3.v a0_11)])] H (zmb r) (zn8 H r):=by
 refine CallS.mk (args:=[(Value.agg #[(Value.int .i64 a0_0),(Value.string a0_1),(Value.bool a0_2),(Sl3.v a0_3),(Value.int .i64 a0_4),(Sl3.v a0_5),(Value.int .i64 a0_6),(Value.int .i64 a0_7),(Value.string a0_8),(Sl3.v a0_9),(Sl3.v a0_10),(Sl3.v a0_11)])]) Tryz.func77 (B:=B77) (by kernel_rfl) (fun E _=>?_)
 unfold zd5 at h
 refine WS.sq (WS.rg (RS.mL 2 [kT 2 (⟨#[]⟩:ByteArray),kL 1 0 0] ([some (78,[(Value.int .i64 a0_0),(Value.string a0_1),(Value.bool a0_2),(Sl3.v a0_3),(Value.int .i64 a0_4),(Sl3.v a0_5),(Value.int .i64 a0_6),(Value.int .i64 a0_7),(Value.string a0_8),(Sl3.v a0_9),(Sl3.v a0_10),(Sl3.v a0_11)])]) (RS.dn (WS.nxt (WS.sq (WS.sq (WS.rg (RS.mS 2 [kI 9 a0_0,kL 8 0 0] (RS.dn ?_)))))))))
 refine WS.nxt (WS.bk 0 ?_)
 obtain ⟨v10_1,hx,h⟩:=bind_some h
 refine WS.sq ?_
 refine WS.join ([kB 10 v10_1,kL 1 0 0,kI 9 a0_0]) ([some (78,[(Value.int .i64 a0_0),(Value.string a0_1),(Value.bool a0_2),(Sl3.v a0_3),(Value.int .i64 a0_4),(Sl3.v a0_5),(Value.int .i64 a0_6),(Value.int .i64 a0_7),(Value.string a0_8),(Sl3.v a0_9),(Sl3.v a0_10),(Sl3.v a0_11)])]) H ?_ (fun a w hs=>WS.nxt ?_ a w hs)
 ·clear h; rename _=>h
  refine WS.sq (WS.rg (RS.mS 2 [kB 10 (decide (a0_0=11)),kB 11 (decide (a0_0=11))] (RS.dn (WS.nxt ?_))))
  rcases z0 h with ⟨hp,h⟩ | ⟨hp,h⟩
  ·refine WS.fx 10 true (decide_eq_true hp) (WS.cT (WS.sk ?_))
   cases h
   exact fun a w hs=>(jsN (hs.sb 1))
  ·refine WS.fx 10 false (decide_eq_false hp) (WS.cF (WS.sq (WS.rg (RS.mS 2 [kB 10 (decide (a0_0=12)),kB 12 (decide (a0_0=12))] (RS.dn (WS.nxt ?_))))))
   rcases z0 h with ⟨hp,h⟩ | ⟨hp,h⟩
   ·refine WS.fx 10 true (decide_eq_true hp) (WS.cT ?_)
    cases h
   ·refine WS.fx 10 false (decide_eq_false hp) (WS.cF (WS.rg (RS.mS 2 [kB 10 (decide (a0_0=13)),kB 13 (decide (a0_0=13))] (RS.dn ?_))))
    cases h
    exact fun a w hs=>(jsN (hs.sb 1))
 ·clear hx
  rcases z0 h with ⟨hp,h⟩ | ⟨hp,h⟩
  ·refine WS.fx 10 true hp (WS.cT (WS.sq (WS.rg (RS.mS 2 [kT 15 a0_1,kL 14 0 1] ?_))))
   obtain ⟨⟨x2,H3⟩,hx,h⟩:=bind_some h
   try dsimp only at h
   refine RS.cl (some 16) (v:=(Value.string x2)) 109 #[(Value.string a0_1)] (zmg hx) (RS.mS 1 [kT 2 x2] (RS.dn (WS.nxt (WS.rt ?_))))
   cases h
   exact fun a w hs=>bkR (sqR (rtR (rS hs)))
  ·refine WS.fx 10 false (b_not hp) (WS.cF (WS.sq (WS.rg (RS.mS 2 [kB 17 (decide (a0_0=14)),kB 18 (decide (a0_0=14))] (RS.dn (WS.nxt ?_))))))
   rcases z0 h with ⟨hp,h⟩ | ⟨hp,h⟩
   ·refine WS.fx 17 true (decide_eq_true hp) (WS.cT ?_)
    cases h
   ·refine WS.fx 17 false (decide_eq_false hp) (WS.cF (WS.sq (WS.rg (RS.mS 2 [kB 24 (decide (a0_0=20)),kB 25 (decide (a0_0=20))] (RS.dn (WS.nxt ?_))))))
    rcases z0 h with ⟨hp,h⟩ | ⟨hp,h⟩
    ·refine WS.fx 24 true (decide_eq_true hp) (WS.cT ?_)
     cases h
    ·refine WS.fx 24 false (decide_eq_false hp) (WS.cF (WS.sq (WS.rg (RS.mS 2 [kB 29 (decide (a0_0=40)),kB 30 (decide (a0_0=40))] (RS.dn (WS.nxt ?_))))))
     rcases z0 h with ⟨hp,h⟩ | ⟨hp,h⟩
     ·refine WS.fx 29 true (decide_eq_true hp) (WS.cT ?_)
      cases h
     ·refine WS.fx 29 false (decide_eq_false hp) (WS.cF (WS.sq (WS.rg (RS.mS 2 [kB 34 (decide (a0_0=34)),kB 35 (decide (a0_0=34))] (RS.dn (WS.nxt ?_))))))
      rcases z0 h with ⟨hp,h⟩ | ⟨hp,h⟩
      ·refine WS.fx 34 true (decide_eq_true hp) (WS.cT ?_)
       cases h
      ·refine WS.fx 34 false (decide_eq_false hp) (WS.cF (WS.sk ?_))
       refine fun a w hs=>bkN ((WS.nxt ?_ a w hs))
       refine WS.sq (WS.sq (WS.rg (RS.mS 4 [kB 48 (decide ((a0_10.n:Int)=0)),kI 47 (a0_10.n:Int),kS 46 a0_10,kL 45 0 10] (RS.dn (WS.nxt ?_)))))
       rcases z0 h with ⟨hp,h⟩ | ⟨hp,h⟩
       ·refine WS.fx 48 true (decide_eq_true hp) (WS.cT (WS.sq (WS.rg (RS.mS 2 [kI 50 a0_0,kL 49 0 0] ?_))))
        obtain ⟨⟨x4,H5⟩,hx,h⟩:=bind_some h
        try dsimp only at h
        refine RS.cl (some 51) (v:=(Value.string x4)) 112 #[(Value.int .i64 a0_0)] (zlw hx) (RS.mS 1 [kT 2 x4] (RS.dn (WS.nxt (WS.rt ?_))))
        cases h
        exact fun a w hs=>sqR (rtR (rS hs))
       ·refine WS.fx 48 false (decide_eq_false hp) (WS.cF ?_)
        cases h
noncomputable def B78:Code:=(Tryz.f78.body).getD .skip
def z8c:(Value×AH)→Value
 | (r0,_)=>r0
def z8q (_:AH):(Value×AH)→AH:=fun r=>r.2
noncomputable def zx (L:LC) (m:Nat) (H:AH) (a0:Option Addr) (a1:Int):Option (Value×AH) :=
 Option.bind (z1d L m H a0) fun H1 =>
 Option.bind a0 fun q2 =>
 Option.bind (rd deSl H1 (Addr.add q2 1)) fun x3 =>
 Option.bind (newR 5 1 #[(Value.int .u8 a1)] H1) fun (s4,H5) =>
 Option.bind (appS m 5 1 1 H5 x3 s4) fun (s6,H7) =>
 Option.bind (H7.setCell m (Addr.add q2 1) (Sl3.v s6)) fun H8 =>
 some (Value.nilIface,H8)
theorem z1q {L:LC} {m:Nat} {H:AH} {a0:Option Addr} {a1:Int} {r:(Value×AH)} (h:zx L m H a0 a1=some r) :
  CallS Tryz.prog (NE.plain 148) m 78 #[(Value.pointer a0),(Value.int .u8 a1)] H (z8c r) (z8q H r):=by
 refine CallS.mk (args:=[(Value.pointer a0),(Value.int .u8 a1)]) Tryz.func78 (B:=B78) (by kernel_rfl) (fun E _=>?_)
 unfold zx at h
 refine WS.sq (WS.rg (RS.mS 1 [(4,.val Value.nilIface)] (RS.dn (WS.nxt (WS.sq (WS.rg (RS.mS 1 [(5,.val (Value.pointer a0))] ?_)))))))
 obtain ⟨H1,hx,h⟩:=bind_some h
 refine RS.cl (some 6) (v:=(Value.tuple #[])) 94 #[(Value.pointer a0)] (z3c hx) (RS.dn (WS.nxt (WS.sq (WS.rg (RS.mS 2 [(8,.val (Value.pointer a0)),(7,.val (Value.pointer a0))] ?_)))))
 obtain ⟨q2,hx,hq2⟩:=bind_some h
 subst hx
 have h:=hq2
 refine RS.mS 2 [(10,.val (Value.pointer (some (Addr.add q2 1)))),kP 9 q2] ?_
 obtain ⟨x3,hx,h⟩:=bind_some h
 refine RS.ld 11 129 (.tmp 10) (z1 hx z3) (RS.mS 1 [(12,.val (Value.int .u8 a1))] ?_)
 obtain ⟨⟨s4,H5⟩,hx,h⟩:=bind_some h
 try dsimp only at h
 refine RS.o (H':=H5) (some 13) (Sl3.v s4) (Abs.run_newR (by kernel_rfl) (by kernel_rfl) hx) ?_
 obtain ⟨⟨s6,H7⟩,hx,h⟩:=bind_some h
 try dsimp only at h
 refine RS.o (H':=H7) (some 14) (Sl3.v s6) (Abs.run_app (x:=.tmp 11) (y:=.tmp 13) (ts:=#[129,129]) (s:=x3) (z:=s4) (by kernel_rfl) (by kernel_rfl) (by kernel_rfl) (by kernel_rfl) hx) (RS.mS 2 [(16,.val (Value.pointer (some (Addr.add q2 1)))),kP 15 q2] ?_)
 obtain ⟨H8,hx,h⟩:=bind_some h
 refine RS.o (H':=H8) none undef (Abs.run_store1 (t:=129) (x:=.tmp 16) (y:=.tmp 14) (a:=(Addr.add q2 1)) (v:=(Sl3.v s6)) (by kernel_rfl) (by kernel_rfl) (by kernel_rfl) (by kernel_rfl) (by kernel_rfl) hx) (RS.dn (WS.nxt (WS.sq (WS.rg (RS.mS 1 [(4,.val Value.nilIface)] (RS.dn (WS.nxt (WS.rt ?_))))))))
 cases h
 exact fun a w hs=>rtR (rS hs)
noncomputable def B49:Code:=(Tryz.f49.body).getD .skip
def z12:AH→Value
 | _=>(Value.tuple #[])
def z19 (_:AH):AH→AH:=fun r=>r
noncomputable def z47 (L:LC) (rec_term_Table_write:Nat→AH→(Option Addr)→(Option Addr)→Int→Option AH) (m:Nat) (a1:Option Addr) (q2:Addr) (_x5_0:Int) (_x5_1:ByteArray) (_x5_2:Bool) (_x5_3:Sl3) (_x5_4:Int) (_x5_5:Sl3) (_x5_6 _x5_7:Int) (_x5_8:ByteArray) (_x5_9 _x5_10 x5_11:Sl3):(AH×Int)→Option (Lp (AH×Int) AH):=fun (H17,v36_18) =>
 if v36_18<(x5_11.n:Int) then
  Option.bind (idxA 1 x5_11 v36_18) fun p19 =>
  Option.bind (rd (deI .i64) H17 p19) fun x20 =>
  Option.bind (z1o L H17 a1) fun x21 =>
  if x21 > 1048576 then
   none
  else
   Option.bind (zx L m H17 a1 32) fun (_,H23) =>
   Option.bind (rec_term_Table_write m H23 (some q2) a1 x20) fun H24 =>
   some (.next (H24,(IntKind.i64.wrap (v36_18+1))))
 else
  some (.brk (H17,v36_18))
def zd6 (_L:LC) (_rec_term_Table_write:Nat→AH→(Option Addr)→(Option Addr)→Int→Option AH) (_m:Nat) (a1:Option Addr) (q2:Addr) (x5_0:Int) (x5_1:ByteArray) (x5_2:Bool) (x5_3:Sl3) (x5_4:Int) (x5_5:Sl3) (x5_6 x5_7:Int) (x5_8:ByteArray) (x5_9 x5_10 x5_11:Sl3):(AH×Int)→KN×Lcs:=fun (_,v36_18)=>([kI 36 v36_18,kP 0 q2,(1,.val (Value.pointer a1)),kS 34 x5_11,kI 35 (x5_11.n:Int)],[some (78,[(Value.int .i64 x5_0),(Value.string x5_1),(Value.bool x5_2),(Sl3.v x5_3),(Value.int .i64 x5_4),(Sl3.v x5_5),(Value.int .i64 x5_6),(Value.int .i64 x5_7),(Value.string x5_8),(Sl3.v x5_9),(Sl3.v x5_10),(Sl3.v x5_11)])])
noncomputable def z3i (L:LC) (rec_term_Table_write:Nat→AH→(Option Addr)→(Option Addr)→Int→Option AH) (m:Nat) (H:AH) (a0 a1:Option Addr) (a2:Int):Option AH :=
 Option.bind (z1o L H a1) fun x1 =>
 if x1 > 1048576 then
  none
 else
  Option.bind a0 fun q2 =>
  Option.bind (rd deSl H (Addr.add q2 3)) fun x3 =>
  Option.bind (idxA 16 x3 a2) fun p4 =>
  Option.bind (rd (deI .i64) H (Addr.add (Addr.add p4 0) 0)) fun x5_0 =>
  Option.bind (rd deS H (Addr.add (Addr.add p4 0) 1)) fun x5_1 =>
  Option.bind (rd deB H (Addr.add (Addr.add p4 0) 2)) fun x5_2 =>
  Option.bind (rd deSl H (Addr.add (Addr.add p4 0) 3)) fun x5_3 =>
  Option.bind (rd (deI .i64) H (Addr.add (Addr.add p4 0) 4)) fun x5_4 =>
  Option.bind (rd deSl H (Addr.add (Addr.add p4 0) 5)) fun x5_5 =>
  Option.bind (rd (deI .i64) H (Addr.add (Addr.add p4 0) 6)) fun x5_6 =>
  Option.bind (rd (deI .i64) H (Addr.add (Addr.add p4 0) 7)) fun x5_7 =>
  Option.bind (rd deS H (Addr.add (Addr.add p4 0) 8)) fun x5_8 =>
  Option.bind (rd deSl H (Addr.add (Addr.add p4 0) 9)) fun x5_9 =>
  Option.bind (rd deSl H (Addr.add (Addr.add p4 0) 10)) fun x5_10 =>
  Option.bind (rd deSl H (Addr.add (Addr.add p4 0) 11)) fun x5_11 =>
  if (x5_11.n:Int)=0 then
   Option.bind (zd5 L m H x5_0 x5_1 x5_2 x5_3 x5_4 x5_5 x5_6 x5_7 x5_8 x5_9 x5_10 x5_11) fun (x6,H7) =>
   Option.bind (zh L m H7 a1 x6) fun (_,_,H10) =>
   some H10
  else
   Option.bind (zd5 L m H x5_0 x5_1 x5_2 x5_3 x5_4 x5_5 x5_6 x5_7 x5_8 x5_9 x5_10 x5_11) fun (x11,H12) =>
   Option.bind (strcat (⟨#[40]⟩:ByteArray) x11) fun s13 =>
   Option.bind (zh L m H12 a1 s13) fun (_,_,H16) =>
   Option.bind (L.run (z47 L rec_term_Table_write m a1 q2 x5_0 x5_1 x5_2 x5_3 x5_4 x5_5 x5_6 x5_7 x5_8 x5_9 x5_10 x5_11) (H16,0)) fun o=>match o with
   | .inl (H25,_) =>
    Option.bind (zx L m H25 a1 41) fun (_,H28) =>
    some H28
   | .inr r=>some r
noncomputable def z76 (L:LC) (n:Nat):(Nat→AH→(Option Addr)→(Option Addr)→Int→Option AH):=Nat.rec (motive:=fun _=>(Nat→AH→(Option Addr)→(Option Addr)→Int→Option AH)) (fun _ _ _ _ _=>none) (fun _ p=>z3i L p) n
noncomputable def zbb (L:LC) (m:Nat) (H:AH) (a0 a1:Option Addr) (a2:Int):Option AH:=(z76 L L.fuel) m H a0 a1 a2
theorem z69 {E H L rec_term_Table_write m a1 q2 x5_0 x5_1 x5_2 x5_3 x5_4 x5_5 x5_6 x5_7 x5_8 x5_9 x5_10 x5_11} (hrec_term_Table_write:∀(m:Nat) (H:AH) (a0 a1:Option Addr) (a2:Int) (r:AH),rec_term_Table_write m H a0 a1 a2=some r→CallS Tryz.prog (NE.plain 148) m 49 #[(Value.pointer a0),(Value.pointer a1),(Value.int .i64 a2)] H (z12 r) (z19 H r)):LoopF Tryz.prog (NE.plain 148) m E Tryz.f49 ((cfst (csnd (cfst (csnd (csnd (csnd (csnd B49)))))))) (zd6 L rec_term_Table_write m a1 q2 x5_0 x5_1 x5_2 x5_3 x5_4 x5_5 x5_6 x5_7 x5_8 x5_9 x5_10 x5_11) (fun s=>s.1) 0 z12 (z19 H) (z47 L rec_term_Table_write m a1 q2 x5_0 x5_1 x5_2 x5_3 x5_4 x5_5 x5_6 x5_7 x5_8 x5_9 x5_10 x5_11):=by
 rintro ⟨H17,v36_18⟩ o h
 unfold z47 at h
 try dsimp only at h
 refine WS.sq (WS.rg (RS.mS 1 [kB 37 (decide (v36_18<(x5_11.n:Int)))] (RS.dn (WS.nxt (WS.sq ?_)))))
 rcases z0 h with ⟨hp,h⟩ | ⟨hp,h⟩
 ·refine WS.fx 37 true (decide_eq_true hp) (WS.cT (WS.sk (WS.nxt (WS.sq (WS.bk 1 (WS.sq (WS.rg ?_)))))))
  obtain ⟨p19,hx,h⟩:=bind_some h
  refine RS.ix 38 41 3 (.tmp 34) (.tmp 36) hx ?_
  obtain ⟨x20,hx,h⟩:=bind_some h
  refine RS.ld 39 3 (.tmp 38) (z1 hx z5) (RS.mS 1 [kI 8 x20] (RS.dn (WS.nxt (WS.sq (WS.sq (WS.rg (RS.mS 1 [(40,.val (Value.pointer a1))] ?_)))))))
  obtain ⟨x21,hx,h⟩:=bind_some h
  refine RS.cl (some 41) (v:=(Value.int .i64 x21)) 50 #[(Value.pointer a1)] (z36 hx) (RS.mS 1 [kB 42 (decide (x21 > 1048576))] (RS.dn (WS.nxt ?_)))
  rcases z0 h with ⟨hp,h⟩ | ⟨hp,h⟩
  ·refine WS.fx 42 true (decide_eq_true hp) (WS.cT ?_)
   cases h
  ·refine WS.fx 42 false (decide_eq_false hp) (WS.cF (WS.sk (WS.nxt (WS.sq (WS.rg (RS.mS 1 [(43,.val (Value.pointer a1))] ?_))))))
   obtain ⟨⟨x22,H23⟩,hx,h⟩:=bind_some h
   try dsimp only at h
   refine RS.cl (some 44) (v:=x22) 78 #[(Value.pointer a1),(Value.int .u8 32)] (z1q hx) (RS.dn (WS.nxt (WS.rg (RS.mS 3 [kI 47 x20,(46,.val (Value.pointer a1)),kP 45 q2] ?_))))
   obtain ⟨H24,hx,h⟩:=bind_some h
   refine RS.cl (some 48) (v:=(Value.tuple #[])) 49 #[(Value.pointer (some q2)),(Value.pointer a1),(Value.int .i64 x20)] (hrec_term_Table_write _ _ _ _ _ _ hx) (RS.dn ?_)
   refine fun a w hs=>bkN ((WS.nxt ?_ a w hs))
   refine WS.rg (RS.mS 2 [kI 36 (IntKind.i64.wrap (v36_18+1)),kI 49 (IntKind.i64.wrap (v36_18+1))] (RS.dn ?_))
   cases h
   exact fun a w hs=>lsN rfl (hs.sb 1)
 ·refine WS.fx 37 false (decide_eq_false hp) (WS.cF (WS.ex 0 ?_))
  cases h
  exact fun a w hs=>sqE (lsB rfl (hs.sb 1))
theorem zbg {L:LC} {rec_term_Table_write:Nat→AH→(Option Addr)→(Option Addr)→Int→Option AH} (hrec_term_Table_write:∀(m:Nat) (H:AH) (a0 a1:Option Addr) (a2:Int) (r:AH),rec_term_Table_write m H a0 a1 a2=some r→CallS Tryz.prog (NE.plain 148) m 49 #[(Value.pointer a0),(Value.pointer a1),(Value.int .i64 a2)] H (z12 r) (z19 H r)) {m:Nat} {H:AH} {a0 a1:Option Addr} {a2:Int} {r:AH} (h:z3i L rec_term_Table_write m H a0 a1 a2=some r) :
  CallS Tryz.prog (NE.plain 148) m 49 #[(Value.pointer a0),(Value.pointer a1),(Value.int .i64 a2)] H (z12 r) (z19 H r):=by
 refine CallS.mk (args:=[(Value.pointer a0),(Value.pointer a1),(Value.int .i64 a2)]) Tryz.func49 (B:=B49) (by kernel_rfl) (fun E _=>?_)
 unfold z3i at h
 refine WS.sq (WS.sq (WS.rg (RS.mS 1 [(9,.val (Value.pointer a1))] ?_)))
 obtain ⟨x1,hx,h⟩:=bind_some h
 refine RS.cl (some 10) (v:=(Value.int .i64 x1)) 50 #[(Value.pointer a1)] (z36 hx) (RS.mS 1 [kB 11 (decide (x1 > 1048576))] (RS.dn (WS.nxt ?_)))
 rcases z0 h with ⟨hp,h⟩ | ⟨hp,h⟩
 ·refine WS.fx 11 true (decide_eq_true hp) (WS.cT ?_)
  cases h
 ·refine WS.fx 11 false (decide_eq_false hp) (WS.cF (WS.sk (WS.nxt (WS.sq (WS.rg (RS.mS 1 [(12,.val (Value.pointer a0))] ?_))))))
  obtain ⟨q2,hx,hq2⟩:=bind_some h
  subst hx
  have h:=hq2
  refine RS.mS 2 [(14,.val (Value.pointer (some (Addr.add q2 3)))),kP 13 q2] ?_
  obtain ⟨x3,hx,h⟩:=bind_some h
  refine RS.ld 15 31 (.tmp 14) (z1 hx z3) (RS.mS 1 [kI 16 a2] ?_)
  obtain ⟨p4,hx,h⟩:=bind_some h
  refine RS.ix 17 31 137 (.tmp 15) (.tmp 16) hx (RS.mS 1 [(18,.val (Value.pointer (some (Addr.add p4 0))))] ?_)
  obtain ⟨x5_0,hx0,h⟩:=bind_some h
  obtain ⟨x5_1,hx1,h⟩:=bind_some h
  obtain ⟨x5_2,hx2,h⟩:=bind_some h
  obtain ⟨x5_3,hx3,h⟩:=bind_some h
  obtain ⟨x5_4,hx4,h⟩:=bind_some h
  obtain ⟨x5_5,hx5,h⟩:=bind_some h
  obtain ⟨x5_6,hx6,h⟩:=bind_some h
  obtain ⟨x5_7,hx7,h⟩:=bind_some h
  obtain ⟨x5_8,hx8,h⟩:=bind_some h
  obtain ⟨x5_9,hx9,h⟩:=bind_some h
  obtain ⟨x5_10,hx10,h⟩:=bind_some h
  obtain ⟨x5_11,hx11,h⟩:=bind_some h
  refine RS.la 19 78 (.tmp 18) 12 (z2 (z1 hx0 z5) (z2 (z1 hx1 z9) (z2 (z1 hx2 zdz) (z2 (z1 hx3 z3) (z2 (z1 hx4 z5) (z2 (z1 hx5 z3) (z2 (z1 hx6 z5) (z2 (z1 hx7 z5) (z2 (z1 hx8 z9) (z2 (z1 hx9 z3) (z2 (z1 hx10 z3) (z2 (z1 hx11 z3) zd)))))))))))) (RS.mL 2 [kL 6 0 0] ([some (78,[(Value.int .i64 x5_0),(Value.string x5_1),(Value.bool x5_2),(Sl3.v x5_3),(Value.int .i64 x5_4),(Sl3.v x5_5),(Value.int .i64 x5_6),(Value.int .i64 x5_7),(Value.string x5_8),(Sl3.v x5_9),(Sl3.v x5_10),(Sl3.v x5_11)])]) (RS.dn (WS.nxt (WS.sq (WS.sq (WS.rg (RS.mS 4 [kB 23 (decide ((x5_11.n:Int)=0)),kI 22 (x5_11.n:Int),kS 21 x5_11,kL 20 0 11] (RS.dn (WS.nxt ?_)))))))))
  rcases z0 h with ⟨hp,h⟩ | ⟨hp,h⟩
  ·refine WS.fx 23 true (decide_eq_true hp) (WS.cT (WS.sq (WS.rg (RS.mS 2 [kA 25 #[(Value.int .i64 x5_0),(Value.string x5_1),(Value.bool x5_2),(Sl3.v x5_3),(Value.int .i64 x5_4),(Sl3.v x5_5),(Value.int .i64 x5_6),(Value.int .i64 x5_7),(Value.string x5_8),(Sl3.v x5_9),(Sl3.v x5_10),(Sl3.v x5_11)],(24,.val (Value.pointer a1))] ?_))))
   obtain ⟨⟨x6,H7⟩,hx,h⟩:=bind_some h
   try dsimp only at h
   refine RS.cl (some 26) (v:=(Value.string x6)) 77 #[(Value.agg #[(Value.int .i64 x5_0),(Value.string x5_1),(Value.bool x5_2),(Sl3.v x5_3),(Value.int .i64 x5_4),(Sl3.v x5_5),(Value.int .i64 x5_6),(Value.int .i64 x5_7),(Value.string x5_8),(Sl3.v x5_9),(Sl3.v x5_10),(Sl3.v x5_11)])] (zh8 hx) ?_
   obtain ⟨⟨x8,x9,H10⟩,hx,h⟩:=bind_some h
   try dsimp only at h
   refine RS.cl (some 27) (v:=(Value.tuple #[(Value.int .i64 x8),x9])) 63 #[(Value.pointer a1),(Value.string x6)] (zq hx) (RS.dn (WS.nxt (WS.rt ?_)))
   cases h
   exact fun a w hs=>sqR (rtR (rS hs))
  ·refine WS.fx 23 false (decide_eq_false hp) (WS.cF (WS.sk (WS.nxt (WS.sq (WS.rg (RS.mS 2 [kA 29 #[(Value.int .i64 x5_0),(Value.string x5_1),(Value.bool x5_2),(Sl3.v x5_3),(Value.int .i64 x5_4),(Sl3.v x5_5),(Value.int .i64 x5_6),(Value.int .i64 x5_7),(Value.string x5_8),(Sl3.v x5_9),(Sl3.v x5_10),(Sl3.v x5_11)],(28,.val (Value.pointer a1))] ?_))))))
   obtain ⟨⟨x11,H12⟩,hx,h⟩:=bind_some h
   try dsimp only at h
   refine RS.cl (some 30) (v:=(Value.string x11)) 77 #[(Value.agg #[(Value.int .i64 x5_0),(Value.string x5_1),(Value.bool x5_2),(Sl3.v x5_3),(Value.int .i64 x5_4),(Sl3.v x5_5),(Value.int .i64 x5_6),(Value.int .i64 x5_7),(Value.string x5_8),(Sl3.v x5_9),(Sl3.v x5_10),(Sl3.v x5_11)])] (zh8 hx) ?_
   obtain ⟨s13,hx,h⟩:=bind_some h
   refine RS.o (H':=H12) (some 31) (Value.string s13) (Abs.run_strcat (t:=9) (u:=9) (x:=.const (Value.string (⟨#[40]⟩:ByteArray))) (y:=.tmp 30) (a:=(⟨#[40]⟩:ByteArray)) (b:=x11) (by kernel_rfl) (by kernel_rfl) (by kernel_rfl) hx) ?_
   obtain ⟨⟨x14,x15,H16⟩,hx,h⟩:=bind_some h
   try dsimp only at h
   refine RS.cl (some 32) (v:=(Value.tuple #[(Value.int .i64 x14),x15])) 63 #[(Value.pointer a1),(Value.string s13)] (zq hx) (RS.dn (WS.nxt (WS.sq (WS.sq (WS.rg (RS.mS 4 [kI 36 0,kI 35 (x5_11.n:Int),kS 34 x5_11,kL 33 0 11] (RS.dn (WS.nxt (WS.bk 0 ?_)))))))))
   obtain ⟨o,hl,h⟩:=bind_some h
   rcases o with ⟨H25,v36_26⟩ | r
   ·try dsimp only at h
    refine WS.lI (z69 (L:=L) (E:=E) (m:=m) (H:=H) hrec_term_Table_write) (L.ok hl) 1 ?_
    clear hl
    refine fun a w hs=>bkE ((WS.nxt ?_ a w hs))
    refine WS.rg (RS.mS 1 [(50,.val (Value.pointer a1))] ?_)
    obtain ⟨⟨x27,H28⟩,hx,h⟩:=bind_some h
    try dsimp only at h
    refine RS.cl (some 51) (v:=x27) 78 #[(Value.pointer a1),(Value.int .u8 41)] (z1q hx) (RS.dn ?_)
    cases h
    exact fun a w hs=>rtN (rS hs)
   ·try dsimp only at h
    refine WS.lR (z69 (L:=L) (E:=E) (m:=m) (H:=H) hrec_term_Table_write) (L.ok hl) 1 ?_
    cases h
    exact fun a w hq=>bkR (sqR (rtR hq))
theorem zce {L:LC}:∀n,(∀(m:Nat) (H:AH) (a0 a1:Option Addr) (a2:Int) (r:AH),((z76 L n)) m H a0 a1 a2=some r→CallS Tryz.prog (NE.plain 148) m 49 #[(Value.pointer a0),(Value.pointer a1),(Value.int .i64 a2)] H (z12 r) (z19 H r)):=by
 intro n
 induction n with
 | zero=>exact (fun _ _ _ _ _ _ h=>(Option.some_ne_none _ h.symm).elim)
 | succ n ih=>exact (fun _ _ _ _ _ _ h=>zbg (L:=L) ih h)
theorem zgr {L:LC} {m:Nat} {H:AH} {a0 a1:Option Addr} {a2:Int} {r:AH} (h:zbb L m H a0 a1 a2=some r) :
  CallS Tryz.prog (NE.plain 148) m 49 #[(Value.pointer a0),(Value.pointer a1),(Value.int .i64 a2)] H (z12 r) (z19 H r) :=
 (zce _) _ _ _ _ _ _ h
noncomputable def B51:Code:=(Tryz.f51.body).getD .skip
def z3w:(ByteArray×AH)→Value
 | (r0,_)=>(Value.string r0)
def z4o (_:AH):(ByteArray×AH)→AH:=fun r=>r.2
noncomputable def zw (_L:LC) (m:Nat) (H:AH) (a0:Option Addr):Option (ByteArray×AH) :=
 Option.bind a0 fun q1 =>
 Option.bind (rd deSl H (Addr.add q1 1)) fun x2 =>
 Option.bind (rd deSl H (Addr.add q1 1)) fun x3 =>
 Option.bind (gOp1 Tryz.prog (opsOf (cfst (csnd B51))) 4 [(6,.val (Sl3.v x2))] deP H) fun x4 =>
 Option.bind (gOp Tryz.prog m (opsOf (cfst (csnd B51))) 10 [(7,.val (Value.pointer x4)),(12,.val (Value.int .i64 (x3.n:Int)))] deS H) fun (x5,H6) =>
 some (x5,H6)
theorem zy {L:LC} {m:Nat} {H:AH} {a0:Option Addr} {r:(ByteArray×AH)} (h:zw L m H a0=some r) :
  CallS Tryz.prog (NE.plain 148) m 51 #[(Value.pointer a0)] H (z3w r) (z4o H r):=by
 refine CallS.mk (args:=[(Value.pointer a0)]) Tryz.func51 (B:=B51) (by kernel_rfl) (fun E _=>?_)
 unfold zw at h
 refine WS.sq (WS.rg (RS.mS 1 [kT 2 (⟨#[]⟩:ByteArray)] (RS.dn (WS.nxt (WS.sq ?_)))))
 refine WS.dr [0,1,2,3,5,6,7,8] [0,1,3,7,15,0,32,96,224,480,1023,2047] 12 (fun hcl=>?_)
 refine DA.tK 0 (some 3) (Value.pointer a0) ?_
 obtain ⟨q1,hx,hq1⟩:=bind_some h
 subst hx
 have h:=hq1
 refine DA.tK 1 (some 4) (Value.pointer (some q1)) (DA.tK 2 (some 5) (Value.pointer (some (Addr.add q1 1))) ?_)
 obtain ⟨x2,hx,h⟩:=bind_some h
 refine DA.tD 3 (some 6) (Sl3.v x2) (Abs.det_load (t:=129) (x:=.tmp 5) (a:=(Addr.add q1 1)) (by kernel_rfl) (by kernel_rfl) (by kernel_rfl) (by kernel_rfl) (z1 hx z3)) (DA.tK 5 (some 8) (Value.pointer (some q1)) (DA.tK 6 (some 9) (Value.pointer (some q1)) (DA.tK 7 (some 10) (Value.pointer (some (Addr.add q1 1))) ?_)))
 obtain ⟨x3,hx,h⟩:=bind_some h
 refine DA.tD 8 (some 11) (Sl3.v x3) (Abs.det_load (t:=129) (x:=.tmp 10) (a:=(Addr.add q1 1)) (by kernel_rfl) (by kernel_rfl) (by kernel_rfl) (by kernel_rfl) (z1 hx z3)) (DA.restart [0,1,2,3,5,6,7,8,9] (by kernel_rfl) (DA.tK 9 (some 12) (Value.int .i64 (x3.n:Int)) ?_))
 obtain ⟨x4,hx,h⟩:=bind_some h
 refine DA.on 4 (DA.aHj (H':=H) 4 (some 7) false (Value.pointer x4) (znf hx zr (by kernel_rfl) (by kernel_rfl)) ?_)
 obtain ⟨⟨x5,H6⟩,hx,h⟩:=bind_some h
 try dsimp only at h
 refine DA.on 10 (DA.aH (H':=H6) 10 (some 13) (Value.string x5) (zec hx z9 (by kernel_rfl)) (DA.tP 11 (some 2) (Value.string x5) (DA.dn (WS.nxt (WS.rt ?_)))))
 cases h
 exact fun a w hs=>rtR (rS hs)
noncomputable def B18:Code:=(Tryz.f18.body).getD .skip
def zgk:(ByteArray×Int×AH)→Value
 | (r0,r1,_)=>(Value.tuple #[(Value.string r0),(Value.int .i64 r1)])
def zi3 (_:AH):(ByteArray×Int×AH)→AH:=fun r=>r.2.2
noncomputable def z2y (L:LC) (m:Nat) (H:AH) (a0:Option Addr) (a1:Int):Option (ByteArray×Int×AH) :=
 Option.bind (z17 L H a0) fun x1 =>
 if x1=true then
  Option.bind (α:=Bool) (
   if a1<0 then
    some true
   else
    Option.bind a0 fun q3 =>
    Option.bind (rd deSl H (Addr.add q3 3)) fun x4 =>
    some (decide (a1≥(x4.n:Int)))) fun v20_2 =>
  if v20_2=true then
   some ((⟨#[]⟩:ByteArray),1,H)
  else
   Option.bind (newB 131 [(Value.pointer none),(Sl3.v Sl3.nil)] H) fun (p5,H6) =>
   Option.bind (zbb L m H6 a0 (some p5) a1) fun H7 =>
   Option.bind (z1o L H7 (some p5)) fun x8 =>
   if x8 > 1048576 then
    none
   else
    Option.bind (zw L m H7 (some p5)) fun (x9,H10) =>
    some (x9,0,H10)
 else
  some ((⟨#[]⟩:ByteArray),4,H)
theorem z57 {L:LC} {m:Nat} {H:AH} {a0:Option Addr} {a1:Int} {r:(ByteArray×Int×AH)} (h:z2y L m H a0 a1=some r) :
  CallS Tryz.prog (NE.plain 148) m 18 #[(Value.pointer a0),(Value.int .i64 a1)] H (zgk r) (zi3 H r):=by
 refine CallS.mk (args:=[(Value.pointer a0),(Value.int .i64 a1)]) Tryz.func18 (B:=B18) (by kernel_rfl) (fun E _=>?_)
 unfold z2y at h
 refine WS.sq (WS.rg (RS.mS 2 [kI 5 0,kT 4 (⟨#[]⟩:ByteArray)] (RS.dn (WS.nxt (WS.sq (WS.sq (WS.rg (RS.mS 1 [(7,.val (Value.pointer a0))] ?_))))))))
 obtain ⟨x1,hx,h⟩:=bind_some h
 refine RS.cl (some 8) (v:=(Value.bool x1)) 46 #[(Value.pointer a0)] (z1c hx) (RS.mS 1 [kB 9 (!x1)] (RS.dn (WS.nxt ?_)))
 rcases z0 h with ⟨hp,h⟩ | ⟨hp,h⟩
 ·refine WS.fx 9 false (nb_not hp) (WS.cF (WS.sk (WS.nxt (WS.sq ?_))))
  obtain ⟨v20_2,hx,h⟩:=bind_some h
  refine WS.sq ?_
  refine WS.join ([kB 20 v20_2,(0,.val (Value.pointer a0)),kI 1 a1]) ([]) H ?_ (fun a w hs=>WS.nxt ?_ a w hs)
  ·clear h; rename _=>h
   refine WS.rg (RS.mS 3 [kB 12 (decide (a1<0)),kB 11 (decide (a1<0)),kI 10 a1] ?_)
   rcases z0 h with ⟨hp,h⟩ | ⟨hp,h⟩
   ·refine RS.fx 12 true (decide_eq_true hp) (RS.mS 8 [kB 20 true,kU 19,kU 18,kU 17,kU 16,kU 15,kU 14,kU 13] (RS.dn ?_))
    cases h
    exact fun a w hs=>(jsN (hs.sb 0))
   ·refine RS.fx 12 false (decide_eq_false hp) (RS.mS 2 [(14,.val (Value.pointer a0)),kI 13 a1] ?_)
    obtain ⟨q3,hx,hq3⟩:=bind_some h
    subst hx
    have h:=hq3
    refine RS.mS 2 [(16,.val (Value.pointer (some (Addr.add q3 3)))),kP 15 q3] ?_
    obtain ⟨x4,hx,h⟩:=bind_some h
    refine RS.ld 17 31 (.tmp 16) (z1 hx z3) (RS.mS 3 [kB 20 (decide (a1≥(x4.n:Int))),kB 19 (decide (a1≥(x4.n:Int))),kI 18 (x4.n:Int)] (RS.dn ?_))
    cases h
    exact fun a w hs=>(jsN (hs.sb 0))
  ·clear hx
   rcases z0 h with ⟨hp,h⟩ | ⟨hp,h⟩
   ·refine WS.fx 20 true hp (WS.cT (WS.sq (WS.rg (RS.mS 2 [kI 5 1,kT 4 (⟨#[]⟩:ByteArray)] (RS.dn (WS.nxt (WS.rt ?_)))))))
    cases h
    exact fun a w hs=>sqR (rtR (rS hs))
   ·refine WS.fx 20 false (b_not hp) (WS.cF (WS.sk (WS.nxt (WS.sq (WS.rg ?_)))))
    obtain ⟨⟨p5,H6⟩,hx,h⟩:=bind_some h
    try dsimp only at h
    refine RS.o (H':=H6) (some 6) (Value.pointer (some p5)) (Abs.run_newB (by kernel_rfl) hx) (RS.dn (WS.nxt (WS.sq (WS.rg (RS.mS 2 [kI 22 a1,(21,.val (Value.pointer a0))] ?_)))))
    obtain ⟨H7,hx,h⟩:=bind_some h
    refine RS.cl (some 23) (v:=(Value.tuple #[])) 49 #[(Value.pointer a0),(Value.pointer (some p5)),(Value.int .i64 a1)] (zgr hx) (RS.dn (WS.nxt (WS.sq (WS.sq (WS.rg ?_)))))
    obtain ⟨x8,hx,h⟩:=bind_some h
    refine RS.cl (some 24) (v:=(Value.int .i64 x8)) 50 #[(Value.pointer (some p5))] (z36 hx) (RS.mS 1 [kB 25 (decide (x8 > 1048576))] (RS.dn (WS.nxt ?_)))
    rcases z0 h with ⟨hp,h⟩ | ⟨hp,h⟩
    ·refine WS.fx 25 true (decide_eq_true hp) (WS.cT ?_)
     cases h
    ·refine WS.fx 25 false (decide_eq_false hp) (WS.cF (WS.sk (WS.nxt (WS.sq (WS.rg ?_)))))
     obtain ⟨⟨x9,H10⟩,hx,h⟩:=bind_some h
     try dsimp only at h
     refine RS.cl (some 26) (v:=(Value.string x9)) 51 #[(Value.pointer (some p5))] (zy hx) (RS.mS 2 [kI 5 0,kT 4 x9] (RS.dn (WS.nxt (WS.rt ?_))))
     cases h
     exact fun a w hs=>rtR (rS hs)
 ·refine WS.fx 9 true (zi hp) (WS.cT (WS.sq (WS.rg (RS.mS 2 [kI 5 4,kT 4 (⟨#[]⟩:ByteArray)] (RS.dn (WS.nxt (WS.rt ?_)))))))
  cases h
  exact fun a w hs=>sqR (rtR (rS hs))
noncomputable def B79:Code:=(Tryz.f79.body).getD .skip
def zgd:(Sl3×AH)→Value
 | (r0,_)=>(Sl3.v r0)
def zhk (_:AH):(Sl3×AH)→AH:=fun r=>r.2
noncomputable def z7c (_L:LC) (m:Nat) (H:AH) (a0:Sl3):Option (Sl3×AH) :=
 if (isNilS a0)=true then
  some (Sl3.nil,H)
 else
  Option.bind (newR 3 0 #[] H) fun (s1,H2) =>
  Option.bind (appS m 3 1 8 H2 s1 a0) fun (s3,H4) =>
  some (s3,H4)
theorem z1x {L:LC} {m:Nat} {H:AH} {a0:Sl3} {r:(Sl3×AH)} (h:z7c L m H a0=some r) :
  CallS Tryz.prog (NE.plain 148) m 79 #[(Sl3.v a0)] H (zgd r) (zhk H r):=by
 refine CallS.mk (args:=[(Sl3.v a0)]) Tryz.func79 (B:=B79) (by kernel_rfl) (fun E _=>?_)
 unfold z7c at h
 refine WS.sq (WS.rg (RS.mS 1 [kS 2 Sl3.nil] (RS.dn (WS.nxt (WS.sq (WS.sq (WS.rg (RS.mS 1 [kS 3 a0] (RS.o (H':=H) (some 4) (Value.bool (isNilS a0)) (z9a (t:=41) (e:=3) (u:=41) (x:=.tmp 3) (y:=.const (Sl3.v Sl3.nil)) (s:=a0) (by kernel_rfl) (by kernel_rfl) (by kernel_rfl) (by kernel_rfl)) ?_)))))))))
 refine RS.dn (WS.nxt ?_)
 rcases z0 h with ⟨hp,h⟩ | ⟨hp,h⟩
 ·refine WS.fx 4 true hp (WS.cT (WS.sq (WS.rg (RS.mS 1 [kS 2 Sl3.nil] (RS.dn (WS.nxt (WS.rt ?_)))))))
  cases h
  exact fun a w hs=>sqR (rtR (rS hs))
 ·refine WS.fx 4 false (b_not hp) (WS.cF (WS.sk (WS.nxt (WS.sq (WS.rg ?_)))))
  obtain ⟨⟨s1,H2⟩,hx,h⟩:=bind_some h
  try dsimp only at h
  refine RS.o (H':=H2) (some 5) (Sl3.v s1) (Abs.run_newR (by kernel_rfl) (by kernel_rfl) hx) (RS.mS 1 [kS 6 a0] ?_)
  obtain ⟨⟨s3,H4⟩,hx,h⟩:=bind_some h
  try dsimp only at h
  refine RS.o (H':=H4) (some 7) (Sl3.v s3) (Abs.run_app (x:=.tmp 5) (y:=.tmp 6) (ts:=#[41,41]) (s:=s1) (z:=a0) (by kernel_rfl) (by kernel_rfl) (by kernel_rfl) (by kernel_rfl) hx) (RS.mS 1 [kS 2 s3] (RS.dn (WS.nxt (WS.rt ?_))))
  cases h
  exact fun a w hs=>rtR (rS hs)
end Go.Proofs.YtpcckomdlmpckaaGreatDoor
namespace Go.Proofs.YtpcckomdlmpckaaGreatDoor
open Go Go.Abs
set_option maxRecDepth 100000
noncomputable def B81:Code:=(Tryz.f81.body).getD .skip
def zm2:(Int×Int×Int×Bool)→Value
 | (r0,r1,r2,r3)=>(Value.tuple #[(Value.int .i64 r0),(Value.int .i64 r1),(Value.int .i64 r2),(Value.bool r3)])
def znh (H:AH):(Int×Int×Int×Bool)→AH:=fun _=>H
noncomputable def zd1 (_L:LC) (a0:Int):Option (Int×Int×Int×Bool) :=
 if a0=1 then
  none
 else
  if a0=2 then
   none
  else
   if a0=20 then
    none
   else
    if a0=40 then
     none
    else
     if a0=3 then
      none
     else
      if a0=21 then
       none
      else
       if a0=27 then
        none
       else
        if a0=34 then
         none
        else
         if a0=43 then
          none
         else
          if a0=44 then
           none
          else
           if a0=4 then
            none
           else
            if a0=5 then
             none
            else
             if a0=9 then
              none
             else
              if a0=22 then
               none
              else
               if a0=10 then
                none
               else
                if a0=33 then
                 some (3,3,0,true)
                else
                 Option.bind (α:=Bool) (
                  if a0=11 then
                   some true
                  else
                   if a0=12 then
                    none
                   else
                    if a0=13 then
                     none
                    else
                     some (decide (a0=14))) fun v28_1 =>
                 if v28_1=true then
                  some (0,64,0,true)
                 else
                  if a0=42 then
                   none
                  else
                   if a0=63 then
                    none
                   else
                    if a0=64 then
                     none
                    else
                     if a0=65 then
                      none
                     else
                      if a0=66 then
                       none
                      else
                       if a0=67 then
                        none
                       else
                        Option.bind (α:=Bool) (
                         if a0≥1 then
                          if a0≤14 then
                           some true
                          else
                           if a0≥20 then
                            if a0≤34 then
                             some true
                            else
                             none
                           else
                            none
                         else
                          none) fun v6_2 =>
                        some (2,2,0,v6_2)
theorem zi1 {L:LC} {m:Nat} {H:AH} {a0:Int} {r:(Int×Int×Int×Bool)} (h:zd1 L a0=some r) :
  CallS Tryz.prog (NE.plain 148) m 81 #[(Value.int .i64 a0)] H (zm2 r) (znh H r):=by
 refine CallS.mk (args:=[(Value.int .i64 a0)]) Tryz.func81 (B:=B81) (by kernel_rfl) (fun E _=>?_)
 unfold zd1 at h
 refine WS.sq (WS.rg (RS.mS 4 [kB 5 false,kI 4 0,kI 3 0,kI 2 0] (RS.dn (WS.nxt (WS.sq (WS.sq (WS.rg (RS.mS 1 [kI 7 a0] (RS.dn ?_)))))))))
 refine WS.nxt (WS.bk 0 (WS.sq (WS.sq (WS.rg (RS.mS 2 [kB 8 (decide (a0=1)),kB 9 (decide (a0=1))] (RS.dn (WS.nxt ?_)))))))
 rcases z0 h with ⟨hp,h⟩ | ⟨hp,h⟩
 ·refine WS.fx 8 true (decide_eq_true hp) (WS.cT ?_)
  cases h
 ·refine WS.fx 8 false (decide_eq_false hp) (WS.cF (WS.sq (WS.rg (RS.mS 2 [kB 8 (decide (a0=2)),kB 10 (decide (a0=2))] (RS.dn (WS.nxt ?_))))))
  rcases z0 h with ⟨hp,h⟩ | ⟨hp,h⟩
  ·refine WS.fx 8 true (decide_eq_true hp) (WS.cT ?_)
   cases h
  ·refine WS.fx 8 false (decide_eq_false hp) (WS.cF (WS.sq (WS.rg (RS.mS 2 [kB 8 (decide (a0=20)),kB 11 (decide (a0=20))] (RS.dn (WS.nxt ?_))))))
   rcases z0 h with ⟨hp,h⟩ | ⟨hp,h⟩
   ·refine WS.fx 8 true (decide_eq_true hp) (WS.cT ?_)
    cases h
   ·refine WS.fx 8 false (decide_eq_false hp) (WS.cF (WS.rg (RS.mS 2 [kB 8 (decide (a0=40)),kB 12 (decide (a0=40))] (RS.dn (WS.nxt ?_)))))
    rcases z0 h with ⟨hp,h⟩ | ⟨hp,h⟩
    ·refine WS.fx 8 true (decide_eq_true hp) (WS.cT ?_)
     cases h
    ·refine WS.fx 8 false (decide_eq_false hp) (WS.cF (WS.sq (WS.sq (WS.rg (RS.mS 2 [kB 13 (decide (a0=3)),kB 14 (decide (a0=3))] (RS.dn (WS.nxt ?_)))))))
     rcases z0 h with ⟨hp,h⟩ | ⟨hp,h⟩
     ·refine WS.fx 13 true (decide_eq_true hp) (WS.cT ?_)
      cases h
     ·refine WS.fx 13 false (decide_eq_false hp) (WS.cF (WS.sq (WS.rg (RS.mS 2 [kB 13 (decide (a0=21)),kB 15 (decide (a0=21))] (RS.dn (WS.nxt ?_))))))
      rcases z0 h with ⟨hp,h⟩ | ⟨hp,h⟩
      ·refine WS.fx 13 true (decide_eq_true hp) (WS.cT ?_)
       cases h
      ·refine WS.fx 13 false (decide_eq_false hp) (WS.cF (WS.sq (WS.rg (RS.mS 2 [kB 13 (decide (a0=27)),kB 16 (decide (a0=27))] (RS.dn (WS.nxt ?_))))))
       rcases z0 h with ⟨hp,h⟩ | ⟨hp,h⟩
       ·refine WS.fx 13 true (decide_eq_true hp) (WS.cT ?_)
        cases h
       ·refine WS.fx 13 false (decide_eq_false hp) (WS.cF (WS.sq (WS.rg (RS.mS 2 [kB 13 (decide (a0=34)),kB 17 (decide (a0=34))] (RS.dn (WS.nxt ?_))))))
        rcases z0 h with ⟨hp,h⟩ | ⟨hp,h⟩
        ·refine WS.fx 13 true (decide_eq_true hp) (WS.cT ?_)
         cases h
        ·refine WS.fx 13 false (decide_eq_false hp) (WS.cF (WS.sq (WS.rg (RS.mS 2 [kB 13 (decide (a0=43)),kB 18 (decide (a0=43))] (RS.dn (WS.nxt ?_))))))
         rcases z0 h with ⟨hp,h⟩ | ⟨hp,h⟩
         ·refine WS.fx 13 true (decide_eq_true hp) (WS.cT ?_)
          cases h
         ·refine WS.fx 13 false (decide_eq_false hp) (WS.cF (WS.rg (RS.mS 2 [kB 13 (decide (a0=44)),kB 19 (decide (a0=44))] (RS.dn (WS.nxt ?_)))))
          rcases z0 h with ⟨hp,h⟩ | ⟨hp,h⟩
          ·refine WS.fx 13 true (decide_eq_true hp) (WS.cT ?_)
           cases h
          ·refine WS.fx 13 false (decide_eq_false hp) (WS.cF (WS.sq (WS.sq (WS.rg (RS.mS 2 [kB 20 (decide (a0=4)),kB 21 (decide (a0=4))] (RS.dn (WS.nxt ?_)))))))
           rcases z0 h with ⟨hp,h⟩ | ⟨hp,h⟩
           ·refine WS.fx 20 true (decide_eq_true hp) (WS.cT ?_)
            cases h
           ·refine WS.fx 20 false (decide_eq_false hp) (WS.cF (WS.sq (WS.rg (RS.mS 2 [kB 20 (decide (a0=5)),kB 22 (decide (a0=5))] (RS.dn (WS.nxt ?_))))))
            rcases z0 h with ⟨hp,h⟩ | ⟨hp,h⟩
            ·refine WS.fx 20 true (decide_eq_true hp) (WS.cT ?_)
             cases h
            ·refine WS.fx 20 false (decide_eq_false hp) (WS.cF (WS.sq (WS.rg (RS.mS 2 [kB 20 (decide (a0=9)),kB 23 (decide (a0=9))] (RS.dn (WS.nxt ?_))))))
             rcases z0 h with ⟨hp,h⟩ | ⟨hp,h⟩
             ·refine WS.fx 20 true (decide_eq_true hp) (WS.cT ?_)
              cases h
             ·refine WS.fx 20 false (decide_eq_false hp) (WS.cF (WS.rg (RS.mS 2 [kB 20 (decide (a0=22)),kB 24 (decide (a0=22))] (RS.dn (WS.nxt ?_)))))
              rcases z0 h with ⟨hp,h⟩ | ⟨hp,h⟩
              ·refine WS.fx 20 true (decide_eq_true hp) (WS.cT ?_)
               cases h
              ·refine WS.fx 20 false (decide_eq_false hp) (WS.cF (WS.sq (WS.sq (WS.rg (RS.mS 2 [kB 25 (decide (a0=10)),kB 26 (decide (a0=10))] (RS.dn (WS.nxt ?_)))))))
               rcases z0 h with ⟨hp,h⟩ | ⟨hp,h⟩
               ·refine WS.fx 25 true (decide_eq_true hp) (WS.cT ?_)
                cases h
               ·refine WS.fx 25 false (decide_eq_false hp) (WS.cF (WS.rg (RS.mS 2 [kB 25 (decide (a0=33)),kB 27 (decide (a0=33))] (RS.dn (WS.nxt ?_)))))
                rcases z0 h with ⟨hp,h⟩ | ⟨hp,h⟩
                ·refine WS.fx 25 true (decide_eq_true hp) (WS.cT (WS.sq (WS.rg (RS.mS 4 [kB 5 true,kI 4 0,kI 3 3,kI 2 3] (RS.dn (WS.nxt (WS.rt ?_)))))))
                 cases h
                 exact fun a w hs=>bkR (sqR (rtR (rS hs)))
                ·refine WS.fx 25 false (decide_eq_false hp) (WS.cF ?_)
                 obtain ⟨v28_1,hx,h⟩:=bind_some h
                 refine WS.sq ?_
                 refine WS.join ([kB 28 v28_1,kI 0 a0,kI 7 a0]) ([]) H ?_ (fun a w hs=>WS.nxt ?_ a w hs)
                 ·clear h; rename _=>h
                  refine WS.sq (WS.rg (RS.mS 2 [kB 28 (decide (a0=11)),kB 29 (decide (a0=11))] (RS.dn (WS.nxt ?_))))
                  rcases z0 h with ⟨hp,h⟩ | ⟨hp,h⟩
                  ·refine WS.fx 28 true (decide_eq_true hp) (WS.cT (WS.sk ?_))
                   cases h
                   exact fun a w hs=>(jsN (hs.sb 0))
                  ·refine WS.fx 28 false (decide_eq_false hp) (WS.cF (WS.sq (WS.rg (RS.mS 2 [kB 28 (decide (a0=12)),kB 30 (decide (a0=12))] (RS.dn (WS.nxt ?_))))))
                   rcases z0 h with ⟨hp,h⟩ | ⟨hp,h⟩
                   ·refine WS.fx 28 true (decide_eq_true hp) (WS.cT ?_)
                    cases h
                   ·refine WS.fx 28 false (decide_eq_false hp) (WS.cF (WS.sq (WS.rg (RS.mS 2 [kB 28 (decide (a0=13)),kB 31 (decide (a0=13))] (RS.dn (WS.nxt ?_))))))
                    rcases z0 h with ⟨hp,h⟩ | ⟨hp,h⟩
                    ·refine WS.fx 28 true (decide_eq_true hp) (WS.cT ?_)
                     cases h
                    ·refine WS.fx 28 false (decide_eq_false hp) (WS.cF (WS.rg (RS.mS 2 [kB 28 (decide (a0=14)),kB 32 (decide (a0=14))] (RS.dn ?_))))
                     cases h
                     exact fun a w hs=>(jsN (hs.sb 0))
                 ·clear hx
                  rcases z0 h with ⟨hp,h⟩ | ⟨hp,h⟩
                  ·refine WS.fx 28 true hp (WS.cT (WS.sq (WS.rg (RS.mS 4 [kB 5 true,kI 4 0,kI 3 64,kI 2 0] (RS.dn (WS.nxt (WS.rt ?_)))))))
                   cases h
                   exact fun a w hs=>bkR (sqR (rtR (rS hs)))
                  ·refine WS.fx 28 false (b_not hp) (WS.cF (WS.sq (WS.rg (RS.mS 2 [kB 33 (decide (a0=42)),kB 34 (decide (a0=42))] (RS.dn (WS.nxt ?_))))))
                   rcases z0 h with ⟨hp,h⟩ | ⟨hp,h⟩
                   ·refine WS.fx 33 true (decide_eq_true hp) (WS.cT ?_)
                    cases h
                   ·refine WS.fx 33 false (decide_eq_false hp) (WS.cF (WS.sq (WS.sq (WS.rg (RS.mS 2 [kB 35 (decide (a0=63)),kB 36 (decide (a0=63))] (RS.dn (WS.nxt ?_)))))))
                    rcases z0 h with ⟨hp,h⟩ | ⟨hp,h⟩
                    ·refine WS.fx 35 true (decide_eq_true hp) (WS.cT ?_)
                     cases h
                    ·refine WS.fx 35 false (decide_eq_false hp) (WS.cF (WS.sq (WS.rg (RS.mS 2 [kB 35 (decide (a0=64)),kB 37 (decide (a0=64))] (RS.dn (WS.nxt ?_))))))
                     rcases z0 h with ⟨hp,h⟩ | ⟨hp,h⟩
                     ·refine WS.fx 35 true (decide_eq_true hp) (WS.cT ?_)
                      cases h
                     ·refine WS.fx 35 false (decide_eq_false hp) (WS.cF (WS.sq (WS.rg (RS.mS 2 [kB 35 (decide (a0=65)),kB 38 (decide (a0=65))] (RS.dn (WS.nxt ?_))))))
                      rcases z0 h with ⟨hp,h⟩ | ⟨hp,h⟩
                      ·refine WS.fx 35 true (decide_eq_true hp) (WS.cT ?_)
                       cases h
                      ·refine WS.fx 35 false (decide_eq_false hp) (WS.cF (WS.sq (WS.rg (RS.mS 2 [kB 35 (decide (a0=66)),kB 39 (decide (a0=66))] (RS.dn (WS.nxt ?_))))))
                       rcases z0 h with ⟨hp,h⟩ | ⟨hp,h⟩
                       ·refine WS.fx 35 true (decide_eq_true hp) (WS.cT ?_)
                        cases h
                       ·refine WS.fx 35 false (decide_eq_false hp) (WS.cF (WS.rg (RS.mS 2 [kB 35 (decide (a0=67)),kB 40 (decide (a0=67))] (RS.dn (WS.nxt ?_)))))
                        rcases z0 h with ⟨hp,h⟩ | ⟨hp,h⟩
                        ·refine WS.fx 35 true (decide_eq_true hp) (WS.cT ?_)
                         cases h
                        ·refine WS.fx 35 false (decide_eq_false hp) (WS.cF (WS.sk ?_))
                         refine fun a w hs=>bkN ((WS.nxt ?_ a w hs))
                         obtain ⟨v6_2,hx,h⟩:=bind_some h
                         refine WS.sq ?_
                         refine WS.join ([kB 6 v6_2]) ([]) H ?_ (fun a w hs=>WS.nxt ?_ a w hs)
                         ·clear h; rename _=>h
                          refine WS.rg (RS.mS 3 [kB 43 (decide (a0≥1)),kB 42 (decide (a0≥1)),kI 41 a0] ?_)
                          rcases z0 h with ⟨hp,h⟩ | ⟨hp,h⟩
                          ·refine RS.fx 43 true (decide_eq_true hp) (RS.mS 4 [kB 47 (decide (a0≤14)),kB 46 (decide (a0≤14)),kB 45 (decide (a0≤14)),kI 44 a0] ?_)
                           rcases z0 h with ⟨hp,h⟩ | ⟨hp,h⟩
                           ·refine RS.fx 47 true (decide_eq_true hp) (RS.mS 16 [kB 6 true,kB 62 true,kU 61,kU 60,kU 59,kU 58,kU 57,kU 56,kB 55 true,kB 54 true,kU 53,kU 52,kU 51,kU 50,kU 49,kU 48] (RS.dn ?_))
                            cases h
                            exact fun a w hs=>(jsN (hs.sb 0))
                           ·refine RS.fx 47 false (decide_eq_false hp) (RS.mS 3 [kB 50 (decide (a0≥20)),kB 49 (decide (a0≥20)),kI 48 a0] ?_)
                            rcases z0 h with ⟨hp,h⟩ | ⟨hp,h⟩
                            ·refine RS.fx 50 true (decide_eq_true hp) (RS.mS 5 [kB 55 (decide (a0≤34)),kB 54 (decide (a0≤34)),kB 53 (decide (a0≤34)),kB 52 (decide (a0≤34)),kI 51 a0] ?_)
                             rcases z0 h with ⟨hp,h⟩ | ⟨hp,h⟩
                             ·refine RS.fx 55 true (decide_eq_true hp) (RS.mS 8 [kB 6 true,kB 62 true,kU 61,kU 60,kU 59,kU 58,kU 57,kU 56] (RS.dn ?_))
                              cases h
                              exact fun a w hs=>(jsN (hs.sb 0))
                             ·refine RS.fx 55 false (decide_eq_false hp) ?_
                              cases h
                            ·refine RS.fx 50 false (decide_eq_false hp) ?_
                             cases h
                          ·refine RS.fx 43 false (decide_eq_false hp) ?_
                           cases h
                         ·clear hx
                          refine WS.sq (WS.rg (RS.mS 5 [kB 5 v6_2,kI 4 0,kI 3 2,kI 2 2,kB 63 v6_2] (RS.dn (WS.nxt (WS.rt ?_)))))
                          cases h
                          exact fun a w hs=>rtR (rS hs)
noncomputable def B52:Code:=(Tryz.f52.body).getD .skip
def zl7:(Int×ByteArray×Bool×Sl3×Int×Sl3×Int×Int×ByteArray×Sl3×Sl3×Sl3×AH)→Value
 | (r0,r1,r2,r3,r4,r5,r6,r7,r8,r9,r10,r11,_)=>(Value.agg #[(Value.int .i64 r0),(Value.string r1),(Value.bool r2),(Sl3.v r3),(Value.int .i64 r4),(Sl3.v r5),(Value.int .i64 r6),(Value.int .i64 r7),(Value.string r8),(Sl3.v r9),(Sl3.v r10),(Sl3.v r11)])
def zmh (_:AH):(Int×ByteArray×Bool×Sl3×Int×Sl3×Int×Int×ByteArray×Sl3×Sl3×Sl3×AH)→AH:=fun r=>r.2.2.2.2.2.2.2.2.2.2.2.2
noncomputable def zb4 (L:LC) (m:Nat) (H:AH) (a0_0:Int) (a0_1:ByteArray) (_a0_2:Bool) (_a0_3:Sl3) (_a0_4:Int) (_a0_5:Sl3) (_a0_6 _a0_7:Int) (_a0_8:ByteArray) (_a0_9 _a0_10 a0_11:Sl3):Option (Int×ByteArray×Bool×Sl3×Int×Sl3×Int×Int×ByteArray×Sl3×Sl3×Sl3×AH) :=
 Option.bind (z7c L (Nat.max m H.next) H a0_11) fun (x1,H2) =>
 Option.bind (α:=(AH×Int×ByteArray×Bool×Sl3×Int×Sl3×Int×Int×ByteArray×Sl3×Sl3×Sl3)) (
  Option.bind (α:=Bool) (
   if a0_0≥11 then
    some (decide (a0_0≤14))
   else
    some false) fun v14_16 =>
  if v14_16=true then
   some (H2,a0_0,a0_1,false,Sl3.nil,0,Sl3.nil,0,0,(⟨#[]⟩:ByteArray),Sl3.nil,Sl3.nil,x1)
  else
   if a0_0=20 then
    none
   else
    if a0_0=40 then
     none
    else
     if a0_0=34 then
      none
     else
      some (H2,a0_0,(⟨#[]⟩:ByteArray),false,Sl3.nil,0,Sl3.nil,0,0,(⟨#[]⟩:ByteArray),Sl3.nil,Sl3.nil,x1)) fun (H3,w2_4,w2_5,w2_6,w2_7,w2_8,w2_9,w2_10,w2_11,w2_12,w2_13,w2_14,w2_15) =>
 Option.bind (zd1 L a0_0) fun (_,_,x19,_) =>
 if x19 > 0 then
  none
 else
  some (w2_4,w2_5,w2_6,w2_7,w2_8,w2_9,w2_10,w2_11,w2_12,w2_13,w2_14,w2_15,H3)
theorem zg5 {L:LC} {m:Nat} {H:AH} {a0_0:Int} {a0_1:ByteArray} {a0_2:Bool} {a0_3:Sl3} {a0_4:Int} {a0_5:Sl3} {a0_6 a0_7:Int} {a0_8:ByteArray} {a0_9 a0_10 a0_11:Sl3} {r:(Int×ByteArray×Bool×Sl3×Int×Sl3×Int×Int×ByteArray×Sl3×Sl3×Sl3×AH)} (h:zb4 L m H a0_0 a0_1 a0_2 a0_3 a0_4 a0_5 a0_6 a0_7 a0_8 a0_9 a0_10 a0_11=some r) :
  CallS Tryz.prog (NE.plain 148) m 52 #[(Value.agg #[(Value.int .i64 a0_0),(Value.string a0_1),(Value.bool a0_2),(Sl3.v a0_3),(Value.int .i64 a0_4),(Sl3.v a0_5),(Value.int .i64 a0_6),(Value.int .i64 a0_7),(Value.string a0_8),(Sl3.v a0_9),(Sl3.v a0_10),(Sl3.v a0_11)])] H (zl7 r) (zmh H r):=by
 refine CallS.mk (args:=[(Value.agg #[(Value.int .i64 a0_0),(Value.string a0_1),(Value.bool a0_2),(Sl3.v a0_3),(Value.int .i64 a0_4),(Sl3.v a0_5),(Value.int .i64 a0_6),(Value.int .i64 a0_7),(Value.string a0_8),(Sl3.v a0_9),(Sl3.v a0_10),(Sl3.v a0_11)])]) Tryz.func52 (B:=B52) (by kernel_rfl) (fun E _=>?_)
 unfold zb4 at h
 refine WS.sq (WS.rg (RS.mL 2 [kL 2 1 0,kL 1 0 0] ([some (78,[(Value.int .i64 a0_0),(Value.string a0_1),(Value.bool a0_2),(Sl3.v a0_3),(Value.int .i64 a0_4),(Sl3.v a0_5),(Value.int .i64 a0_6),(Value.int .i64 a0_7),(Value.string a0_8),(Sl3.v a0_9),(Sl3.v a0_10),(Sl3.v a0_11)]),some (78,[(Value.int .i64 0),(Value.string (⟨#[]⟩:ByteArray)),(Value.bool false),(Sl3.v Sl3.nil),(Value.int .i64 0),(Sl3.v Sl3.nil),(Value.int .i64 0),(Value.int .i64 0),(Value.string (⟨#[]⟩:ByteArray)),(Sl3.v Sl3.nil),(Sl3.v Sl3.nil),(Sl3.v Sl3.nil)])]) (RS.dn (WS.nxt (WS.sq ?_)))))
 obtain ⟨⟨x1,H2⟩,hx_4,h⟩:=bind_some h
 try dsimp only at h
 refine WS.toone ([kL 1 0 0,kL 2 1 0,kL 3 2 0]) ([some (78,[(Value.int .i64 a0_0),(Value.string a0_1),(Value.bool a0_2),(Sl3.v a0_3),(Value.int .i64 a0_4),(Sl3.v a0_5),(Value.int .i64 a0_6),(Value.int .i64 a0_7),(Value.string a0_8),(Sl3.v a0_9),(Sl3.v a0_10),(Sl3.v a0_11)]),some (78,[(Value.int .i64 0),(Value.string (⟨#[]⟩:ByteArray)),(Value.bool false),(Sl3.v Sl3.nil),(Value.int .i64 0),(Sl3.v Sl3.nil),(Value.int .i64 0),(Value.int .i64 0),(Value.string (⟨#[]⟩:ByteArray)),(Sl3.v Sl3.nil),(Sl3.v Sl3.nil),(Sl3.v Sl3.nil)]),some (78,[(Value.int .i64 a0_0),(Value.string (⟨#[]⟩:ByteArray)),(Value.bool false),(Sl3.v Sl3.nil),(Value.int .i64 0),(Sl3.v Sl3.nil),(Value.int .i64 0),(Value.int .i64 0),(Value.string (⟨#[]⟩:ByteArray)),(Sl3.v Sl3.nil),(Sl3.v Sl3.nil),(Sl3.v x1)])]) H2 ?_ ?_
 ·clear h
  refine WS.dr [2,3] [0,1,0,4,12,31,0,127] 8 (fun hcl=>?_)
  refine DA.tL 2 (some 10) (.loc 0 11) (DA.tL 3 (some 11) (.val (Sl3.v a0_11)) (DA.restart [0,2,3] (by kernel_rfl) (DA.tL 0 (some 8) (.loc 0 0) ?_)))
  refine DA.three 1 4 6 (by kernel_rfl) ?_ ?_ ?_
  ·refine DA.aL 1 (some 9) (.val (Value.int .i64 a0_0)) ([some (78,[(Value.int .i64 a0_0),(Value.string a0_1),(Value.bool a0_2),(Sl3.v a0_3),(Value.int .i64 a0_4),(Sl3.v a0_5),(Value.int .i64 a0_6),(Value.int .i64 a0_7),(Value.string a0_8),(Sl3.v a0_9),(Sl3.v a0_10),(Sl3.v a0_11)]),some (78,[(Value.int .i64 0),(Value.string (⟨#[]⟩:ByteArray)),(Value.bool false),(Sl3.v Sl3.nil),(Value.int .i64 0),(Sl3.v Sl3.nil),(Value.int .i64 0),(Value.int .i64 0),(Value.string (⟨#[]⟩:ByteArray)),(Sl3.v Sl3.nil),(Sl3.v Sl3.nil),(Sl3.v Sl3.nil)])]) true ?_
   refine DA.two 4 6 (by kernel_rfl) ?_ ?_
   ·refine DA.aCj 4 (some 12) true (v:=(Sl3.v x1)) 79 #[(Sl3.v a0_11)] (z1x hx_4) ?_
    refine DA.two 5 6 (by kernel_rfl) ?_ ?_
    ·refine DA.aHj (H':=H2) 5 (some 13) true (Value.agg #[(Value.int .i64 a0_0),(Value.string (⟨#[]⟩:ByteArray)),(Value.bool false),(Sl3.v Sl3.nil),(Value.int .i64 0),(Sl3.v Sl3.nil),(Value.int .i64 0),(Value.int .i64 0),(Value.string (⟨#[]⟩:ByteArray)),(Sl3.v Sl3.nil),(Sl3.v Sl3.nil),(Sl3.v x1)]) (by kernel_rfl) (DA.on 6 (DA.aL 6 (some 3) (.loc 2 0) ([some (78,[(Value.int .i64 a0_0),(Value.string a0_1),(Value.bool a0_2),(Sl3.v a0_3),(Value.int .i64 a0_4),(Sl3.v a0_5),(Value.int .i64 a0_6),(Value.int .i64 a0_7),(Value.string a0_8),(Sl3.v a0_9),(Sl3.v a0_10),(Sl3.v a0_11)]),some (78,[(Value.int .i64 0),(Value.string (⟨#[]⟩:ByteArray)),(Value.bool false),(Sl3.v Sl3.nil),(Value.int .i64 0),(Sl3.v Sl3.nil),(Value.int .i64 0),(Value.int .i64 0),(Value.string (⟨#[]⟩:ByteArray)),(Sl3.v Sl3.nil),(Sl3.v Sl3.nil),(Sl3.v Sl3.nil)]),some (78,[(Value.int .i64 0),(Value.string (⟨#[]⟩:ByteArray)),(Value.bool false),(Sl3.v Sl3.nil),(Value.int .i64 0),(Sl3.v Sl3.nil),(Value.int .i64 0),(Value.int .i64 0),(Value.string (⟨#[]⟩:ByteArray)),(Sl3.v Sl3.nil),(Sl3.v Sl3.nil),(Sl3.v Sl3.nil)])]) false (DA.on 7 (DA.aL 7 none (.val undef) ([some (78,[(Value.int .i64 a0_0),(Value.string a0_1),(Value.bool a0_2),(Sl3.v a0_3),(Value.int .i64 a0_4),(Sl3.v a0_5),(Value.int .i64 a0_6),(Value.int .i64 a0_7),(Value.string a0_8),(Sl3.v a0_9),(Sl3.v a0_10),(Sl3.v a0_11)]),some (78,[(Value.int .i64 0),(Value.string (⟨#[]⟩:ByteArray)),(Value.bool false),(Sl3.v Sl3.nil),(Value.int .i64 0),(Sl3.v Sl3.nil),(Value.int .i64 0),(Value.int .i64 0),(Value.string (⟨#[]⟩:ByteArray)),(Sl3.v Sl3.nil),(Sl3.v Sl3.nil),(Sl3.v Sl3.nil)]),some (78,[(Value.int .i64 a0_0),(Value.string (⟨#[]⟩:ByteArray)),(Value.bool false),(Sl3.v Sl3.nil),(Value.int .i64 0),(Sl3.v Sl3.nil),(Value.int .i64 0),(Value.int .i64 0),(Value.string (⟨#[]⟩:ByteArray)),(Sl3.v Sl3.nil),(Sl3.v Sl3.nil),(Sl3.v x1)])]) false (DA.dn ?_)))))
     exact fun a w hs=>jsN (hs.sb 3)
    ·refine DA.aL 6 (some 3) (.loc 2 0) ([some (78,[(Value.int .i64 a0_0),(Value.string a0_1),(Value.bool a0_2),(Sl3.v a0_3),(Value.int .i64 a0_4),(Sl3.v a0_5),(Value.int .i64 a0_6),(Value.int .i64 a0_7),(Value.string a0_8),(Sl3.v a0_9),(Sl3.v a0_10),(Sl3.v a0_11)]),some (78,[(Value.int .i64 0),(Value.string (⟨#[]⟩:ByteArray)),(Value.bool false),(Sl3.v Sl3.nil),(Value.int .i64 0),(Sl3.v Sl3.nil),(Value.int .i64 0),(Value.int .i64 0),(Value.string (⟨#[]⟩:ByteArray)),(Sl3.v Sl3.nil),(Sl3.v Sl3.nil),(Sl3.v Sl3.nil)]),some (78,[(Value.int .i64 0),(Value.string (⟨#[]⟩:ByteArray)),(Value.bool false),(Sl3.v Sl3.nil),(Value.int .i64 0),(Sl3.v Sl3.nil),(Value.int .i64 0),(Value.int .i64 0),(Value.string (⟨#[]⟩:ByteArray)),(Sl3.v Sl3.nil),(Sl3.v Sl3.nil),(Sl3.v Sl3.nil)])]) false (DA.on 5 (DA.aH (H':=H2) 5 (some 13) (Value.agg #[(Value.int .i64 a0_0),(Value.string (⟨#[]⟩:ByteArray)),(Value.bool false),(Sl3.v Sl3.nil),(Value.int .i64 0),(Sl3.v Sl3.nil),(Value.int .i64 0),(Value.int .i64 0),(Value.string (⟨#[]⟩:ByteArray)),(Sl3.v Sl3.nil),(Sl3.v Sl3.nil),(Sl3.v x1)]) (by kernel_rfl) (DA.on 7 (DA.aL 7 none (.val undef) ([some (78,[(Value.int .i64 a0_0),(Value.string a0_1),(Value.bool a0_2),(Sl3.v a0_3),(Value.int .i64 a0_4),(Sl3.v a0_5),(Value.int .i64 a0_6),(Value.int .i64 a0_7),(Value.string a0_8),(Sl3.v a0_9),(Sl3.v a0_10),(Sl3.v a0_11)]),some (78,[(Value.int .i64 0),(Value.string (⟨#[]⟩:ByteArray)),(Value.bool false),(Sl3.v Sl3.nil),(Value.int .i64 0),(Sl3.v Sl3.nil),(Value.int .i64 0),(Value.int .i64 0),(Value.string (⟨#[]⟩:ByteArray)),(Sl3.v Sl3.nil),(Sl3.v Sl3.nil),(Sl3.v Sl3.nil)]),some (78,[(Value.int .i64 a0_0),(Value.string (⟨#[]⟩:ByteArray)),(Value.bool false),(Sl3.v Sl3.nil),(Value.int .i64 0),(Sl3.v Sl3.nil),(Value.int .i64 0),(Value.int .i64 0),(Value.string (⟨#[]⟩:ByteArray)),(Sl3.v Sl3.nil),(Sl3.v Sl3.nil),(Sl3.v x1)])]) false (DA.dn ?_)))))
     exact fun a w hs=>jsN (hs.sb 3)
   ·refine DA.aL 6 (some 3) (.loc 2 0) ([some (78,[(Value.int .i64 a0_0),(Value.string a0_1),(Value.bool a0_2),(Sl3.v a0_3),(Value.int .i64 a0_4),(Sl3.v a0_5),(Value.int .i64 a0_6),(Value.int .i64 a0_7),(Value.string a0_8),(Sl3.v a0_9),(Sl3.v a0_10),(Sl3.v a0_11)]),some (78,[(Value.int .i64 0),(Value.string (⟨#[]⟩:ByteArray)),(Value.bool false),(Sl3.v Sl3.nil),(Value.int .i64 0),(Sl3.v Sl3.nil),(Value.int .i64 0),(Value.int .i64 0),(Value.string (⟨#[]⟩:ByteArray)),(Sl3.v Sl3.nil),(Sl3.v Sl3.nil),(Sl3.v Sl3.nil)]),some (78,[(Value.int .i64 0),(Value.string (⟨#[]⟩:ByteArray)),(Value.bool false),(Sl3.v Sl3.nil),(Value.int .i64 0),(Sl3.v Sl3.nil),(Value.int .i64 0),(Value.int .i64 0),(Value.string (⟨#[]⟩:ByteArray)),(Sl3.v Sl3.nil),(Sl3.v Sl3.nil),(Sl3.v Sl3.nil)])]) true (DA.on 4 (DA.aCj 4 (some 12) false (v:=(Sl3.v x1)) 79 #[(Sl3.v a0_11)] (z1x hx_4) (DA.on 5 (DA.aH (H':=H2) 5 (some 13) (Value.agg #[(Value.int .i64 a0_0),(Value.string (⟨#[]⟩:ByteArray)),(Value.bool false),(Sl3.v Sl3.nil),(Value.int .i64 0),(Sl3.v Sl3.nil),(Value.int .i64 0),(Value.int .i64 0),(Value.string (⟨#[]⟩:ByteArray)),(Sl3.v Sl3.nil),(Sl3.v Sl3.nil),(Sl3.v x1)]) (by kernel_rfl) (DA.on 7 (DA.aL 7 none (.val undef) ([some (78,[(Value.int .i64 a0_0),(Value.string a0_1),(Value.bool a0_2),(Sl3.v a0_3),(Value.int .i64 a0_4),(Sl3.v a0_5),(Value.int .i64 a0_6),(Value.int .i64 a0_7),(Value.string a0_8),(Sl3.v a0_9),(Sl3.v a0_10),(Sl3.v a0_11)]),some (78,[(Value.int .i64 0),(Value.string (⟨#[]⟩:ByteArray)),(Value.bool false),(Sl3.v Sl3.nil),(Value.int .i64 0),(Sl3.v Sl3.nil),(Value.int .i64 0),(Value.int .i64 0),(Value.string (⟨#[]⟩:ByteArray)),(Sl3.v Sl3.nil),(Sl3.v Sl3.nil),(Sl3.v Sl3.nil)]),some (78,[(Value.int .i64 a0_0),(Value.string (⟨#[]⟩:ByteArray)),(Value.bool false),(Sl3.v Sl3.nil),(Value.int .i64 0),(Sl3.v Sl3.nil),(Value.int .i64 0),(Value.int .i64 0),(Value.string (⟨#[]⟩:ByteArray)),(Sl3.v Sl3.nil),(Sl3.v Sl3.nil),(Sl3.v x1)])]) false (DA.dn ?_)))))))
    exact fun a w hs=>jsN (hs.sb 3)
  ·refine DA.aCj 4 (some 12) true (v:=(Sl3.v x1)) 79 #[(Sl3.v a0_11)] (z1x hx_4) ?_
   refine DA.two 1 6 (by kernel_rfl) ?_ ?_
   ·refine DA.aL 1 (some 9) (.val (Value.int .i64 a0_0)) ([some (78,[(Value.int .i64 a0_0),(Value.string a0_1),(Value.bool a0_2),(Sl3.v a0_3),(Value.int .i64 a0_4),(Sl3.v a0_5),(Value.int .i64 a0_6),(Value.int .i64 a0_7),(Value.string a0_8),(Sl3.v a0_9),(Sl3.v a0_10),(Sl3.v a0_11)]),some (78,[(Value.int .i64 0),(Value.string (⟨#[]⟩:ByteArray)),(Value.bool false),(Sl3.v Sl3.nil),(Value.int .i64 0),(Sl3.v Sl3.nil),(Value.int .i64 0),(Value.int .i64 0),(Value.string (⟨#[]⟩:ByteArray)),(Sl3.v Sl3.nil),(Sl3.v Sl3.nil),(Sl3.v Sl3.nil)])]) true ?_
    refine DA.two 5 6 (by kernel_rfl) ?_ ?_
    ·refine DA.aHj (H':=H2) 5 (some 13) true (Value.agg #[(Value.int .i64 a0_0),(Value.string (⟨#[]⟩:ByteArray)),(Value.bool false),(Sl3.v Sl3.nil),(Value.int .i64 0),(Sl3.v Sl3.nil),(Value.int .i64 0),(Value.int .i64 0),(Value.string (⟨#[]⟩:ByteArray)),(Sl3.v Sl3.nil),(Sl3.v Sl3.nil),(Sl3.v x1)]) (by kernel_rfl) (DA.on 6 (DA.aL 6 (some 3) (.loc 2 0) ([some (78,[(Value.int .i64 a0_0),(Value.string a0_1),(Value.bool a0_2),(Sl3.v a0_3),(Value.int .i64 a0_4),(Sl3.v a0_5),(Value.int .i64 a0_6),(Value.int .i64 a0_7),(Value.string a0_8),(Sl3.v a0_9),(Sl3.v a0_10),(Sl3.v a0_11)]),some (78,[(Value.int .i64 0),(Value.string (⟨#[]⟩:ByteArray)),(Value.bool false),(Sl3.v Sl3.nil),(Value.int .i64 0),(Sl3.v Sl3.nil),(Value.int .i64 0),(Value.int .i64 0),(Value.string (⟨#[]⟩:ByteArray)),(Sl3.v Sl3.nil),(Sl3.v Sl3.nil),(Sl3.v Sl3.nil)]),some (78,[(Value.int .i64 0),(Value.string (⟨#[]⟩:ByteArray)),(Value.bool false),(Sl3.v Sl3.nil),(Value.int .i64 0),(Sl3.v Sl3.nil),(Value.int .i64 0),(Value.int .i64 0),(Value.string (⟨#[]⟩:ByteArray)),(Sl3.v Sl3.nil),(Sl3.v Sl3.nil),(Sl3.v Sl3.nil)])]) false (DA.on 7 (DA.aL 7 none (.val undef) ([some (78,[(Value.int .i64 a0_0),(Value.string a0_1),(Value.bool a0_2),(Sl3.v a0_3),(Value.int .i64 a0_4),(Sl3.v a0_5),(Value.int .i64 a0_6),(Value.int .i64 a0_7),(Value.string a0_8),(Sl3.v a0_9),(Sl3.v a0_10),(Sl3.v a0_11)]),some (78,[(Value.int .i64 0),(Value.string (⟨#[]⟩:ByteArray)),(Value.bool false),(Sl3.v Sl3.nil),(Value.int .i64 0),(Sl3.v Sl3.nil),(Value.int .i64 0),(Value.int .i64 0),(Value.string (⟨#[]⟩:ByteArray)),(Sl3.v Sl3.nil),(Sl3.v Sl3.nil),(Sl3.v Sl3.nil)]),some (78,[(Value.int .i64 a0_0),(Value.string (⟨#[]⟩:ByteArray)),(Value.bool false),(Sl3.v Sl3.nil),(Value.int .i64 0),(Sl3.v Sl3.nil),(Value.int .i64 0),(Value.int .i64 0),(Value.string (⟨#[]⟩:ByteArray)),(Sl3.v Sl3.nil),(Sl3.v Sl3.nil),(Sl3.v x1)])]) false (DA.dn ?_)))))
     exact fun a w hs=>jsN (hs.sb 3)
    ·refine DA.aL 6 (some 3) (.loc 2 0) ([some (78,[(Value.int .i64 a0_0),(Value.string a0_1),(Value.bool a0_2),(Sl3.v a0_3),(Value.int .i64 a0_4),(Sl3.v a0_5),(Value.int .i64 a0_6),(Value.int .i64 a0_7),(Value.string a0_8),(Sl3.v a0_9),(Sl3.v a0_10),(Sl3.v a0_11)]),some (78,[(Value.int .i64 0),(Value.string (⟨#[]⟩:ByteArray)),(Value.bool false),(Sl3.v Sl3.nil),(Value.int .i64 0),(Sl3.v Sl3.nil),(Value.int .i64 0),(Value.int .i64 0),(Value.string (⟨#[]⟩:ByteArray)),(Sl3.v Sl3.nil),(Sl3.v Sl3.nil),(Sl3.v Sl3.nil)]),some (78,[(Value.int .i64 0),(Value.string (⟨#[]⟩:ByteArray)),(Value.bool false),(Sl3.v Sl3.nil),(Value.int .i64 0),(Sl3.v Sl3.nil),(Value.int .i64 0),(Value.int .i64 0),(Value.string (⟨#[]⟩:ByteArray)),(Sl3.v Sl3.nil),(Sl3.v Sl3.nil),(Sl3.v Sl3.nil)])]) false (DA.on 5 (DA.aH (H':=H2) 5 (some 13) (Value.agg #[(Value.int .i64 a0_0),(Value.string (⟨#[]⟩:ByteArray)),(Value.bool false),(Sl3.v Sl3.nil),(Value.int .i64 0),(Sl3.v Sl3.nil),(Value.int .i64 0),(Value.int .i64 0),(Value.string (⟨#[]⟩:ByteArray)),(Sl3.v Sl3.nil),(Sl3.v Sl3.nil),(Sl3.v x1)]) (by kernel_rfl) (DA.on 7 (DA.aL 7 none (.val undef) ([some (78,[(Value.int .i64 a0_0),(Value.string a0_1),(Value.bool a0_2),(Sl3.v a0_3),(Value.int .i64 a0_4),(Sl3.v a0_5),(Value.int .i64 a0_6),(Value.int .i64 a0_7),(Value.string a0_8),(Sl3.v a0_9),(Sl3.v a0_10),(Sl3.v a0_11)]),some (78,[(Value.int .i64 0),(Value.string (⟨#[]⟩:ByteArray)),(Value.bool false),(Sl3.v Sl3.nil),(Value.int .i64 0),(Sl3.v Sl3.nil),(Value.int .i64 0),(Value.int .i64 0),(Value.string (⟨#[]⟩:ByteArray)),(Sl3.v Sl3.nil),(Sl3.v Sl3.nil),(Sl3.v Sl3.nil)]),some (78,[(Value.int .i64 a0_0),(Value.string (⟨#[]⟩:ByteArray)),(Value.bool false),(Sl3.v Sl3.nil),(Value.int .i64 0),(Sl3.v Sl3.nil),(Value.int .i64 0),(Value.int .i64 0),(Value.string (⟨#[]⟩:ByteArray)),(Sl3.v Sl3.nil),(Sl3.v Sl3.nil),(Sl3.v x1)])]) false (DA.dn ?_)))))
     exact fun a w hs=>jsN (hs.sb 3)
   ·refine DA.aL 6 (some 3) (.loc 2 0) ([some (78,[(Value.int .i64 a0_0),(Value.string a0_1),(Value.bool a0_2),(Sl3.v a0_3),(Value.int .i64 a0_4),(Sl3.v a0_5),(Value.int .i64 a0_6),(Value.int .i64 a0_7),(Value.string a0_8),(Sl3.v a0_9),(Sl3.v a0_10),(Sl3.v a0_11)]),some (78,[(Value.int .i64 0),(Value.string (⟨#[]⟩:ByteArray)),(Value.bool false),(Sl3.v Sl3.nil),(Value.int .i64 0),(Sl3.v Sl3.nil),(Value.int .i64 0),(Value.int .i64 0),(Value.string (⟨#[]⟩:ByteArray)),(Sl3.v Sl3.nil),(Sl3.v Sl3.nil),(Sl3.v Sl3.nil)]),some (78,[(Value.int .i64 0),(Value.string (⟨#[]⟩:ByteArray)),(Value.bool false),(Sl3.v Sl3.nil),(Value.int .i64 0),(Sl3.v Sl3.nil),(Value.int .i64 0),(Value.int .i64 0),(Value.string (⟨#[]⟩:ByteArray)),(Sl3.v Sl3.nil),(Sl3.v Sl3.nil),(Sl3.v Sl3.nil)])]) true (DA.on 1 (DA.aL 1 (some 9) (.val (Value.int .i64 a0_0)) ([some (78,[(Value.int .i64 a0_0),(Value.string a0_1),(Value.bool a0_2),(Sl3.v a0_3),(Value.int .i64 a0_4),(Sl3.v a0_5),(Value.int .i64 a0_6),(Value.int .i64 a0_7),(Value.string a0_8),(Sl3.v a0_9),(Sl3.v a0_10),(Sl3.v a0_11)]),some (78,[(Value.int .i64 0),(Value.string (⟨#[]⟩:ByteArray)),(Value.bool false),(Sl3.v Sl3.nil),(Value.int .i64 0),(Sl3.v Sl3.nil),(Value.int .i64 0),(Value.int .i64 0),(Value.string (⟨#[]⟩:ByteArray)),(Sl3.v Sl3.nil),(Sl3.v Sl3.nil),(Sl3.v Sl3.nil)]),some (78,[(Value.int .i64 0),(Value.string (⟨#[]⟩:ByteArray)),(Value.bool false),(Sl3.v Sl3.nil),(Value.int .i64 0),(Sl3.v Sl3.nil),(Value.int .i64 0),(Value.int .i64 0),(Value.string (⟨#[]⟩:ByteArray)),(Sl3.v Sl3.nil),(Sl3.v Sl3.nil),(Sl3.v Sl3.nil)])]) false (DA.on 5 (DA.aH (H':=H2) 5 (some 13) (Value.agg #[(Value.int .i64 a0_0),(Value.string (⟨#[]⟩:ByteArray)),(Value.bool false),(Sl3.v Sl3.nil),(Value.int .i64 0),(Sl3.v Sl3.nil),(Value.int .i64 0),(Value.int .i64 0),(Value.string (⟨#[]⟩:ByteArray)),(Sl3.v Sl3.nil),(Sl3.v Sl3.nil),(Sl3.v x1)]) (by kernel_rfl) (DA.on 7 (DA.aL 7 none (.val undef) ([some (78,[(Value.int .i64 a0_0),(Value.string a0_1),(Value.bool a0_2),(Sl3.v a0_3),(Value.int .i64 a0_4),(Sl3.v a0_5),(Value.int .i64 a0_6),(Value.int .i64 a0_7),(Value.string a0_8),(Sl3.v a0_9),(Sl3.v a0_10),(Sl3.v a0_11)]),some (78,[(Value.int .i64 0),(Value.string (⟨#[]⟩:ByteArray)),(Value.bool false),(Sl3.v Sl3.nil),(Value.int .i64 0),(Sl3.v Sl3.nil),(Value.int .i64 0),(Value.int .i64 0),(Value.string (⟨#[]⟩:ByteArray)),(Sl3.v Sl3.nil),(Sl3.v Sl3.nil),(Sl3.v Sl3.nil)]),some (78,[(Value.int .i64 a0_0),(Value.string (⟨#[]⟩:ByteArray)),(Value.bool false),(Sl3.v Sl3.nil),(Value.int .i64 0),(Sl3.v Sl3.nil),(Value.int .i64 0),(Value.int .i64 0),(Value.string (⟨#[]⟩:ByteArray)),(Sl3.v Sl3.nil),(Sl3.v Sl3.nil),(Sl3.v x1)])]) false (DA.dn ?_)))))))
    exact fun a w hs=>jsN (hs.sb 3)
  ·refine DA.aL 6 (some 3) (.loc 2 0) ([some (78,[(Value.int .i64 a0_0),(Value.string a0_1),(Value.bool a0_2),(Sl3.v a0_3),(Value.int .i64 a0_4),(Sl3.v a0_5),(Value.int .i64 a0_6),(Value.int .i64 a0_7),(Value.string a0_8),(Sl3.v a0_9),(Sl3.v a0_10),(Sl3.v a0_11)]),some (78,[(Value.int .i64 0),(Value.string (⟨#[]⟩:ByteArray)),(Value.bool false),(Sl3.v Sl3.nil),(Value.int .i64 0),(Sl3.v Sl3.nil),(Value.int .i64 0),(Value.int .i64 0),(Value.string (⟨#[]⟩:ByteArray)),(Sl3.v Sl3.nil),(Sl3.v Sl3.nil),(Sl3.v Sl3.nil)]),some (78,[(Value.int .i64 0),(Value.string (⟨#[]⟩:ByteArray)),(Value.bool false),(Sl3.v Sl3.nil),(Value.int .i64 0),(Sl3.v Sl3.nil),(Value.int .i64 0),(Value.int .i64 0),(Value.string (⟨#[]⟩:ByteArray)),(Sl3.v Sl3.nil),(Sl3.v Sl3.nil),(Sl3.v Sl3.nil)])]) true ?_
   refine DA.two 1 4 (by kernel_rfl) ?_ ?_
   ·refine DA.aL 1 (some 9) (.val (Value.int .i64 a0_0)) ([some (78,[(Value.int .i64 a0_0),(Value.string a0_1),(Value.bool a0_2),(Sl3.v a0_3),(Value.int .i64 a0_4),(Sl3.v a0_5),(Value.int .i64 a0_6),(Value.int .i64 a0_7),(Value.string a0_8),(Sl3.v a0_9),(Sl3.v a0_10),(Sl3.v a0_11)]),some (78,[(Value.int .i64 0),(Value.string (⟨#[]⟩:ByteArray)),(Value.bool false),(Sl3.v Sl3.nil),(Value.int .i64 0),(Sl3.v Sl3.nil),(Value.int .i64 0),(Value.int .i64 0),(Value.string (⟨#[]⟩:ByteArray)),(Sl3.v Sl3.nil),(Sl3.v Sl3.nil),(Sl3.v Sl3.nil)]),some (78,[(Value.int .i64 0),(Value.string (⟨#[]⟩:ByteArray)),(Value.bool false),(Sl3.v Sl3.nil),(Value.int .i64 0),(Sl3.v Sl3.nil),(Value.int .i64 0),(Value.int .i64 0),(Value.string (⟨#[]⟩:ByteArray)),(Sl3.v Sl3.nil),(Sl3.v Sl3.nil),(Sl3.v Sl3.nil)])]) true (DA.on 4 (DA.aCj 4 (some 12) false (v:=(Sl3.v x1)) 79 #[(Sl3.v a0_11)] (z1x hx_4) (DA.on 5 (DA.aH (H':=H2) 5 (some 13) (Value.agg #[(Value.int .i64 a0_0),(Value.string (⟨#[]⟩:ByteArray)),(Value.bool false),(Sl3.v Sl3.nil),(Value.int .i64 0),(Sl3.v Sl3.nil),(Value.int .i64 0),(Value.int .i64 0),(Value.string (⟨#[]⟩:ByteArray)),(Sl3.v Sl3.nil),(Sl3.v Sl3.nil),(Sl3.v x1)]) (by kernel_rfl) (DA.on 7 (DA.aL 7 none (.val undef) ([some (78,[(Value.int .i64 a0_0),(Value.string a0_1),(Value.bool a0_2),(Sl3.v a0_3),(Value.int .i64 a0_4),(Sl3.v a0_5),(Value.int .i64 a0_6),(Value.int .i64 a0_7),(Value.string a0_8),(Sl3.v a0_9),(Sl3.v a0_10),(Sl3.v a0_11)]),some (78,[(Value.int .i64 0),(Value.string (⟨#[]⟩:ByteArray)),(Value.bool false),(Sl3.v Sl3.nil),(Value.int .i64 0),(Sl3.v Sl3.nil),(Value.int .i64 0),(Value.int .i64 0),(Value.string (⟨#[]⟩:ByteArray)),(Sl3.v Sl3.nil),(Sl3.v Sl3.nil),(Sl3.v Sl3.nil)]),some (78,[(Value.int .i64 a0_0),(Value.string (⟨#[]⟩:ByteArray)),(Value.bool false),(Sl3.v Sl3.nil),(Value.int .i64 0),(Sl3.v Sl3.nil),(Value.int .i64 0),(Value.int .i64 0),(Value.string (⟨#[]⟩:ByteArray)),(Sl3.v Sl3.nil),(Sl3.v Sl3.nil),(Sl3.v x1)])]) false (DA.dn ?_)))))))
    exact fun a w hs=>jsN (hs.sb 3)
   ·refine DA.aCj 4 (some 12) true (v:=(Sl3.v x1)) 79 #[(Sl3.v a0_11)] (z1x hx_4) (DA.on 1 (DA.aL 1 (some 9) (.val (Value.int .i64 a0_0)) ([some (78,[(Value.int .i64 a0_0),(Value.string a0_1),(Value.bool a0_2),(Sl3.v a0_3),(Value.int .i64 a0_4),(Sl3.v a0_5),(Value.int .i64 a0_6),(Value.int .i64 a0_7),(Value.string a0_8),(Sl3.v a0_9),(Sl3.v a0_10),(Sl3.v a0_11)]),some (78,[(Value.int .i64 0),(Value.string (⟨#[]⟩:ByteArray)),(Value.bool false),(Sl3.v Sl3.nil),(Value.int .i64 0),(Sl3.v Sl3.nil),(Value.int .i64 0),(Value.int .i64 0),(Value.string (⟨#[]⟩:ByteArray)),(Sl3.v Sl3.nil),(Sl3.v Sl3.nil),(Sl3.v Sl3.nil)]),some (78,[(Value.int .i64 0),(Value.string (⟨#[]⟩:ByteArray)),(Value.bool false),(Sl3.v Sl3.nil),(Value.int .i64 0),(Sl3.v Sl3.nil),(Value.int .i64 0),(Value.int .i64 0),(Value.string (⟨#[]⟩:ByteArray)),(Sl3.v Sl3.nil),(Sl3.v Sl3.nil),(Sl3.v Sl3.nil)])]) false (DA.on 5 (DA.aH (H':=H2) 5 (some 13) (Value.agg #[(Value.int .i64 a0_0),(Value.string (⟨#[]⟩:ByteArray)),(Value.bool false),(Sl3.v Sl3.nil),(Value.int .i64 0),(Sl3.v Sl3.nil),(Value.int .i64 0),(Value.int .i64 0),(Value.string (⟨#[]⟩:ByteArray)),(Sl3.v Sl3.nil),(Sl3.v Sl3.nil),(Sl3.v x1)]) (by kernel_rfl) (DA.on 7 (DA.aL 7 none (.val undef) ([some (78,[(Value.int .i64 a0_0),(Value.string a0_1),(Value.bool a0_2),(Sl3.v a0_3),(Value.int .i64 a0_4),(Sl3.v a0_5),(Value.int .i64 a0_6),(Value.int .i64 a0_7),(Value.string a0_8),(Sl3.v a0_9),(Sl3.v a0_10),(Sl3.v a0_11)]),some (78,[(Value.int .i64 0),(Value.string (⟨#[]⟩:ByteArray)),(Value.bool false),(Sl3.v Sl3.nil),(Value.int .i64 0),(Sl3.v Sl3.nil),(Value.int .i64 0),(Value.int .i64 0),(Value.string (⟨#[]⟩:ByteArray)),(Sl3.v Sl3.nil),(Sl3.v Sl3.nil),(Sl3.v Sl3.nil)]),some (78,[(Value.int .i64 a0_0),(Value.string (⟨#[]⟩:ByteArray)),(Value.bool false),(Sl3.v Sl3.nil),(Value.int .i64 0),(Sl3.v Sl3.nil),(Value.int .i64 0),(Value.int .i64 0),(Value.string (⟨#[]⟩:ByteArray)),(Sl3.v Sl3.nil),(Sl3.v Sl3.nil),(Sl3.v x1)])]) false (DA.dn ?_)))))))
    exact fun a w hs=>jsN (hs.sb 3)
 ·refine WS.nxt ?_
  obtain ⟨⟨H3,w2_4,w2_5,w2_6,w2_7,w2_8,w2_9,w2_10,w2_11,w2_12,w2_13,w2_14,w2_15⟩,hx,h⟩:=bind_some h
  try dsimp only at h
  refine WS.sq ?_
  refine WS.join ([kL 1 0 0,kL 2 1 0,kL 3 2 0]) ([some (78,[(Value.int .i64 a0_0),(Value.string a0_1),(Value.bool a0_2),(Sl3.v a0_3),(Value.int .i64 a0_4),(Sl3.v a0_5),(Value.int .i64 a0_6),(Value.int .i64 a0_7),(Value.string a0_8),(Sl3.v a0_9),(Sl3.v a0_10),(Sl3.v a0_11)]),some (78,[(Value.int .i64 0),(Value.string (⟨#[]⟩:ByteArray)),(Value.bool false),(Sl3.v Sl3.nil),(Value.int .i64 0),(Sl3.v Sl3.nil),(Value.int .i64 0),(Value.int .i64 0),(Value.string (⟨#[]⟩:ByteArray)),(Sl3.v Sl3.nil),(Sl3.v Sl3.nil),(Sl3.v Sl3.nil)]),some (78,[(Value.int .i64 w2_4),(Value.string w2_5),(Value.bool w2_6),(Sl3.v w2_7),(Value.int .i64 w2_8),(Sl3.v w2_9),(Value.int .i64 w2_10),(Value.int .i64 w2_11),(Value.string w2_12),(Sl3.v w2_13),(Sl3.v w2_14),(Sl3.v w2_15)])]) H3 ?_ (fun a w hs=>WS.nxt ?_ a w hs)
  ·clear h; rename _=>h
   refine WS.bk 0 ?_
   obtain ⟨v14_16,hx,h⟩:=bind_some h
   refine WS.sq ?_
   refine WS.join ([kB 14 v14_16,kL 1 0 0,kL 2 1 0,kL 3 2 0]) ([some (78,[(Value.int .i64 a0_0),(Value.string a0_1),(Value.bool a0_2),(Sl3.v a0_3),(Value.int .i64 a0_4),(Sl3.v a0_5),(Value.int .i64 a0_6),(Value.int .i64 a0_7),(Value.string a0_8),(Sl3.v a0_9),(Sl3.v a0_10),(Sl3.v a0_11)]),some (78,[(Value.int .i64 0),(Value.string (⟨#[]⟩:ByteArray)),(Value.bool false),(Sl3.v Sl3.nil),(Value.int .i64 0),(Sl3.v Sl3.nil),(Value.int .i64 0),(Value.int .i64 0),(Value.string (⟨#[]⟩:ByteArray)),(Sl3.v Sl3.nil),(Sl3.v Sl3.nil),(Sl3.v Sl3.nil)]),some (78,[(Value.int .i64 a0_0),(Value.string (⟨#[]⟩:ByteArray)),(Value.bool false),(Sl3.v Sl3.nil),(Value.int .i64 0),(Sl3.v Sl3.nil),(Value.int .i64 0),(Value.int .i64 0),(Value.string (⟨#[]⟩:ByteArray)),(Sl3.v Sl3.nil),(Sl3.v Sl3.nil),(Sl3.v x1)])]) H2 ?_ (fun a w hs=>WS.nxt ?_ a w hs)
   ·clear h; rename _=>h
    refine WS.rg (RS.mS 4 [kB 18 (decide (a0_0≥11)),kB 17 (decide (a0_0≥11)),kI 16 a0_0,kL 15 0 0] ?_)
    rcases z0 h with ⟨hp,h⟩ | ⟨hp,h⟩
    ·refine RS.fx 18 true (decide_eq_true hp) (RS.mS 5 [kB 14 (decide (a0_0≤14)),kB 22 (decide (a0_0≤14)),kB 21 (decide (a0_0≤14)),kI 20 a0_0,kL 19 0 0] (RS.dn ?_))
     cases h
     exact fun a w hs=>(jsN (hs.sb 3))
    ·refine RS.fx 18 false (decide_eq_false hp) (RS.mS 5 [kB 14 false,kB 22 false,kU 21,kU 20,kU 19] (RS.dn ?_))
     cases h
     exact fun a w hs=>(jsN (hs.sb 3))
   ·clear hx
    rcases z0 h with ⟨hp,h⟩ | ⟨hp,h⟩
    ·refine WS.fx 14 true hp (WS.cT (WS.rg (RS.mL 4 [kL 25 2 1,kT 24 a0_1,kL 23 0 1] ([some (78,[(Value.int .i64 a0_0),(Value.string a0_1),(Value.bool a0_2),(Sl3.v a0_3),(Value.int .i64 a0_4),(Sl3.v a0_5),(Value.int .i64 a0_6),(Value.int .i64 a0_7),(Value.string a0_8),(Sl3.v a0_9),(Sl3.v a0_10),(Sl3.v a0_11)]),some (78,[(Value.int .i64 0),(Value.string (⟨#[]⟩:ByteArray)),(Value.bool false),(Sl3.v Sl3.nil),(Value.int .i64 0),(Sl3.v Sl3.nil),(Value.int .i64 0),(Value.int .i64 0),(Value.string (⟨#[]⟩:ByteArray)),(Sl3.v Sl3.nil),(Sl3.v Sl3.nil),(Sl3.v Sl3.nil)]),some (78,[(Value.int .i64 a0_0),(Value.string a0_1),(Value.bool false),(Sl3.v Sl3.nil),(Value.int .i64 0),(Sl3.v Sl3.nil),(Value.int .i64 0),(Value.int .i64 0),(Value.string (⟨#[]⟩:ByteArray)),(Sl3.v Sl3.nil),(Sl3.v Sl3.nil),(Sl3.v x1)])]) (RS.dn ?_))))
     cases h
     exact fun a w hs=>bkN ((jsN (hs.sb 3)))
    ·refine WS.fx 14 false (b_not hp) (WS.cF (WS.sq (WS.rg (RS.mS 4 [kB 26 (decide (a0_0=20)),kB 29 (decide (a0_0=20)),kI 28 a0_0,kL 27 0 0] (RS.dn (WS.nxt ?_))))))
     rcases z0 h with ⟨hp,h⟩ | ⟨hp,h⟩
     ·refine WS.fx 26 true (decide_eq_true hp) (WS.cT ?_)
      cases h
     ·refine WS.fx 26 false (decide_eq_false hp) (WS.cF (WS.sq (WS.rg (RS.mS 4 [kB 34 (decide (a0_0=40)),kB 37 (decide (a0_0=40)),kI 36 a0_0,kL 35 0 0] (RS.dn (WS.nxt ?_))))))
      rcases z0 h with ⟨hp,h⟩ | ⟨hp,h⟩
      ·refine WS.fx 34 true (decide_eq_true hp) (WS.cT ?_)
       cases h
      ·refine WS.fx 34 false (decide_eq_false hp) (WS.cF (WS.sq (WS.rg (RS.mS 4 [kB 49 (decide (a0_0=34)),kB 52 (decide (a0_0=34)),kI 51 a0_0,kL 50 0 0] (RS.dn (WS.nxt ?_))))))
       rcases z0 h with ⟨hp,h⟩ | ⟨hp,h⟩
       ·refine WS.fx 49 true (decide_eq_true hp) (WS.cT ?_)
        cases h
       ·refine WS.fx 49 false (decide_eq_false hp) (WS.cF (WS.sk ?_))
        cases h
        exact fun a w hs=>bkN ((jsN (hs.sb 3)))
  ·clear hx
   refine WS.sq (WS.sq (WS.rg (RS.mS 2 [kI 59 a0_0,kL 58 0 0] ?_)))
   obtain ⟨⟨x17,x18,x19,x20⟩,hx,h⟩:=bind_some h
   try dsimp only at h
   refine RS.cl (some 60) (v:=(Value.tuple #[(Value.int .i64 x17),(Value.int .i64 x18),(Value.int .i64 x19),(Value.bool x20)])) 81 #[(Value.int .i64 a0_0)] (zi1 hx) (RS.mS 9 [kB 7 x20,kI 6 x19,kI 5 x18,kI 4 x17,kB 64 x20,kI 63 x19,kI 62 x18,kI 61 x17,(57,.val (Value.tuple #[(Value.int .i64 x17),(Value.int .i64 x18),(Value.int .i64 x19),(Value.bool x20)]))] (RS.dn (WS.nxt (WS.sq (WS.rg (RS.mS 2 [kB 66 (decide (x19 > 0)),kI 65 x19] (RS.dn (WS.nxt ?_))))))))
   rcases z0 h with ⟨hp,h⟩ | ⟨hp,h⟩
   ·refine WS.fx 66 true (decide_eq_true hp) (WS.cT ?_)
    cases h
   ·refine WS.fx 66 false (decide_eq_false hp) (WS.cF (WS.sk (WS.nxt (WS.sq (WS.rg (RS.mL 2 [kA 71 #[(Value.int .i64 w2_4),(Value.string w2_5),(Value.bool w2_6),(Sl3.v w2_7),(Value.int .i64 w2_8),(Sl3.v w2_9),(Value.int .i64 w2_10),(Value.int .i64 w2_11),(Value.string w2_12),(Sl3.v w2_13),(Sl3.v w2_14),(Sl3.v w2_15)]] ([some (78,[(Value.int .i64 a0_0),(Value.string a0_1),(Value.bool a0_2),(Sl3.v a0_3),(Value.int .i64 a0_4),(Sl3.v a0_5),(Value.int .i64 a0_6),(Value.int .i64 a0_7),(Value.string a0_8),(Sl3.v a0_9),(Sl3.v a0_10),(Sl3.v a0_11)]),some (78,[(Value.int .i64 w2_4),(Value.string w2_5),(Value.bool w2_6),(Sl3.v w2_7),(Value.int .i64 w2_8),(Sl3.v w2_9),(Value.int .i64 w2_10),(Value.int .i64 w2_11),(Value.string w2_12),(Sl3.v w2_13),(Sl3.v w2_14),(Sl3.v w2_15)]),some (78,[(Value.int .i64 w2_4),(Value.string w2_5),(Value.bool w2_6),(Sl3.v w2_7),(Value.int .i64 w2_8),(Sl3.v w2_9),(Value.int .i64 w2_10),(Value.int .i64 w2_11),(Value.string w2_12),(Sl3.v w2_13),(Sl3.v w2_14),(Sl3.v w2_15)])]) (RS.dn (WS.nxt (WS.rt ?_)))))))))
    cases h
    exact fun a w hs=>rtR (rS hs)
end Go.Proofs.YtpcckomdlmpckaaGreatDoor
namespace Go.Proofs.YtpcckomdlmpckaaGreatDoor
open Go Go.Abs
set_option maxRecDepth 100000
noncomputable def B53:Code:=(Tryz.f53.body).getD .skip
def zge:(Sl3×AH)→Value
 | (r0,_)=>(Sl3.v r0)
def zi6 (_:AH):(Sl3×AH)→AH:=fun r=>r.2
noncomputable def z7i (_L:LC) (_m:Nat) (H:AH) (a0:Sl3):Option (Sl3×AH) :=
 if (isNilS a0)=true then
  some (Sl3.nil,H)
 else
  none
theorem zh9 {L:LC} {m:Nat} {H:AH} {a0:Sl3} {r:(Sl3×AH)} (h:z7i L m H a0=some r) :
  CallS Tryz.prog (NE.plain 148) m 53 #[(Sl3.v a0)] H (zge r) (zi6 H r):=by
 refine CallS.mk (args:=[(Sl3.v a0)]) Tryz.func53 (B:=B53) (by kernel_rfl) (fun E _=>?_)
 unfold z7i at h
 refine WS.sq (WS.rg (RS.mS 1 [kS 2 Sl3.nil] (RS.dn (WS.nxt (WS.sq (WS.sq (WS.rg (RS.mS 1 [kS 3 a0] (RS.o (H':=H) (some 4) (Value.bool (isNilS a0)) (z9a (t:=72) (e:=139) (u:=72) (x:=.tmp 3) (y:=.const (Sl3.v Sl3.nil)) (s:=a0) (by kernel_rfl) (by kernel_rfl) (by kernel_rfl) (by kernel_rfl)) ?_)))))))))
 refine RS.dn (WS.nxt ?_)
 rcases z0 h with ⟨hp,h⟩ | ⟨hp,h⟩
 ·refine WS.fx 4 true hp (WS.cT (WS.sq (WS.rg (RS.mS 1 [kS 2 Sl3.nil] (RS.dn (WS.nxt (WS.rt ?_)))))))
  cases h
  exact fun a w hs=>sqR (rtR (rS hs))
 ·refine WS.fx 4 false (b_not hp) (WS.cF ?_)
  cases h
noncomputable def B19:Code:=(Tryz.f19.body).getD .skip
def z4c:(Int×ByteArray×Bool×Sl3×Int×Sl3×Int×Int×ByteArray×Sl3×Sl3×Sl3×Bool×AH)→Value
 | (r0,r1,r2,r3,r4,r5,r6,r7,r8,r9,r10,r11,r12,_)=>(Value.tuple #[(Value.agg #[(Value.int .i64 r0),(Value.string r1),(Value.bool r2),(Sl3.v r3),(Value.int .i64 r4),(Sl3.v r5),(Value.int .i64 r6),(Value.int .i64 r7),(Value.string r8),(Sl3.v r9),(Sl3.v r10),(Sl3.v r11)]),(Value.bool r12)])
def z4x (_:AH):(Int×ByteArray×Bool×Sl3×Int×Sl3×Int×Int×ByteArray×Sl3×Sl3×Sl3×Bool×AH)→AH:=fun r=>r.2.2.2.2.2.2.2.2.2.2.2.2.2
noncomputable def z20 (L:LC) (m:Nat) (H:AH) (a0:Option Addr) (a1:Int):Option (Int×ByteArray×Bool×Sl3×Int×Sl3×Int×Int×ByteArray×Sl3×Sl3×Sl3×Bool×AH) :=
 Option.bind (z17 L H a0) fun x1 =>
 if x1=true then
  if a1<0 then
   none
  else
   Option.bind a0 fun q2 =>
   Option.bind (rd deSl H (Addr.add q2 3)) fun x3 =>
   if a1≥(x3.n:Int) then
    none
   else
    Option.bind (rd deSl H (Addr.add q2 3)) fun x4 =>
    Option.bind (idxA 16 x4 a1) fun p5 =>
    Option.bind (rd (deI .i64) H (Addr.add (Addr.add p5 0) 0)) fun x6_0 =>
    Option.bind (rd deS H (Addr.add (Addr.add p5 0) 1)) fun x6_1 =>
    Option.bind (rd deB H (Addr.add (Addr.add p5 0) 2)) fun x6_2 =>
    Option.bind (rd deSl H (Addr.add (Addr.add p5 0) 3)) fun x6_3 =>
    Option.bind (rd (deI .i64) H (Addr.add (Addr.add p5 0) 4)) fun x6_4 =>
    Option.bind (rd deSl H (Addr.add (Addr.add p5 0) 5)) fun x6_5 =>
    Option.bind (rd (deI .i64) H (Addr.add (Addr.add p5 0) 6)) fun x6_6 =>
    Option.bind (rd (deI .i64) H (Addr.add (Addr.add p5 0) 7)) fun x6_7 =>
    Option.bind (rd deS H (Addr.add (Addr.add p5 0) 8)) fun x6_8 =>
    Option.bind (rd deSl H (Addr.add (Addr.add p5 0) 9)) fun x6_9 =>
    Option.bind (rd deSl H (Addr.add (Addr.add p5 0) 10)) fun x6_10 =>
    Option.bind (rd deSl H (Addr.add (Addr.add p5 0) 11)) fun x6_11 =>
    Option.bind (zb4 L m H x6_0 x6_1 x6_2 x6_3 x6_4 x6_5 x6_6 x6_7 x6_8 x6_9 x6_10 x6_11) fun (x7_0,x7_1,x7_2,x7_3,x7_4,x7_5,x7_6,x7_7,x7_8,x7_9,x7_10,x7_11,H8) =>
    Option.bind (z7i L m H8 x7_3) fun (x9,H10) =>
    some (x7_0,x7_1,x7_2,x9,x7_4,x7_5,x7_6,x7_7,x7_8,x7_9,x7_10,x7_11,true,H10)
 else
  none
theorem z2x {L:LC} {m:Nat} {H:AH} {a0:Option Addr} {a1:Int} {r:(Int×ByteArray×Bool×Sl3×Int×Sl3×Int×Int×ByteArray×Sl3×Sl3×Sl3×Bool×AH)} (h:z20 L m H a0 a1=some r) :
  CallS Tryz.prog (NE.plain 148) m 19 #[(Value.pointer a0),(Value.int .i64 a1)] H (z4c r) (z4x H r):=by
 refine CallS.mk (args:=[(Value.pointer a0),(Value.int .i64 a1)]) Tryz.func19 (B:=B19) (by kernel_rfl) (fun E _=>?_)
 unfold z20 at h
 refine WS.sq (WS.rg (RS.mL 2 [kB 5 false,kL 4 0 0] ([some (78,[(Value.int .i64 0),(Value.string (⟨#[]⟩:ByteArray)),(Value.bool false),(Sl3.v Sl3.nil),(Value.int .i64 0),(Sl3.v Sl3.nil),(Value.int .i64 0),(Value.int .i64 0),(Value.string (⟨#[]⟩:ByteArray)),(Sl3.v Sl3.nil),(Sl3.v Sl3.nil),(Sl3.v Sl3.nil)])]) (RS.dn (WS.nxt (WS.sq (WS.sq (WS.rg (RS.mS 1 [(7,.val (Value.pointer a0))] ?_))))))))
 obtain ⟨x1,hx,h⟩:=bind_some h
 refine RS.cl (some 8) (v:=(Value.bool x1)) 46 #[(Value.pointer a0)] (z1c hx) (RS.mS 2 [kB 10 (!x1),kB 9 (!x1)] ?_)
 rcases z0 h with ⟨hp,h⟩ | ⟨hp,h⟩
 ·refine RS.fx 10 false (nb_not hp) (RS.mS 4 [kB 14 (decide (a1<0)),kB 13 (decide (a1<0)),kB 12 (decide (a1<0)),kI 11 a1] ?_)
  rcases z0 h with ⟨hp,h⟩ | ⟨hp,h⟩
  ·refine RS.fx 14 true (decide_eq_true hp) ?_
   cases h
  ·refine RS.fx 14 false (decide_eq_false hp) (RS.mS 2 [(16,.val (Value.pointer a0)),kI 15 a1] ?_)
   obtain ⟨q2,hx,hq2⟩:=bind_some h
   subst hx
   have h:=hq2
   refine RS.mS 2 [(18,.val (Value.pointer (some (Addr.add q2 3)))),kP 17 q2] ?_
   obtain ⟨x3,hx,h⟩:=bind_some h
   refine RS.ld 19 31 (.tmp 18) (z1 hx z3) (RS.mS 3 [kB 22 (decide (a1≥(x3.n:Int))),kB 21 (decide (a1≥(x3.n:Int))),kI 20 (x3.n:Int)] (RS.dn (WS.nxt ?_)))
   rcases z0 h with ⟨hp,h⟩ | ⟨hp,h⟩
   ·refine WS.fx 22 true (decide_eq_true hp) (WS.cT ?_)
    cases h
   ·refine WS.fx 22 false (decide_eq_false hp) (WS.cF (WS.sk (WS.nxt (WS.sq (WS.rg (RS.mS 3 [(26,.val (Value.pointer (some (Addr.add q2 3)))),kP 25 q2,kP 24 q2] ?_))))))
    obtain ⟨x4,hx,h⟩:=bind_some h
    refine RS.ld 27 31 (.tmp 26) (z1 hx z3) (RS.mS 1 [kI 28 a1] ?_)
    obtain ⟨p5,hx,h⟩:=bind_some h
    refine RS.ix 29 31 137 (.tmp 27) (.tmp 28) hx (RS.mS 1 [(30,.val (Value.pointer (some (Addr.add p5 0))))] ?_)
    obtain ⟨x6_0,hx0,h⟩:=bind_some h
    obtain ⟨x6_1,hx1,h⟩:=bind_some h
    obtain ⟨x6_2,hx2,h⟩:=bind_some h
    obtain ⟨x6_3,hx3,h⟩:=bind_some h
    obtain ⟨x6_4,hx4,h⟩:=bind_some h
    obtain ⟨x6_5,hx5,h⟩:=bind_some h
    obtain ⟨x6_6,hx6,h⟩:=bind_some h
    obtain ⟨x6_7,hx7,h⟩:=bind_some h
    obtain ⟨x6_8,hx8,h⟩:=bind_some h
    obtain ⟨x6_9,hx9,h⟩:=bind_some h
    obtain ⟨x6_10,hx10,h⟩:=bind_some h
    obtain ⟨x6_11,hx11,h⟩:=bind_some h
    refine RS.la 31 78 (.tmp 30) 12 (z2 (z1 hx0 z5) (z2 (z1 hx1 z9) (z2 (z1 hx2 zdz) (z2 (z1 hx3 z3) (z2 (z1 hx4 z5) (z2 (z1 hx5 z3) (z2 (z1 hx6 z5) (z2 (z1 hx7 z5) (z2 (z1 hx8 z9) (z2 (z1 hx9 z3) (z2 (z1 hx10 z3) (z2 (z1 hx11 z3) zd)))))))))))) ?_
    obtain ⟨⟨x7_0,x7_1,x7_2,x7_3,x7_4,x7_5,x7_6,x7_7,x7_8,x7_9,x7_10,x7_11,H8⟩,hx,h⟩:=bind_some h
    try dsimp only at h
    refine RS.cl (some 32) (v:=(Value.agg #[(Value.int .i64 x7_0),(Value.string x7_1),(Value.bool x7_2),(Sl3.v x7_3),(Value.int .i64 x7_4),(Sl3.v x7_5),(Value.int .i64 x7_6),(Value.int .i64 x7_7),(Value.string x7_8),(Sl3.v x7_9),(Sl3.v x7_10),(Sl3.v x7_11)])) 52 #[(Value.agg #[(Value.int .i64 x6_0),(Value.string x6_1),(Value.bool x6_2),(Sl3.v x6_3),(Value.int .i64 x6_4),(Sl3.v x6_5),(Value.int .i64 x6_6),(Value.int .i64 x6_7),(Value.string x6_8),(Sl3.v x6_9),(Sl3.v x6_10),(Sl3.v x6_11)])] (zg5 hx) (RS.mL 2 [kL 6 1 0] ([some (78,[(Value.int .i64 0),(Value.string (⟨#[]⟩:ByteArray)),(Value.bool false),(Sl3.v Sl3.nil),(Value.int .i64 0),(Sl3.v Sl3.nil),(Value.int .i64 0),(Value.int .i64 0),(Value.string (⟨#[]⟩:ByteArray)),(Sl3.v Sl3.nil),(Sl3.v Sl3.nil),(Sl3.v Sl3.nil)]),some (78,[(Value.int .i64 x7_0),(Value.string x7_1),(Value.bool x7_2),(Sl3.v x7_3),(Value.int .i64 x7_4),(Sl3.v x7_5),(Value.int .i64 x7_6),(Value.int .i64 x7_7),(Value.string x7_8),(Sl3.v x7_9),(Sl3.v x7_10),(Sl3.v x7_11)])]) (RS.dn (WS.nxt (WS.sq (WS.rg (RS.mS 3 [kS 35 x7_3,kL 34 1 3,kL 33 1 2] ?_))))))
    obtain ⟨⟨x9,H10⟩,hx,h⟩:=bind_some h
    try dsimp only at h
    refine RS.cl (some 36) (v:=(Sl3.v x9)) 53 #[(Sl3.v x7_3)] (zh9 hx) (RS.mL 3 [kL 38 1 3,kL 37 1 2] ([some (78,[(Value.int .i64 0),(Value.string (⟨#[]⟩:ByteArray)),(Value.bool false),(Sl3.v Sl3.nil),(Value.int .i64 0),(Sl3.v Sl3.nil),(Value.int .i64 0),(Value.int .i64 0),(Value.string (⟨#[]⟩:ByteArray)),(Sl3.v Sl3.nil),(Sl3.v Sl3.nil),(Sl3.v Sl3.nil)]),some (78,[(Value.int .i64 x7_0),(Value.string x7_1),(Value.bool x7_2),(Sl3.v x9),(Value.int .i64 x7_4),(Sl3.v x7_5),(Value.int .i64 x7_6),(Value.int .i64 x7_7),(Value.string x7_8),(Sl3.v x7_9),(Sl3.v x7_10),(Sl3.v x7_11)])]) (RS.dn (WS.nxt (WS.sq (WS.rg (RS.mL 3 [kB 5 true,kA 39 #[(Value.int .i64 x7_0),(Value.string x7_1),(Value.bool x7_2),(Sl3.v x9),(Value.int .i64 x7_4),(Sl3.v x7_5),(Value.int .i64 x7_6),(Value.int .i64 x7_7),(Value.string x7_8),(Sl3.v x7_9),(Sl3.v x7_10),(Sl3.v x7_11)]] ([some (78,[(Value.int .i64 x7_0),(Value.string x7_1),(Value.bool x7_2),(Sl3.v x9),(Value.int .i64 x7_4),(Sl3.v x7_5),(Value.int .i64 x7_6),(Value.int .i64 x7_7),(Value.string x7_8),(Sl3.v x7_9),(Sl3.v x7_10),(Sl3.v x7_11)]),some (78,[(Value.int .i64 x7_0),(Value.string x7_1),(Value.bool x7_2),(Sl3.v x9),(Value.int .i64 x7_4),(Sl3.v x7_5),(Value.int .i64 x7_6),(Value.int .i64 x7_7),(Value.string x7_8),(Sl3.v x7_9),(Sl3.v x7_10),(Sl3.v x7_11)])]) (RS.dn (WS.nxt (WS.rt ?_)))))))))
    cases h
    exact fun a w hs=>rtR (rS hs)
 ·refine RS.fx 10 true (zi hp) ?_
  cases h
noncomputable def B71:Code:=(Tryz.f71.body).getD .skip
def z9g:AH→Value
 | _=>(Value.tuple #[])
def zau (_:AH):AH→AH:=fun r=>r
noncomputable def z61 (_L:LC) (m:Nat) (a0:Sl3):(AH×Int×Int)→Option (Lp (AH×Int×Int) AH):=fun (H1,v2_2,v3_3) =>
 if v2_2<v3_3 then
  Option.bind (idxA 1 a0 v3_3) fun p4 =>
  Option.bind (rd (deI .i64) H1 p4) fun x5 =>
  Option.bind (idxA 1 a0 v2_2) fun p6 =>
  Option.bind (rd (deI .i64) H1 p6) fun x7 =>
  Option.bind (idxA 1 a0 v2_2) fun p8 =>
  Option.bind (H1.setCell m p8 (Value.int .i64 x5)) fun H9 =>
  Option.bind (idxA 1 a0 v3_3) fun p10 =>
  Option.bind (H9.setCell m p10 (Value.int .i64 x7)) fun H11 =>
  some (.next (H11,(IntKind.i64.wrap (v2_2+1)),(IntKind.i64.wrap (v3_3 - 1))))
 else
  some (.brk (H1,v2_2,v3_3))
def zfc (_L:LC) (_m:Nat) (a0:Sl3):(AH×Int×Int)→KN×Lcs:=fun (_,v2_2,v3_3)=>([kI 2 v2_2,kI 3 v3_3,kS 0 a0],[])
noncomputable def z8x (L:LC) (m:Nat) (H:AH) (a0:Sl3):Option AH :=
 Option.bind (L.run (z61 L m a0) (H,0,(IntKind.i64.wrap ((a0.n:Int) - 1)))) fun o=>match o with
 | .inl (H12,_,_) =>
  some H12
 | .inr r=>some r
theorem z87 {E H L m a0} :LoopF Tryz.prog (NE.plain 148) m E Tryz.f71 ((cfst (csnd B71))) (zfc L m a0) (fun s=>s.1) 0 z9g (zau H) (z61 L m a0):=by
 rintro ⟨H1,v2_2,v3_3⟩ o h
 unfold z61 at h
 try dsimp only at h
 refine WS.sq (WS.sq (WS.rg (RS.mS 3 [kB 9 (decide (v2_2<v3_3)),kI 8 v3_3,kI 7 v2_2] (RS.dn (WS.nxt ?_)))))
 rcases z0 h with ⟨hp,h⟩ | ⟨hp,h⟩
 ·refine WS.fx 9 true (decide_eq_true hp) (WS.cT (WS.sk (WS.nxt (WS.sq (WS.bk 1 ?_)))))
  refine WS.dr [4,5,6,7,8,9,10,11] [0,0,0,0,0,0,48,112,0,0,768,1792,4083,8179,16383,32767] 16 (fun hcl=>?_)
  refine DA.tK 4 (some 18) (Sl3.v a0) (DA.tK 5 (some 19) (Value.int .i64 v3_3) ?_)
  obtain ⟨p4,hx,h⟩:=bind_some h
  refine DA.tD 6 (some 20) (Value.pointer (some p4)) (Abs.det_idx (s:=a0) (k:=.i64) (t:=41) (e:=3) (x:=.tmp 18) (y:=.tmp 19) (by kernel_rfl) (by kernel_rfl) (by kernel_rfl) (by kernel_rfl) (by kernel_rfl) hx) ?_
  obtain ⟨x5,hx,h⟩:=bind_some h
  refine DA.tD 7 (some 21) (Value.int .i64 x5) (Abs.det_load (t:=3) (x:=.tmp 20) (a:=p4) (by kernel_rfl) (by kernel_rfl) (by kernel_rfl) (by kernel_rfl) (z1 hx z5)) (DA.tK 8 (some 22) (Sl3.v a0) (DA.tK 9 (some 23) (Value.int .i64 v2_2) ?_))
  obtain ⟨p6,hx,h⟩:=bind_some h
  refine DA.tD 10 (some 24) (Value.pointer (some p6)) (Abs.det_idx (s:=a0) (k:=.i64) (t:=41) (e:=3) (x:=.tmp 22) (y:=.tmp 23) (by kernel_rfl) (by kernel_rfl) (by kernel_rfl) (by kernel_rfl) (by kernel_rfl) hx) ?_
  obtain ⟨x7,hx,h⟩:=bind_some h
  refine DA.tD 11 (some 25) (Value.int .i64 x7) (Abs.det_load (t:=3) (x:=.tmp 24) (a:=p6) (by kernel_rfl) (by kernel_rfl) (by kernel_rfl) (by kernel_rfl) (z1 hx z5)) (DA.tP 0 (some 14) (Sl3.v a0) (DA.tP 1 (some 15) (Value.int .i64 v2_2) (DA.tP 2 (some 16) (Sl3.v a0) (DA.tP 3 (some 17) (Value.int .i64 v3_3) ?_))))
  obtain ⟨p8,hx,h⟩:=bind_some h
  refine DA.tPx 12 (some 26) (Value.pointer (some p8)) (Abs.det_idx (s:=a0) (k:=.i64) (t:=41) (e:=3) (x:=.tmp 14) (y:=.tmp 15) (by kernel_rfl) (by kernel_rfl) (by kernel_rfl) (by kernel_rfl) (by kernel_rfl) hx) ?_
  obtain ⟨H9,hx,h⟩:=bind_some h
  refine DA.on 13 (DA.aH (H':=H9) 13 none undef (Abs.run_store1 (t:=3) (x:=.tmp 26) (y:=.tmp 21) (a:=p8) (v:=(Value.int .i64 x5)) (by kernel_rfl) (by kernel_rfl) (by kernel_rfl) (by kernel_rfl) (by kernel_rfl) hx) ?_)
  obtain ⟨p10,hx,h⟩:=bind_some h
  refine DA.tPx 14 (some 27) (Value.pointer (some p10)) (Abs.det_idx (s:=a0) (k:=.i64) (t:=41) (e:=3) (x:=.tmp 16) (y:=.tmp 17) (by kernel_rfl) (by kernel_rfl) (by kernel_rfl) (by kernel_rfl) (by kernel_rfl) hx) ?_
  obtain ⟨H11,hx,h⟩:=bind_some h
  refine DA.on 15 (DA.aH (H':=H11) 15 none undef (Abs.run_store1 (t:=3) (x:=.tmp 27) (y:=.tmp 25) (a:=p10) (v:=(Value.int .i64 x7)) (by kernel_rfl) (by kernel_rfl) (by kernel_rfl) (by kernel_rfl) (by kernel_rfl) hx) (DA.dn ?_))
  refine fun a w hs=>bkN ((WS.nxt ?_ a w hs))
  refine WS.rg (RS.mS 6 [kI 3 (IntKind.i64.wrap (v3_3 - 1)),kI 2 (IntKind.i64.wrap (v2_2+1)),kI 13 (IntKind.i64.wrap (v3_3 - 1)),kI 12 v3_3,kI 11 (IntKind.i64.wrap (v2_2+1)),kI 10 v2_2] (RS.dn ?_))
  cases h
  exact fun a w hs=>lsN rfl (hs.sb 0)
 ·refine WS.fx 9 false (decide_eq_false hp) (WS.cF (WS.ex 0 ?_))
  cases h
  exact fun a w hs=>sqE (lsB rfl (hs.sb 0))
theorem zio {L:LC} {m:Nat} {H:AH} {a0:Sl3} {r:AH} (h:z8x L m H a0=some r) :
  CallS Tryz.prog (NE.plain 148) m 71 #[(Sl3.v a0)] H (z9g r) (zau H r):=by
 refine CallS.mk (args:=[(Sl3.v a0)]) Tryz.func71 (B:=B71) (by kernel_rfl) (fun E _=>?_)
 unfold z8x at h
 refine WS.sq (WS.rg (RS.mS 5 [kI 3 (IntKind.i64.wrap ((a0.n:Int) - 1)),kI 2 0,kI 6 (IntKind.i64.wrap ((a0.n:Int) - 1)),kI 5 (a0.n:Int),kS 4 a0] (RS.dn (WS.nxt (WS.bk 0 ?_)))))
 obtain ⟨o,hl,h⟩:=bind_some h
 rcases o with ⟨H12,v2_13,v3_14⟩ | r
 ·try dsimp only at h
  refine WS.lI (z87 (L:=L) (E:=E) (m:=m) (H:=H)) (L.ok hl) 0 ?_
  clear hl
  cases h
  exact fun a w hs=>bkE (rtN (rS hs))
 ·try dsimp only at h
  refine WS.lR (z87 (L:=L) (E:=E) (m:=m) (H:=H)) (L.ok hl) 0 ?_
  cases h
  exact fun a w hq=>bkR (rtR hq)
noncomputable def B41:Code:=(Tryz.f41.body).getD .skip
def z27:(Sl3×AH)→Value
 | (r0,_)=>(Sl3.v r0)
def z2j (_:AH):(Sl3×AH)→AH:=fun r=>r.2
noncomputable def z4k (_L:LC) (m:Nat) (a1:Sl3) (_q2:Addr) (s4:Sl3):(AH×Int)→Option (Lp (AH×Int) (Sl3×AH)):=fun (H6,v23_7) =>
 if v23_7<(a1.n:Int) then
  Option.bind (idxA 1 a1 v23_7) fun p8 =>
  Option.bind (rd (deI .i64) H6 p8) fun x9 =>
  if x9≥0 then
   if x9<(s4.n:Int) then
    Option.bind (idxA 1 s4 x9) fun p10 =>
    Option.bind (H6.setCell m p10 (Value.bool true)) fun H11 =>
    some (.next (H11,(IntKind.i64.wrap (v23_7+1))))
   else
    none
  else
   none
 else
  some (.brk (H6,v23_7))
def zdi (_L:LC) (_m:Nat) (a1:Sl3) (q2:Addr) (s4:Sl3):(AH×Int)→KN×Lcs:=fun (_,v23_7)=>([kI 23 v23_7,kP 0 q2,kS 5 s4,kS 21 a1,kI 22 (a1.n:Int)],[])
noncomputable def z4j (_L:LC) (m:Nat) (_q2:Addr) (s4:Sl3) (_v9_16:Int) (_s21 x25:Sl3):(AH×Int)→Option (Lp (AH×Int) (Sl3×AH)):=fun (H26,v65_27) =>
 if v65_27<(x25.n:Int) then
  Option.bind (idxA 1 x25 v65_27) fun p28 =>
  Option.bind (rd (deI .i64) H26 p28) fun x29 =>
  Option.bind (idxA 1 s4 x29) fun p30 =>
  Option.bind (H26.setCell m p30 (Value.bool true)) fun H31 =>
  some (.next (H31,(IntKind.i64.wrap (v65_27+1))))
 else
  some (.brk (H26,v65_27))
def zdj (_L:LC) (_m:Nat) (q2:Addr) (s4:Sl3) (v9_16:Int) (s21 x25:Sl3):(AH×Int)→KN×Lcs:=fun (_,v65_27)=>([kI 65 v65_27,kP 0 q2,kS 5 s4,kS 8 s21,kI 9 v9_16,kS 63 x25,kI 64 (x25.n:Int)],[])
noncomputable def z4g (L:LC) (m:Nat) (q2:Addr) (s4:Sl3):(AH×Sl3×Int)→Option (Lp (AH×Sl3×Int) (Sl3×AH)):=fun (H14,v8_15,v9_16) =>
 if v9_16≥0 then
  Option.bind (idxA 1 s4 v9_16) fun p17 =>
  Option.bind (rd deB H14 p17) fun x18 =>
  if x18=true then
   Option.bind (newR 3 1 #[(Value.int .i64 v9_16)] H14) fun (s19,H20) =>
   Option.bind (appS m 3 1 8 H20 v8_15 s19) fun (s21,H22) =>
   Option.bind (rd deSl H22 (Addr.add q2 3)) fun x23 =>
   Option.bind (idxA 16 x23 v9_16) fun p24 =>
   Option.bind (rd deSl H22 (Addr.add (Addr.add p24 0) 11)) fun x25 =>
   Option.bind (L.run (z4j L m q2 s4 v9_16 s21 x25) (H22,0)) fun o=>match o with
   | .inl (H32,_) =>
    some (.next (H32,s21,(IntKind.i64.wrap (v9_16 - 1))))
   | .inr r=>some (.ret r)
  else
   none
 else
  some (.brk (H14,v8_15,v9_16))
def zdo (_L:LC) (_m:Nat) (q2:Addr) (s4:Sl3):(AH×Sl3×Int)→KN×Lcs:=fun (_,v8_15,v9_16)=>([kS 8 v8_15,kI 9 v9_16,kP 0 q2,kS 5 s4],[])
noncomputable def z6l (L:LC) (m:Nat) (H:AH) (a0:Option Addr) (a1:Sl3):Option (Sl3×AH) :=
 Option.bind (z17 L H a0) fun x1 =>
 if x1=true then
  Option.bind a0 fun q2 =>
  Option.bind (rd deSl H (Addr.add q2 3)) fun x3 =>
  Option.bind (mkS 4 1 1 #[(Value.bool false)] H (x3.n:Int) (x3.n:Int)) fun (s4,H5) =>
  Option.bind (L.run (z4k L m a1 q2 s4) (H5,0)) fun o=>match o with
  | .inl (H12,_) =>
   Option.bind (L.run (z4g L m q2 s4) (H12,Sl3.nil,(IntKind.i64.wrap ((s4.n:Int) - 1)))) fun o=>match o with
   | .inl (H34,v8_35,_) =>
    Option.bind (z8x L m H34 v8_35) fun H37 =>
    some (v8_35,H37)
   | .inr r=>some r
  | .inr r=>some r
 else
  none
theorem z68 {E H L m a1 q2 s4} :LoopF Tryz.prog (NE.plain 148) m E Tryz.f41 ((cfst (csnd (cfst (csnd (csnd (csnd B41))))))) (zdi L m a1 q2 s4) (fun s=>s.1) 0 z27 (z2j H) (z4k L m a1 q2 s4):=by
 rintro ⟨H6,v23_7⟩ o h
 unfold z4k at h
 try dsimp only at h
 refine WS.sq (WS.rg (RS.mS 1 [kB 24 (decide (v23_7<(a1.n:Int)))] (RS.dn (WS.nxt (WS.sq ?_)))))
 rcases z0 h with ⟨hp,h⟩ | ⟨hp,h⟩
 ·refine WS.fx 24 true (decide_eq_true hp) (WS.cT (WS.sk (WS.nxt (WS.sq (WS.bk 1 (WS.sq (WS.rg ?_)))))))
  obtain ⟨p8,hx,h⟩:=bind_some h
  refine RS.ix 25 41 3 (.tmp 21) (.tmp 23) hx ?_
  obtain ⟨x9,hx,h⟩:=bind_some h
  refine RS.ld 26 3 (.tmp 25) (z1 hx z5) (RS.mS 1 [kI 7 x9] (RS.dn (WS.nxt (WS.sq (WS.rg (RS.mS 3 [kB 29 (decide (x9≥0)),kB 28 (decide (x9≥0)),kI 27 x9] ?_))))))
  rcases z0 h with ⟨hp,h⟩ | ⟨hp,h⟩
  ·refine RS.fx 29 true (decide_eq_true hp) (RS.mS 5 [kB 34 (decide (x9<(s4.n:Int))),kB 33 (decide (x9<(s4.n:Int))),kI 32 (s4.n:Int),kS 31 s4,kI 30 x9] (RS.dn (WS.nxt ?_)))
   rcases z0 h with ⟨hp,h⟩ | ⟨hp,h⟩
   ·refine WS.fx 34 true (decide_eq_true hp) (WS.cT (WS.rg (RS.mS 2 [kI 36 x9,kS 35 s4] ?_)))
    obtain ⟨p10,hx,h⟩:=bind_some h
    refine RS.ix 37 111 4 (.tmp 35) (.tmp 36) hx ?_
    obtain ⟨H11,hx,h⟩:=bind_some h
    refine RS.o (H':=H11) none undef (Abs.run_store1 (t:=4) (x:=.tmp 37) (y:=.const (Value.bool true)) (a:=p10) (v:=(Value.bool true)) (by kernel_rfl) (by kernel_rfl) (by kernel_rfl) (by kernel_rfl) (by kernel_rfl) hx) (RS.dn ?_)
    refine fun a w hs=>bkN ((WS.nxt ?_ a w hs))
    refine WS.rg (RS.mS 2 [kI 23 (IntKind.i64.wrap (v23_7+1)),kI 38 (IntKind.i64.wrap (v23_7+1))] (RS.dn ?_))
    cases h
    exact fun a w hs=>lsN rfl (hs.sb 0)
   ·refine WS.fx 34 false (decide_eq_false hp) (WS.cF ?_)
    cases h
  ·refine RS.fx 29 false (decide_eq_false hp) ?_
   cases h
 ·refine WS.fx 24 false (decide_eq_false hp) (WS.cF (WS.ex 0 ?_))
  cases h
  exact fun a w hs=>sqE (lsB rfl (hs.sb 0))
theorem z65 {E H L m q2 s4 v9_16 s21 x25} :LoopF Tryz.prog (NE.plain 148) m E Tryz.f41 ((cfst (csnd (csnd (csnd (cfst (cfst (csnd (cfst (cfst (csnd (cfst (csnd (csnd (csnd (csnd (csnd B41))))))))))))))))) (zdj L m q2 s4 v9_16 s21 x25) (fun s=>s.1) 4 z27 (z2j H) (z4j L m q2 s4 v9_16 s21 x25):=by
 rintro ⟨H26,v65_27⟩ o h
 unfold z4j at h
 try dsimp only at h
 refine WS.sq (WS.rg (RS.mS 1 [kB 66 (decide (v65_27<(x25.n:Int)))] (RS.dn (WS.nxt (WS.sq ?_)))))
 rcases z0 h with ⟨hp,h⟩ | ⟨hp,h⟩
 ·refine WS.fx 66 true (decide_eq_true hp) (WS.cT (WS.sk (WS.nxt (WS.sq (WS.bk 5 (WS.sq (WS.rg ?_)))))))
  obtain ⟨p28,hx,h⟩:=bind_some h
  refine RS.ix 67 41 3 (.tmp 63) (.tmp 65) hx ?_
  obtain ⟨x29,hx,h⟩:=bind_some h
  refine RS.ld 68 3 (.tmp 67) (z1 hx z5) (RS.mS 1 [kI 11 x29] (RS.dn (WS.nxt (WS.rg (RS.mS 2 [kI 70 x29,kS 69 s4] ?_)))))
  obtain ⟨p30,hx,h⟩:=bind_some h
  refine RS.ix 71 111 4 (.tmp 69) (.tmp 70) hx ?_
  obtain ⟨H31,hx,h⟩:=bind_some h
  refine RS.o (H':=H31) none undef (Abs.run_store1 (t:=4) (x:=.tmp 71) (y:=.const (Value.bool true)) (a:=p30) (v:=(Value.bool true)) (by kernel_rfl) (by kernel_rfl) (by kernel_rfl) (by kernel_rfl) (by kernel_rfl) hx) (RS.dn ?_)
  refine fun a w hs=>bkN ((WS.nxt ?_ a w hs))
  refine WS.rg (RS.mS 2 [kI 65 (IntKind.i64.wrap (v65_27+1)),kI 72 (IntKind.i64.wrap (v65_27+1))] (RS.dn ?_))
  cases h
  exact fun a w hs=>lsN rfl (hs.sb 0)
 ·refine WS.fx 66 false (decide_eq_false hp) (WS.cF (WS.ex 4 ?_))
  cases h
  exact fun a w hs=>sqE (lsB rfl (hs.sb 0))
theorem z6d {E H L m q2 s4} :LoopF Tryz.prog (NE.plain 148) m E Tryz.f41 ((cfst (csnd (cfst (csnd (csnd (csnd (csnd (csnd B41))))))))) (zdo L m q2 s4) (fun s=>s.1) 2 z27 (z2j H) (z4g L m q2 s4):=by
 rintro ⟨H14,v8_15,v9_16⟩ o h
 unfold z4g at h
 try dsimp only at h
 refine WS.sq (WS.sq (WS.rg (RS.mS 2 [kB 43 (decide (v9_16≥0)),kI 42 v9_16] (RS.dn (WS.nxt ?_)))))
 rcases z0 h with ⟨hp,h⟩ | ⟨hp,h⟩
 ·refine WS.fx 43 true (decide_eq_true hp) (WS.cT (WS.sk (WS.nxt (WS.sq (WS.bk 3 (WS.sq (WS.sq (WS.rg (RS.mS 2 [kI 47 v9_16,kS 46 s4] ?_)))))))))
  obtain ⟨p17,hx,h⟩:=bind_some h
  refine RS.ix 48 111 4 (.tmp 46) (.tmp 47) hx ?_
  obtain ⟨x18,hx,h⟩:=bind_some h
  refine RS.ld 49 4 (.tmp 48) (z1 hx zdz) (RS.mS 1 [kB 50 (!x18)] (RS.dn (WS.nxt ?_)))
  rcases z0 h with ⟨hp,h⟩ | ⟨hp,h⟩
  ·refine WS.fx 50 false (nb_not hp) (WS.cF (WS.sk (WS.nxt (WS.sq (WS.rg (RS.mS 2 [kI 52 v9_16,kS 51 v8_15] ?_))))))
   obtain ⟨⟨s19,H20⟩,hx,h⟩:=bind_some h
   try dsimp only at h
   refine RS.o (H':=H20) (some 53) (Sl3.v s19) (Abs.run_newR (by kernel_rfl) (by kernel_rfl) hx) ?_
   obtain ⟨⟨s21,H22⟩,hx,h⟩:=bind_some h
   try dsimp only at h
   refine RS.o (H':=H22) (some 54) (Sl3.v s21) (Abs.run_app (x:=.tmp 51) (y:=.tmp 53) (ts:=#[41,41]) (s:=v8_15) (z:=s19) (by kernel_rfl) (by kernel_rfl) (by kernel_rfl) (by kernel_rfl) hx) (RS.mS 1 [kS 8 s21] (RS.dn (WS.nxt (WS.sq (WS.rg (RS.mS 3 [(57,.val (Value.pointer (some (Addr.add q2 3)))),kP 56 q2,kP 55 q2] ?_))))))
   obtain ⟨x23,hx,h⟩:=bind_some h
   refine RS.ld 58 31 (.tmp 57) (z1 hx z3) (RS.mS 1 [kI 59 v9_16] ?_)
   obtain ⟨p24,hx,h⟩:=bind_some h
   refine RS.ix 60 31 137 (.tmp 58) (.tmp 59) hx (RS.mS 2 [(62,.val (Value.pointer (some (Addr.add (Addr.add p24 0) 11)))),(61,.val (Value.pointer (some (Addr.add p24 0))))] ?_)
   obtain ⟨x25,hx,h⟩:=bind_some h
   refine RS.ld 63 41 (.tmp 62) (z1 hx z3) (RS.mS 2 [kI 65 0,kI 64 (x25.n:Int)] (RS.dn (WS.nxt (WS.bk 4 ?_))))
   obtain ⟨o,hl,h⟩:=bind_some h
   rcases o with ⟨H32,v65_33⟩ | r
   ·try dsimp only at h
    refine WS.lI (z65 (L:=L) (E:=E) (m:=m) (H:=H)) (L.ok hl) 0 ?_
    clear hl
    refine fun a w hs=>bkE (bkN ((WS.nxt ?_ a w hs)))
    refine WS.rg (RS.mS 3 [kI 9 (IntKind.i64.wrap (v9_16 - 1)),kI 45 (IntKind.i64.wrap (v9_16 - 1)),kI 44 v9_16] (RS.dn ?_))
    cases h
    exact fun a w hs=>lsN rfl (hs.sb 0)
   ·try dsimp only at h
    refine WS.lR (z65 (L:=L) (E:=E) (m:=m) (H:=H)) (L.ok hl) 0 ?_
    cases h
    exact fun a w hq=>bkR (bkR (sqR (lsR rfl hq)))
  ·refine WS.fx 50 true (zi hp) (WS.cT ?_)
   cases h
 ·refine WS.fx 43 false (decide_eq_false hp) (WS.cF (WS.ex 2 ?_))
  cases h
  exact fun a w hs=>sqE (lsB rfl (hs.sb 0))
theorem zgu {L:LC} {m:Nat} {H:AH} {a0:Option Addr} {a1:Sl3} {r:(Sl3×AH)} (h:z6l L m H a0 a1=some r) :
  CallS Tryz.prog (NE.plain 148) m 41 #[(Value.pointer a0),(Sl3.v a1)] H (z27 r) (z2j H r):=by
 refine CallS.mk (args:=[(Value.pointer a0),(Sl3.v a1)]) Tryz.func41 (B:=B41) (by kernel_rfl) (fun E _=>?_)
 unfold z6l at h
 refine WS.sq (WS.rg (RS.mS 1 [kS 4 Sl3.nil] (RS.dn (WS.nxt (WS.sq (WS.sq (WS.rg (RS.mS 1 [(12,.val (Value.pointer a0))] ?_))))))))
 obtain ⟨x1,hx,h⟩:=bind_some h
 refine RS.cl (some 13) (v:=(Value.bool x1)) 46 #[(Value.pointer a0)] (z1c hx) (RS.mS 1 [kB 14 (!x1)] (RS.dn (WS.nxt ?_)))
 rcases z0 h with ⟨hp,h⟩ | ⟨hp,h⟩
 ·refine WS.fx 14 false (nb_not hp) (WS.cF (WS.sk (WS.nxt (WS.sq (WS.rg (RS.mS 1 [(15,.val (Value.pointer a0))] ?_))))))
  obtain ⟨q2,hx,hq2⟩:=bind_some h
  subst hx
  have h:=hq2
  refine RS.mS 2 [(17,.val (Value.pointer (some (Addr.add q2 3)))),kP 16 q2] ?_
  obtain ⟨x3,hx,h⟩:=bind_some h
  refine RS.ld 18 31 (.tmp 17) (z1 hx z3) (RS.mS 1 [kI 19 (x3.n:Int)] ?_)
  obtain ⟨⟨s4,H5⟩,hx,h⟩:=bind_some h
  try dsimp only at h
  refine RS.o (H':=H5) (some 20) (Sl3.v s4) (Abs.run_mk (t:=111) (x:=.tmp 19) (y:=.tmp 19) (k1:=.i64) (k2:=.i64) (by kernel_rfl) (by kernel_rfl) (by kernel_rfl) (by kernel_rfl) hx) (RS.mS 1 [kS 5 s4] (RS.dn (WS.nxt (WS.sq (WS.sq (WS.rg (RS.mS 3 [kI 23 0,kI 22 (a1.n:Int),kS 21 a1] (RS.dn (WS.nxt ?_)))))))))
  refine WS.bk 0 ?_
  obtain ⟨o,hl,h⟩:=bind_some h
  rcases o with ⟨H12,v23_13⟩ | r
  ·try dsimp only at h
   refine WS.lI (z68 (L:=L) (E:=E) (m:=m) (H:=H)) (L.ok hl) 0 ?_
   clear hl
   refine fun a w hs=>bkE ((WS.nxt ?_ a w hs))
   refine WS.sq (WS.rg (RS.mS 1 [kS 8 Sl3.nil] (RS.dn (WS.nxt (WS.sq (WS.sq (WS.rg (RS.mS 4 [kI 9 (IntKind.i64.wrap ((s4.n:Int) - 1)),kI 41 (IntKind.i64.wrap ((s4.n:Int) - 1)),kI 40 (s4.n:Int),kS 39 s4] (RS.dn ?_)))))))))
   refine WS.nxt (WS.bk 2 ?_)
   obtain ⟨o,hl,h⟩:=bind_some h
   rcases o with ⟨H34,v8_35,v9_36⟩ | r
   ·try dsimp only at h
    refine WS.lI (z6d (L:=L) (E:=E) (m:=m) (H:=H)) (L.ok hl) 0 ?_
    clear hl
    refine fun a w hs=>bkE ((WS.nxt ?_ a w hs))
    refine WS.sq (WS.rg (RS.mS 1 [kS 73 v8_35] ?_))
    obtain ⟨H37,hx,h⟩:=bind_some h
    refine RS.cl (some 74) (v:=(Value.tuple #[])) 71 #[(Sl3.v v8_35)] (zio hx) (RS.dn (WS.nxt (WS.sq (WS.rg (RS.mS 2 [kS 4 v8_35,kS 75 v8_35] (RS.dn (WS.nxt (WS.rt ?_))))))))
    cases h
    exact fun a w hs=>rtR (rS hs)
   ·try dsimp only at h
    refine WS.lR (z6d (L:=L) (E:=E) (m:=m) (H:=H)) (L.ok hl) 0 ?_
    cases h
    exact fun a w hq=>bkR (sqR (rtR hq))
  ·try dsimp only at h
   refine WS.lR (z68 (L:=L) (E:=E) (m:=m) (H:=H)) (L.ok hl) 0 ?_
   cases h
   exact fun a w hq=>bkR (sqR (rtR hq))
 ·refine WS.fx 14 true (zi hp) (WS.cT ?_)
  cases h
noncomputable def B42:Code:=(Tryz.f42.body).getD .skip
def z8l:(Int×Int×ByteArray×Sl3×Bool×AH)→Value
 | (r0,r1,r2,r3,r4,_)=>(Value.tuple #[(Value.agg #[(Value.int .i64 r0),(Value.int .i64 r1),(Value.string r2),(Sl3.v r3)]),(Value.bool r4)])
def z9m (_:AH):(Int×Int×ByteArray×Sl3×Bool×AH)→AH:=fun r=>r.2.2.2.2.2
noncomputable def z2z (L:LC) (m:Nat) (H:AH) (a0:Option Addr) (a1:Int):Option (Int×Int×ByteArray×Sl3×Bool×AH) :=
 Option.bind (z17 L H a0) fun x1 =>
 if x1=true then
  if a1<0 then
   none
  else
   Option.bind a0 fun q2 =>
   Option.bind (rd deSl H (Addr.add q2 3)) fun x3 =>
   if a1≥(x3.n:Int) then
    none
   else
    Option.bind (rd deSl H (Addr.add q2 3)) fun x4 =>
    Option.bind (idxA 16 x4 a1) fun p5 =>
    Option.bind (rd (deI .i64) H (Addr.add (Addr.add p5 12) 0)) fun x6_0 =>
    Option.bind (rd (deI .i64) H (Addr.add (Addr.add p5 12) 1)) fun x6_1 =>
    Option.bind (rd deS H (Addr.add (Addr.add p5 12) 2)) fun x6_2 =>
    Option.bind (rd deSl H (Addr.add (Addr.add p5 12) 3)) fun x6_3 =>
    Option.bind (z6h L m H x6_0 x6_1 x6_2 x6_3) fun (x7_0,x7_1,x7_2,x7_3,H8) =>
    some (x7_0,x7_1,x7_2,x7_3,true,H8)
 else
  none
theorem z52 {L:LC} {m:Nat} {H:AH} {a0:Option Addr} {a1:Int} {r:(Int×Int×ByteArray×Sl3×Bool×AH)} (h:z2z L m H a0 a1=some r) :
  CallS Tryz.prog (NE.plain 148) m 42 #[(Value.pointer a0),(Value.int .i64 a1)] H (z8l r) (z9m H r):=by
 refine CallS.mk (args:=[(Value.pointer a0),(Value.int .i64 a1)]) Tryz.func42 (B:=B42) (by kernel_rfl) (fun E _=>?_)
 unfold z2z at h
 refine WS.sq (WS.rg (RS.mL 2 [kB 5 false,kL 4 0 0] ([some (57,[(Value.int .i64 0),(Value.int .i64 0),(Value.string (⟨#[]⟩:ByteArray)),(Sl3.v Sl3.nil)])]) (RS.dn (WS.nxt (WS.sq (WS.sq (WS.rg (RS.mS 1 [(6,.val (Value.pointer a0))] ?_))))))))
 obtain ⟨x1,hx,h⟩:=bind_some h
 refine RS.cl (some 7) (v:=(Value.bool x1)) 46 #[(Value.pointer a0)] (z1c hx) (RS.mS 2 [kB 9 (!x1),kB 8 (!x1)] ?_)
 rcases z0 h with ⟨hp,h⟩ | ⟨hp,h⟩
 ·refine RS.fx 9 false (nb_not hp) (RS.mS 4 [kB 13 (decide (a1<0)),kB 12 (decide (a1<0)),kB 11 (decide (a1<0)),kI 10 a1] ?_)
  rcases z0 h with ⟨hp,h⟩ | ⟨hp,h⟩
  ·refine RS.fx 13 true (decide_eq_true hp) ?_
   cases h
  ·refine RS.fx 13 false (decide_eq_false hp) (RS.mS 2 [(15,.val (Value.pointer a0)),kI 14 a1] ?_)
   obtain ⟨q2,hx,hq2⟩:=bind_some h
   subst hx
   have h:=hq2
   refine RS.mS 2 [(17,.val (Value.pointer (some (Addr.add q2 3)))),kP 16 q2] ?_
   obtain ⟨x3,hx,h⟩:=bind_some h
   refine RS.ld 18 31 (.tmp 17) (z1 hx z3) (RS.mS 3 [kB 21 (decide (a1≥(x3.n:Int))),kB 20 (decide (a1≥(x3.n:Int))),kI 19 (x3.n:Int)] (RS.dn (WS.nxt ?_)))
   rcases z0 h with ⟨hp,h⟩ | ⟨hp,h⟩
   ·refine WS.fx 21 true (decide_eq_true hp) (WS.cT ?_)
    cases h
   ·refine WS.fx 21 false (decide_eq_false hp) (WS.cF (WS.sk (WS.nxt (WS.sq (WS.rg (RS.mS 3 [(25,.val (Value.pointer (some (Addr.add q2 3)))),kP 24 q2,kP 23 q2] ?_))))))
    obtain ⟨x4,hx,h⟩:=bind_some h
    refine RS.ld 26 31 (.tmp 25) (z1 hx z3) (RS.mS 1 [kI 27 a1] ?_)
    obtain ⟨p5,hx,h⟩:=bind_some h
    refine RS.ix 28 31 137 (.tmp 26) (.tmp 27) hx (RS.mS 1 [(29,.val (Value.pointer (some (Addr.add p5 12))))] ?_)
    obtain ⟨x6_0,hx0,h⟩:=bind_some h
    obtain ⟨x6_1,hx1,h⟩:=bind_some h
    obtain ⟨x6_2,hx2,h⟩:=bind_some h
    obtain ⟨x6_3,hx3,h⟩:=bind_some h
    refine RS.la 30 57 (.tmp 29) 4 (z2 (z1 hx0 z5) (z2 (z1 hx1 z5) (z2 (z1 hx2 z9) (z2 (z1 hx3 z3) zd)))) ?_
    obtain ⟨⟨x7_0,x7_1,x7_2,x7_3,H8⟩,hx,h⟩:=bind_some h
    try dsimp only at h
    refine RS.cl (some 31) (v:=(Value.agg #[(Value.int .i64 x7_0),(Value.int .i64 x7_1),(Value.string x7_2),(Sl3.v x7_3)])) 40 #[(Value.agg #[(Value.int .i64 x6_0),(Value.int .i64 x6_1),(Value.string x6_2),(Sl3.v x6_3)])] (z10 hx) (RS.mL 2 [kB 5 true] ([some (57,[(Value.int .i64 x7_0),(Value.int .i64 x7_1),(Value.string x7_2),(Sl3.v x7_3)])]) (RS.dn (WS.nxt (WS.rt ?_))))
    cases h
    exact fun a w hs=>rtR (rS hs)
 ·refine RS.fx 9 true (zi hp) ?_
  cases h
noncomputable def B45:Code:=(Tryz.f45.body).getD .skip
noncomputable def B73:Code:=(Tryz.f73.body).getD .skip
def z40:Bool→Value
 | r0=>(Value.bool r0)
def z5c (H:AH):Bool→AH:=fun _=>H
def z1i:Bool→Value
 | r0=>(Value.bool r0)
def z1n (H:AH):Bool→AH:=fun _=>H
noncomputable def z8w (_L:LC) (rec_slices_EqualFunc__45:AH→Sl3→Sl3→Option Bool) (H:AH) (a0_0 a0_1:Int) (a0_2:ByteArray) (a0_3:Sl3) (a1_0 a1_1:Int) (a1_2:ByteArray) (a1_3:Sl3):Option Bool :=
 if a0_0=a1_0 then
  if a0_1=a1_1 then
   if (a0_2.toList == a1_2.toList)=true then
    Option.bind (rec_slices_EqualFunc__45 H a0_3 a1_3) fun x1 =>
    some x1
   else
    none
  else
   none
 else
  none
noncomputable def z2q (_L:LC) (rec_sort_Same:AH→Int→Int→ByteArray→Sl3→Int→Int→ByteArray→Sl3→Option Bool) (H:AH) (a0 a1:Sl3):Int→Option (Lp Int Bool):=fun v17_1 =>
 if v17_1<(a0.n:Int) then
  Option.bind (idxA 4 a0 v17_1) fun p2 =>
  Option.bind (rd (deI .i64) H (Addr.add p2 0)) fun x3_0 =>
  Option.bind (rd (deI .i64) H (Addr.add p2 1)) fun x3_1 =>
  Option.bind (rd deS H (Addr.add p2 2)) fun x3_2 =>
  Option.bind (rd deSl H (Addr.add p2 3)) fun x3_3 =>
  Option.bind (idxA 4 a1 v17_1) fun p4 =>
  Option.bind (rd (deI .i64) H (Addr.add p4 0)) fun x5_0 =>
  Option.bind (rd (deI .i64) H (Addr.add p4 1)) fun x5_1 =>
  Option.bind (rd deS H (Addr.add p4 2)) fun x5_2 =>
  Option.bind (rd deSl H (Addr.add p4 3)) fun x5_3 =>
  Option.bind (rec_sort_Same H x3_0 x3_1 x3_2 x3_3 x5_0 x5_1 x5_2 x5_3) fun x6 =>
  if x6=true then
   some (.next (IntKind.i64.wrap (v17_1+1)))
  else
   none
 else
  some (.brk v17_1)
def za3 (_L:LC) (_rec_sort_Same:AH→Int→Int→ByteArray→Sl3→Int→Int→ByteArray→Sl3→Option Bool) (_H:AH) (a0 a1:Sl3):Int→KN×Lcs:=fun v17_1=>([kI 17 v17_1,kS 1 a1,(2,.val (Value.func (.func 45) #[] #[])),kS 15 a0,kI 16 (a0.n:Int)],[])
noncomputable def z26 (L:LC) (rec_sort_Same:AH→Int→Int→ByteArray→Sl3→Int→Int→ByteArray→Sl3→Option Bool) (H:AH) (a0 a1:Sl3):Option Bool :=
 if (a0.n:Int)=(a1.n:Int) then
  Option.bind (L.run (z2q L rec_sort_Same H a0 a1) 0) fun o=>match o with
  | .inl _ =>
   some true
  | .inr r=>some r
 else
  none
noncomputable def zae (L:LC) (n:Nat):(AH→Int→Int→ByteArray→Sl3→Int→Int→ByteArray→Sl3→Option Bool)×(AH→Sl3→Sl3→Option Bool):=Nat.rec (motive:=fun _=>(AH→Int→Int→ByteArray→Sl3→Int→Int→ByteArray→Sl3→Option Bool)×(AH→Sl3→Sl3→Option Bool)) ((fun _ _ _ _ _ _ _ _ _=>none),(fun _ _ _=>none)) (fun _ p=>(z8w L p.2,z26 L p.1)) n
noncomputable def z9l (L:LC) (H:AH) (a0_0 a0_1:Int) (a0_2:ByteArray) (a0_3:Sl3) (a1_0 a1_1:Int) (a1_2:ByteArray) (a1_3:Sl3):Option Bool:=((zae L L.fuel).1) H a0_0 a0_1 a0_2 a0_3 a1_0 a1_1 a1_2 a1_3
theorem zik {L:LC} {rec_slices_EqualFunc__45:AH→Sl3→Sl3→Option Bool} (hrec_slices_EqualFunc__45:∀(m:Nat) (H:AH) (a0 a1:Sl3) (r:Bool),rec_slices_EqualFunc__45 H a0 a1=some r→CallS Tryz.prog (NE.plain 148) m 73 #[(Sl3.v a0),(Sl3.v a1),(Value.func (.func 45) #[] #[])] H (z1i r) (z1n H r)) {m:Nat} {H:AH} {a0_0 a0_1:Int} {a0_2:ByteArray} {a0_3:Sl3} {a1_0 a1_1:Int} {a1_2:ByteArray} {a1_3:Sl3} {r:Bool} (h:z8w L rec_slices_EqualFunc__45 H a0_0 a0_1 a0_2 a0_3 a1_0 a1_1 a1_2 a1_3=some r) :
  CallS Tryz.prog (NE.plain 148) m 45 #[(Value.agg #[(Value.int .i64 a0_0),(Value.int .i64 a0_1),(Value.string a0_2),(Sl3.v a0_3)]),(Value.agg #[(Value.int .i64 a1_0),(Value.int .i64 a1_1),(Value.string a1_2),(Sl3.v a1_3)])] H (z40 r) (z5c H r):=by
 refine CallS.mk (args:=[(Value.agg #[(Value.int .i64 a0_0),(Value.int .i64 a0_1),(Value.string a0_2),(Sl3.v a0_3)]),(Value.agg #[(Value.int .i64 a1_0),(Value.int .i64 a1_1),(Value.string a1_2),(Sl3.v a1_3)])]) Tryz.func45 (B:=B45) (by kernel_rfl) (fun E _=>?_)
 unfold z8w at h
 refine WS.sq (WS.rg (RS.mL 3 [kB 4 false,kL 3 1 0,kL 2 0 0] ([some (57,[(Value.int .i64 a0_0),(Value.int .i64 a0_1),(Value.string a0_2),(Sl3.v a0_3)]),some (57,[(Value.int .i64 a1_0),(Value.int .i64 a1_1),(Value.string a1_2),(Sl3.v a1_3)])]) (RS.dn (WS.nxt (WS.sq (WS.rg (RS.mS 6 [kB 10 (decide (a0_0=a1_0)),kB 9 (decide (a0_0=a1_0)),kI 8 a1_0,kL 7 1 0,kI 6 a0_0,kL 5 0 0] ?_)))))))
 rcases z0 h with ⟨hp,h⟩ | ⟨hp,h⟩
 ·refine RS.fx 10 true (decide_eq_true hp) (RS.mS 7 [kB 17 (decide (a0_1=a1_1)),kB 16 (decide (a0_1=a1_1)),kB 15 (decide (a0_1=a1_1)),kI 14 a1_1,kL 13 1 1,kI 12 a0_1,kL 11 0 1] ?_)
  rcases z0 h with ⟨hp,h⟩ | ⟨hp,h⟩
  ·refine RS.fx 17 true (decide_eq_true hp) (RS.mS 7 [kB 24 (a0_2.toList == a1_2.toList),kB 23 (a0_2.toList == a1_2.toList),kB 22 (a0_2.toList == a1_2.toList),kT 21 a1_2,kL 20 1 2,kT 19 a0_2,kL 18 0 2] ?_)
   rcases z0 h with ⟨hp,h⟩ | ⟨hp,h⟩
   ·refine RS.fx 24 true hp (RS.mS 4 [kS 28 a1_3,kL 27 1 3,kS 26 a0_3,kL 25 0 3] ?_)
    obtain ⟨x1,hx,h⟩:=bind_some h
    refine RS.cl (some 29) (v:=(Value.bool x1)) 73 #[(Sl3.v a0_3),(Sl3.v a1_3),(Value.func (.func 45) #[] #[])] (hrec_slices_EqualFunc__45 _ _ _ _ _ hx) (RS.mS 2 [kB 4 x1,kB 30 x1] (RS.dn (WS.nxt (WS.rt ?_))))
    cases h
    exact fun a w hs=>rtR (rS hs)
   ·refine RS.fx 24 false (b_not hp) ?_
    cases h
  ·refine RS.fx 17 false (decide_eq_false hp) ?_
   cases h
 ·refine RS.fx 10 false (decide_eq_false hp) ?_
  cases h
theorem z3y {E m L rec_sort_Same H a0 a1} (hrec_sort_Same:∀(m:Nat) (H:AH) (a0_0 a0_1:Int) (a0_2:ByteArray) (a0_3:Sl3) (a1_0 a1_1:Int) (a1_2:ByteArray) (a1_3:Sl3) (r:Bool),rec_sort_Same H a0_0 a0_1 a0_2 a0_3 a1_0 a1_1 a1_2 a1_3=some r→CallS Tryz.prog (NE.plain 148) m 45 #[(Value.agg #[(Value.int .i64 a0_0),(Value.int .i64 a0_1),(Value.string a0_2),(Sl3.v a0_3)]),(Value.agg #[(Value.int .i64 a1_0),(Value.int .i64 a1_1),(Value.string a1_2),(Sl3.v a1_3)])] H (z40 r) (z5c H r)):LoopF Tryz.prog (NE.plain 148) m E Tryz.f73 ((cfst (csnd (cfst (csnd (csnd B73)))))) (za3 L rec_sort_Same H a0 a1) (fun _=>H) 0 z1i (z1n H) (z2q L rec_sort_Same H a0 a1):=by
 rintro v17_1 o h
 unfold z2q at h
 try dsimp only at h
 refine WS.sq (WS.rg (RS.mS 1 [kB 18 (decide (v17_1<(a0.n:Int)))] (RS.dn (WS.nxt (WS.sq ?_)))))
 rcases z0 h with ⟨hp,h⟩ | ⟨hp,h⟩
 ·refine WS.fx 18 true (decide_eq_true hp) (WS.cT (WS.sk (WS.nxt (WS.sq (WS.bk 1 (WS.sq (WS.rg (RS.mS 1 [kI 19 v17_1] ?_))))))))
  obtain ⟨p2,hx,h⟩:=bind_some h
  refine RS.ix 20 36 57 (.tmp 15) (.tmp 17) hx ?_
  obtain ⟨x3_0,hx0,h⟩:=bind_some h
  obtain ⟨x3_1,hx1,h⟩:=bind_some h
  obtain ⟨x3_2,hx2,h⟩:=bind_some h
  obtain ⟨x3_3,hx3,h⟩:=bind_some h
  refine RS.la 21 57 (.tmp 20) 4 (z2 (z1 hx0 z5) (z2 (z1 hx1 z5) (z2 (z1 hx2 z9) (z2 (z1 hx3 z3) zd)))) (RS.mL 3 [kI 7 v17_1,kL 8 0 0] ([some (57,[(Value.int .i64 x3_0),(Value.int .i64 x3_1),(Value.string x3_2),(Sl3.v x3_3)])]) (RS.dn (WS.nxt (WS.sq (WS.rg (RS.mS 2 [kI 23 v17_1,kS 22 a1] ?_))))))
  obtain ⟨p4,hx,h⟩:=bind_some h
  refine RS.ix 24 36 57 (.tmp 22) (.tmp 23) hx ?_
  obtain ⟨x5_0,hx0,h⟩:=bind_some h
  obtain ⟨x5_1,hx1,h⟩:=bind_some h
  obtain ⟨x5_2,hx2,h⟩:=bind_some h
  obtain ⟨x5_3,hx3,h⟩:=bind_some h
  refine RS.la 25 57 (.tmp 24) 4 (z2 (z1 hx0 z5) (z2 (z1 hx1 z5) (z2 (z1 hx2 z9) (z2 (z1 hx3 z3) zd)))) (RS.mL 2 [kL 9 1 0] ([some (57,[(Value.int .i64 x3_0),(Value.int .i64 x3_1),(Value.string x3_2),(Sl3.v x3_3)]),some (57,[(Value.int .i64 x5_0),(Value.int .i64 x5_1),(Value.string x5_2),(Sl3.v x5_3)])]) (RS.dn (WS.nxt (WS.sq (WS.rg (RS.mS 3 [kA 28 #[(Value.int .i64 x5_0),(Value.int .i64 x5_1),(Value.string x5_2),(Sl3.v x5_3)],kA 27 #[(Value.int .i64 x3_0),(Value.int .i64 x3_1),(Value.string x3_2),(Sl3.v x3_3)],(26,.val (Value.func (.func 45) #[] #[]))] ?_))))))
  obtain ⟨x6,hx,h⟩:=bind_some h
  refine RS.cl (some 29) (v:=(Value.bool x6)) 45 #[(Value.agg #[(Value.int .i64 x3_0),(Value.int .i64 x3_1),(Value.string x3_2),(Sl3.v x3_3)]),(Value.agg #[(Value.int .i64 x5_0),(Value.int .i64 x5_1),(Value.string x5_2),(Sl3.v x5_3)])] (hrec_sort_Same _ _ _ _ _ _ _ _ _ _ _ hx) (RS.mS 1 [kB 30 (!x6)] (RS.dn (WS.nxt ?_)))
  rcases z0 h with ⟨hp,h⟩ | ⟨hp,h⟩
  ·refine WS.fx 30 false (nb_not hp) (WS.cF (WS.sk ?_))
   refine fun a w hs=>bkN ((WS.nxt ?_ a w hs))
   refine WS.rg (RS.mS 2 [kI 17 (IntKind.i64.wrap (v17_1+1)),kI 31 (IntKind.i64.wrap (v17_1+1))] (RS.dn ?_))
   cases h
   exact fun a w hs=>lsN rfl (hs.sb 0)
  ·refine WS.fx 30 true (zi hp) (WS.cT ?_)
   cases h
 ·refine WS.fx 18 false (decide_eq_false hp) (WS.cF (WS.ex 0 ?_))
  cases h
  exact fun a w hs=>sqE (lsB rfl (hs.sb 0))
theorem z8t {L:LC} {rec_sort_Same:AH→Int→Int→ByteArray→Sl3→Int→Int→ByteArray→Sl3→Option Bool} (hrec_sort_Same:∀(m:Nat) (H:AH) (a0_0 a0_1:Int) (a0_2:ByteArray) (a0_3:Sl3) (a1_0 a1_1:Int) (a1_2:ByteArray) (a1_3:Sl3) (r:Bool),rec_sort_Same H a0_0 a0_1 a0_2 a0_3 a1_0 a1_1 a1_2 a1_3=some r→CallS Tryz.prog (NE.plain 148) m 45 #[(Value.agg #[(Value.int .i64 a0_0),(Value.int .i64 a0_1),(Value.string a0_2),(Sl3.v a0_3)]),(Value.agg #[(Value.int .i64 a1_0),(Value.int .i64 a1_1),(Value.string a1_2),(Sl3.v a1_3)])] H (z40 r) (z5c H r)) {m:Nat} {H:AH} {a0 a1:Sl3} {r:Bool} (h:z26 L rec_sort_Same H a0 a1=some r) :
  CallS Tryz.prog (NE.plain 148) m 73 #[(Sl3.v a0),(Sl3.v a1),(Value.func (.func 45) #[] #[])] H (z1i r) (z1n H r):=by
 refine CallS.mk (args:=[(Sl3.v a0),(Sl3.v a1),(Value.func (.func 45) #[] #[])]) Tryz.func73 (B:=B73) (by kernel_rfl) (fun E _=>?_)
 unfold z26 at h
 refine WS.sq (WS.rg (RS.mS 1 [kB 6 false] (RS.dn (WS.nxt (WS.sq (WS.sq (WS.rg (RS.mS 5 [kB 14 (!decide ((a0.n:Int)=(a1.n:Int))),kI 13 (a1.n:Int),kS 12 a1,kI 11 (a0.n:Int),kS 10 a0] (RS.dn ?_)))))))))
 refine WS.nxt ?_
 rcases z0 h with ⟨hp,h⟩ | ⟨hp,h⟩
 ·refine WS.fx 14 false (zj hp) (WS.cF (WS.sk (WS.nxt (WS.sq (WS.sq (WS.rg (RS.mS 3 [kI 17 0,kI 16 (a0.n:Int),kS 15 a0] (RS.dn (WS.nxt ?_)))))))))
  refine WS.bk 0 ?_
  obtain ⟨o,hl,h⟩:=bind_some h
  rcases o with v17_7 | r
  ·try dsimp only at h
   refine WS.lI (z3y (L:=L) (E:=E) (m:=m) (H:=H) hrec_sort_Same) (L.ok hl) 0 ?_
   clear hl
   refine fun a w hs=>bkE ((WS.nxt ?_ a w hs))
   refine WS.sq (WS.rg (RS.mS 1 [kB 6 true] (RS.dn (WS.nxt (WS.rt ?_)))))
   cases h
   exact fun a w hs=>rtR (rS hs)
  ·try dsimp only at h
   refine WS.lR (z3y (L:=L) (E:=E) (m:=m) (H:=H) hrec_sort_Same) (L.ok hl) 0 ?_
   cases h
   exact fun a w hq=>bkR (sqR (rtR hq))
 ·refine WS.fx 14 true (ze hp) (WS.cT ?_)
  cases h
theorem zjh {L:LC}:∀n,(∀(m:Nat) (H:AH) (a0_0 a0_1:Int) (a0_2:ByteArray) (a0_3:Sl3) (a1_0 a1_1:Int) (a1_2:ByteArray) (a1_3:Sl3) (r:Bool),((zae L n).1) H a0_0 a0_1 a0_2 a0_3 a1_0 a1_1 a1_2 a1_3=some r→CallS Tryz.prog (NE.plain 148) m 45 #[(Value.agg #[(Value.int .i64 a0_0),(Value.int .i64 a0_1),(Value.string a0_2),(Sl3.v a0_3)]),(Value.agg #[(Value.int .i64 a1_0),(Value.int .i64 a1_1),(Value.string a1_2),(Sl3.v a1_3)])] H (z40 r) (z5c H r))∧(∀(m:Nat) (H:AH) (a0 a1:Sl3) (r:Bool),((zae L n).2) H a0 a1=some r→CallS Tryz.prog (NE.plain 148) m 73 #[(Sl3.v a0),(Sl3.v a1),(Value.func (.func 45) #[] #[])] H (z1i r) (z1n H r)):=by
 intro n
 induction n with
 | zero=>exact ⟨(fun _ _ _ _ _ _ _ _ _ _ _ h=>(Option.some_ne_none _ h.symm).elim),(fun _ _ _ _ _ h=>(Option.some_ne_none _ h.symm).elim)⟩
 | succ n ih=>exact ⟨(fun _ _ _ _ _ _ _ _ _ _ _ h=>zik (L:=L) ih.2 h),(fun _ _ _ _ _ h=>z8t (L:=L) ih.1 h)⟩
theorem z84 {L:LC} {m:Nat} {H:AH} {a0_0 a0_1:Int} {a0_2:ByteArray} {a0_3:Sl3} {a1_0 a1_1:Int} {a1_2:ByteArray} {a1_3:Sl3} {r:Bool} (h:z9l L H a0_0 a0_1 a0_2 a0_3 a1_0 a1_1 a1_2 a1_3=some r) :
  CallS Tryz.prog (NE.plain 148) m 45 #[(Value.agg #[(Value.int .i64 a0_0),(Value.int .i64 a0_1),(Value.string a0_2),(Sl3.v a0_3)]),(Value.agg #[(Value.int .i64 a1_0),(Value.int .i64 a1_1),(Value.string a1_2),(Sl3.v a1_3)])] H (z40 r) (z5c H r) :=
 ((zjh _).1) _ _ _ _ _ _ _ _ _ _ _ h
noncomputable def B44:Code:=(Tryz.f44.body).getD .skip
def zid:Bool→Value
 | r0=>(Value.bool r0)
def zja (H:AH):Bool→AH:=fun _=>H
noncomputable def zac (L:LC) (H:AH) (a0_0 a0_1:Int) (a0_2:ByteArray) (a0_3:Sl3) (a1:Option Addr):Option Bool :=
 Option.bind a1 fun q1 =>
 Option.bind (rd (deI .i64) H (Addr.add q1 0)) fun x2_0 =>
 Option.bind (rd (deI .i64) H (Addr.add q1 1)) fun x2_1 =>
 Option.bind (rd deS H (Addr.add q1 2)) fun x2_2 =>
 Option.bind (rd deSl H (Addr.add q1 3)) fun x2_3 =>
 Option.bind (z9l L H x2_0 x2_1 x2_2 x2_3 a0_0 a0_1 a0_2 a0_3) fun x3 =>
 some x3
theorem zjc {L:LC} {m:Nat} {H:AH} {a0_0 a0_1:Int} {a0_2:ByteArray} {a0_3:Sl3} {a1:Option Addr} {r:Bool} (h:zac L H a0_0 a0_1 a0_2 a0_3 a1=some r) :
  CallS Tryz.prog (NE.plain 148) m 44 #[(Value.agg #[(Value.int .i64 a0_0),(Value.int .i64 a0_1),(Value.string a0_2),(Sl3.v a0_3)]),(Value.pointer a1)] H (zid r) (zja H r):=by
 refine CallS.mk (args:=[(Value.agg #[(Value.int .i64 a0_0),(Value.int .i64 a0_1),(Value.string a0_2),(Sl3.v a0_3)]),(Value.pointer a1)]) Tryz.func44 (B:=B44) (by kernel_rfl) (fun E _=>?_)
 unfold zac at h
 refine WS.sq (WS.rg (RS.mL 2 [kB 3 false,kL 2 0 0] ([some (57,[(Value.int .i64 a0_0),(Value.int .i64 a0_1),(Value.string a0_2),(Sl3.v a0_3)])]) (RS.dn (WS.nxt (WS.sq (WS.rg ?_))))))
 obtain ⟨q1,hx,hq1⟩:=bind_some h
 subst hx
 have h:=hq1
 obtain ⟨x2_0,hx0,h⟩:=bind_some h
 obtain ⟨x2_1,hx1,h⟩:=bind_some h
 obtain ⟨x2_2,hx2,h⟩:=bind_some h
 obtain ⟨x2_3,hx3,h⟩:=bind_some h
 refine RS.la 4 57 (.tmp 1) 4 (z2 (z1 hx0 z5) (z2 (z1 hx1 z5) (z2 (z1 hx2 z9) (z2 (z1 hx3 z3) zd)))) (RS.mS 1 [kA 5 #[(Value.int .i64 a0_0),(Value.int .i64 a0_1),(Value.string a0_2),(Sl3.v a0_3)]] ?_)
 obtain ⟨x3,hx,h⟩:=bind_some h
 refine RS.cl (some 6) (v:=(Value.bool x3)) 45 #[(Value.agg #[(Value.int .i64 x2_0),(Value.int .i64 x2_1),(Value.string x2_2),(Sl3.v x2_3)]),(Value.agg #[(Value.int .i64 a0_0),(Value.int .i64 a0_1),(Value.string a0_2),(Sl3.v a0_3)])] (z84 hx) (RS.mS 1 [kB 3 x3] (RS.dn (WS.nxt (WS.rt ?_))))
 cases h
 exact fun a w hs=>rtR (rS hs)
noncomputable def B72:Code:=(Tryz.f72.body).getD .skip
def z4v:Int→Value
 | r0=>(Value.int .i64 r0)
def z5n (H:AH):Int→AH:=fun _=>H
noncomputable def z2s (L:LC) (H:AH) (a0:Sl3) (a1_0:Option Addr):Int→Option (Lp Int Int):=fun v8_1 =>
 if v8_1<(a0.n:Int) then
  Option.bind (idxA 4 a0 v8_1) fun p2 =>
  Option.bind (rd (deI .i64) H (Addr.add p2 0)) fun x3_0 =>
  Option.bind (rd (deI .i64) H (Addr.add p2 1)) fun x3_1 =>
  Option.bind (rd deS H (Addr.add p2 2)) fun x3_2 =>
  Option.bind (rd deSl H (Addr.add p2 3)) fun x3_3 =>
  Option.bind (zac L H x3_0 x3_1 x3_2 x3_3 a1_0) fun x4 =>
  if x4=true then
   some (.ret v8_1)
  else
   none
 else
  some (.brk v8_1)
def zab (_L:LC) (_H:AH) (a0:Sl3) (a1_0:Option Addr):Int→KN×Lcs:=fun v8_1=>([kI 8 v8_1,kS 0 a0,(1,.val (Value.func (.func 44) #[] #[(Value.pointer a1_0)])),kI 7 (a0.n:Int)],[])
noncomputable def z3o (L:LC) (H:AH) (a0:Sl3) (a1_0:Option Addr):Option Int :=
 Option.bind (L.run (z2s L H a0 a1_0) 0) fun o=>match o with
 | .inl _ =>
  some (-1)
 | .inr r=>some r
theorem z42 {E m L H a0 a1_0} :LoopF Tryz.prog (NE.plain 148) m E Tryz.f72 ((cfst (csnd (cfst (csnd B72))))) (zab L H a0 a1_0) (fun _=>H) 0 z4v (z5n H) (z2s L H a0 a1_0):=by
 rintro v8_1 o h
 unfold z2s at h
 try dsimp only at h
 refine WS.sq (WS.rg (RS.mS 1 [kB 9 (decide (v8_1<(a0.n:Int)))] (RS.dn (WS.nxt (WS.sq ?_)))))
 rcases z0 h with ⟨hp,h⟩ | ⟨hp,h⟩
 ·refine WS.fx 9 true (decide_eq_true hp) (WS.cT (WS.sk (WS.nxt (WS.sq (WS.bk 1 (WS.sq (WS.rg (RS.mS 2 [kI 5 v8_1,kI 10 v8_1] (RS.dn ?_)))))))))
  refine WS.nxt (WS.sq (WS.rg (RS.mS 3 [kI 13 v8_1,kS 12 a0,(11,.val (Value.func (.func 44) #[] #[(Value.pointer a1_0)]))] ?_)))
  obtain ⟨p2,hx,h⟩:=bind_some h
  refine RS.ix 14 36 57 (.tmp 12) (.tmp 13) hx ?_
  obtain ⟨x3_0,hx0,h⟩:=bind_some h
  obtain ⟨x3_1,hx1,h⟩:=bind_some h
  obtain ⟨x3_2,hx2,h⟩:=bind_some h
  obtain ⟨x3_3,hx3,h⟩:=bind_some h
  refine RS.la 15 57 (.tmp 14) 4 (z2 (z1 hx0 z5) (z2 (z1 hx1 z5) (z2 (z1 hx2 z9) (z2 (z1 hx3 z3) zd)))) ?_
  obtain ⟨x4,hx,h⟩:=bind_some h
  refine RS.cl (some 16) (v:=(Value.bool x4)) 44 #[(Value.agg #[(Value.int .i64 x3_0),(Value.int .i64 x3_1),(Value.string x3_2),(Sl3.v x3_3)]),(Value.pointer a1_0)] (zjc hx) (RS.dn (WS.nxt ?_))
  rcases z0 h with ⟨hp,h⟩ | ⟨hp,h⟩
  ·refine WS.fx 16 true hp (WS.cT (WS.sq (WS.rg (RS.mS 2 [kI 4 v8_1,kI 17 v8_1] (RS.dn (WS.nxt (WS.rt ?_)))))))
   cases h
   exact fun a w hs=>bkR (sqR (lsR rfl (rS hs)))
  ·refine WS.fx 16 false (b_not hp) (WS.cF ?_)
   cases h
 ·refine WS.fx 9 false (decide_eq_false hp) (WS.cF (WS.ex 0 ?_))
  cases h
  exact fun a w hs=>sqE (lsB rfl (hs.sb 0))
theorem zcj {L:LC} {m:Nat} {H:AH} {a0:Sl3} {a1_0:Option Addr} {r:Int} (h:z3o L H a0 a1_0=some r) :
  CallS Tryz.prog (NE.plain 148) m 72 #[(Sl3.v a0),(Value.func (.func 44) #[] #[(Value.pointer a1_0)])] H (z4v r) (z5n H r):=by
 refine CallS.mk (args:=[(Sl3.v a0),(Value.func (.func 44) #[] #[(Value.pointer a1_0)])]) Tryz.func72 (B:=B72) (by kernel_rfl) (fun E _=>?_)
 unfold z3o at h
 refine WS.sq (WS.rg (RS.mS 1 [kI 4 0] (RS.dn (WS.nxt (WS.sq (WS.sq (WS.rg (RS.mS 3 [kI 8 0,kI 7 (a0.n:Int),kS 6 a0] (RS.dn ?_)))))))))
 refine WS.nxt (WS.bk 0 ?_)
 obtain ⟨o,hl,h⟩:=bind_some h
 rcases o with v8_5 | r
 ·try dsimp only at h
  refine WS.lI (z42 (L:=L) (E:=E) (m:=m) (H:=H)) (L.ok hl) 0 ?_
  clear hl
  refine fun a w hs=>bkE ((WS.nxt ?_ a w hs))
  refine WS.sq (WS.rg (RS.mS 1 [kI 4 (-1)] (RS.dn (WS.nxt (WS.rt ?_)))))
  cases h
  exact fun a w hs=>rtR (rS hs)
 ·try dsimp only at h
  refine WS.lR (z42 (L:=L) (E:=E) (m:=m) (H:=H)) (L.ok hl) 0 ?_
  cases h
  exact fun a w hq=>bkR (sqR (rtR hq))
end Go.Proofs.YtpcckomdlmpckaaGreatDoor
namespace Go.Proofs.YtpcckomdlmpckaaGreatDoor
open Go Go.Abs
set_option maxRecDepth 100000
noncomputable def B43:Code:=(Tryz.f43.body).getD .skip
def z9r:Bool→Value
 | r0=>(Value.bool r0)
def zan (H:AH):Bool→AH:=fun _=>H
noncomputable def z2p (L:LC) (H:AH) (a0:Sl3) (a1_0:Option Addr):Option Bool :=
 Option.bind (z3o L H a0 a1_0) fun x1 =>
 some (decide (x1≥0))
theorem zaj {L:LC} {m:Nat} {H:AH} {a0:Sl3} {a1_0:Option Addr} {r:Bool} (h:z2p L H a0 a1_0=some r) :
  CallS Tryz.prog (NE.plain 148) m 43 #[(Sl3.v a0),(Value.func (.func 44) #[] #[(Value.pointer a1_0)])] H (z9r r) (zan H r):=by
 refine CallS.mk (args:=[(Sl3.v a0),(Value.func (.func 44) #[] #[(Value.pointer a1_0)])]) Tryz.func43 (B:=B43) (by kernel_rfl) (fun E _=>?_)
 unfold z2p at h
 refine WS.sq (WS.rg (RS.mS 1 [kB 4 false] (RS.dn (WS.nxt (WS.sq (WS.rg (RS.mS 2 [(6,.val (Value.func (.func 44) #[] #[(Value.pointer a1_0)])),kS 5 a0] ?_)))))))
 obtain ⟨x1,hx,h⟩:=bind_some h
 refine RS.cl (some 7) (v:=(Value.int .i64 x1)) 72 #[(Sl3.v a0),(Value.func (.func 44) #[] #[(Value.pointer a1_0)])] (zcj hx) (RS.mS 2 [kB 4 (decide (x1≥0)),kB 8 (decide (x1≥0))] (RS.dn (WS.nxt (WS.rt ?_))))
 cases h
 exact fun a w hs=>rtR (rS hs)
noncomputable def B12:Code:=(Tryz.f12.body).getD .skip
def z7d:((Option Addr)×Int×AH)→Value
 | (r0,r1,_)=>(Value.tuple #[(Value.pointer r0),(Value.int .i64 r1)])
def z92 (_:AH):((Option Addr)×Int×AH)→AH:=fun r=>r.2.2
noncomputable def z8p (L:LC) (m:Nat) (a0:Option Addr) (a1:Sl3):(AH×Int)→Option (Lp (AH×Int) ((Option Addr)×Int×AH)):=fun (H4,v26_5) =>
 if v26_5<(a1.n:Int) then
  Option.bind (idxA 1 a1 v26_5) fun p6 =>
  Option.bind (rd (deI .i64) H4 p6) fun x7 =>
  Option.bind (z20 L m H4 a0 x7) fun (_,_,_,_,_,_,_,_,_,_,_,_,x9,H10) =>
  if x9=true then
   some (.next (H10,(IntKind.i64.wrap (v26_5+1))))
  else
   none
 else
  some (.brk (H4,v26_5))
def zim (_L:LC) (_m:Nat) (a0:Option Addr) (a1:Sl3):(AH×Int)→KN×Lcs:=fun (_,v26_5)=>([kI 26 v26_5,(0,.val (Value.pointer a0)),kS 1 a1,kS 24 a1,kI 25 (a1.n:Int)],[])
noncomputable def z8s (L:LC) (m:Nat) (a0:Option Addr) (p15:Addr) (x17:Sl3):(AH×Int)→Option (Lp (AH×Int) ((Option Addr)×Int×AH)):=fun (H18,v50_19) =>
 if v50_19<(x17.n:Int) then
  Option.bind (α:=AH) (
   Option.bind (idxA 1 x17 v50_19) fun p21 =>
   Option.bind (rd (deI .i64) H18 p21) fun x22 =>
   Option.bind (z2z L m H18 a0 x22) fun (x23_0,x23_1,x23_2,x23_3,_,H25) =>
   Option.bind (newB 57 [(Value.int .i64 0),(Value.int .i64 0),(Value.string (⟨#[]⟩:ByteArray)),(Sl3.v Sl3.nil)] H25) fun (p26,H27) =>
   Option.bind (wrCells m p26 0 [(Value.int .i64 x23_0),(Value.int .i64 x23_1),(Value.string x23_2),(Sl3.v x23_3)] H27) fun H28 =>
   Option.bind (rd (deI .i64) H28 (Addr.add p26 0)) fun x29 =>
   if x29=4 then
    Option.bind (rd deSl H28 (Addr.add p15 2)) fun x30 =>
    Option.bind (newR 3 1 #[(Value.int .i64 x22)] H28) fun (s31,H32) =>
    Option.bind (appS m 3 1 8 H32 x30 s31) fun (s33,H34) =>
    Option.bind (H34.setCell m (Addr.add p15 2) (Sl3.v s33)) fun H35 =>
    Option.bind (rd deSl H35 (Addr.add p15 3)) fun x36 =>
    Option.bind (z2p L H35 x36 (some p26)) fun x37 =>
    if x37=true then
     some H35
    else
     coinJ (
      Option.bind (rd deSl H35 (Addr.add p15 3)) fun x38 =>
      Option.bind (newR 57 1 #[(Value.int .i64 0),(Value.int .i64 0),(Value.string (⟨#[]⟩:ByteArray)),(Sl3.v Sl3.nil)] H35) fun (s39,H40) =>
      Option.bind (appS m 57 4 56 H40 x38 s39) fun (s41,H42) =>
      Option.bind (H42.setCell m (Addr.add p15 3) (Sl3.v s41)) fun H43 =>
      Option.bind (rd (deI .i64) H43 (Addr.add p26 0)) fun x44_0 =>
      Option.bind (rd (deI .i64) H43 (Addr.add p26 1)) fun x44_1 =>
      Option.bind (rd deS H43 (Addr.add p26 2)) fun x44_2 =>
      Option.bind (rd deSl H43 (Addr.add p26 3)) fun x44_3 =>
      Option.bind (idxA 4 s41 (x38.n:Int)) fun p45 =>
      Option.bind (wrCells m p45 0 [(Value.int .i64 x44_0),(Value.int .i64 x44_1),(Value.string x44_2),(Sl3.v x44_3)] H43) fun H46 =>
      some H46) (
      Option.bind (rd deSl H35 (Addr.add p15 3)) fun x38 =>
      Option.bind (rd (deI .i64) H35 (Addr.add p26 0)) fun x39_0 =>
      Option.bind (rd (deI .i64) H35 (Addr.add p26 1)) fun x39_1 =>
      Option.bind (rd deS H35 (Addr.add p26 2)) fun x39_2 =>
      Option.bind (rd deSl H35 (Addr.add p26 3)) fun x39_3 =>
      Option.bind (newR 57 1 #[(Value.int .i64 x39_0),(Value.int .i64 x39_1),(Value.string x39_2),(Sl3.v x39_3)] H35) fun (s40,H41) =>
      Option.bind (appS m 57 4 56 H41 x38 s40) fun (s42,H43) =>
      Option.bind (H43.setCell m (Addr.add p15 3) (Sl3.v s42)) fun H44 =>
      some H44)
   else
    some H28) fun H20 =>
  some (.next (H20,(IntKind.i64.wrap (v50_19+1))))
 else
  some (.brk (H18,v50_19))
def zic (_L:LC) (_m:Nat) (a0:Option Addr) (p15:Addr) (x17:Sl3):(AH×Int)→KN×Lcs:=fun (_,v50_19)=>([kI 50 v50_19,(0,.val (Value.pointer a0)),kP 12 p15,kS 48 x17,kI 49 (x17.n:Int)],[])
noncomputable def z44 (L:LC) (m:Nat) (H:AH) (a0:Option Addr) (a1:Sl3):Option ((Option Addr)×Int×AH) :=
 Option.bind (z2y L m H a0 (-1)) fun (_,x2,H3) =>
 if x2=4 then
  some (none,4,H3)
 else
  Option.bind (L.run (z8p L m a0 a1) (H3,0)) fun o=>match o with
  | .inl (H11,_) =>
   Option.bind (z6l L m H11 a0 a1) fun (x13,H14) =>
   Option.bind (newB 59 [(Value.pointer a0),(Sl3.v x13),(Sl3.v Sl3.nil),(Sl3.v Sl3.nil)] H14) fun (p15,H16) =>
   Option.bind (rd deSl H16 (Addr.add p15 1)) fun x17 =>
   Option.bind (L.run (z8s L m a0 p15 x17) (H16,0)) fun o=>match o with
   | .inl (H45,_) =>
    some ((some p15),0,H45)
   | .inr r=>some r
  | .inr r=>some r
theorem zas {E H L m a0 a1} :LoopF Tryz.prog (NE.plain 148) m E Tryz.f12 ((cfst (csnd (cfst (csnd (csnd B12)))))) (zim L m a0 a1) (fun s=>s.1) 0 z7d (z92 H) (z8p L m a0 a1):=by
 rintro ⟨H4,v26_5⟩ o h
 unfold z8p at h
 try dsimp only at h
 refine WS.sq (WS.rg (RS.mS 1 [kB 27 (decide (v26_5<(a1.n:Int)))] (RS.dn (WS.nxt (WS.sq ?_)))))
 rcases z0 h with ⟨hp,h⟩ | ⟨hp,h⟩
 ·refine WS.fx 27 true (decide_eq_true hp) (WS.cT (WS.sk (WS.nxt (WS.sq (WS.bk 1 (WS.sq (WS.rg ?_)))))))
  obtain ⟨p6,hx,h⟩:=bind_some h
  refine RS.ix 28 41 3 (.tmp 24) (.tmp 26) hx ?_
  obtain ⟨x7,hx,h⟩:=bind_some h
  refine RS.ld 29 3 (.tmp 28) (z1 hx z5) (RS.mS 1 [kI 9 x7] (RS.dn (WS.nxt (WS.sq (WS.rg (RS.mS 2 [kI 32 x7,(31,.val (Value.pointer a0))] ?_))))))
  obtain ⟨⟨x8_0,x8_1,x8_2,x8_3,x8_4,x8_5,x8_6,x8_7,x8_8,x8_9,x8_10,x8_11,x9,H10⟩,hx,h⟩:=bind_some h
  try dsimp only at h
  refine RS.cl (some 33) (v:=(Value.tuple #[(Value.agg #[(Value.int .i64 x8_0),(Value.string x8_1),(Value.bool x8_2),(Sl3.v x8_3),(Value.int .i64 x8_4),(Sl3.v x8_5),(Value.int .i64 x8_6),(Value.int .i64 x8_7),(Value.string x8_8),(Sl3.v x8_9),(Sl3.v x8_10),(Sl3.v x8_11)]),(Value.bool x9)])) 19 #[(Value.pointer a0),(Value.int .i64 x7)] (z2x hx) (RS.mL 6 [kB 11 x9,kL 10 0 0,kB 35 x9,kA 34 #[(Value.int .i64 x8_0),(Value.string x8_1),(Value.bool x8_2),(Sl3.v x8_3),(Value.int .i64 x8_4),(Sl3.v x8_5),(Value.int .i64 x8_6),(Value.int .i64 x8_7),(Value.string x8_8),(Sl3.v x8_9),(Sl3.v x8_10),(Sl3.v x8_11)],(30,.val (Value.tuple #[(Value.agg #[(Value.int .i64 x8_0),(Value.string x8_1),(Value.bool x8_2),(Sl3.v x8_3),(Value.int .i64 x8_4),(Sl3.v x8_5),(Value.int .i64 x8_6),(Value.int .i64 x8_7),(Value.string x8_8),(Sl3.v x8_9),(Sl3.v x8_10),(Sl3.v x8_11)]),(Value.bool x9)]))] ([some (78,[(Value.int .i64 x8_0),(Value.string x8_1),(Value.bool x8_2),(Sl3.v x8_3),(Value.int .i64 x8_4),(Sl3.v x8_5),(Value.int .i64 x8_6),(Value.int .i64 x8_7),(Value.string x8_8),(Sl3.v x8_9),(Sl3.v x8_10),(Sl3.v x8_11)])]) (RS.dn (WS.nxt (WS.sq (WS.rg (RS.mS 2 [kB 37 (!x9),kB 36 x9] (RS.dn (WS.nxt ?_))))))))
  rcases z0 h with ⟨hp,h⟩ | ⟨hp,h⟩
  ·refine WS.fx 37 false (nb_not hp) (WS.cF (WS.sk ?_))
   refine fun a w hs=>bkN ((WS.nxt ?_ a w hs))
   refine WS.rg (RS.mS 2 [kI 26 (IntKind.i64.wrap (v26_5+1)),kI 38 (IntKind.i64.wrap (v26_5+1))] (RS.dn ?_))
   cases h
   exact fun a w hs=>lsN rfl (hs.sb 0)
  ·refine WS.fx 37 true (zi hp) (WS.cT ?_)
   cases h
 ·refine WS.fx 27 false (decide_eq_false hp) (WS.cF (WS.ex 0 ?_))
  cases h
  exact fun a w hs=>sqE (lsB rfl (hs.sb 0))
theorem zao {E H L m a0 p15 x17} :LoopF Tryz.prog (NE.plain 148) m E Tryz.f12 ((cfst (csnd (cfst (csnd (csnd (csnd (csnd B12)))))))) (zic L m a0 p15 x17) (fun s=>s.1) 2 z7d (z92 H) (z8s L m a0 p15 x17):=by
 rintro ⟨H18,v50_19⟩ o h
 unfold z8s at h
 try dsimp only at h
 refine WS.sq (WS.rg (RS.mS 1 [kB 51 (decide (v50_19<(x17.n:Int)))] (RS.dn (WS.nxt (WS.sq ?_)))))
 rcases z0 h with ⟨hp,h⟩ | ⟨hp,h⟩
 ·refine WS.fx 51 true (decide_eq_true hp) (WS.cT (WS.sk (WS.nxt ?_)))
  obtain ⟨H20,hx,h⟩:=bind_some h
  refine WS.sq ?_
  refine WS.join ([(0,.val (Value.pointer a0)),kP 12 p15,kS 48 x17,kI 49 (x17.n:Int),kI 50 v50_19]) ([]) H20 ?_ (fun a w hs=>WS.nxt ?_ a w hs)
  ·clear h; rename _=>h
   refine WS.bk 3 (WS.sq (WS.rg ?_))
   obtain ⟨p21,hx,h⟩:=bind_some h
   refine RS.ix 52 41 3 (.tmp 48) (.tmp 50) hx ?_
   obtain ⟨x22,hx,h⟩:=bind_some h
   refine RS.ld 53 3 (.tmp 52) (z1 hx z5) (RS.mS 1 [kI 14 x22] (RS.dn (WS.nxt (WS.sq (WS.rg (RS.mS 2 [kI 56 x22,(55,.val (Value.pointer a0))] ?_))))))
   obtain ⟨⟨x23_0,x23_1,x23_2,x23_3,x24,H25⟩,hx,h⟩:=bind_some h
   try dsimp only at h
   refine RS.cl (some 57) (v:=(Value.tuple #[(Value.agg #[(Value.int .i64 x23_0),(Value.int .i64 x23_1),(Value.string x23_2),(Sl3.v x23_3)]),(Value.bool x24)])) 42 #[(Value.pointer a0),(Value.int .i64 x22)] (z52 hx) (RS.mS 3 [kB 59 x24,kA 58 #[(Value.int .i64 x23_0),(Value.int .i64 x23_1),(Value.string x23_2),(Sl3.v x23_3)],(54,.val (Value.tuple #[(Value.agg #[(Value.int .i64 x23_0),(Value.int .i64 x23_1),(Value.string x23_2),(Sl3.v x23_3)]),(Value.bool x24)]))] ?_)
   obtain ⟨⟨p26,H27⟩,hx,h⟩:=bind_some h
   try dsimp only at h
   refine RS.o (H':=H27) (some 15) (Value.pointer (some p26)) (Abs.run_newB (by kernel_rfl) hx) ?_
   obtain ⟨H28,hx,h⟩:=bind_some h
   refine RS.o (H':=H28) none undef (Abs.run_storeA (t:=57) (x:=.tmp 15) (y:=.tmp 58) (a:=p26) (v:=(Value.agg #[(Value.int .i64 x23_0),(Value.int .i64 x23_1),(Value.string x23_2),(Sl3.v x23_3)])) (by kernel_rfl) (by kernel_rfl) (by kernel_rfl) (by kernel_rfl) (by kernel_rfl) hx) (RS.mS 1 [kB 16 x24] (RS.dn (WS.nxt (WS.sq (WS.sq (WS.rg (RS.mS 1 [(60,.val (Value.pointer (some (Addr.add p26 0))))] ?_)))))))
   obtain ⟨x29,hx,h⟩:=bind_some h
   refine RS.ld 61 55 (.tmp 60) (z1 hx z5) (RS.mS 1 [kB 62 (!decide (x29=4))] (RS.dn (WS.nxt ?_)))
   rcases z0 h with ⟨hp,h⟩ | ⟨hp,h⟩
   ·refine WS.fx 62 false (zj hp) (WS.cF (WS.sk (WS.nxt (WS.sq (WS.rg (RS.mS 4 [(66,.val (Value.pointer (some (Addr.add p15 2)))),kP 65 p15,kP 64 p15,kP 63 p15] ?_))))))
    obtain ⟨x30,hx,h⟩:=bind_some h
    refine RS.ld 67 41 (.tmp 66) (z1 hx z3) (RS.mS 1 [kI 68 x22] ?_)
    obtain ⟨⟨s31,H32⟩,hx,h⟩:=bind_some h
    try dsimp only at h
    refine RS.o (H':=H32) (some 69) (Sl3.v s31) (Abs.run_newR (by kernel_rfl) (by kernel_rfl) hx) ?_
    obtain ⟨⟨s33,H34⟩,hx,h⟩:=bind_some h
    try dsimp only at h
    refine RS.o (H':=H34) (some 70) (Sl3.v s33) (Abs.run_app (x:=.tmp 67) (y:=.tmp 69) (ts:=#[41,41]) (s:=x30) (z:=s31) (by kernel_rfl) (by kernel_rfl) (by kernel_rfl) (by kernel_rfl) hx) (RS.mS 2 [(72,.val (Value.pointer (some (Addr.add p15 2)))),kP 71 p15] ?_)
    obtain ⟨H35,hx,h⟩:=bind_some h
    refine RS.o (H':=H35) none undef (Abs.run_store1 (t:=41) (x:=.tmp 72) (y:=.tmp 70) (a:=(Addr.add p15 2)) (v:=(Sl3.v s33)) (by kernel_rfl) (by kernel_rfl) (by kernel_rfl) (by kernel_rfl) (by kernel_rfl) hx) (RS.dn (WS.nxt (WS.sq (WS.rg (RS.mS 3 [(75,.val (Value.pointer (some (Addr.add p15 3)))),kP 74 p15,kP 73 p15] ?_)))))
    obtain ⟨x36,hx,h⟩:=bind_some h
    refine RS.ld 76 36 (.tmp 75) (z1 hx z3) (RS.mS 1 [(77,.val (Value.func (.func 44) #[] #[(Value.pointer (some p26))]))] ?_)
    obtain ⟨x37,hx,h⟩:=bind_some h
    refine RS.cl (some 78) (v:=(Value.bool x37)) 43 #[(Sl3.v x36),(Value.func (.func 44) #[] #[(Value.pointer (some p26))])] (zaj hx) (RS.mS 1 [kB 79 (!x37)] (RS.dn (WS.nxt ?_)))
    rcases z0 h with ⟨hp,h⟩ | ⟨hp,h⟩
    ·refine WS.fx 79 false (nb_not hp) (WS.cF (WS.sk ?_))
     cases h
     exact fun a w hs=>bkN ((jsN (hs.sb 0)))
    ·obtain ⟨HT,HF,hT,hF,sT,sF⟩:=zq5 h
     refine WS.fx 79 true (zi hp) (WS.cT (WS.sq (WS.dr [] [0,1,1,7] 4 (fun hcl=>DA.on 0 (DA.aL 0 (some 80) (.loc 0 0) ([some (4,[(Value.bool false)])]) false ?_)))))
     refine DA.two 1 2 (by kernel_rfl) ?_ ?_
     ·clear h hT; rename _=some HF=>h
      refine DA.aL 1 none (.val undef) ([some (4,[(Value.bool true)])]) false (DA.on 2 (DA.aL 2 none (.val undef) ([some (4,[(Value.bool false)])]) false (DA.on 3 (DA.aL 3 (some 81) (.val (.bool false)) ([some (4,[(Value.bool false)])]) false (DA.dn (WS.nxt (WS.cF ?_)))))))
      refine WS.dr [1,2,3,4,5] [0,0,2,6,14,0,32,126,255,511,1023] 11 (fun hcl=>?_)
      refine DA.tK 1 (some 94) (Value.pointer (some p15)) (DA.tK 2 (some 95) (Value.pointer (some p15)) (DA.tK 3 (some 96) (Value.pointer (some (Addr.add p15 3))) ?_))
      obtain ⟨x38,hx,h⟩:=bind_some h
      refine DA.tD 4 (some 97) (Sl3.v x38) (Abs.det_load (t:=36) (x:=.tmp 96) (a:=(Addr.add p15 3)) (by kernel_rfl) (by kernel_rfl) (by kernel_rfl) (by kernel_rfl) (z1 hx z3)) ?_
      obtain ⟨x39_0,hx0,h⟩:=bind_some h
      obtain ⟨x39_1,hx1,h⟩:=bind_some h
      obtain ⟨x39_2,hx2,h⟩:=bind_some h
      obtain ⟨x39_3,hx3,h⟩:=bind_some h
      refine DA.tD 5 (some 98) (Value.agg #[(Value.int .i64 x39_0),(Value.int .i64 x39_1),(Value.string x39_2),(Sl3.v x39_3)]) (Abs.det_loadA (t:=57) (x:=.tmp 15) (a:=p26) (k:=4) (by kernel_rfl) (by kernel_rfl) (by kernel_rfl) (by kernel_rfl) (z2 (z1 hx0 z5) (z2 (z1 hx1 z5) (z2 (z1 hx2 z9) (z2 (z1 hx3 z3) zd))))) (DA.tP 0 (some 93) (Value.pointer (some p15)) ?_)
      obtain ⟨⟨s40,H41⟩,hx,h⟩:=bind_some h
      try dsimp only at h
      refine DA.on 6 (DA.aHj (H':=H41) 6 (some 99) false (Sl3.v s40) (Abs.run_newR (by kernel_rfl) (by kernel_rfl) hx) ?_)
      obtain ⟨⟨s42,H43⟩,hx,h⟩:=bind_some h
      try dsimp only at h
      refine DA.on 7 (DA.aH (H':=H43) 7 (some 100) (Sl3.v s42) (Abs.run_app (x:=.tmp 97) (y:=.tmp 99) (ts:=#[36,36]) (s:=x38) (z:=s40) (by kernel_rfl) (by kernel_rfl) (by kernel_rfl) (by kernel_rfl) hx) (DA.tP 8 (some 101) (Value.pointer (some p15)) (DA.tP 9 (some 102) (Value.pointer (some (Addr.add p15 3))) ?_)))
      obtain ⟨H44,hx,h⟩:=bind_some h
      refine DA.on 10 (DA.aH (H':=H44) 10 none undef (Abs.run_store1 (t:=36) (x:=.tmp 102) (y:=.tmp 100) (a:=(Addr.add p15 3)) (v:=(Sl3.v s42)) (by kernel_rfl) (by kernel_rfl) (by kernel_rfl) (by kernel_rfl) (by kernel_rfl) hx) (DA.dn ?_))
      cases h
      exact fun a w hs=>bkN ((jsN ((hs.hsub sF).sb 0)))
     ·clear h hF; rename _=some HT=>h
      refine DA.aL 2 none (.val undef) ([some (4,[(Value.bool false)])]) false (DA.on 1 (DA.aL 1 none (.val undef) ([some (4,[(Value.bool true)])]) false (DA.on 3 (DA.aL 3 (some 81) (.val (.bool true)) ([some (4,[(Value.bool true)])]) false (DA.dn (WS.nxt (WS.cT (WS.sq (WS.rg ?_)))))))))
      refine RS.mS 3 [(84,.val (Value.pointer (some (Addr.add p15 3)))),kP 83 p15,kP 82 p15] ?_
      obtain ⟨x38,hx,h⟩:=bind_some h
      refine RS.ld 85 36 (.tmp 84) (z1 hx z3) (RS.mS 1 [kI 86 (x38.n:Int)] ?_)
      obtain ⟨⟨s39,H40⟩,hx,h⟩:=bind_some h
      try dsimp only at h
      refine RS.o (H':=H40) (some 87) (Sl3.v s39) (Abs.run_newR (by kernel_rfl) (by kernel_rfl) hx) ?_
      obtain ⟨⟨s41,H42⟩,hx,h⟩:=bind_some h
      try dsimp only at h
      refine RS.o (H':=H42) (some 88) (Sl3.v s41) (Abs.run_app (x:=.tmp 85) (y:=.tmp 87) (ts:=#[36,36]) (s:=x38) (z:=s39) (by kernel_rfl) (by kernel_rfl) (by kernel_rfl) (by kernel_rfl) hx) (RS.mS 2 [(90,.val (Value.pointer (some (Addr.add p15 3)))),kP 89 p15] ?_)
      obtain ⟨H43,hx,h⟩:=bind_some h
      refine RS.o (H':=H43) none undef (Abs.run_store1 (t:=36) (x:=.tmp 90) (y:=.tmp 88) (a:=(Addr.add p15 3)) (v:=(Sl3.v s41)) (by kernel_rfl) (by kernel_rfl) (by kernel_rfl) (by kernel_rfl) (by kernel_rfl) hx) (RS.dn (WS.nxt (WS.rg ?_)))
      obtain ⟨x44_0,hx0,h⟩:=bind_some h
      obtain ⟨x44_1,hx1,h⟩:=bind_some h
      obtain ⟨x44_2,hx2,h⟩:=bind_some h
      obtain ⟨x44_3,hx3,h⟩:=bind_some h
      refine RS.la 91 57 (.tmp 15) 4 (z2 (z1 hx0 z5) (z2 (z1 hx1 z5) (z2 (z1 hx2 z9) (z2 (z1 hx3 z3) zd)))) ?_
      obtain ⟨p45,hx,h⟩:=bind_some h
      refine RS.ix 92 36 57 (.tmp 88) (.tmp 86) hx ?_
      obtain ⟨H46,hx,h⟩:=bind_some h
      refine RS.o (H':=H46) none undef (Abs.run_storeA (t:=57) (x:=.tmp 92) (y:=.tmp 91) (a:=p45) (v:=(Value.agg #[(Value.int .i64 x44_0),(Value.int .i64 x44_1),(Value.string x44_2),(Sl3.v x44_3)])) (by kernel_rfl) (by kernel_rfl) (by kernel_rfl) (by kernel_rfl) (by kernel_rfl) hx) (RS.dn ?_)
      cases h
      exact fun a w hs=>bkN ((jsN ((hs.hsub sT).sb 0)))
   ·refine WS.fx 62 true (ze hp) (WS.cT (WS.ex 3 ?_))
    cases h
    exact fun a w hs=>sqE (bkE ((jsN (hs.sb 0))))
  ·clear hx
   refine WS.rg (RS.mS 2 [kI 50 (IntKind.i64.wrap (v50_19+1)),kI 103 (IntKind.i64.wrap (v50_19+1))] (RS.dn ?_))
   cases h
   exact fun a w hs=>lsN rfl (hs.sb 0)
 ·refine WS.fx 51 false (decide_eq_false hp) (WS.cF (WS.ex 2 ?_))
  cases h
  exact fun a w hs=>sqE (lsB rfl (hs.sb 0))
theorem z5h {L:LC} {m:Nat} {H:AH} {a0:Option Addr} {a1:Sl3} {r:((Option Addr)×Int×AH)} (h:z44 L m H a0 a1=some r) :
  CallS Tryz.prog (NE.plain 148) m 12 #[(Value.pointer a0),(Sl3.v a1)] H (z7d r) (z92 H r):=by
 refine CallS.mk (args:=[(Value.pointer a0),(Sl3.v a1)]) Tryz.func12 (B:=B12) (by kernel_rfl) (fun E _=>?_)
 unfold z44 at h
 refine WS.sq (WS.rg (RS.mS 2 [kI 5 0,(4,.val (Value.pointer none))] (RS.dn (WS.nxt (WS.sq (WS.sq (WS.rg (RS.mS 1 [(18,.val (Value.pointer a0))] ?_))))))))
 obtain ⟨⟨x1,x2,H3⟩,hx,h⟩:=bind_some h
 try dsimp only at h
 refine RS.cl (some 19) (v:=(Value.tuple #[(Value.string x1),(Value.int .i64 x2)])) 18 #[(Value.pointer a0),(Value.int .i64 (-1))] (z57 hx) (RS.mS 5 [kI 7 x2,kT 6 x1,kI 21 x2,kT 20 x1,(17,.val (Value.tuple #[(Value.string x1),(Value.int .i64 x2)]))] (RS.dn (WS.nxt (WS.sq (WS.rg (RS.mS 2 [kB 23 (decide (x2=4)),kI 22 x2] (RS.dn (WS.nxt ?_))))))))
 rcases z0 h with ⟨hp,h⟩ | ⟨hp,h⟩
 ·refine WS.fx 23 true (decide_eq_true hp) (WS.cT (WS.sq (WS.rg (RS.mS 2 [kI 5 4,(4,.val (Value.pointer none))] (RS.dn (WS.nxt (WS.rt ?_)))))))
  cases h
  exact fun a w hs=>sqR (rtR (rS hs))
 ·refine WS.fx 23 false (decide_eq_false hp) (WS.cF (WS.sk (WS.nxt (WS.sq (WS.sq (WS.rg (RS.mS 3 [kI 26 0,kI 25 (a1.n:Int),kS 24 a1] (RS.dn (WS.nxt ?_)))))))))
  refine WS.bk 0 ?_
  obtain ⟨o,hl,h⟩:=bind_some h
  rcases o with ⟨H11,v26_12⟩ | r
  ·try dsimp only at h
   refine WS.lI (zas (L:=L) (E:=E) (m:=m) (H:=H)) (L.ok hl) 0 ?_
   clear hl
   refine fun a w hs=>bkE ((WS.nxt ?_ a w hs))
   refine WS.sq (WS.rg (RS.mS 3 [kS 41 a1,(40,.val (Value.pointer a0)),(39,.val (Value.pointer a0))] ?_))
   obtain ⟨⟨x13,H14⟩,hx,h⟩:=bind_some h
   try dsimp only at h
   refine RS.cl (some 42) (v:=(Sl3.v x13)) 41 #[(Value.pointer a0),(Sl3.v a1)] (zgu hx) (RS.mS 1 [kA 43 #[(Value.pointer a0),(Sl3.v x13),(Sl3.v Sl3.nil),(Sl3.v Sl3.nil)]] ?_)
   obtain ⟨⟨p15,H16⟩,hx,h⟩:=bind_some h
   try dsimp only at h
   refine RS.o (H':=H16) (some 44) (Value.pointer (some p15)) (Abs.run_newB (by kernel_rfl) hx) (RS.mS 1 [kP 12 p15] (RS.dn (WS.nxt (WS.sq (WS.sq (WS.rg (RS.mS 3 [(47,.val (Value.pointer (some (Addr.add p15 1)))),kP 46 p15,kP 45 p15] ?_)))))))
   obtain ⟨x17,hx,h⟩:=bind_some h
   refine RS.ld 48 41 (.tmp 47) (z1 hx z3) (RS.mS 2 [kI 50 0,kI 49 (x17.n:Int)] (RS.dn (WS.nxt (WS.bk 2 ?_))))
   obtain ⟨o,hl,h⟩:=bind_some h
   rcases o with ⟨H45,v50_46⟩ | r
   ·try dsimp only at h
    refine WS.lI (zao (L:=L) (E:=E) (m:=m) (H:=H)) (L.ok hl) 0 ?_
    clear hl
    refine fun a w hs=>bkE ((WS.nxt ?_ a w hs))
    refine WS.sq (WS.rg (RS.mS 3 [kI 5 0,kP 4 p15,kP 104 p15] (RS.dn (WS.nxt (WS.rt ?_)))))
    cases h
    exact fun a w hs=>rtR (rS hs)
   ·try dsimp only at h
    refine WS.lR (zao (L:=L) (E:=E) (m:=m) (H:=H)) (L.ok hl) 0 ?_
    cases h
    exact fun a w hq=>bkR (sqR (rtR hq))
  ·try dsimp only at h
   refine WS.lR (zas (L:=L) (E:=E) (m:=m) (H:=H)) (L.ok hl) 0 ?_
   cases h
   exact fun a w hq=>bkR (sqR (rtR hq))
noncomputable def B5:Code:=(Tryz.f5.body).getD .skip
def zjl:(Sl3×Int×AH)→Value
 | (r0,r1,_)=>(Value.tuple #[(Sl3.v r0),(Value.int .i64 r1)])
def zkg (_:AH):(Sl3×Int×AH)→AH:=fun r=>r.2.2
noncomputable def zbq (L:LC) (m:Nat) (H:AH) (a0:Option Addr) (a1:Sl3):Option (Sl3×Int×AH) :=
 Option.bind (z44 L m H a0 a1) fun (_,x2,H3) =>
 if x2=0 then
  none
 else
  some (Sl3.nil,x2,H3)
theorem zkf {L:LC} {m:Nat} {H:AH} {a0:Option Addr} {a1:Sl3} {r:(Sl3×Int×AH)} (h:zbq L m H a0 a1=some r) :
  CallS Tryz.prog (NE.plain 148) m 5 #[(Value.pointer a0),(Sl3.v a1)] H (zjl r) (zkg H r):=by
 refine CallS.mk (args:=[(Value.pointer a0),(Sl3.v a1)]) Tryz.func5 (B:=B5) (by kernel_rfl) (fun E _=>?_)
 unfold zbq at h
 refine WS.sq (WS.rg (RS.mS 2 [kI 5 0,kS 4 Sl3.nil] (RS.dn (WS.nxt (WS.sq (WS.rg (RS.mS 2 [kS 10 a1,(9,.val (Value.pointer a0))] ?_)))))))
 obtain ⟨⟨x1,x2,H3⟩,hx,h⟩:=bind_some h
 try dsimp only at h
 refine RS.cl (some 11) (v:=(Value.tuple #[(Value.pointer x1),(Value.int .i64 x2)])) 12 #[(Value.pointer a0),(Sl3.v a1)] (z5h hx) (RS.mS 5 [kI 7 x2,(6,.val (Value.pointer x1)),kI 13 x2,(12,.val (Value.pointer x1)),(8,.val (Value.tuple #[(Value.pointer x1),(Value.int .i64 x2)]))] (RS.dn (WS.nxt (WS.sq (WS.sq (WS.rg (RS.mS 2 [kB 15 (!decide (x2=0)),kI 14 x2] (RS.dn (WS.nxt ?_)))))))))
 rcases z0 h with ⟨hp,h⟩ | ⟨hp,h⟩
 ·refine WS.fx 15 false (zj hp) (WS.cF ?_)
  cases h
 ·refine WS.fx 15 true (ze hp) (WS.cT (WS.sq (WS.rg (RS.mS 3 [kI 5 x2,kS 4 Sl3.nil,kI 16 x2] (RS.dn (WS.nxt (WS.rt ?_)))))))
  cases h
  exact fun a w hs=>sqR (rtR (rS hs))
noncomputable def B6:Code:=(Tryz.f6.body).getD .skip
def zey:(Sl3×Int×AH)→Value
 | (r0,r1,_)=>(Value.tuple #[(Sl3.v r0),(Value.int .i64 r1)])
def zgg (_:AH):(Sl3×Int×AH)→AH:=fun r=>r.2.2
noncomputable def z6t (L:LC) (m:Nat) (H:AH) (a0:Option Addr) (a1:Sl3):Option (Sl3×Int×AH) :=
 Option.bind (z44 L m H a0 a1) fun (_,x2,H3) =>
 if x2=0 then
  none
 else
  some (Sl3.nil,x2,H3)
theorem zgo {L:LC} {m:Nat} {H:AH} {a0:Option Addr} {a1:Sl3} {r:(Sl3×Int×AH)} (h:z6t L m H a0 a1=some r) :
  CallS Tryz.prog (NE.plain 148) m 6 #[(Value.pointer a0),(Sl3.v a1)] H (zey r) (zgg H r):=by
 refine CallS.mk (args:=[(Value.pointer a0),(Sl3.v a1)]) Tryz.func6 (B:=B6) (by kernel_rfl) (fun E _=>?_)
 unfold z6t at h
 refine WS.sq (WS.rg (RS.mS 2 [kI 5 0,kS 4 Sl3.nil] (RS.dn (WS.nxt (WS.sq (WS.rg (RS.mS 2 [kS 18 a1,(17,.val (Value.pointer a0))] ?_)))))))
 obtain ⟨⟨x1,x2,H3⟩,hx,h⟩:=bind_some h
 try dsimp only at h
 refine RS.cl (some 19) (v:=(Value.tuple #[(Value.pointer x1),(Value.int .i64 x2)])) 12 #[(Value.pointer a0),(Sl3.v a1)] (z5h hx) (RS.mS 5 [kI 7 x2,(6,.val (Value.pointer x1)),kI 21 x2,(20,.val (Value.pointer x1)),(16,.val (Value.tuple #[(Value.pointer x1),(Value.int .i64 x2)]))] (RS.dn (WS.nxt (WS.sq (WS.sq (WS.rg (RS.mS 2 [kB 23 (!decide (x2=0)),kI 22 x2] (RS.dn (WS.nxt ?_)))))))))
 rcases z0 h with ⟨hp,h⟩ | ⟨hp,h⟩
 ·refine WS.fx 23 false (zj hp) (WS.cF ?_)
  cases h
 ·refine WS.fx 23 true (ze hp) (WS.cT (WS.sq (WS.rg (RS.mS 3 [kI 5 x2,kS 4 Sl3.nil,kI 24 x2] (RS.dn (WS.nxt (WS.rt ?_)))))))
  cases h
  exact fun a w hs=>sqR (rtR (rS hs))
noncomputable def B7:Code:=(Tryz.f7.body).getD .skip
def zkd:(Sl3×Int×AH)→Value
 | (r0,r1,_)=>(Value.tuple #[(Sl3.v r0),(Value.int .i64 r1)])
def zl4 (_:AH):(Sl3×Int×AH)→AH:=fun r=>r.2.2
noncomputable def z9b (L:LC) (m:Nat) (H:AH) (a0 a1:Option Addr) (a2:Sl3):Option (Sl3×Int×AH) :=
 Option.bind (z44 L m H a0 a2) fun (_,x2,H3) =>
 if x2=0 then
  Option.bind (z2y L m H3 a1 (-1)) fun (_,x5,H6) =>
  if x5=4 then
   some (Sl3.nil,4,H6)
  else
   none
 else
  some (Sl3.nil,x2,H3)
theorem zep {L:LC} {m:Nat} {H:AH} {a0 a1:Option Addr} {a2:Sl3} {r:(Sl3×Int×AH)} (h:z9b L m H a0 a1 a2=some r) :
  CallS Tryz.prog (NE.plain 148) m 7 #[(Value.pointer a0),(Value.pointer a1),(Sl3.v a2)] H (zkd r) (zl4 H r):=by
 refine CallS.mk (args:=[(Value.pointer a0),(Value.pointer a1),(Sl3.v a2)]) Tryz.func7 (B:=B7) (by kernel_rfl) (fun E _=>?_)
 unfold z9b at h
 refine WS.sq (WS.rg (RS.mS 2 [kI 7 0,kS 6 Sl3.nil] (RS.dn (WS.nxt (WS.sq (WS.rg (RS.mS 2 [kS 24 a2,(23,.val (Value.pointer a0))] ?_)))))))
 obtain ⟨⟨x1,x2,H3⟩,hx,h⟩:=bind_some h
 try dsimp only at h
 refine RS.cl (some 25) (v:=(Value.tuple #[(Value.pointer x1),(Value.int .i64 x2)])) 12 #[(Value.pointer a0),(Sl3.v a2)] (z5h hx) (RS.mS 5 [kI 9 x2,(8,.val (Value.pointer x1)),kI 27 x2,(26,.val (Value.pointer x1)),(22,.val (Value.tuple #[(Value.pointer x1),(Value.int .i64 x2)]))] (RS.dn (WS.nxt (WS.sq (WS.sq (WS.rg (RS.mS 2 [kB 29 (!decide (x2=0)),kI 28 x2] (RS.dn (WS.nxt ?_)))))))))
 rcases z0 h with ⟨hp,h⟩ | ⟨hp,h⟩
 ·refine WS.fx 29 false (zj hp) (WS.cF (WS.sk (WS.nxt (WS.sq (WS.sq (WS.rg (RS.mS 1 [(32,.val (Value.pointer a1))] ?_)))))))
  obtain ⟨⟨x4,x5,H6⟩,hx,h⟩:=bind_some h
  try dsimp only at h
  refine RS.cl (some 33) (v:=(Value.tuple #[(Value.string x4),(Value.int .i64 x5)])) 18 #[(Value.pointer a1),(Value.int .i64 (-1))] (z57 hx) (RS.mS 5 [kI 11 x5,kT 10 x4,kI 35 x5,kT 34 x4,(31,.val (Value.tuple #[(Value.string x4),(Value.int .i64 x5)]))] (RS.dn (WS.nxt (WS.sq (WS.rg (RS.mS 2 [kB 37 (decide (x5=4)),kI 36 x5] (RS.dn (WS.nxt ?_))))))))
  rcases z0 h with ⟨hp,h⟩ | ⟨hp,h⟩
  ·refine WS.fx 37 true (decide_eq_true hp) (WS.cT (WS.sq (WS.rg (RS.mS 2 [kI 7 4,kS 6 Sl3.nil] (RS.dn (WS.nxt (WS.rt ?_)))))))
   cases h
   exact fun a w hs=>sqR (rtR (rS hs))
  ·refine WS.fx 37 false (decide_eq_false hp) (WS.cF ?_)
   cases h
 ·refine WS.fx 29 true (ze hp) (WS.cT (WS.sq (WS.rg (RS.mS 3 [kI 7 x2,kS 6 Sl3.nil,kI 30 x2] (RS.dn (WS.nxt (WS.rt ?_)))))))
  cases h
  exact fun a w hs=>sqR (rtR (rS hs))
noncomputable def B14:Code:=(Tryz.f14.body).getD .skip
def zhv:(Sl3×Sl3×Sl3×AH)→Value
 | (r0,r1,r2,_)=>(Value.agg #[(Sl3.v r0),(Sl3.v r1),(Sl3.v r2)])
def zib (_:AH):(Sl3×Sl3×Sl3×AH)→AH:=fun r=>r.2.2.2
noncomputable def z5i (L:LC) (m:Nat) (H:AH) (a0:Option Addr):Option (Sl3×Sl3×Sl3×AH) :=
 Option.bind (z17 L H a0) fun x1 =>
 if x1=true then
  Option.bind a0 fun q2 =>
  Option.bind (rd deSl H (Addr.add (Addr.add q2 0) 0)) fun x3_0 =>
  Option.bind (rd deSl H (Addr.add (Addr.add q2 0) 1)) fun x3_1 =>
  Option.bind (rd deSl H (Addr.add (Addr.add q2 0) 2)) fun x3_2 =>
  Option.bind (z83 L m H x3_0 x3_1 x3_2) fun (x4_0,x4_1,x4_2,H5) =>
  some (x4_0,x4_1,x4_2,H5)
 else
  none
theorem zay {L:LC} {m:Nat} {H:AH} {a0:Option Addr} {r:(Sl3×Sl3×Sl3×AH)} (h:z5i L m H a0=some r) :
  CallS Tryz.prog (NE.plain 148) m 14 #[(Value.pointer a0)] H (zhv r) (zib H r):=by
 refine CallS.mk (args:=[(Value.pointer a0)]) Tryz.func14 (B:=B14) (by kernel_rfl) (fun E _=>?_)
 unfold z5i at h
 refine WS.sq (WS.rg (RS.mL 1 [kL 2 0 0] ([some (30,[(Sl3.v Sl3.nil),(Sl3.v Sl3.nil),(Sl3.v Sl3.nil)])]) (RS.dn (WS.nxt (WS.sq (WS.sq (WS.rg (RS.mS 1 [(3,.val (Value.pointer a0))] ?_))))))))
 obtain ⟨x1,hx,h⟩:=bind_some h
 refine RS.cl (some 4) (v:=(Value.bool x1)) 46 #[(Value.pointer a0)] (z1c hx) (RS.mS 1 [kB 5 (!x1)] (RS.dn (WS.nxt ?_)))
 rcases z0 h with ⟨hp,h⟩ | ⟨hp,h⟩
 ·refine WS.fx 5 false (nb_not hp) (WS.cF (WS.sk (WS.nxt (WS.sq (WS.rg (RS.mS 1 [(7,.val (Value.pointer a0))] ?_))))))
  obtain ⟨q2,hx,hq2⟩:=bind_some h
  subst hx
  have h:=hq2
  refine RS.mS 2 [(9,.val (Value.pointer (some (Addr.add q2 0)))),kP 8 q2] ?_
  obtain ⟨x3_0,hx0,h⟩:=bind_some h
  obtain ⟨x3_1,hx1,h⟩:=bind_some h
  obtain ⟨x3_2,hx2,h⟩:=bind_some h
  refine RS.la 10 30 (.tmp 9) 3 (z2 (z1 hx0 z3) (z2 (z1 hx1 z3) (z2 (z1 hx2 z3) zd))) ?_
  obtain ⟨⟨x4_0,x4_1,x4_2,H5⟩,hx,h⟩:=bind_some h
  try dsimp only at h
  refine RS.cl (some 11) (v:=(Value.agg #[(Sl3.v x4_0),(Sl3.v x4_1),(Sl3.v x4_2)])) 11 #[(Value.agg #[(Sl3.v x3_0),(Sl3.v x3_1),(Sl3.v x3_2)])] (zco hx) (RS.mL 1 [] ([some (30,[(Sl3.v x4_0),(Sl3.v x4_1),(Sl3.v x4_2)])]) (RS.dn (WS.nxt (WS.rt ?_))))
  cases h
  exact fun a w hs=>rtR (rS hs)
 ·refine WS.fx 5 true (zi hp) (WS.cT ?_)
  cases h
noncomputable def B149:Code:=(Tryz.f149.body).getD .skip
def zb5:Bool→Value
 | r0=>(Value.bool r0)
def zbf (H:AH):Bool→AH:=fun _=>H
noncomputable def z3b (_L:LC) (a0 a1:ByteArray):Option Bool :=
 if (a0.size:Int)≥(a1.size:Int) then
  none
 else
  some false
theorem zbr {L:LC} {m:Nat} {H:AH} {a0 a1:ByteArray} {r:Bool} (h:z3b L a0 a1=some r) :
  CallS Tryz.prog (NE.plain 148) m 149 #[(Value.string a0),(Value.string a1)] H (zb5 r) (zbf H r):=by
 refine CallS.mk (args:=[(Value.string a0),(Value.string a1)]) Tryz.func149 (B:=B149) (by kernel_rfl) (fun E _=>?_)
 unfold z3b at h
 refine WS.sq (WS.rg (RS.mS 1 [kB 4 false] (RS.dn (WS.nxt (WS.sq (WS.rg (RS.mS 6 [kB 10 (decide ((a0.size:Int)≥(a1.size:Int))),kB 9 (decide ((a0.size:Int)≥(a1.size:Int))),kI 8 (a1.size:Int),kT 7 a1,kI 6 (a0.size:Int),kT 5 a0] ?_)))))))
 rcases z0 h with ⟨hp,h⟩ | ⟨hp,h⟩
 ·refine RS.fx 10 true (decide_eq_true hp) ?_
  cases h
 ·refine RS.fx 10 false (decide_eq_false hp) (RS.mS 8 [kB 4 false,kB 17 false,kU 16,kU 15,kU 14,kU 13,kU 12,kU 11] (RS.dn (WS.nxt (WS.rt ?_))))
  cases h
  exact fun a w hs=>rtR (rS hs)
noncomputable def B97:Code:=(Tryz.f97.body).getD .skip
def zb6:(ByteArray×Bool)→Value
 | (r0,r1)=>(Value.tuple #[(Value.string r0),(Value.bool r1)])
def zbv (H:AH):(ByteArray×Bool)→AH:=fun _=>H
noncomputable def z3k (L:LC) (a0 a1:ByteArray):Option (ByteArray×Bool) :=
 Option.bind (z3b L a0 a1) fun x1 =>
 if x1=true then
  none
 else
  some (a0,false)
theorem zc9 {L:LC} {m:Nat} {H:AH} {a0 a1:ByteArray} {r:(ByteArray×Bool)} (h:z3k L a0 a1=some r) :
  CallS Tryz.prog (NE.plain 148) m 97 #[(Value.string a0),(Value.string a1)] H (zb6 r) (zbv H r):=by
 refine CallS.mk (args:=[(Value.string a0),(Value.string a1)]) Tryz.func97 (B:=B97) (by kernel_rfl) (fun E _=>?_)
 unfold z3k at h
 refine WS.sq (WS.rg (RS.mS 2 [kB 5 false,kT 4 (⟨#[]⟩:ByteArray)] (RS.dn (WS.nxt (WS.sq (WS.sq (WS.rg (RS.mS 2 [kT 7 a1,kT 6 a0] ?_))))))))
 obtain ⟨x1,hx,h⟩:=bind_some h
 refine RS.cl (some 8) (v:=(Value.bool x1)) 149 #[(Value.string a0),(Value.string a1)] (zbr hx) (RS.mS 1 [kB 9 (!x1)] (RS.dn (WS.nxt ?_)))
 rcases z0 h with ⟨hp,h⟩ | ⟨hp,h⟩
 ·refine WS.fx 9 false (nb_not hp) (WS.cF ?_)
  cases h
 ·refine WS.fx 9 true (zi hp) (WS.cT (WS.sq (WS.rg (RS.mS 3 [kB 5 false,kT 4 a0,kT 10 a0] (RS.dn (WS.nxt (WS.rt ?_)))))))
  cases h
  exact fun a w hs=>sqR (rtR (rS hs))
noncomputable def B74:Code:=(Tryz.f74.body).getD .skip
def zeo:(ByteArray×Bool)→Value
 | (r0,r1)=>(Value.tuple #[(Value.string r0),(Value.bool r1)])
def zfp (H:AH):(ByteArray×Bool)→AH:=fun _=>H
noncomputable def z62 (L:LC) (a0 a1:ByteArray):Option (ByteArray×Bool) :=
 Option.bind (z3k L a0 a1) fun (x1,x2) =>
 some (x1,x2)
theorem zf0 {L:LC} {m:Nat} {H:AH} {a0 a1:ByteArray} {r:(ByteArray×Bool)} (h:z62 L a0 a1=some r) :
  CallS Tryz.prog (NE.plain 148) m 74 #[(Value.string a0),(Value.string a1)] H (zeo r) (zfp H r):=by
 refine CallS.mk (args:=[(Value.string a0),(Value.string a1)]) Tryz.func74 (B:=B74) (by kernel_rfl) (fun E _=>?_)
 unfold z62 at h
 refine WS.sq (WS.rg (RS.mS 2 [kB 5 false,kT 4 (⟨#[]⟩:ByteArray)] (RS.dn (WS.nxt (WS.sq (WS.rg (RS.mS 2 [kT 7 a1,kT 6 a0] ?_)))))))
 obtain ⟨⟨x1,x2⟩,hx,h⟩:=bind_some h
 try dsimp only at h
 refine RS.cl (some 8) (v:=(Value.tuple #[(Value.string x1),(Value.bool x2)])) 97 #[(Value.string a0),(Value.string a1)] (zc9 hx) (RS.mS 4 [kB 5 x2,kT 4 x1,kB 10 x2,kT 9 x1] (RS.dn (WS.nxt (WS.rt ?_))))
 cases h
 exact fun a w hs=>rtR (rS hs)
noncomputable def B47:Code:=(Tryz.f47.body).getD .skip
def zjg:(Bool×AH)→Value
 | (r0,_)=>(Value.bool r0)
def zk5 (_:AH):(Bool×AH)→AH:=fun r=>r.2
noncomputable def zbd (L:LC) (_m:Nat) (H:AH) (a0:ByteArray):Option (Bool×AH) :=
 Option.bind (z62 L a0 (⟨#[100,105,102,102,32]⟩:ByteArray)) fun (_,x2) =>
 if x2=true then
  none
 else
  some (false,H)
theorem zjt {L:LC} {m:Nat} {H:AH} {a0:ByteArray} {r:(Bool×AH)} (h:zbd L m H a0=some r) :
  CallS Tryz.prog (NE.plain 148) m 47 #[(Value.string a0)] H (zjg r) (zk5 H r):=by
 refine CallS.mk (args:=[(Value.string a0)]) Tryz.func47 (B:=B47) (by kernel_rfl) (fun E _=>?_)
 unfold zbd at h
 refine WS.sq (WS.rg (RS.mS 1 [kB 2 false] (RS.dn (WS.nxt (WS.sq (WS.rg (RS.mS 1 [kT 6 a0] ?_)))))))
 obtain ⟨⟨x1,x2⟩,hx,h⟩:=bind_some h
 try dsimp only at h
 refine RS.cl (some 7) (v:=(Value.tuple #[(Value.string x1),(Value.bool x2)])) 74 #[(Value.string a0),(Value.string (⟨#[100,105,102,102,32]⟩:ByteArray))] (zf0 hx) (RS.mS 5 [kB 4 x2,kT 3 x1,kB 9 x2,kT 8 x1,(5,.val (Value.tuple #[(Value.string x1),(Value.bool x2)]))] (RS.dn (WS.nxt (WS.sq (WS.rg (RS.mS 2 [kB 11 x2,kB 10 x2] ?_))))))
 rcases z0 h with ⟨hp,h⟩ | ⟨hp,h⟩
 ·refine RS.fx 11 true hp ?_
  cases h
 ·refine RS.fx 11 false (b_not hp) (RS.mS 18 [kB 2 false,kB 28 false,kU 27,kU 26,kU 25,kU 24,kU 23,kU 22,kU 21,kB 20 false,kB 19 false,kU 18,kU 17,kU 16,kB 15 false,kB 14 false,kU 13,kU 12] (RS.dn (WS.nxt (WS.rt ?_))))
  cases h
  exact fun a w hs=>rtR (rS hs)
noncomputable def B16:Code:=(Tryz.f16.body).getD .skip
def z9x:(ByteArray×Bool×AH)→Value
 | (r0,r1,_)=>(Value.tuple #[(Value.string r0),(Value.bool r1)])
def zap (_:AH):(ByteArray×Bool×AH)→AH:=fun r=>r.2.2
noncomputable def z5o (L:LC) (m:Nat) (_a0_0 _a0_1 a0_2:Sl3) (_a1_0 _a1_1:Int) (_a1_2:ByteArray) (_a1_3:Sl3):(AH×Int)→Option (Lp (AH×Int) (ByteArray×Bool×AH)):=fun (H1,v11_2) =>
 if v11_2<(a0_2.n:Int) then
  Option.bind (idxA 6 a0_2 v11_2) fun p3 =>
  Option.bind (rd deS H1 (Addr.add p3 0)) fun x4_0 =>
  Option.bind (rd deSl H1 (Addr.add p3 1)) fun _ =>
  Option.bind (rd (deI .i64) H1 (Addr.add p3 2)) fun _ =>
  Option.bind (rd (deI .i64) H1 (Addr.add p3 3)) fun _ =>
  Option.bind (rd deS H1 (Addr.add p3 4)) fun _ =>
  Option.bind (rd deSl H1 (Addr.add p3 5)) fun _ =>
  Option.bind (zbd L m H1 x4_0) fun (x5,H6) =>
  if x5=true then
   none
  else
   some (.next (H6,(IntKind.i64.wrap (v11_2+1))))
 else
  some (.brk (H1,v11_2))
def zev (_L:LC) (_m:Nat) (a0_0 a0_1 a0_2:Sl3) (a1_0 a1_1:Int) (a1_2:ByteArray) (a1_3:Sl3):(AH×Int)→KN×Lcs:=fun (_,v11_2)=>([kI 11 v11_2,kL 3 1 0,kS 9 a0_2,kI 10 (a0_2.n:Int)],[some (30,[(Sl3.v a0_0),(Sl3.v a0_1),(Sl3.v a0_2)]),some (57,[(Value.int .i64 a1_0),(Value.int .i64 a1_1),(Value.string a1_2),(Sl3.v a1_3)])])
noncomputable def z5k (L:LC) (m:Nat) (H:AH) (a0_0 a0_1 a0_2:Sl3) (a1_0 a1_1:Int) (a1_2:ByteArray) (a1_3:Sl3):Option (ByteArray×Bool×AH) :=
 Option.bind (L.run (z5o L m a0_0 a0_1 a0_2 a1_0 a1_1 a1_2 a1_3) (H,0)) fun o=>match o with
 | .inl (H7,_) =>
  some ((⟨#[]⟩:ByteArray),false,H7)
 | .inr r=>some r
theorem z7f {E H L m a0_0 a0_1 a0_2 a1_0 a1_1 a1_2 a1_3} :LoopF Tryz.prog (NE.plain 148) m E Tryz.f16 ((cfst (csnd (cfst (csnd B16))))) (zev L m a0_0 a0_1 a0_2 a1_0 a1_1 a1_2 a1_3) (fun s=>s.1) 0 z9x (zap H) (z5o L m a0_0 a0_1 a0_2 a1_0 a1_1 a1_2 a1_3):=by
 rintro ⟨H1,v11_2⟩ o h
 unfold z5o at h
 try dsimp only at h
 refine WS.sq (WS.rg (RS.mS 1 [kB 12 (decide (v11_2<(a0_2.n:Int)))] (RS.dn (WS.nxt (WS.sq ?_)))))
 rcases z0 h with ⟨hp,h⟩ | ⟨hp,h⟩
 ·refine WS.fx 12 true (decide_eq_true hp) (WS.cT (WS.sk (WS.nxt (WS.sq (WS.bk 1 (WS.sq (WS.rg ?_)))))))
  obtain ⟨p3,hx,h⟩:=bind_some h
  refine RS.ix 13 28 66 (.tmp 9) (.tmp 11) hx ?_
  obtain ⟨x4_0,hx0,h⟩:=bind_some h
  obtain ⟨x4_1,hx1,h⟩:=bind_some h
  obtain ⟨x4_2,hx2,h⟩:=bind_some h
  obtain ⟨x4_3,hx3,h⟩:=bind_some h
  obtain ⟨x4_4,hx4,h⟩:=bind_some h
  obtain ⟨x4_5,hx5,h⟩:=bind_some h
  refine RS.la 14 66 (.tmp 13) 6 (z2 (z1 hx0 z9) (z2 (z1 hx1 z3) (z2 (z1 hx2 z5) (z2 (z1 hx3 z5) (z2 (z1 hx4 z9) (z2 (z1 hx5 z3) zd)))))) (RS.mL 2 [kL 7 2 0] ([some (30,[(Sl3.v a0_0),(Sl3.v a0_1),(Sl3.v a0_2)]),some (57,[(Value.int .i64 a1_0),(Value.int .i64 a1_1),(Value.string a1_2),(Sl3.v a1_3)]),some (66,[(Value.string x4_0),(Sl3.v x4_1),(Value.int .i64 x4_2),(Value.int .i64 x4_3),(Value.string x4_4),(Sl3.v x4_5)])]) (RS.dn (WS.nxt (WS.sq ?_))))
  refine WS.dr [0,1] [0,1,3,7,15,31,63,127,255,511,1023,2047,4095,8191,1023,32767,65535,131071,262143,524287,1048575,2097151,262143,8388607,16777215,33554431,67108863,134217727,67108863,335544319,872415231,1946157055,4294967295,8589934591] 34 (fun hcl=>?_)
  refine DA.tL 0 (some 15) (.loc 2 0) (DA.tL 1 (some 16) (.val (Value.string x4_0)) ?_)
  obtain ⟨⟨x5,H6⟩,hx,h⟩:=bind_some h
  try dsimp only at h
  refine DA.on 2 (DA.aC 2 (some 17) (v:=(Value.bool x5)) 47 #[(Value.string x4_0)] (zjt hx) (DA.tP 3 (some 18) (Value.bool x5) ?_))
  rcases z0 h with ⟨hp,h⟩ | ⟨hp,h⟩
  ·refine DA.fx 18 true hp ?_
   cases h
  ·refine DA.fx 18 false (b_not hp) ?_
   refine DA.tskipP 4 (some 19) (by kernel_rfl) (by kernel_rfl) (by kernel_rfl) hcl (fun _ _ _ h=>h) (by kernel_rfl) ?_
   refine DA.tskipP 5 (some 20) (by kernel_rfl) (by kernel_rfl) (by kernel_rfl) hcl (fun _ _ _ h=>h) (by kernel_rfl) ?_
   refine DA.tskipP 6 (some 21) (by kernel_rfl) (by kernel_rfl) (by kernel_rfl) hcl (fun _ _ _ h=>h) (by kernel_rfl) ?_
   refine DA.tskipP 7 (some 22) (by kernel_rfl) (by kernel_rfl) (by kernel_rfl) hcl (fun _ _ _ h=>h) (by kernel_rfl) ?_
   refine DA.tP 8 (some 23) (Value.bool false) (DA.tP 9 (some 24) (Value.bool false) ?_)
   refine DA.tskipP 10 (some 25) (by kernel_rfl) (by kernel_rfl) (by kernel_rfl) hcl (fun _ _ _ h=>h) (by kernel_rfl) ?_
   refine DA.tskipP 11 (some 26) (by kernel_rfl) (by kernel_rfl) (by kernel_rfl) hcl (fun _ _ _ h=>h) (by kernel_rfl) ?_
   refine DA.tskipP 12 (some 27) (by kernel_rfl) (by kernel_rfl) (by kernel_rfl) hcl (fun _ _ _ h=>h) (by kernel_rfl) ?_
   refine DA.tskipP 13 (some 28) (by kernel_rfl) (by kernel_rfl) (by kernel_rfl) hcl (fun _ _ _ h=>h) (by kernel_rfl) ?_
   refine DA.tskipP 14 (some 29) (by kernel_rfl) (by kernel_rfl) (by kernel_rfl) hcl (fun _ _ _ h=>h) (by kernel_rfl) ?_
   refine DA.tskipP 15 (some 30) (by kernel_rfl) (by kernel_rfl) (by kernel_rfl) hcl (fun _ _ _ h=>h) (by kernel_rfl) ?_
   refine DA.tP 16 (some 31) (Value.bool false) (DA.tP 17 (some 32) (Value.bool false) ?_)
   refine DA.tskipP 18 (some 33) (by kernel_rfl) (by kernel_rfl) (by kernel_rfl) hcl (fun _ _ _ h=>h) (by kernel_rfl) ?_
   refine DA.tskipP 19 (some 34) (by kernel_rfl) (by kernel_rfl) (by kernel_rfl) hcl (fun _ _ _ h=>h) (by kernel_rfl) ?_
   refine DA.tskipP 20 (some 35) (by kernel_rfl) (by kernel_rfl) (by kernel_rfl) hcl (fun _ _ _ h=>h) (by kernel_rfl) ?_
   refine DA.tskipP 21 (some 36) (by kernel_rfl) (by kernel_rfl) (by kernel_rfl) hcl (fun _ _ _ h=>h) (by kernel_rfl) ?_
   refine DA.tskipP 22 (some 37) (by kernel_rfl) (by kernel_rfl) (by kernel_rfl) hcl (fun _ _ _ h=>h) (by kernel_rfl) ?_
   refine DA.tskipP 23 (some 38) (by kernel_rfl) (by kernel_rfl) (by kernel_rfl) hcl (fun _ _ _ h=>h) (by kernel_rfl) ?_
   refine DA.tP 24 (some 39) (Value.bool false) (DA.tP 25 (some 40) (Value.bool false) ?_)
   refine DA.tskipP 26 (some 41) (by kernel_rfl) (by kernel_rfl) (by kernel_rfl) hcl (fun _ _ _ h=>h) (by kernel_rfl) ?_
   refine DA.tskipP 27 (some 42) (by kernel_rfl) (by kernel_rfl) (by kernel_rfl) hcl (fun _ _ _ h=>h) (by kernel_rfl) ?_
   refine DA.tskipP 28 (some 43) (by kernel_rfl) (by kernel_rfl) (by kernel_rfl) hcl (fun _ _ _ h=>h) (by kernel_rfl) ?_
   refine DA.tskipP 29 (some 44) (by kernel_rfl) (by kernel_rfl) (by kernel_rfl) hcl (fun _ _ _ h=>h) (by kernel_rfl) ?_
   refine DA.tskipP 30 (some 45) (by kernel_rfl) (by kernel_rfl) (by kernel_rfl) hcl (fun _ _ _ h=>h) (by kernel_rfl) ?_
   refine DA.tskipP 31 (some 46) (by kernel_rfl) (by kernel_rfl) (by kernel_rfl) hcl (fun _ _ _ h=>h) (by kernel_rfl) ?_
   refine DA.tskipP 32 (some 47) (by kernel_rfl) (by kernel_rfl) (by kernel_rfl) hcl (fun _ _ _ h=>h) (by kernel_rfl) ?_
   refine DA.tP 33 (some 48) (Value.bool false) (DA.dn (WS.nxt (WS.cF (WS.sk ?_))))
   refine fun a w hs=>bkN ((WS.nxt ?_ a w hs))
   refine WS.rg (RS.mS 2 [kI 11 (IntKind.i64.wrap (v11_2+1)),kI 51 (IntKind.i64.wrap (v11_2+1))] (RS.dn ?_))
   cases h
   exact fun a w hs=>lsN rfl (hs.sb 2)
 ·refine WS.fx 12 false (decide_eq_false hp) (WS.cF (WS.ex 0 ?_))
  cases h
  exact fun a w hs=>sqE (lsB rfl (hs.sb 2))
theorem zav {L:LC} {m:Nat} {H:AH} {a0_0 a0_1 a0_2:Sl3} {a1_0 a1_1:Int} {a1_2:ByteArray} {a1_3:Sl3} {r:(ByteArray×Bool×AH)} (h:z5k L m H a0_0 a0_1 a0_2 a1_0 a1_1 a1_2 a1_3=some r) :
  CallS Tryz.prog (NE.plain 148) m 16 #[(Value.agg #[(Sl3.v a0_0),(Sl3.v a0_1),(Sl3.v a0_2)]),(Value.agg #[(Value.int .i64 a1_0),(Value.int .i64 a1_1),(Value.string a1_2),(Sl3.v a1_3)])] H (z9x r) (zap H r):=by
 refine CallS.mk (args:=[(Value.agg #[(Sl3.v a0_0),(Sl3.v a0_1),(Sl3.v a0_2)]),(Value.agg #[(Value.int .i64 a1_0),(Value.int .i64 a1_1),(Value.string a1_2),(Sl3.v a1_3)])]) Tryz.func16 (B:=B16) (by kernel_rfl) (fun E _=>?_)
 unfold z5k at h
 refine WS.sq (WS.rg (RS.mL 4 [kB 5 false,kT 4 (⟨#[]⟩:ByteArray),kL 3 1 0,kL 2 0 0] ([some (30,[(Sl3.v a0_0),(Sl3.v a0_1),(Sl3.v a0_2)]),some (57,[(Value.int .i64 a1_0),(Value.int .i64 a1_1),(Value.string a1_2),(Sl3.v a1_3)])]) (RS.dn (WS.nxt (WS.sq (WS.sq (WS.rg (RS.mS 4 [kI 11 0,kI 10 (a0_2.n:Int),kS 9 a0_2,kL 8 0 2] (RS.dn ?_)))))))))
 refine WS.nxt (WS.bk 0 ?_)
 obtain ⟨o,hl,h⟩:=bind_some h
 rcases o with ⟨H7,v11_8⟩ | r
 ·try dsimp only at h
  refine WS.lI (z7f (L:=L) (E:=E) (m:=m) (H:=H)) (L.ok hl) 2 ?_
  clear hl
  refine fun a w hs=>bkE ((WS.nxt ?_ a w hs))
  refine WS.sq (WS.rg (RS.mS 2 [kB 5 false,kT 4 (⟨#[]⟩:ByteArray)] (RS.dn (WS.nxt (WS.rt ?_)))))
  cases h
  exact fun a w hs=>rtR (rS hs)
 ·try dsimp only at h
  refine WS.lR (z7f (L:=L) (E:=E) (m:=m) (H:=H)) (L.ok hl) 2 ?_
  cases h
  exact fun a w hq=>bkR (sqR (rtR hq))
noncomputable def B89:Code:=(Tryz.f89.body).getD .skip
def z6v:(ByteArray×AH)→Value
 | (r0,_)=>(Value.string r0)
def z85 (_:AH):(ByteArray×AH)→AH:=fun r=>r.2
noncomputable def z5y (_L:LC) (_m:Nat) (H:AH) (a0_0 _a0_1:Int) (_a0_2:ByteArray) (_a0_3:Sl3):Option (ByteArray×AH) :=
 if a0_0=1 then
  none
 else
  if a0_0=2 then
   some ((⟨#[73,110,116]⟩:ByteArray),H)
  else
   none
noncomputable def zbs (L:LC) (n:Nat):(Nat→AH→Int→Int→ByteArray→Sl3→Option (ByteArray×AH)):=Nat.rec (motive:=fun _=>(Nat→AH→Int→Int→ByteArray→Sl3→Option (ByteArray×AH))) (fun _ _ _ _ _ _=>none) (fun _ _=>z5y L) n
noncomputable def zhi (L:LC) (m:Nat) (H:AH) (a0_0 a0_1:Int) (a0_2:ByteArray) (a0_3:Sl3):Option (ByteArray×AH):=(zbs L L.fuel) m H a0_0 a0_1 a0_2 a0_3
theorem zf4 {L:LC} {m:Nat} {H:AH} {a0_0 a0_1:Int} {a0_2:ByteArray} {a0_3:Sl3} {r:(ByteArray×AH)} (h:z5y L m H a0_0 a0_1 a0_2 a0_3=some r) :
  CallS Tryz.prog (NE.plain 148) m 89 #[(Value.agg #[(Value.int .i64 a0_0),(Value.int .i64 a0_1),(Value.string a0_2),(Sl3.v a0_3)])] H (z6v r) (z85 H r):=by
 refine CallS.mk (args:=[(Value.agg #[(Value.int .i64 a0_0),(Value.int .i64 a0_1),(Value.string a0_2),(Sl3.v a0_3)])]) Tryz.func89 (B:=B89) (by kernel_rfl) (fun E _=>?_)
 unfold z5y at h
 refine WS.sq (WS.rg (RS.mL 2 [kT 2 (⟨#[]⟩:ByteArray),kL 1 0 0] ([some (57,[(Value.int .i64 a0_0),(Value.int .i64 a0_1),(Value.string a0_2),(Sl3.v a0_3)])]) (RS.dn (WS.nxt (WS.sq (WS.sq (WS.rg (RS.mS 2 [kI 4 a0_0,kL 3 0 0] (RS.dn ?_)))))))))
 refine WS.nxt (WS.bk 0 (WS.sq (WS.rg (RS.mS 2 [kB 5 (decide (a0_0=1)),kB 6 (decide (a0_0=1))] (RS.dn (WS.nxt ?_))))))
 rcases z0 h with ⟨hp,h⟩ | ⟨hp,h⟩
 ·refine WS.fx 5 true (decide_eq_true hp) (WS.cT ?_)
  cases h
 ·refine WS.fx 5 false (decide_eq_false hp) (WS.cF (WS.sq (WS.rg (RS.mS 2 [kB 7 (decide (a0_0=2)),kB 8 (decide (a0_0=2))] (RS.dn (WS.nxt ?_))))))
  rcases z0 h with ⟨hp,h⟩ | ⟨hp,h⟩
  ·refine WS.fx 7 true (decide_eq_true hp) (WS.cT (WS.sq (WS.rg (RS.mS 1 [kT 2 (⟨#[73,110,116]⟩:ByteArray)] (RS.dn (WS.nxt (WS.rt ?_)))))))
   cases h
   exact fun a w hs=>bkR (sqR (rtR (rS hs)))
  ·refine WS.fx 7 false (decide_eq_false hp) (WS.cF ?_)
   cases h
theorem zg7 {L:LC}:∀n,(∀(m:Nat) (H:AH) (a0_0 a0_1:Int) (a0_2:ByteArray) (a0_3:Sl3) (r:(ByteArray×AH)),((zbs L n)) m H a0_0 a0_1 a0_2 a0_3=some r→CallS Tryz.prog (NE.plain 148) m 89 #[(Value.agg #[(Value.int .i64 a0_0),(Value.int .i64 a0_1),(Value.string a0_2),(Sl3.v a0_3)])] H (z6v r) (z85 H r)):=by
 intro n
 induction n with
 | zero=>exact (fun _ _ _ _ _ _ _ h=>(Option.some_ne_none _ h.symm).elim)
 | succ n ih=>exact (fun _ _ _ _ _ _ _ h=>zf4 (L:=L)  h)
theorem zk7 {L:LC} {m:Nat} {H:AH} {a0_0 a0_1:Int} {a0_2:ByteArray} {a0_3:Sl3} {r:(ByteArray×AH)} (h:zhi L m H a0_0 a0_1 a0_2 a0_3=some r) :
  CallS Tryz.prog (NE.plain 148) m 89 #[(Value.agg #[(Value.int .i64 a0_0),(Value.int .i64 a0_1),(Value.string a0_2),(Sl3.v a0_3)])] H (z6v r) (z85 H r) :=
 (zg7 _) _ _ _ _ _ _ _ h
noncomputable def B57:Code:=(Tryz.f57.body).getD .skip
def zg1:(ByteArray×Int×AH)→Value
 | (r0,r1,_)=>(Value.tuple #[(Value.string r0),(Value.int .i64 r1)])
def zhr (_:AH):(ByteArray×Int×AH)→AH:=fun r=>r.2.2
noncomputable def zcy (L:LC) (m:Nat) (H:AH) (a0_0 a0_1:Int) (a0_2:ByteArray) (a0_3:Sl3):Option (ByteArray×Int×AH) :=
 Option.bind (zb1 L H a0_0 a0_1 a0_2 a0_3) fun x1 =>
 if x1=0 then
  Option.bind (zhi L m H a0_0 a0_1 a0_2 a0_3) fun (x2,H3) =>
  some (x2,0,H3)
 else
  none
theorem zgx {L:LC} {m:Nat} {H:AH} {a0_0 a0_1:Int} {a0_2:ByteArray} {a0_3:Sl3} {r:(ByteArray×Int×AH)} (h:zcy L m H a0_0 a0_1 a0_2 a0_3=some r) :
  CallS Tryz.prog (NE.plain 148) m 57 #[(Value.agg #[(Value.int .i64 a0_0),(Value.int .i64 a0_1),(Value.string a0_2),(Sl3.v a0_3)])] H (zg1 r) (zhr H r):=by
 refine CallS.mk (args:=[(Value.agg #[(Value.int .i64 a0_0),(Value.int .i64 a0_1),(Value.string a0_2),(Sl3.v a0_3)])]) Tryz.func57 (B:=B57) (by kernel_rfl) (fun E _=>?_)
 unfold zcy at h
 refine WS.sq (WS.rg (RS.mL 3 [kI 3 0,kT 2 (⟨#[]⟩:ByteArray),kL 1 0 0] ([some (57,[(Value.int .i64 a0_0),(Value.int .i64 a0_1),(Value.string a0_2),(Sl3.v a0_3)])]) (RS.dn (WS.nxt (WS.sq (WS.sq (WS.rg (RS.mS 1 [kA 5 #[(Value.int .i64 a0_0),(Value.int .i64 a0_1),(Value.string a0_2),(Sl3.v a0_3)]] ?_))))))))
 obtain ⟨x1,hx,h⟩:=bind_some h
 refine RS.cl (some 6) (v:=(Value.int .i64 x1)) 88 #[(Value.agg #[(Value.int .i64 a0_0),(Value.int .i64 a0_1),(Value.string a0_2),(Sl3.v a0_3)])] (zfz hx) (RS.mS 1 [kI 4 x1] (RS.dn (WS.nxt (WS.sq (WS.rg (RS.mS 2 [kB 8 (!decide (x1=0)),kI 7 x1] (RS.dn (WS.nxt ?_))))))))
 rcases z0 h with ⟨hp,h⟩ | ⟨hp,h⟩
 ·refine WS.fx 8 false (zj hp) (WS.cF (WS.sk (WS.nxt (WS.sq (WS.rg (RS.mS 1 [kA 10 #[(Value.int .i64 a0_0),(Value.int .i64 a0_1),(Value.string a0_2),(Sl3.v a0_3)]] ?_))))))
  obtain ⟨⟨x2,H3⟩,hx,h⟩:=bind_some h
  try dsimp only at h
  refine RS.cl (some 11) (v:=(Value.string x2)) 89 #[(Value.agg #[(Value.int .i64 a0_0),(Value.int .i64 a0_1),(Value.string a0_2),(Sl3.v a0_3)])] (zk7 hx) (RS.mS 2 [kI 3 0,kT 2 x2] (RS.dn (WS.nxt (WS.rt ?_))))
  cases h
  exact fun a w hs=>rtR (rS hs)
 ·refine WS.fx 8 true (ze hp) (WS.cT ?_)
  cases h
noncomputable def B90:Code:=(Tryz.f90.body).getD .skip
def z8g:Int→Value
 | r0=>(Value.int .i64 r0)
def z9w (H:AH):Int→AH:=fun _=>H
noncomputable def z50 (_L:LC) (_H:AH) (a0:Sl3) (_a1:Int):Int→Option (Lp Int Int):=fun v8_1 =>
 if v8_1<(a0.n:Int) then
  none
 else
  some (.brk v8_1)
def ze2 (_L:LC) (_H:AH) (a0:Sl3) (a1:Int):Int→KN×Lcs:=fun v8_1=>([kI 8 v8_1,kS 0 a0,kI 1 a1,kI 7 (a0.n:Int)],[])
noncomputable def z86 (L:LC) (H:AH) (a0:Sl3) (a1:Int):Option Int :=
 Option.bind (L.run (z50 L H a0 a1) 0) fun o=>match o with
 | .inl _ =>
  some (-1)
 | .inr r=>some r
theorem z70 {E m L H a0 a1} :LoopF Tryz.prog (NE.plain 148) m E Tryz.f90 ((cfst (csnd (cfst (csnd B90))))) (ze2 L H a0 a1) (fun _=>H) 0 z8g (z9w H) (z50 L H a0 a1):=by
 rintro v8_1 o h
 unfold z50 at h
 try dsimp only at h
 refine WS.sq (WS.rg (RS.mS 1 [kB 9 (decide (v8_1<(a0.n:Int)))] (RS.dn (WS.nxt (WS.sq ?_)))))
 rcases z0 h with ⟨hp,h⟩ | ⟨hp,h⟩
 ·refine WS.fx 9 true (decide_eq_true hp) (WS.cT ?_)
  cases h
 ·refine WS.fx 9 false (decide_eq_false hp) (WS.cF (WS.ex 0 ?_))
  cases h
  exact fun a w hs=>sqE (lsB rfl (hs.sb 0))
theorem zhf {L:LC} {m:Nat} {H:AH} {a0:Sl3} {a1 r:Int} (h:z86 L H a0 a1=some r) :
  CallS Tryz.prog (NE.plain 148) m 90 #[(Sl3.v a0),(Value.int .i64 a1)] H (z8g r) (z9w H r):=by
 refine CallS.mk (args:=[(Sl3.v a0),(Value.int .i64 a1)]) Tryz.func90 (B:=B90) (by kernel_rfl) (fun E _=>?_)
 unfold z86 at h
 refine WS.sq (WS.rg (RS.mS 1 [kI 4 0] (RS.dn (WS.nxt (WS.sq (WS.sq (WS.rg (RS.mS 3 [kI 8 0,kI 7 (a0.n:Int),kS 6 a0] (RS.dn ?_)))))))))
 refine WS.nxt (WS.bk 0 ?_)
 obtain ⟨o,hl,h⟩:=bind_some h
 rcases o with v8_2 | r
 ·try dsimp only at h
  refine WS.lI (z70 (L:=L) (E:=E) (m:=m) (H:=H)) (L.ok hl) 0 ?_
  clear hl
  refine fun a w hs=>bkE ((WS.nxt ?_ a w hs))
  refine WS.sq (WS.rg (RS.mS 1 [kI 4 (-1)] (RS.dn (WS.nxt (WS.rt ?_)))))
  cases h
  exact fun a w hs=>rtR (rS hs)
 ·try dsimp only at h
  refine WS.lR (z70 (L:=L) (E:=E) (m:=m) (H:=H)) (L.ok hl) 0 ?_
  cases h
  exact fun a w hq=>bkR (sqR (rtR hq))
noncomputable def B58:Code:=(Tryz.f58.body).getD .skip
def zdp:Bool→Value
 | r0=>(Value.bool r0)
def zeg (H:AH):Bool→AH:=fun _=>H
noncomputable def z4t (L:LC) (H:AH) (a0:Sl3) (a1:Int):Option Bool :=
 Option.bind (z86 L H a0 a1) fun x1 =>
 some (decide (x1≥0))
theorem zek {L:LC} {m:Nat} {H:AH} {a0:Sl3} {a1:Int} {r:Bool} (h:z4t L H a0 a1=some r) :
  CallS Tryz.prog (NE.plain 148) m 58 #[(Sl3.v a0),(Value.int .i64 a1)] H (zdp r) (zeg H r):=by
 refine CallS.mk (args:=[(Sl3.v a0),(Value.int .i64 a1)]) Tryz.func58 (B:=B58) (by kernel_rfl) (fun E _=>?_)
 unfold z4t at h
 refine WS.sq (WS.rg (RS.mS 1 [kB 4 false] (RS.dn (WS.nxt (WS.sq (WS.rg (RS.mS 2 [kI 6 a1,kS 5 a0] ?_)))))))
 obtain ⟨x1,hx,h⟩:=bind_some h
 refine RS.cl (some 7) (v:=(Value.int .i64 x1)) 90 #[(Sl3.v a0),(Value.int .i64 a1)] (zhf hx) (RS.mS 2 [kB 4 (decide (x1≥0)),kB 8 (decide (x1≥0))] (RS.dn (WS.nxt (WS.rt ?_))))
 cases h
 exact fun a w hs=>rtR (rS hs)
end Go.Proofs.YtpcckomdlmpckaaGreatDoor
namespace Go.Proofs.YtpcckomdlmpckaaGreatDoor
open Go Go.Abs
set_option maxRecDepth 100000
noncomputable def B56:Code:=(Tryz.f56.body).getD .skip
def za9:AH→Value
 | _=>(Value.tuple #[])
def zb3 (_:AH):AH→AH:=fun r=>r
noncomputable def z35 (L:LC) (m:Nat) (H:AH) (a0:Int) (a1 a2:Option Addr):Option AH :=
 Option.bind a1 fun q1 =>
 Option.bind (rd deP H q1) fun x2 =>
 Option.bind x2 fun q3 =>
 Option.bind (rd deP H (Addr.add q3 0)) fun x4 =>
 Option.bind x4 fun q5 =>
 Option.bind (rd deP H (Addr.add q5 0)) fun x6 =>
 Option.bind (z2z L m H x6 a0) fun (x7_0,x7_1,x7_2,x7_3,_,H9) =>
 Option.bind (zcy L m H9 x7_0 x7_1 x7_2 x7_3) fun (x10,_,H12) =>
 Option.bind a2 fun q13 =>
 Option.bind (rd deM H12 q13) fun x14 =>
 Option.bind (lk1 Tryz.prog 86 deSl H12 x14 (Value.string x10)) fun x15 =>
 Option.bind (z4t L H12 x15 a0) fun x16 =>
 if x16=true then
  none
 else
  Option.bind (rd deM H12 q13) fun x17 =>
  Option.bind (rd deM H12 q13) fun x18 =>
  Option.bind (lk1 Tryz.prog 86 deSl H12 x18 (Value.string x10)) fun x19 =>
  Option.bind (newR 3 1 #[(Value.int .i64 a0)] H12) fun (s20,H21) =>
  Option.bind (appS (Nat.max m H12.next) 3 1 8 H21 x19 s20) fun (s22,H23) =>
  Option.bind (upM Tryz.prog m 86 H23 x17 (Value.string x10) (Sl3.v s22)) fun H24 =>
  some H24
theorem zb2 {L:LC} {m:Nat} {H:AH} {a0:Int} {a1 a2:Option Addr} {r:AH} (h:z35 L m H a0 a1 a2=some r) :
  CallS Tryz.prog (NE.plain 148) m 56 #[(Value.int .i64 a0),(Value.pointer a1),(Value.pointer a2)] H (za9 r) (zb3 H r):=by
 refine CallS.mk (args:=[(Value.int .i64 a0),(Value.pointer a1),(Value.pointer a2)]) Tryz.func56 (B:=B56) (by kernel_rfl) (fun E _=>?_)
 unfold z35 at h
 refine WS.sq (WS.rg ?_)
 obtain ⟨q1,hx,hq1⟩:=bind_some h
 subst hx
 have h:=hq1
 obtain ⟨x2,hx,h⟩:=bind_some h
 refine RS.ld 9 83 (.tmp 1) (z1 hx zr) ?_
 obtain ⟨q3,hx,hq3⟩:=bind_some h
 subst hx
 have h:=hq3
 refine RS.mS 2 [(11,.val (Value.pointer (some (Addr.add q3 0)))),kP 10 q3] ?_
 obtain ⟨x4,hx,h⟩:=bind_some h
 refine RS.ld 12 51 (.tmp 11) (z1 hx zr) ?_
 obtain ⟨q5,hx,hq5⟩:=bind_some h
 subst hx
 have h:=hq5
 refine RS.mS 2 [(14,.val (Value.pointer (some (Addr.add q5 0)))),kP 13 q5] ?_
 obtain ⟨x6,hx,h⟩:=bind_some h
 refine RS.ld 15 22 (.tmp 14) (z1 hx zr) (RS.mS 1 [kI 16 a0] ?_)
 obtain ⟨⟨x7_0,x7_1,x7_2,x7_3,x8,H9⟩,hx,h⟩:=bind_some h
 try dsimp only at h
 refine RS.cl (some 17) (v:=(Value.tuple #[(Value.agg #[(Value.int .i64 x7_0),(Value.int .i64 x7_1),(Value.string x7_2),(Sl3.v x7_3)]),(Value.bool x8)])) 42 #[(Value.pointer x6),(Value.int .i64 a0)] (z52 hx) (RS.mL 6 [kB 5 x8,kL 4 0 0,kB 19 x8,kA 18 #[(Value.int .i64 x7_0),(Value.int .i64 x7_1),(Value.string x7_2),(Sl3.v x7_3)],(8,.val (Value.tuple #[(Value.agg #[(Value.int .i64 x7_0),(Value.int .i64 x7_1),(Value.string x7_2),(Sl3.v x7_3)]),(Value.bool x8)]))] ([some (57,[(Value.int .i64 x7_0),(Value.int .i64 x7_1),(Value.string x7_2),(Sl3.v x7_3)])]) (RS.dn (WS.nxt (WS.sq (WS.rg (RS.mS 1 [kA 21 #[(Value.int .i64 x7_0),(Value.int .i64 x7_1),(Value.string x7_2),(Sl3.v x7_3)]] ?_))))))
 obtain ⟨⟨x10,x11,H12⟩,hx,h⟩:=bind_some h
 try dsimp only at h
 refine RS.cl (some 22) (v:=(Value.tuple #[(Value.string x10),(Value.int .i64 x11)])) 57 #[(Value.agg #[(Value.int .i64 x7_0),(Value.int .i64 x7_1),(Value.string x7_2),(Sl3.v x7_3)])] (zgx hx) (RS.mS 5 [kI 7 x11,kT 6 x10,kI 24 x11,kT 23 x10,(20,.val (Value.tuple #[(Value.string x10),(Value.int .i64 x11)]))] (RS.dn (WS.nxt (WS.sq (WS.rg ?_)))))
 obtain ⟨q13,hx,hq13⟩:=bind_some h
 subst hx
 have h:=hq13
 obtain ⟨x14,hx,h⟩:=bind_some h
 refine RS.ld 25 86 (.tmp 2) (z1 hx z6z) (RS.mS 1 [kT 26 x10] ?_)
 obtain ⟨x15,hx,h⟩:=bind_some h
 refine RS.o (H':=H12) (some 27) (Sl3.v x15) (Abs.run_look (t:=86) (x:=.tmp 25) (y:=.tmp 26) (mm:=x14) (k:=(Value.string x10)) (by kernel_rfl) (by kernel_rfl) (by kernel_rfl) (by kernel_rfl) (lk1_eq hx z3)) (RS.mS 1 [kI 28 a0] ?_)
 obtain ⟨x16,hx,h⟩:=bind_some h
 refine RS.cl (some 29) (v:=(Value.bool x16)) 58 #[(Sl3.v x15),(Value.int .i64 a0)] (zek hx) (RS.mS 1 [kB 30 (!x16)] (RS.dn (WS.nxt ?_)))
 rcases z0 h with ⟨hp,h⟩ | ⟨hp,h⟩
 ·refine WS.fx 30 false (nb_not hp) (WS.cF ?_)
  cases h
 ·refine WS.fx 30 true (zi hp) (WS.cT ?_)
  refine WS.dr [0,2,3,4] [0,0,0,0,12,0,32,124,255] 9 (fun hcl=>?_)
  obtain ⟨x17,hx,h⟩:=bind_some h
  refine DA.tD 0 (some 31) (Value.map x17) (Abs.det_load (t:=86) (x:=.tmp 2) (a:=q13) (by kernel_rfl) (by kernel_rfl) (by kernel_rfl) (by kernel_rfl) (z1 hx z6z)) ?_
  obtain ⟨x18,hx,h⟩:=bind_some h
  refine DA.tD 2 (some 33) (Value.map x18) (Abs.det_load (t:=86) (x:=.tmp 2) (a:=q13) (by kernel_rfl) (by kernel_rfl) (by kernel_rfl) (by kernel_rfl) (z1 hx z6z)) (DA.tK 3 (some 34) (Value.string x10) ?_)
  obtain ⟨x19,hx,h⟩:=bind_some h
  refine DA.tD 4 (some 35) (Sl3.v x19) (Abs.det_look (t:=86) (x:=.tmp 33) (y:=.tmp 34) (mm:=x18) (k:=(Value.string x10)) (by kernel_rfl) (by kernel_rfl) (by kernel_rfl) (by kernel_rfl) (lk1_eq hx z3)) (DA.tP 1 (some 32) (Value.string x10) (DA.tP 5 (some 36) (Value.int .i64 a0) ?_))
  obtain ⟨⟨s20,H21⟩,hx,h⟩:=bind_some h
  try dsimp only at h
  refine DA.on 6 (DA.aHj (H':=H21) 6 (some 37) true (Sl3.v s20) (Abs.run_newR (by kernel_rfl) (by kernel_rfl) hx) ?_)
  obtain ⟨⟨s22,H23⟩,hx,h⟩:=bind_some h
  try dsimp only at h
  refine DA.on 7 (DA.aHj (H':=H23) 7 (some 38) false (Sl3.v s22) (Abs.run_app (x:=.tmp 35) (y:=.tmp 37) (ts:=#[41,41]) (s:=x19) (z:=s20) (by kernel_rfl) (by kernel_rfl) (by kernel_rfl) (by kernel_rfl) hx) ?_)
  obtain ⟨H24,hx,h⟩:=bind_some h
  refine DA.on 8 (DA.aH (H':=H24) 8 none undef (Abs.run_upM (t:=86) (x:=.tmp 31) (y:=.tmp 32) (z:=.tmp 38) (mm:=x17) (k:=(Value.string x10)) (v:=(Sl3.v s22)) (by kernel_rfl) (by kernel_rfl) (by kernel_rfl) (by kernel_rfl) (by kernel_rfl) hx) (DA.dn ?_))
  cases h
  exact fun a w hs=>rtN (rS hs)
noncomputable def B129:Code:=(Tryz.f129.body).getD .skip
def z2m:AH→Value
 | _=>(Value.tuple #[])
def z32 (_:AH):AH→AH:=fun r=>r
noncomputable def z1g (_L:LC) (_a0:Sl3) (_a1 a2:Int):(AH×Int)→Option (Lp (AH×Int) AH):=fun (H1,v6_2) =>
 if v6_2<a2 then
  none
 else
  some (.brk (H1,v6_2))
def z67 (_L:LC) (a0:Sl3) (a1 a2:Int):(AH×Int)→KN×Lcs:=fun (_,v6_2)=>([kI 6 v6_2,kS 0 a0,kI 1 a1,kI 2 a2],[])
noncomputable def z1v (L:LC) (_m:Nat) (H:AH) (a0:Sl3) (a1 a2:Int):Option AH :=
 Option.bind (L.run (z1g L a0 a1 a2) (H,(IntKind.i64.wrap (a1+1)))) fun o=>match o with
 | .inl (H3,_) =>
  some H3
 | .inr r=>some r
theorem z29 {E m H L a0 a1 a2} :LoopF Tryz.prog (NE.plain 148) m E Tryz.f129 ((cfst (csnd B129))) (z67 L a0 a1 a2) (fun s=>s.1) 0 z2m (z32 H) (z1g L a0 a1 a2):=by
 rintro ⟨H1,v6_2⟩ o h
 unfold z1g at h
 try dsimp only at h
 refine WS.sq (WS.sq (WS.rg (RS.mS 3 [kB 12 (decide (v6_2<a2)),kI 11 a2,kI 10 v6_2] (RS.dn (WS.nxt ?_)))))
 rcases z0 h with ⟨hp,h⟩ | ⟨hp,h⟩
 ·refine WS.fx 12 true (decide_eq_true hp) (WS.cT ?_)
  cases h
 ·refine WS.fx 12 false (decide_eq_false hp) (WS.cF (WS.ex 0 ?_))
  cases h
  exact fun a w hs=>sqE (lsB rfl (hs.sb 0))
theorem z7p {L:LC} {m:Nat} {H:AH} {a0:Sl3} {a1 a2:Int} {r:AH} (h:z1v L m H a0 a1 a2=some r) :
  CallS Tryz.prog (NE.plain 148) m 129 #[(Sl3.v a0),(Value.int .i64 a1),(Value.int .i64 a2)] H (z2m r) (z32 H r):=by
 refine CallS.mk (args:=[(Sl3.v a0),(Value.int .i64 a1),(Value.int .i64 a2)]) Tryz.func129 (B:=B129) (by kernel_rfl) (fun E _=>?_)
 unfold z1v at h
 refine WS.sq (WS.rg (RS.mS 3 [kI 6 (IntKind.i64.wrap (a1+1)),kI 9 (IntKind.i64.wrap (a1+1)),kI 8 a1] (RS.dn (WS.nxt (WS.bk 0 ?_)))))
 obtain ⟨o,hl,h⟩:=bind_some h
 rcases o with ⟨H3,v6_4⟩ | r
 ·try dsimp only at h
  refine WS.lI (z29 (L:=L) (E:=E) (m:=m) (H:=H)) (L.ok hl) 0 ?_
  clear hl
  cases h
  exact fun a w hs=>bkE (rtN (rS hs))
 ·try dsimp only at h
  refine WS.lR (z29 (L:=L) (E:=E) (m:=m) (H:=H)) (L.ok hl) 0 ?_
  cases h
  exact fun a w hq=>bkR (rtR hq)
noncomputable def B91:Code:=(Tryz.f91.body).getD .skip
def z1e:AH→Value
 | _=>(Value.tuple #[])
def z1j (_:AH):AH→AH:=fun r=>r
noncomputable def z2f (L:LC) (m:Nat) (a0:Sl3):(AH×Int×Int×Int×Bool×Bool)→Option (Lp (AH×Int×Int×Int×Bool×Bool) AH):=fun (H1,v1_2,v2_3,_,_,_) =>
 if (IntKind.i64.wrap (v2_3 - v1_2))≤12 then
  Option.bind (z1v L m H1 a0 v1_2 v2_3) fun H7 =>
  some (.ret H7)
 else
  none
def z9o (_L:LC) (_m:Nat) (a0:Sl3):(AH×Int×Int×Int×Bool×Bool)→KN×Lcs:=fun (_,v1_2,v2_3,v3_4,v8_5,v9_6)=>([kI 1 v1_2,kI 2 v2_3,kI 3 v3_4,kB 8 v8_5,kB 9 v9_6,kS 0 a0],[])
noncomputable def z21 (L:LC) (m:Nat) (H:AH) (a0:Sl3) (a1 a2 a3:Int):Option AH :=
 Option.bind (L.run (z2f L m a0) (H,a1,a2,a3,true,true)) fun o=>match o with
 | .inl (H8,_,_,_,_,_) =>
  some H8
 | .inr r=>some r
noncomputable def z4q (L:LC) (n:Nat):(Nat→AH→Sl3→Int→Int→Int→Option AH):=Nat.rec (motive:=fun _=>(Nat→AH→Sl3→Int→Int→Int→Option AH)) (fun _ _ _ _ _ _=>none) (fun _ _=>z21 L) n
noncomputable def z6x (L:LC) (m:Nat) (H:AH) (a0:Sl3) (a1 a2 a3:Int):Option AH:=(z4q L L.fuel) m H a0 a1 a2 a3
theorem z3n {E H L m a0} :LoopF Tryz.prog (NE.plain 148) m E Tryz.f91 ((cfst (csnd (csnd B91)))) (z9o L m a0) (fun s=>s.1) 0 z1e (z1j H) (z2f L m a0):=by
 rintro ⟨H1,v1_2,v2_3,v3_4,v8_5,v9_6⟩ o h
 unfold z2f at h
 try dsimp only at h
 refine WS.bk 1 (WS.sq (WS.rg (RS.mS 4 [kI 10 (IntKind.i64.wrap (v2_3 - v1_2)),kI 21 (IntKind.i64.wrap (v2_3 - v1_2)),kI 20 v1_2,kI 19 v2_3] (RS.dn (WS.nxt (WS.sq (WS.sq (WS.rg (RS.mS 2 [kB 23 (decide ((IntKind.i64.wrap (v2_3 - v1_2))≤12)),kI 22 (IntKind.i64.wrap (v2_3 - v1_2))] ?_)))))))))
 refine RS.dn (WS.nxt ?_)
 rcases z0 h with ⟨hp,h⟩ | ⟨hp,h⟩
 ·refine WS.fx 23 true (decide_eq_true hp) (WS.cT (WS.sq (WS.rg (RS.mS 3 [kI 26 v2_3,kI 25 v1_2,kS 24 a0] ?_))))
  obtain ⟨H7,hx,h⟩:=bind_some h
  refine RS.cl (some 27) (v:=(Value.tuple #[])) 129 #[(Sl3.v a0),(Value.int .i64 v1_2),(Value.int .i64 v2_3)] (z7p hx) (RS.dn (WS.nxt (WS.rt ?_)))
  cases h
  exact fun a w hs=>sqR (bkR (lsR rfl (rS hs)))
 ·refine WS.fx 23 false (decide_eq_false hp) (WS.cF ?_)
  cases h
theorem z8d {L:LC} {m:Nat} {H:AH} {a0:Sl3} {a1 a2 a3:Int} {r:AH} (h:z21 L m H a0 a1 a2 a3=some r) :
  CallS Tryz.prog (NE.plain 148) m 91 #[(Sl3.v a0),(Value.int .i64 a1),(Value.int .i64 a2),(Value.int .i64 a3)] H (z1e r) (z1j H r):=by
 refine CallS.mk (args:=[(Sl3.v a0),(Value.int .i64 a1),(Value.int .i64 a2),(Value.int .i64 a3)]) Tryz.func91 (B:=B91) (by kernel_rfl) (fun E _=>?_)
 unfold z21 at h
 refine WS.sq (WS.rg (RS.mS 1 [kB 8 true] (RS.dn (WS.nxt (WS.sq (WS.rg (RS.mS 1 [kB 9 true] (RS.dn (WS.nxt ?_)))))))))
 refine WS.bk 0 ?_
 obtain ⟨o,hl,h⟩:=bind_some h
 rcases o with ⟨H8,v1_9,v2_10,v3_11,v8_12,v9_13⟩ | r
 ·try dsimp only at h
  refine WS.lI (z3n (L:=L) (E:=E) (m:=m) (H:=H)) (L.ok hl) 0 ?_
  clear hl
  cases h
  exact fun a w hs=>bkE (rtN (rS hs))
 ·try dsimp only at h
  refine WS.lR (z3n (L:=L) (E:=E) (m:=m) (H:=H)) (L.ok hl) 0 ?_
  cases h
  exact fun a w hq=>bkR (rtR hq)
theorem z8u {L:LC}:∀n,(∀(m:Nat) (H:AH) (a0:Sl3) (a1 a2 a3:Int) (r:AH),((z4q L n)) m H a0 a1 a2 a3=some r→CallS Tryz.prog (NE.plain 148) m 91 #[(Sl3.v a0),(Value.int .i64 a1),(Value.int .i64 a2),(Value.int .i64 a3)] H (z1e r) (z1j H r)):=by
 intro n
 induction n with
 | zero=>exact (fun _ _ _ _ _ _ _ h=>(Option.some_ne_none _ h.symm).elim)
 | succ n ih=>exact (fun _ _ _ _ _ _ _ h=>z8d (L:=L)  h)
theorem zc0 {L:LC} {m:Nat} {H:AH} {a0:Sl3} {a1 a2 a3:Int} {r:AH} (h:z6x L m H a0 a1 a2 a3=some r) :
  CallS Tryz.prog (NE.plain 148) m 91 #[(Sl3.v a0),(Value.int .i64 a1),(Value.int .i64 a2),(Value.int .i64 a3)] H (z1e r) (z1j H r) :=
 (z8u _) _ _ _ _ _ _ _ h
noncomputable def B139:Code:=(Tryz.f139.body).getD .skip
def zks:Int→Value
 | r0=>(Value.int .i64 r0)
def zm6 (H:AH):Int→AH:=fun _=>H
noncomputable def zfb (_L:LC) (a0:Int):Option Int :=
 if a0≥4294967296 then
  none
 else
  if a0≥65536 then
   none
  else
   if a0≥256 then
    none
   else
    Option.bind (bytA (⟨#[0,1,2,2,3,3,3,3,4,4,4,4,4,4,4,4,5,5,5,5,5,5,5,5,5,5,5,5,5,5,5,5,6,6,6,6,6,6,6,6,6,6,6,6,6,6,6,6,6,6,6,6,6,6,6,6,6,6,6,6,6,6,6,6,7,7,7,7,7,7,7,7,7,7,7,7,7,7,7,7,7,7,7,7,7,7,7,7,7,7,7,7,7,7,7,7,7,7,7,7,7,7,7,7,7,7,7,7,7,7,7,7,7,7,7,7,7,7,7,7,7,7,7,7,7,7,7,7,8,8,8,8,8,8,8,8,8,8,8,8,8,8,8,8,8,8,8,8,8,8,8,8,8,8,8,8,8,8,8,8,8,8,8,8,8,8,8,8,8,8,8,8,8,8,8,8,8,8,8,8,8,8,8,8,8,8,8,8,8,8,8,8,8,8,8,8,8,8,8,8,8,8,8,8,8,8,8,8,8,8,8,8,8,8,8,8,8,8,8,8,8,8,8,8,8,8,8,8,8,8,8,8,8,8,8,8,8,8,8,8,8,8,8,8,8,8,8,8,8,8,8,8,8,8,8,8]⟩:ByteArray) (IntKind.u8.wrap a0)) fun x1 =>
    some (IntKind.i64.wrap (0+(IntKind.i64.wrap x1)))
theorem zmd {L:LC} {m:Nat} {H:AH} {a0 r:Int} (h:zfb L a0=some r) :
  CallS Tryz.prog (NE.plain 148) m 139 #[(Value.int .u64 a0)] H (zks r) (zm6 H r):=by
 refine CallS.mk (args:=[(Value.int .u64 a0)]) Tryz.func139 (B:=B139) (by kernel_rfl) (fun E _=>?_)
 unfold zfb at h
 refine WS.sq (WS.rg (RS.mS 1 [kI 2 0] (RS.dn (WS.nxt (WS.sq (WS.sq (WS.rg (RS.mS 2 [kB 4 (decide (a0≥4294967296)),(3,.val (Value.int .u64 a0))] (RS.dn ?_)))))))))
 refine WS.nxt ?_
 rcases z0 h with ⟨hp,h⟩ | ⟨hp,h⟩
 ·refine WS.fx 4 true (decide_eq_true hp) (WS.cT ?_)
  cases h
 ·refine WS.fx 4 false (decide_eq_false hp) (WS.cF (WS.sk (WS.nxt (WS.sq (WS.sq (WS.rg (RS.mS 2 [kB 8 (decide (a0≥65536)),(7,.val (Value.int .u64 a0))] (RS.dn (WS.nxt ?_)))))))))
  rcases z0 h with ⟨hp,h⟩ | ⟨hp,h⟩
  ·refine WS.fx 8 true (decide_eq_true hp) (WS.cT ?_)
   cases h
  ·refine WS.fx 8 false (decide_eq_false hp) (WS.cF (WS.sk (WS.nxt (WS.sq (WS.sq (WS.rg (RS.mS 2 [kB 14 (decide (a0≥256)),(13,.val (Value.int .u64 a0))] (RS.dn (WS.nxt ?_)))))))))
   rcases z0 h with ⟨hp,h⟩ | ⟨hp,h⟩
   ·refine WS.fx 14 true (decide_eq_true hp) (WS.cT ?_)
    cases h
   ·refine WS.fx 14 false (decide_eq_false hp) (WS.cF (WS.sk (WS.nxt (WS.sq (WS.rg (RS.mS 3 [(21,.val (Value.int .u8 (IntKind.u8.wrap a0))),(20,.val (Value.int .u64 a0)),kI 19 0] ?_))))))
    obtain ⟨x1,hx,h⟩:=bind_some h
    refine RS.o (H':=H) (some 22) (Value.int .u8 x1) (Abs.run_byt (t:=9) (x:=.const (Value.string (⟨#[0,1,2,2,3,3,3,3,4,4,4,4,4,4,4,4,5,5,5,5,5,5,5,5,5,5,5,5,5,5,5,5,6,6,6,6,6,6,6,6,6,6,6,6,6,6,6,6,6,6,6,6,6,6,6,6,6,6,6,6,6,6,6,6,7,7,7,7,7,7,7,7,7,7,7,7,7,7,7,7,7,7,7,7,7,7,7,7,7,7,7,7,7,7,7,7,7,7,7,7,7,7,7,7,7,7,7,7,7,7,7,7,7,7,7,7,7,7,7,7,7,7,7,7,7,7,7,7,8,8,8,8,8,8,8,8,8,8,8,8,8,8,8,8,8,8,8,8,8,8,8,8,8,8,8,8,8,8,8,8,8,8,8,8,8,8,8,8,8,8,8,8,8,8,8,8,8,8,8,8,8,8,8,8,8,8,8,8,8,8,8,8,8,8,8,8,8,8,8,8,8,8,8,8,8,8,8,8,8,8,8,8,8,8,8,8,8,8,8,8,8,8,8,8,8,8,8,8,8,8,8,8,8,8,8,8,8,8,8,8,8,8,8,8,8,8,8,8,8,8,8,8,8,8,8,8]⟩:ByteArray))) (y:=.tmp 21) (s:=(⟨#[0,1,2,2,3,3,3,3,4,4,4,4,4,4,4,4,5,5,5,5,5,5,5,5,5,5,5,5,5,5,5,5,6,6,6,6,6,6,6,6,6,6,6,6,6,6,6,6,6,6,6,6,6,6,6,6,6,6,6,6,6,6,6,6,7,7,7,7,7,7,7,7,7,7,7,7,7,7,7,7,7,7,7,7,7,7,7,7,7,7,7,7,7,7,7,7,7,7,7,7,7,7,7,7,7,7,7,7,7,7,7,7,7,7,7,7,7,7,7,7,7,7,7,7,7,7,7,7,8,8,8,8,8,8,8,8,8,8,8,8,8,8,8,8,8,8,8,8,8,8,8,8,8,8,8,8,8,8,8,8,8,8,8,8,8,8,8,8,8,8,8,8,8,8,8,8,8,8,8,8,8,8,8,8,8,8,8,8,8,8,8,8,8,8,8,8,8,8,8,8,8,8,8,8,8,8,8,8,8,8,8,8,8,8,8,8,8,8,8,8,8,8,8,8,8,8,8,8,8,8,8,8,8,8,8,8,8,8,8,8,8,8,8,8,8,8,8,8,8,8,8,8,8,8,8,8]⟩:ByteArray)) (k:=.u8) (i:=(IntKind.u8.wrap a0)) (by kernel_rfl) (by kernel_rfl) (by kernel_rfl) (by kernel_rfl) hx) (RS.mS 3 [kI 2 (IntKind.i64.wrap (0+(IntKind.i64.wrap x1))),kI 24 (IntKind.i64.wrap (0+(IntKind.i64.wrap x1))),kI 23 (IntKind.i64.wrap x1)] (RS.dn (WS.nxt (WS.rt ?_))))
    cases h
    exact fun a w hs=>rtR (rS hs)
noncomputable def B92:Code:=(Tryz.f92.body).getD .skip
def zna:Int→Value
 | r0=>(Value.int .i64 r0)
def zo3 (H:AH):Int→AH:=fun _=>H
noncomputable def zjj (L:LC) (a0:Int):Option Int :=
 Option.bind (zfb L a0) fun x1 =>
 some x1
theorem znp {L:LC} {m:Nat} {H:AH} {a0 r:Int} (h:zjj L a0=some r) :
  CallS Tryz.prog (NE.plain 148) m 92 #[(Value.int .u64 a0)] H (zna r) (zo3 H r):=by
 refine CallS.mk (args:=[(Value.int .u64 a0)]) Tryz.func92 (B:=B92) (by kernel_rfl) (fun E _=>?_)
 unfold zjj at h
 refine WS.sq (WS.rg (RS.mS 1 [kI 2 0] (RS.dn (WS.nxt (WS.sq (WS.cF (WS.sk (WS.nxt (WS.sq ?_)))))))))
 refine WS.rg (RS.mS 1 [(6,.val (Value.int .u64 a0))] ?_)
 obtain ⟨x1,hx,h⟩:=bind_some h
 refine RS.cl (some 7) (v:=(Value.int .i64 x1)) 139 #[(Value.int .u64 a0)] (zmd hx) (RS.mS 1 [kI 2 x1] (RS.dn (WS.nxt (WS.rt ?_))))
 cases h
 exact fun a w hs=>rtR (rS hs)
noncomputable def B59:Code:=(Tryz.f59.body).getD .skip
def zka:AH→Value
 | _=>(Value.tuple #[])
def zkx (_:AH):AH→AH:=fun r=>r
noncomputable def zdn (L:LC) (m:Nat) (H:AH) (a0:Sl3):Option AH :=
 Option.bind (zjj L (IntKind.u64.wrap (a0.n:Int))) fun x1 =>
 Option.bind (z6x L m H a0 0 (a0.n:Int) x1) fun H2 =>
 some H2
theorem zku {L:LC} {m:Nat} {H:AH} {a0:Sl3} {r:AH} (h:zdn L m H a0=some r) :
  CallS Tryz.prog (NE.plain 148) m 59 #[(Sl3.v a0)] H (zka r) (zkx H r):=by
 refine CallS.mk (args:=[(Sl3.v a0)]) Tryz.func59 (B:=B59) (by kernel_rfl) (fun E _=>?_)
 unfold zdn at h
 refine WS.sq (WS.rg (RS.mS 3 [kI 2 (a0.n:Int),kI 4 (a0.n:Int),kS 3 a0] (RS.dn (WS.nxt (WS.rg (RS.mS 4 [(8,.val (Value.int .u64 (IntKind.u64.wrap (a0.n:Int)))),kI 7 (a0.n:Int),kI 6 (a0.n:Int),kS 5 a0] ?_))))))
 obtain ⟨x1,hx,h⟩:=bind_some h
 refine RS.cl (some 9) (v:=(Value.int .i64 x1)) 92 #[(Value.int .u64 (IntKind.u64.wrap (a0.n:Int)))] (znp hx) ?_
 obtain ⟨H2,hx,h⟩:=bind_some h
 refine RS.cl (some 10) (v:=(Value.tuple #[])) 91 #[(Sl3.v a0),(Value.int .i64 0),(Value.int .i64 (a0.n:Int)),(Value.int .i64 x1)] (zc0 hx) (RS.dn ?_)
 cases h
 exact fun a w hs=>rtN (rS hs)
noncomputable def B21:Code:=(Tryz.f21.body).getD .skip
def z1f:((Option Nat)×AH)→Value
 | (r0,_)=>(Value.map r0)
def z1m (_:AH):((Option Nat)×AH)→AH:=fun r=>r.2
noncomputable def z2t (L:LC) (m:Nat) (p1 _p5:Addr) (x12:Sl3):(AH×Sl3×Int)→Option (Lp (AH×Sl3×Int) ((Option Nat)×AH)):=fun (H13,v5_14,v29_15) =>
 if v29_15<(x12.n:Int) then
  Option.bind (α:=(AH×Sl3)) (
   Option.bind (idxA 1 x12 v29_15) fun p18 =>
   Option.bind (rd (deI .i64) H13 p18) fun x19 =>
   Option.bind (rd deP H13 p1) fun x20 =>
   Option.bind x20 fun q21 =>
   Option.bind (rd deP H13 (Addr.add q21 0)) fun x22 =>
   Option.bind x22 fun q23 =>
   Option.bind (rd deP H13 (Addr.add q23 0)) fun x24 =>
   Option.bind (z20 L m H13 x24 x19) fun (x25_0,_,_,_,_,_,_,_,_,_,_,x25_11,_,H27) =>
   if x25_0=32 then
    none
   else
    if x25_0=33 then
     Option.bind (idxA 1 x25_11 1) fun p28 =>
     Option.bind (rd (deI .i64) H27 p28) fun x29 =>
     Option.bind (newR 3 1 #[(Value.int .i64 x29)] H27) fun (s30,H31) =>
     Option.bind (appS m 3 1 8 H31 v5_14 s30) fun (s32,H33) =>
     some (H33,s32)
    else
     some (H27,v5_14)) fun (H16,v5_17) =>
  some (.next (H16,v5_17,(IntKind.i64.wrap (v29_15+1))))
 else
  some (.brk (H13,v5_14,v29_15))
def za0 (_L:LC) (_m:Nat) (p1 p5:Addr) (x12:Sl3):(AH×Sl3×Int)→KN×Lcs:=fun (_,v5_14,v29_15)=>([kS 5 v5_14,kI 29 v29_15,kP 1 p1,kP 3 p5,kL 4 0 0,kS 27 x12,kI 28 (x12.n:Int)],[some (146,[(Value.func (.func 56) #[] #[(Value.pointer (some p1)),(Value.pointer (some p5))])])])
noncomputable def z2n (L:LC) (m:Nat) (p1 p5:Addr) (v5_35:Sl3):(AH×Int)→Option (Lp (AH×Int) ((Option Nat)×AH)):=fun (H38,v65_39) =>
 if v65_39<(v5_35.n:Int) then
  Option.bind (idxA 1 v5_35 v65_39) fun p40 =>
  Option.bind (rd (deI .i64) H38 p40) fun x41 =>
  Option.bind (z35 L m H38 x41 (some p1) (some p5)) fun H42 =>
  some (.next (H42,(IntKind.i64.wrap (v65_39+1))))
 else
  some (.brk (H38,v65_39))
def za7 (_L:LC) (_m:Nat) (p1 p5:Addr) (v5_35:Sl3):(AH×Int)→KN×Lcs:=fun (_,v65_39)=>([kI 65 v65_39,kP 1 p1,kP 3 p5,kL 4 0 0,kS 63 v5_35,kI 64 (v5_35.n:Int)],[some (146,[(Value.func (.func 56) #[] #[(Value.pointer (some p1)),(Value.pointer (some p5))])])])
noncomputable def z2r (L:LC) (m:Nat) (_p1 _p5:Addr) (x50_0 x50_1:Sl3) (x50_2 x56:Sl3):(AH×Int)→Option (Lp (AH×Int) ((Option Nat)×AH)):=fun (H57,v89_58) =>
 if v89_58<(x56.n:Int) then
  Option.bind (idxA 4 x56 v89_58) fun p59 =>
  Option.bind (rd (deI .i64) H57 (Addr.add p59 0)) fun x60_0 =>
  Option.bind (rd (deI .i64) H57 (Addr.add p59 1)) fun x60_1 =>
  Option.bind (rd deS H57 (Addr.add p59 2)) fun x60_2 =>
  Option.bind (rd deSl H57 (Addr.add p59 3)) fun x60_3 =>
  Option.bind (z5k L m H57 x50_0 x50_1 x50_2 x60_0 x60_1 x60_2 x60_3) fun (_,x62,H63) =>
  if x62=true then
   none
  else
   some (.next (H63,(IntKind.i64.wrap (v89_58+1))))
 else
  some (.brk (H57,v89_58))
def za5 (_L:LC) (_m:Nat) (p1 p5:Addr) (x50_0 x50_1:Sl3) (x50_2 x56:Sl3):(AH×Int)→KN×Lcs:=fun (_,v89_58)=>([kI 89 v89_58,kP 1 p1,kP 3 p5,kL 12 1 0,kS 87 x56,kI 88 (x56.n:Int)],[some (146,[(Value.func (.func 56) #[] #[(Value.pointer (some p1)),(Value.pointer (some p5))])]),some (30,[(Sl3.v x50_0),(Sl3.v x50_1),(Sl3.v x50_2)])])
noncomputable def z3s (L:LC) (m:Nat) (H:AH) (a0:Option Addr):Option ((Option Nat)×AH) :=
 Option.bind (newB 83 [(Value.pointer a0)] H) fun (p1,H2) =>
 Option.bind (newM H2) fun (p3,H4) =>
 Option.bind (newB 86 [(Value.map none)] H4) fun (p5,H6) =>
 Option.bind (H6.setCell m p5 (Value.map (some p3))) fun H7 =>
 Option.bind (rd deP H7 p1) fun x8 =>
 Option.bind x8 fun q9 =>
 Option.bind (rd deP H7 (Addr.add q9 0)) fun x10 =>
 Option.bind x10 fun q11 =>
 Option.bind (rd deSl H7 (Addr.add q11 1)) fun x12 =>
 Option.bind (L.run (z2t L m p1 p5 x12) (H7,Sl3.nil,0)) fun o=>match o with
 | .inl (H34,v5_35,_) =>
  Option.bind (zdn L m H34 v5_35) fun H37 =>
  Option.bind (L.run (z2n L m p1 p5 v5_35) (H37,0)) fun o=>match o with
  | .inl (H43,_) =>
   Option.bind (rd deP H43 p1) fun x45 =>
   Option.bind x45 fun q46 =>
   Option.bind (rd deP H43 (Addr.add q46 0)) fun x47 =>
   Option.bind x47 fun q48 =>
   Option.bind (rd deP H43 (Addr.add q48 0)) fun x49 =>
   Option.bind (z5i L m H43 x49) fun (x50_0,x50_1,x50_2,H51) =>
   Option.bind (rd deP H51 p1) fun x52 =>
   Option.bind x52 fun q53 =>
   Option.bind (rd deP H51 (Addr.add q53 0)) fun x54 =>
   Option.bind x54 fun q55 =>
   Option.bind (rd deSl H51 (Addr.add q55 3)) fun x56 =>
   Option.bind (L.run (z2r L m p1 p5 x50_0 x50_1 x50_2 x56) (H51,0)) fun o=>match o with
   | .inl (H64,_) =>
    Option.bind (rd deM H64 p5) fun x66 =>
    some (x66,H64)
   | .inr r=>some r
  | .inr r=>some r
 | .inr r=>some r
theorem z3z {E H L m p1 p5 x12} :LoopF Tryz.prog (NE.plain 148) m E Tryz.f21 ((cfst (csnd (cfst (csnd (csnd (csnd (csnd B21)))))))) (za0 L m p1 p5 x12) (fun s=>s.1) 0 z1f (z1m H) (z2t L m p1 p5 x12):=by
 rintro ⟨H13,v5_14,v29_15⟩ o h
 unfold z2t at h
 try dsimp only at h
 refine WS.sq (WS.rg (RS.mS 1 [kB 30 (decide (v29_15<(x12.n:Int)))] (RS.dn (WS.nxt (WS.sq ?_)))))
 rcases z0 h with ⟨hp,h⟩ | ⟨hp,h⟩
 ·refine WS.fx 30 true (decide_eq_true hp) (WS.cT (WS.sk (WS.nxt ?_)))
  obtain ⟨⟨H16,v5_17⟩,hx,h⟩:=bind_some h
  try dsimp only at h
  refine WS.sq ?_
  refine WS.join ([kS 5 v5_17,kP 1 p1,kP 3 p5,kL 4 0 0,kS 27 x12,kI 28 (x12.n:Int),kI 29 v29_15]) ([some (146,[(Value.func (.func 56) #[] #[(Value.pointer (some p1)),(Value.pointer (some p5))])])]) H16 ?_ (fun a w hs=>WS.nxt ?_ a w hs)
  ·clear h; rename _=>h
   refine WS.bk 1 (WS.sq (WS.rg ?_))
   obtain ⟨p18,hx,h⟩:=bind_some h
   refine RS.ix 31 41 3 (.tmp 27) (.tmp 29) hx ?_
   obtain ⟨x19,hx,h⟩:=bind_some h
   refine RS.ld 32 3 (.tmp 31) (z1 hx z5) (RS.mS 1 [kI 7 x19] (RS.dn (WS.nxt (WS.sq (WS.rg ?_)))))
   obtain ⟨x20,hx,h⟩:=bind_some h
   refine RS.ld 34 83 (.tmp 1) (z1 hx zr) ?_
   obtain ⟨q21,hx,hq21⟩:=bind_some h
   subst hx
   have h:=hq21
   refine RS.mS 2 [(36,.val (Value.pointer (some (Addr.add q21 0)))),kP 35 q21] ?_
   obtain ⟨x22,hx,h⟩:=bind_some h
   refine RS.ld 37 51 (.tmp 36) (z1 hx zr) ?_
   obtain ⟨q23,hx,hq23⟩:=bind_some h
   subst hx
   have h:=hq23
   refine RS.mS 2 [(39,.val (Value.pointer (some (Addr.add q23 0)))),kP 38 q23] ?_
   obtain ⟨x24,hx,h⟩:=bind_some h
   refine RS.ld 40 22 (.tmp 39) (z1 hx zr) (RS.mS 1 [kI 41 x19] ?_)
   obtain ⟨⟨x25_0,x25_1,x25_2,x25_3,x25_4,x25_5,x25_6,x25_7,x25_8,x25_9,x25_10,x25_11,x26,H27⟩,hx,h⟩:=bind_some h
   try dsimp only at h
   refine RS.cl (some 42) (v:=(Value.tuple #[(Value.agg #[(Value.int .i64 x25_0),(Value.string x25_1),(Value.bool x25_2),(Sl3.v x25_3),(Value.int .i64 x25_4),(Sl3.v x25_5),(Value.int .i64 x25_6),(Value.int .i64 x25_7),(Value.string x25_8),(Sl3.v x25_9),(Sl3.v x25_10),(Sl3.v x25_11)]),(Value.bool x26)])) 19 #[(Value.pointer x24),(Value.int .i64 x19)] (z2x hx) (RS.mL 6 [kB 9 x26,kL 8 1 0,kB 44 x26,kA 43 #[(Value.int .i64 x25_0),(Value.string x25_1),(Value.bool x25_2),(Sl3.v x25_3),(Value.int .i64 x25_4),(Sl3.v x25_5),(Value.int .i64 x25_6),(Value.int .i64 x25_7),(Value.string x25_8),(Sl3.v x25_9),(Sl3.v x25_10),(Sl3.v x25_11)],(33,.val (Value.tuple #[(Value.agg #[(Value.int .i64 x25_0),(Value.string x25_1),(Value.bool x25_2),(Sl3.v x25_3),(Value.int .i64 x25_4),(Sl3.v x25_5),(Value.int .i64 x25_6),(Value.int .i64 x25_7),(Value.string x25_8),(Sl3.v x25_9),(Sl3.v x25_10),(Sl3.v x25_11)]),(Value.bool x26)]))] ([some (146,[(Value.func (.func 56) #[] #[(Value.pointer (some p1)),(Value.pointer (some p5))])]),some (78,[(Value.int .i64 x25_0),(Value.string x25_1),(Value.bool x25_2),(Sl3.v x25_3),(Value.int .i64 x25_4),(Sl3.v x25_5),(Value.int .i64 x25_6),(Value.int .i64 x25_7),(Value.string x25_8),(Sl3.v x25_9),(Sl3.v x25_10),(Sl3.v x25_11)])]) (RS.dn (WS.nxt (WS.sq (WS.rg (RS.mS 4 [kB 48 (decide (x25_0=32)),kB 47 (decide (x25_0=32)),kI 46 x25_0,kL 45 1 0] ?_))))))
   rcases z0 h with ⟨hp,h⟩ | ⟨hp,h⟩
   ·refine RS.fx 48 true (decide_eq_true hp) ?_
    cases h
   ·refine RS.fx 48 false (decide_eq_false hp) (RS.mS 4 [kB 52 (decide (x25_0=33)),kB 51 (decide (x25_0=33)),kI 50 x25_0,kL 49 1 0] (RS.dn (WS.nxt ?_)))
    rcases z0 h with ⟨hp,h⟩ | ⟨hp,h⟩
    ·refine WS.fx 52 true (decide_eq_true hp) (WS.cT (WS.rg (RS.mS 3 [kS 55 x25_11,kL 54 1 11,kS 53 v5_14] ?_)))
     obtain ⟨p28,hx,h⟩:=bind_some h
     refine RS.ix 56 41 3 (.tmp 55) (.const (Value.int .i64 1)) hx ?_
     obtain ⟨x29,hx,h⟩:=bind_some h
     refine RS.ld 57 3 (.tmp 56) (z1 hx z5) ?_
     obtain ⟨⟨s30,H31⟩,hx,h⟩:=bind_some h
     try dsimp only at h
     refine RS.o (H':=H31) (some 58) (Sl3.v s30) (Abs.run_newR (by kernel_rfl) (by kernel_rfl) hx) ?_
     obtain ⟨⟨s32,H33⟩,hx,h⟩:=bind_some h
     try dsimp only at h
     refine RS.o (H':=H33) (some 59) (Sl3.v s32) (Abs.run_app (x:=.tmp 53) (y:=.tmp 58) (ts:=#[41,41]) (s:=v5_14) (z:=s30) (by kernel_rfl) (by kernel_rfl) (by kernel_rfl) (by kernel_rfl) hx) (RS.mS 1 [kS 5 s32] (RS.dn ?_))
     cases h
     exact fun a w hs=>bkN ((jsN (hs.sb 1)))
    ·refine WS.fx 52 false (decide_eq_false hp) (WS.cF (WS.sk ?_))
     cases h
     exact fun a w hs=>bkN ((jsN (hs.sb 1)))
  ·clear hx
   refine WS.rg (RS.mS 2 [kI 29 (IntKind.i64.wrap (v29_15+1)),kI 60 (IntKind.i64.wrap (v29_15+1))] (RS.dn ?_))
   cases h
   exact fun a w hs=>lsN rfl (hs.sb 1)
 ·refine WS.fx 30 false (decide_eq_false hp) (WS.cF (WS.ex 0 ?_))
  cases h
  exact fun a w hs=>sqE (lsB rfl (hs.sb 1))
theorem z3x {E H L m p1 p5 v5_35} :LoopF Tryz.prog (NE.plain 148) m E Tryz.f21 ((cfst (csnd (cfst (csnd (csnd (csnd (csnd (csnd (csnd B21)))))))))) (za7 L m p1 p5 v5_35) (fun s=>s.1) 2 z1f (z1m H) (z2n L m p1 p5 v5_35):=by
 rintro ⟨H38,v65_39⟩ o h
 unfold z2n at h
 try dsimp only at h
 refine WS.sq (WS.rg (RS.mS 1 [kB 66 (decide (v65_39<(v5_35.n:Int)))] (RS.dn (WS.nxt (WS.sq ?_)))))
 rcases z0 h with ⟨hp,h⟩ | ⟨hp,h⟩
 ·refine WS.fx 66 true (decide_eq_true hp) (WS.cT (WS.sk (WS.nxt (WS.sq (WS.bk 3 (WS.sq (WS.rg ?_)))))))
  obtain ⟨p40,hx,h⟩:=bind_some h
  refine RS.ix 67 41 3 (.tmp 63) (.tmp 65) hx ?_
  obtain ⟨x41,hx,h⟩:=bind_some h
  refine RS.ld 68 3 (.tmp 67) (z1 hx z5) (RS.mS 1 [kI 11 x41] (RS.dn (WS.nxt (WS.rg (RS.mS 2 [kI 70 x41,(69,.val (Value.func (.func 56) #[] #[(Value.pointer (some p1)),(Value.pointer (some p5))]))] ?_)))))
  obtain ⟨H42,hx,h⟩:=bind_some h
  refine RS.cl (some 71) (v:=(Value.tuple #[])) 56 #[(Value.int .i64 x41),(Value.pointer (some p1)),(Value.pointer (some p5))] (zb2 hx) (RS.dn ?_)
  refine fun a w hs=>bkN ((WS.nxt ?_ a w hs))
  refine WS.rg (RS.mS 2 [kI 65 (IntKind.i64.wrap (v65_39+1)),kI 72 (IntKind.i64.wrap (v65_39+1))] (RS.dn ?_))
  cases h
  exact fun a w hs=>lsN rfl (hs.sb 1)
 ·refine WS.fx 66 false (decide_eq_false hp) (WS.cF (WS.ex 2 ?_))
  cases h
  exact fun a w hs=>sqE (lsB rfl (hs.sb 1))
theorem z43 {E H L m p1 p5 x50_0 x50_1 x50_2 x56} :LoopF Tryz.prog (NE.plain 148) m E Tryz.f21 ((cfst (csnd (cfst (csnd (csnd (csnd (csnd (csnd (csnd (csnd (csnd B21)))))))))))) (za5 L m p1 p5 x50_0 x50_1 x50_2 x56) (fun s=>s.1) 4 z1f (z1m H) (z2r L m p1 p5 x50_0 x50_1 x50_2 x56):=by
 rintro ⟨H57,v89_58⟩ o h
 unfold z2r at h
 try dsimp only at h
 refine WS.sq (WS.rg (RS.mS 1 [kB 90 (decide (v89_58<(x56.n:Int)))] (RS.dn (WS.nxt (WS.sq ?_)))))
 rcases z0 h with ⟨hp,h⟩ | ⟨hp,h⟩
 ·refine WS.fx 90 true (decide_eq_true hp) (WS.cT (WS.sk (WS.nxt (WS.sq (WS.bk 5 (WS.sq (WS.rg ?_)))))))
  obtain ⟨p59,hx,h⟩:=bind_some h
  refine RS.ix 91 36 57 (.tmp 87) (.tmp 89) hx ?_
  obtain ⟨x60_0,hx0,h⟩:=bind_some h
  obtain ⟨x60_1,hx1,h⟩:=bind_some h
  obtain ⟨x60_2,hx2,h⟩:=bind_some h
  obtain ⟨x60_3,hx3,h⟩:=bind_some h
  refine RS.la 92 57 (.tmp 91) 4 (z2 (z1 hx0 z5) (z2 (z1 hx1 z5) (z2 (z1 hx2 z9) (z2 (z1 hx3 z3) zd)))) (RS.mL 2 [kL 14 2 0] ([some (146,[(Value.func (.func 56) #[] #[(Value.pointer (some p1)),(Value.pointer (some p5))])]),some (30,[(Sl3.v x50_0),(Sl3.v x50_1),(Sl3.v x50_2)]),some (57,[(Value.int .i64 x60_0),(Value.int .i64 x60_1),(Value.string x60_2),(Sl3.v x60_3)])]) (RS.dn (WS.nxt (WS.sq (WS.rg (RS.mS 2 [kA 95 #[(Value.int .i64 x60_0),(Value.int .i64 x60_1),(Value.string x60_2),(Sl3.v x60_3)],kA 94 #[(Sl3.v x50_0),(Sl3.v x50_1),(Sl3.v x50_2)]] ?_))))))
  obtain ⟨⟨x61,x62,H63⟩,hx,h⟩:=bind_some h
  try dsimp only at h
  refine RS.cl (some 96) (v:=(Value.tuple #[(Value.string x61),(Value.bool x62)])) 16 #[(Value.agg #[(Sl3.v x50_0),(Sl3.v x50_1),(Sl3.v x50_2)]),(Value.agg #[(Value.int .i64 x60_0),(Value.int .i64 x60_1),(Value.string x60_2),(Sl3.v x60_3)])] (zav hx) (RS.mL 6 [kB 16 x62,kL 15 3 0,kB 98 x62,kT 97 x61,(93,.val (Value.tuple #[(Value.string x61),(Value.bool x62)]))] ([some (146,[(Value.func (.func 56) #[] #[(Value.pointer (some p1)),(Value.pointer (some p5))])]),some (30,[(Sl3.v x50_0),(Sl3.v x50_1),(Sl3.v x50_2)]),some (57,[(Value.int .i64 x60_0),(Value.int .i64 x60_1),(Value.string x60_2),(Sl3.v x60_3)]),some (9,[(Value.string x61)])]) (RS.dn (WS.nxt (WS.sq (WS.sq (WS.rg (RS.mS 2 [kB 100 (!x62),kB 99 x62] (RS.dn (WS.nxt ?_)))))))))
  rcases z0 h with ⟨hp,h⟩ | ⟨hp,h⟩
  ·refine WS.fx 100 false (nb_not hp) (WS.cF ?_)
   cases h
  ·refine WS.fx 100 true (zi hp) (WS.cT (WS.ex 5 ?_))
   refine fun a w hs=>sqE (bkE ((WS.nxt ?_ a w hs)))
   refine WS.rg (RS.mS 2 [kI 89 (IntKind.i64.wrap (v89_58+1)),kI 124 (IntKind.i64.wrap (v89_58+1))] (RS.dn ?_))
   cases h
   exact fun a w hs=>lsN rfl (hs.sb 2)
 ·refine WS.fx 90 false (decide_eq_false hp) (WS.cF (WS.ex 4 ?_))
  cases h
  exact fun a w hs=>sqE (lsB rfl (hs.sb 2))
theorem zcf {L:LC} {m:Nat} {H:AH} {a0:Option Addr} {r:((Option Nat)×AH)} (h:z3s L m H a0=some r) :
  CallS Tryz.prog (NE.plain 148) m 21 #[(Value.pointer a0)] H (z1f r) (z1m H r):=by
 refine CallS.mk (args:=[(Value.pointer a0)]) Tryz.func21 (B:=B21) (by kernel_rfl) (fun E _=>?_)
 unfold z3s at h
 refine WS.sq (WS.rg ?_)
 obtain ⟨⟨p1,H2⟩,hx,h⟩:=bind_some h
 try dsimp only at h
 refine RS.o (H':=H2) (some 1) (Value.pointer (some p1)) (Abs.run_newB (by kernel_rfl) hx) (RS.mS 1 [(2,.val (Value.map none))] (RS.dn (WS.nxt (WS.sq (WS.rg ?_)))))
 obtain ⟨⟨p3,H4⟩,hx,h⟩:=bind_some h
 try dsimp only at h
 refine RS.o (H':=H4) (some 19) (Value.map (some p3)) (Abs.run_newM (by kernel_rfl) hx) ?_
 obtain ⟨⟨p5,H6⟩,hx,h⟩:=bind_some h
 try dsimp only at h
 refine RS.o (H':=H6) (some 3) (Value.pointer (some p5)) (Abs.run_newB (by kernel_rfl) hx) ?_
 obtain ⟨H7,hx,h⟩:=bind_some h
 refine RS.o (H':=H7) none undef (Abs.run_store1 (t:=86) (x:=.tmp 3) (y:=.tmp 19) (a:=p5) (v:=(Value.map (some p3))) (by kernel_rfl) (by kernel_rfl) (by kernel_rfl) (by kernel_rfl) (by kernel_rfl) hx) (RS.dn (WS.nxt (WS.sq (WS.rg (RS.mL 3 [kL 4 0 0,(20,.val (Value.func (.func 56) #[] #[(Value.pointer (some p1)),(Value.pointer (some p5))]))] ([some (146,[(Value.func (.func 56) #[] #[(Value.pointer (some p1)),(Value.pointer (some p5))])])]) (RS.dn (WS.nxt (WS.sq (WS.rg ?_)))))))))
 refine RS.mS 1 [kS 5 Sl3.nil] (RS.dn (WS.nxt (WS.sq (WS.sq (WS.rg ?_)))))
 obtain ⟨x8,hx,h⟩:=bind_some h
 refine RS.ld 21 83 (.tmp 1) (z1 hx zr) ?_
 obtain ⟨q9,hx,hq9⟩:=bind_some h
 subst hx
 have h:=hq9
 refine RS.mS 2 [(23,.val (Value.pointer (some (Addr.add q9 0)))),kP 22 q9] ?_
 obtain ⟨x10,hx,h⟩:=bind_some h
 refine RS.ld 24 51 (.tmp 23) (z1 hx zr) ?_
 obtain ⟨q11,hx,hq11⟩:=bind_some h
 subst hx
 have h:=hq11
 refine RS.mS 2 [(26,.val (Value.pointer (some (Addr.add q11 1)))),kP 25 q11] ?_
 obtain ⟨x12,hx,h⟩:=bind_some h
 refine RS.ld 27 41 (.tmp 26) (z1 hx z3) (RS.mS 2 [kI 29 0,kI 28 (x12.n:Int)] (RS.dn (WS.nxt (WS.bk 0 ?_))))
 obtain ⟨o,hl,h⟩:=bind_some h
 rcases o with ⟨H34,v5_35,v29_36⟩ | r
 ·try dsimp only at h
  refine WS.lI (z3z (L:=L) (E:=E) (m:=m) (H:=H)) (L.ok hl) 1 ?_
  clear hl
  refine fun a w hs=>bkE ((WS.nxt ?_ a w hs))
  refine WS.sq (WS.rg (RS.mS 1 [kS 61 v5_35] ?_))
  obtain ⟨H37,hx,h⟩:=bind_some h
  refine RS.cl (some 62) (v:=(Value.tuple #[])) 59 #[(Sl3.v v5_35)] (zku hx) (RS.dn (WS.nxt (WS.sq (WS.sq (WS.rg (RS.mS 3 [kI 65 0,kI 64 (v5_35.n:Int),kS 63 v5_35] (RS.dn (WS.nxt (WS.bk 2 ?_)))))))))
  obtain ⟨o,hl,h⟩:=bind_some h
  rcases o with ⟨H43,v65_44⟩ | r
  ·try dsimp only at h
   refine WS.lI (z3x (L:=L) (E:=E) (m:=m) (H:=H)) (L.ok hl) 1 ?_
   clear hl
   refine fun a w hs=>bkE ((WS.nxt ?_ a w hs))
   refine WS.sq (WS.rg ?_)
   obtain ⟨x45,hx,h⟩:=bind_some h
   refine RS.ld 73 83 (.tmp 1) (z1 hx zr) ?_
   obtain ⟨q46,hx,hq46⟩:=bind_some h
   subst hx
   have h:=hq46
   refine RS.mS 2 [(75,.val (Value.pointer (some (Addr.add q46 0)))),kP 74 q46] ?_
   obtain ⟨x47,hx,h⟩:=bind_some h
   refine RS.ld 76 51 (.tmp 75) (z1 hx zr) ?_
   obtain ⟨q48,hx,hq48⟩:=bind_some h
   subst hx
   have h:=hq48
   refine RS.mS 2 [(78,.val (Value.pointer (some (Addr.add q48 0)))),kP 77 q48] ?_
   obtain ⟨x49,hx,h⟩:=bind_some h
   refine RS.ld 79 22 (.tmp 78) (z1 hx zr) ?_
   obtain ⟨⟨x50_0,x50_1,x50_2,H51⟩,hx,h⟩:=bind_some h
   try dsimp only at h
   refine RS.cl (some 80) (v:=(Value.agg #[(Sl3.v x50_0),(Sl3.v x50_1),(Sl3.v x50_2)])) 14 #[(Value.pointer x49)] (zay hx) (RS.mL 2 [kL 12 1 0] ([some (146,[(Value.func (.func 56) #[] #[(Value.pointer (some p1)),(Value.pointer (some p5))])]),some (30,[(Sl3.v x50_0),(Sl3.v x50_1),(Sl3.v x50_2)])]) (RS.dn (WS.nxt (WS.sq (WS.sq (WS.rg ?_))))))
   obtain ⟨x52,hx,h⟩:=bind_some h
   refine RS.ld 81 83 (.tmp 1) (z1 hx zr) ?_
   obtain ⟨q53,hx,hq53⟩:=bind_some h
   subst hx
   have h:=hq53
   refine RS.mS 2 [(83,.val (Value.pointer (some (Addr.add q53 0)))),kP 82 q53] ?_
   obtain ⟨x54,hx,h⟩:=bind_some h
   refine RS.ld 84 51 (.tmp 83) (z1 hx zr) ?_
   obtain ⟨q55,hx,hq55⟩:=bind_some h
   subst hx
   have h:=hq55
   refine RS.mS 2 [(86,.val (Value.pointer (some (Addr.add q55 3)))),kP 85 q55] ?_
   obtain ⟨x56,hx,h⟩:=bind_some h
   refine RS.ld 87 36 (.tmp 86) (z1 hx z3) (RS.mS 2 [kI 89 0,kI 88 (x56.n:Int)] (RS.dn (WS.nxt (WS.bk 4 ?_))))
   obtain ⟨o,hl,h⟩:=bind_some h
   rcases o with ⟨H64,v89_65⟩ | r
   ·try dsimp only at h
    refine WS.lI (z43 (L:=L) (E:=E) (m:=m) (H:=H)) (L.ok hl) 2 ?_
    clear hl
    refine fun a w hs=>bkE ((WS.nxt ?_ a w hs))
    refine WS.sq (WS.rg ?_)
    obtain ⟨x66,hx,h⟩:=bind_some h
    refine RS.ld 125 86 (.tmp 3) (z1 hx z6z) (RS.mS 1 [(2,.val (Value.map x66))] (RS.dn (WS.nxt (WS.rt ?_))))
    cases h
    exact fun a w hs=>rtR (rS hs)
   ·try dsimp only at h
    refine WS.lR (z43 (L:=L) (E:=E) (m:=m) (H:=H)) (L.ok hl) 2 ?_
    cases h
    exact fun a w hq=>bkR (sqR (rtR hq))
  ·try dsimp only at h
   refine WS.lR (z3x (L:=L) (E:=E) (m:=m) (H:=H)) (L.ok hl) 1 ?_
   cases h
   exact fun a w hq=>bkR (sqR (rtR hq))
 ·try dsimp only at h
  refine WS.lR (z3z (L:=L) (E:=E) (m:=m) (H:=H)) (L.ok hl) 1 ?_
  cases h
  exact fun a w hq=>bkR (sqR (rtR hq))
noncomputable def B105:Code:=(Tryz.f105.body).getD .skip
def zih:ByteArray→Value
 | r0=>(Value.string r0)
def zjn (H:AH):ByteArray→AH:=fun _=>H
noncomputable def zah (_L:LC) (a0:Int):Option ByteArray :=
 if a0<10 then
  Option.bind (strC (⟨#[48,49,50,51,52,53,54,55,56,57,97,98,99,100,101,102,103,104,105,106,107,108,109,110,111,112,113,114,115,116,117,118,119,120,121,122]⟩:ByteArray) (some a0) (some (IntKind.i64.wrap (a0+1)))) fun s1 =>
  some s1
 else
  Option.bind (strC (⟨#[48,48,48,49,48,50,48,51,48,52,48,53,48,54,48,55,48,56,48,57,49,48,49,49,49,50,49,51,49,52,49,53,49,54,49,55,49,56,49,57,50,48,50,49,50,50,50,51,50,52,50,53,50,54,50,55,50,56,50,57,51,48,51,49,51,50,51,51,51,52,51,53,51,54,51,55,51,56,51,57,52,48,52,49,52,50,52,51,52,52,52,53,52,54,52,55,52,56,52,57,53,48,53,49,53,50,53,51,53,52,53,53,53,54,53,55,53,56,53,57,54,48,54,49,54,50,54,51,54,52,54,53,54,54,54,55,54,56,54,57,55,48,55,49,55,50,55,51,55,52,55,53,55,54,55,55,55,56,55,57,56,48,56,49,56,50,56,51,56,52,56,53,56,54,56,55,56,56,56,57,57,48,57,49,57,50,57,51,57,52,57,53,57,54,57,55,57,56,57,57]⟩:ByteArray) (some (IntKind.i64.wrap (a0*2))) (some (IntKind.i64.wrap ((IntKind.i64.wrap (a0*2))+2)))) fun s2 =>
  some s2
theorem zjo {L:LC} {m:Nat} {H:AH} {a0:Int} {r:ByteArray} (h:zah L a0=some r) :
  CallS Tryz.prog (NE.plain 148) m 105 #[(Value.int .i64 a0)] H (zih r) (zjn H r):=by
 refine CallS.mk (args:=[(Value.int .i64 a0)]) Tryz.func105 (B:=B105) (by kernel_rfl) (fun E _=>?_)
 unfold zah at h
 refine WS.sq (WS.rg (RS.mS 1 [kT 2 (⟨#[]⟩:ByteArray)] (RS.dn (WS.nxt (WS.sq (WS.sq (WS.rg (RS.mS 2 [kB 4 (decide (a0<10)),kI 3 a0] (RS.dn ?_)))))))))
 refine WS.nxt ?_
 rcases z0 h with ⟨hp,h⟩ | ⟨hp,h⟩
 ·refine WS.fx 4 true (decide_eq_true hp) (WS.cT (WS.sq (WS.rg (RS.mS 3 [kI 7 (IntKind.i64.wrap (a0+1)),kI 6 a0,kI 5 a0] ?_))))
  obtain ⟨s1,hx,h⟩:=bind_some h
  refine RS.o (H':=H) (some 8) (Value.string s1) (Abs.run_strC (t:=9) (x:=.const (Value.string (⟨#[48,49,50,51,52,53,54,55,56,57,97,98,99,100,101,102,103,104,105,106,107,108,109,110,111,112,113,114,115,116,117,118,119,120,121,122]⟩:ByteArray))) (lo:=(some (.tmp 5))) (hi:=(some (.tmp 7))) (s:=(⟨#[48,49,50,51,52,53,54,55,56,57,97,98,99,100,101,102,103,104,105,106,107,108,109,110,111,112,113,114,115,116,117,118,119,120,121,122]⟩:ByteArray)) (k1:=.i64) (k2:=.i64) (by kernel_rfl) (by kernel_rfl) (by kernel_rfl) (by kernel_rfl) (by kernel_rfl) hx) (RS.mS 1 [kT 2 s1] (RS.dn (WS.nxt (WS.rt ?_))))
  cases h
  exact fun a w hs=>sqR (rtR (rS hs))
 ·refine WS.fx 4 false (decide_eq_false hp) (WS.cF (WS.sk (WS.nxt (WS.sq (WS.rg (RS.mS 5 [kI 13 (IntKind.i64.wrap ((IntKind.i64.wrap (a0*2))+2)),kI 12 (IntKind.i64.wrap (a0*2)),kI 11 a0,kI 10 (IntKind.i64.wrap (a0*2)),kI 9 a0] ?_))))))
  obtain ⟨s2,hx,h⟩:=bind_some h
  refine RS.o (H':=H) (some 14) (Value.string s2) (Abs.run_strC (t:=9) (x:=.const (Value.string (⟨#[48,48,48,49,48,50,48,51,48,52,48,53,48,54,48,55,48,56,48,57,49,48,49,49,49,50,49,51,49,52,49,53,49,54,49,55,49,56,49,57,50,48,50,49,50,50,50,51,50,52,50,53,50,54,50,55,50,56,50,57,51,48,51,49,51,50,51,51,51,52,51,53,51,54,51,55,51,56,51,57,52,48,52,49,52,50,52,51,52,52,52,53,52,54,52,55,52,56,52,57,53,48,53,49,53,50,53,51,53,52,53,53,53,54,53,55,53,56,53,57,54,48,54,49,54,50,54,51,54,52,54,53,54,54,54,55,54,56,54,57,55,48,55,49,55,50,55,51,55,52,55,53,55,54,55,55,55,56,55,57,56,48,56,49,56,50,56,51,56,52,56,53,56,54,56,55,56,56,56,57,57,48,57,49,57,50,57,51,57,52,57,53,57,54,57,55,57,56,57,57]⟩:ByteArray))) (lo:=(some (.tmp 10))) (hi:=(some (.tmp 13))) (s:=(⟨#[48,48,48,49,48,50,48,51,48,52,48,53,48,54,48,55,48,56,48,57,49,48,49,49,49,50,49,51,49,52,49,53,49,54,49,55,49,56,49,57,50,48,50,49,50,50,50,51,50,52,50,53,50,54,50,55,50,56,50,57,51,48,51,49,51,50,51,51,51,52,51,53,51,54,51,55,51,56,51,57,52,48,52,49,52,50,52,51,52,52,52,53,52,54,52,55,52,56,52,57,53,48,53,49,53,50,53,51,53,52,53,53,53,54,53,55,53,56,53,57,54,48,54,49,54,50,54,51,54,52,54,53,54,54,54,55,54,56,54,57,55,48,55,49,55,50,55,51,55,52,55,53,55,54,55,55,55,56,55,57,56,48,56,49,56,50,56,51,56,52,56,53,56,54,56,55,56,56,56,57,57,48,57,49,57,50,57,51,57,52,57,53,57,54,57,55,57,56,57,57]⟩:ByteArray)) (k1:=.i64) (k2:=.i64) (by kernel_rfl) (by kernel_rfl) (by kernel_rfl) (by kernel_rfl) (by kernel_rfl) hx) (RS.mS 1 [kT 2 s2] (RS.dn (WS.nxt (WS.rt ?_))))
  cases h
  exact fun a w hs=>rtR (rS hs)
noncomputable def B76:Code:=(Tryz.f76.body).getD .skip
def zeb:(ByteArray×AH)→Value
 | (r0,_)=>(Value.string r0)
def zfq (_:AH):(ByteArray×AH)→AH:=fun r=>r.2
noncomputable def z5u (L:LC) (_m:Nat) (H:AH) (a0 a1:Int):Option (ByteArray×AH) :=
 if a1=10 then
  if 0≤a0 then
   if a0<100 then
    Option.bind (zah L a0) fun x1 =>
    some (x1,H)
   else
    none
  else
   none
 else
  none
theorem zfk {L:LC} {m:Nat} {H:AH} {a0 a1:Int} {r:(ByteArray×AH)} (h:z5u L m H a0 a1=some r) :
  CallS Tryz.prog (NE.plain 148) m 76 #[(Value.int .i64 a0),(Value.int .i64 a1)] H (zeb r) (zfq H r):=by
 refine CallS.mk (args:=[(Value.int .i64 a0),(Value.int .i64 a1)]) Tryz.func76 (B:=B76) (by kernel_rfl) (fun E _=>?_)
 unfold z5u at h
 refine WS.sq (WS.rg (RS.mS 1 [kT 4 (⟨#[]⟩:ByteArray)] (RS.dn (WS.nxt (WS.sq (WS.sq (WS.rg (RS.mS 2 [kB 11 (decide (a1=10)),kI 10 a1] (RS.dn ?_)))))))))
 refine WS.nxt ?_
 rcases z0 h with ⟨hp,h⟩ | ⟨hp,h⟩
 ·refine WS.fx 11 true (decide_eq_true hp) (WS.cT (WS.sq (WS.sq (WS.rg (RS.mS 3 [kB 14 (decide (0≤a0)),kB 13 (decide (0≤a0)),kI 12 a0] ?_)))))
  rcases z0 h with ⟨hp,h⟩ | ⟨hp,h⟩
  ·refine RS.fx 14 true (decide_eq_true hp) (RS.mS 3 [kB 17 (decide (a0<100)),kB 16 (decide (a0<100)),kI 15 a0] (RS.dn (WS.nxt ?_)))
   rcases z0 h with ⟨hp,h⟩ | ⟨hp,h⟩
   ·refine WS.fx 17 true (decide_eq_true hp) (WS.cT (WS.sq (WS.rg (RS.mS 1 [kI 18 a0] ?_))))
    obtain ⟨x1,hx,h⟩:=bind_some h
    refine RS.cl (some 19) (v:=(Value.string x1)) 105 #[(Value.int .i64 a0)] (zjo hx) (RS.mS 1 [kT 4 x1] (RS.dn (WS.nxt (WS.rt ?_))))
    cases h
    exact fun a w hs=>sqR (sqR (rtR (rS hs)))
   ·refine WS.fx 17 false (decide_eq_false hp) (WS.cF ?_)
    cases h
  ·refine RS.fx 14 false (decide_eq_false hp) ?_
   cases h
 ·refine WS.fx 11 false (decide_eq_false hp) (WS.cF ?_)
  cases h
noncomputable def B48:Code:=(Tryz.f48.body).getD .skip
def zgq:(ByteArray×AH)→Value
 | (r0,_)=>(Value.string r0)
def zhz (_:AH):(ByteArray×AH)→AH:=fun r=>r.2
noncomputable def z7o (L:LC) (m:Nat) (H:AH) (a0:Int):Option (ByteArray×AH) :=
 Option.bind (z5u L m H a0 10) fun (x1,H2) =>
 some (x1,H2)
theorem zhp {L:LC} {m:Nat} {H:AH} {a0:Int} {r:(ByteArray×AH)} (h:z7o L m H a0=some r) :
  CallS Tryz.prog (NE.plain 148) m 48 #[(Value.int .i64 a0)] H (zgq r) (zhz H r):=by
 refine CallS.mk (args:=[(Value.int .i64 a0)]) Tryz.func48 (B:=B48) (by kernel_rfl) (fun E _=>?_)
 unfold z7o at h
 refine WS.sq (WS.rg (RS.mS 1 [kT 2 (⟨#[]⟩:ByteArray)] (RS.dn (WS.nxt (WS.sq (WS.rg (RS.mS 1 [kI 3 a0] ?_)))))))
 obtain ⟨⟨x1,H2⟩,hx,h⟩:=bind_some h
 try dsimp only at h
 refine RS.cl (some 4) (v:=(Value.string x1)) 76 #[(Value.int .i64 a0),(Value.int .i64 10)] (zfk hx) (RS.mS 1 [kT 2 x1] (RS.dn (WS.nxt (WS.rt ?_))))
 cases h
 exact fun a w hs=>rtR (rS hs)
noncomputable def B17:Code:=(Tryz.f17.body).getD .skip
def zc4:(ByteArray×AH)→Value
 | (r0,_)=>(Value.string r0)
def zd4 (_:AH):(ByteArray×AH)→AH:=fun r=>r.2
noncomputable def z53 (L:LC) (m:Nat) (H:AH) (a0:Int):Option (ByteArray×AH) :=
 Option.bind (z7o L m H a0) fun (x1,H2) =>
 some (x1,H2)
theorem z7n {L:LC} {m:Nat} {H:AH} {a0:Int} {r:(ByteArray×AH)} (h:z53 L m H a0=some r) :
  CallS Tryz.prog (NE.plain 148) m 17 #[(Value.int .i64 a0)] H (zc4 r) (zd4 H r):=by
 refine CallS.mk (args:=[(Value.int .i64 a0)]) Tryz.func17 (B:=B17) (by kernel_rfl) (fun E _=>?_)
 unfold z53 at h
 refine WS.sq (WS.rg (RS.mS 1 [kT 2 (⟨#[]⟩:ByteArray)] (RS.dn (WS.nxt (WS.sq (WS.rg (RS.mS 1 [kI 3 a0] ?_)))))))
 obtain ⟨⟨x1,H2⟩,hx,h⟩:=bind_some h
 try dsimp only at h
 refine RS.cl (some 4) (v:=(Value.string x1)) 48 #[(Value.int .i64 a0)] (zhp hx) (RS.mS 1 [kT 2 x1] (RS.dn (WS.nxt (WS.rt ?_))))
 cases h
 exact fun a w hs=>rtR (rS hs)
noncomputable def B167:Code:=(Tryz.f167.body).getD .skip
def zch:Bool→Value
 | r0=>(Value.bool r0)
def zdu (H:AH):Bool→AH:=fun _=>H
noncomputable def z4a (_L:LC) (H:AH) (a0_0:ByteArray) (_a0_1:Sl3) (_a0_2 _a0_3:Int) (_a0_4:ByteArray) (_a0_5:Sl3) (a1:Option Addr):Option Bool :=
 Option.bind a1 fun q1 =>
 Option.bind (rd deS H q1) fun x2 =>
 some (a0_0.toList == x2.toList)
theorem zd7 {L:LC} {m:Nat} {H:AH} {a0_0:ByteArray} {a0_1:Sl3} {a0_2 a0_3:Int} {a0_4:ByteArray} {a0_5:Sl3} {a1:Option Addr} {r:Bool} (h:z4a L H a0_0 a0_1 a0_2 a0_3 a0_4 a0_5 a1=some r) :
  CallS Tryz.prog (NE.plain 148) m 167 #[(Value.agg #[(Value.string a0_0),(Sl3.v a0_1),(Value.int .i64 a0_2),(Value.int .i64 a0_3),(Value.string a0_4),(Sl3.v a0_5)]),(Value.pointer a1)] H (zch r) (zdu H r):=by
 refine CallS.mk (args:=[(Value.agg #[(Value.string a0_0),(Sl3.v a0_1),(Value.int .i64 a0_2),(Value.int .i64 a0_3),(Value.string a0_4),(Sl3.v a0_5)]),(Value.pointer a1)]) Tryz.func167 (B:=B167) (by kernel_rfl) (fun E _=>?_)
 unfold z4a at h
 refine WS.sq (WS.rg (RS.mL 2 [kB 3 false,kL 2 0 0] ([some (66,[(Value.string a0_0),(Sl3.v a0_1),(Value.int .i64 a0_2),(Value.int .i64 a0_3),(Value.string a0_4),(Sl3.v a0_5)])]) (RS.dn (WS.nxt (WS.sq (WS.rg (RS.mS 2 [kT 5 a0_0,kL 4 0 0] ?_)))))))
 obtain ⟨q1,hx,hq1⟩:=bind_some h
 subst hx
 have h:=hq1
 obtain ⟨x2,hx,h⟩:=bind_some h
 refine RS.ld 6 9 (.tmp 1) (z1 hx z9) (RS.mS 2 [kB 3 (a0_0.toList == x2.toList),kB 7 (a0_0.toList == x2.toList)] (RS.dn (WS.nxt (WS.rt ?_))))
 cases h
 exact fun a w hs=>rtR (rS hs)
end Go.Proofs.YtpcckomdlmpckaaGreatDoor
