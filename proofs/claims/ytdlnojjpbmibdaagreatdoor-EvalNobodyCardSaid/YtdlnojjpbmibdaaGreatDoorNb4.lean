/- Parts of the proof: an abstract interpreter of the loaded program and its soundness, printed functions, the law's own texts; part 4. No condition. -/
import Derived.Test.YtdlnojjpbmibdaaGreatDoorNb3
namespace Go.Proofs.YtdlnojjpbmibdaaGreatDoor
open Go Go.Abs
set_option maxRecDepth 100000
def z7k:(Bool×Sl3×AH)→Value
 | (r0,r1,_)=>(Value.agg #[(Value.bool r0),(Sl3.v r1)])
def z7s (_:AH):(Bool×Sl3×AH)→AH:=fun r=>r.2.2
noncomputable def B46:Code:=(Tryz.f46.body).getD .skip
noncomputable def z22 (L:LC) (m:Nat) (H:AH) (a0_0:Sl3) (a0_1:Bool):Option (Bool×Sl3×AH) :=
 Option.bind (z2v L (Nat.max m H.next) H a0_0) fun (x1,H2) =>
 some (a0_1,x1,H2)
theorem z3t {L:LC} {m:Nat} {H:AH} {a0_0:Sl3} {a0_1:Bool} {r:(Bool×Sl3×AH)} (h:z22 L m H a0_0 a0_1=some r) :
  CallS Tryz.prog (NE.plain 167) m 46 #[(Value.agg #[(Sl3.v a0_0),(Value.bool a0_1)])] H (z7k r) (z7s H r):=by
 refine CallS.mk (args:=[(Value.agg #[(Sl3.v a0_0),(Value.bool a0_1)])]) Tryz.func46 (B:=B46) (by kernel_rfl) (fun E _=>?_)
 unfold z22 at h
 refine WS.sq (WS.rg (RS.mL 2 [kL 2 1 0,kL 1 0 0] ([some (118,[(Sl3.v a0_0),(Value.bool a0_1)]),some (57,[(Value.bool false),(Sl3.v Sl3.nil)])]) (RS.dn (WS.nxt (WS.sq ?_)))))
 obtain ⟨⟨x1,H2⟩,hx_4,h⟩:=bind_some h
 try dsimp only at h
 refine WS.toone ([kL 2 1 0]) ([some (118,[(Sl3.v a0_0),(Value.bool a0_1)]),some (57,[(Value.bool a0_1),(Sl3.v x1)])]) H2 ?_ ?_
 ·clear h
  refine WS.dr [2,3] [0,1,0,4,12,31,63] 7 (fun hcl=>?_)
  refine DA.tL 2 (some 5) (.loc 0 0) (DA.tL 3 (some 6) (.val (Sl3.v a0_0)) (DA.restart [0,2,3] (by kernel_rfl) (DA.tL 0 (some 3) (.loc 0 1) ?_)))
  refine DA.two 1 4 (by kernel_rfl) ?_ ?_
  ·refine DA.aL 1 (some 4) (.val (Value.bool a0_1)) ([some (118,[(Sl3.v a0_0),(Value.bool a0_1)]),some (57,[(Value.bool false),(Sl3.v Sl3.nil)])]) true (DA.on 4 (DA.aCj 4 (some 7) false (v:=(Sl3.v x1)) 41 #[(Sl3.v a0_0)] (z2b hx_4) (DA.on 5 (DA.aH (H':=H2) 5 (some 8) (Value.agg #[(Value.bool a0_1),(Sl3.v x1)]) (by kernel_rfl) (DA.on 6 (DA.aL 6 none (.val undef) ([some (118,[(Sl3.v a0_0),(Value.bool a0_1)]),some (57,[(Value.bool a0_1),(Sl3.v x1)])]) false (DA.dn ?_)))))))
   exact fun a w hs=>jsN (hs.sb 2)
  ·refine DA.aCj 4 (some 7) true (v:=(Sl3.v x1)) 41 #[(Sl3.v a0_0)] (z2b hx_4) (DA.on 1 (DA.aL 1 (some 4) (.val (Value.bool a0_1)) ([some (118,[(Sl3.v a0_0),(Value.bool a0_1)]),some (57,[(Value.bool false),(Sl3.v Sl3.nil)])]) false (DA.on 5 (DA.aH (H':=H2) 5 (some 8) (Value.agg #[(Value.bool a0_1),(Sl3.v x1)]) (by kernel_rfl) (DA.on 6 (DA.aL 6 none (.val undef) ([some (118,[(Sl3.v a0_0),(Value.bool a0_1)]),some (57,[(Value.bool a0_1),(Sl3.v x1)])]) false (DA.dn ?_)))))))
   exact fun a w hs=>jsN (hs.sb 2)
 ·refine WS.nxt (WS.rt ?_)
  cases h
  exact fun a w hs=>rtR (rS hs)
def z8f:(Bool×Sl3×AH)→Value
 | (r0,r1,_)=>(Value.agg #[(Value.bool r0),(Sl3.v r1)])
def z9j (_:AH):(Bool×Sl3×AH)→AH:=fun r=>r.2.2
noncomputable def B56:Code:=(Tryz.f56.body).getD .skip
noncomputable def z7f (L:LC) (m:Nat) (H:AH) (a0_0:Bool) (a0_1:Sl3):Option (Bool×Sl3×AH) :=
 Option.bind (zfw L H a0_0 a0_1) fun (x1_0,x1_1) =>
 Option.bind (z22 L m H x1_0 x1_1) fun (x2_0,x2_1,H3) =>
 some (x2_0,x2_1,H3)
theorem z9y {L:LC} {m:Nat} {H:AH} {a0_0:Bool} {a0_1:Sl3} {r:(Bool×Sl3×AH)} (h:z7f L m H a0_0 a0_1=some r) :
  CallS Tryz.prog (NE.plain 167) m 56 #[(Value.agg #[(Value.bool a0_0),(Sl3.v a0_1)])] H (z8f r) (z9j H r):=by
 refine CallS.mk (args:=[(Value.agg #[(Value.bool a0_0),(Sl3.v a0_1)])]) Tryz.func56 (B:=B56) (by kernel_rfl) (fun E _=>?_)
 unfold z7f at h
 refine WS.sq (WS.rg (RS.mL 2 [kL 2 1 0,kL 1 0 0] ([some (57,[(Value.bool a0_0),(Sl3.v a0_1)]),some (57,[(Value.bool false),(Sl3.v Sl3.nil)])]) (RS.dn (WS.nxt (WS.sq (WS.rg (RS.mS 1 [kA 3 #[(Value.bool a0_0),(Sl3.v a0_1)]] ?_)))))))
 obtain ⟨⟨x1_0,x1_1⟩,hx,h⟩:=bind_some h
 try dsimp only at h
 refine RS.cl (some 4) (v:=(Value.agg #[(Sl3.v x1_0),(Value.bool x1_1)])) 109 #[(Value.agg #[(Value.bool a0_0),(Sl3.v a0_1)])] (zjf hx) ?_
 obtain ⟨⟨x2_0,x2_1,H3⟩,hx,h⟩:=bind_some h
 try dsimp only at h
 refine RS.cl (some 5) (v:=(Value.agg #[(Value.bool x2_0),(Sl3.v x2_1)])) 46 #[(Value.agg #[(Sl3.v x1_0),(Value.bool x1_1)])] (z3t hx) (RS.mL 1 [] ([some (57,[(Value.bool a0_0),(Sl3.v a0_1)]),some (57,[(Value.bool x2_0),(Sl3.v x2_1)])]) (RS.dn (WS.nxt (WS.rt ?_))))
 cases h
 exact fun a w hs=>rtR (rS hs)
def zm8:(Int×ByteArray×Bool×Sl3×Int×Sl3×Int×Int×ByteArray×Sl3×Sl3×Sl3×AH)→Value
 | (r0,r1,r2,r3,r4,r5,r6,r7,r8,r9,r10,r11,_)=>(Value.agg #[(Value.int .i64 r0),(Value.string r1),(Value.bool r2),(Sl3.v r3),(Value.int .i64 r4),(Sl3.v r5),(Value.int .i64 r6),(Value.int .i64 r7),(Value.string r8),(Sl3.v r9),(Sl3.v r10),(Sl3.v r11)])
def zmo (_:AH):(Int×ByteArray×Bool×Sl3×Int×Sl3×Int×Int×ByteArray×Sl3×Sl3×Sl3×AH)→AH:=fun r=>r.2.2.2.2.2.2.2.2.2.2.2.2
noncomputable def B25:Code:=(Tryz.f25.body).getD .skip
noncomputable def zan (L:LC) (m:Nat) (H:AH) (a0_0:Int) (a0_1:ByteArray) (a0_2:Bool) (a0_3:Sl3) (_a0_4:Int) (_a0_5:Sl3) (_a0_6 _a0_7:Int) (_a0_8:ByteArray) (_a0_9 _a0_10 a0_11:Sl3):Option (Int×ByteArray×Bool×Sl3×Int×Sl3×Int×Int×ByteArray×Sl3×Sl3×Sl3×AH) :=
 Option.bind (z6t L (Nat.max m H.next) H a0_11) fun (x1,H2) =>
 Option.bind (α:=(AH×Int×ByteArray×Bool×Sl3×Int×Sl3×Int×Int×ByteArray×Sl3×Sl3×Sl3)) (
  if a0_0≥11 then
   if a0_0≤14 then
    some (H2,a0_0,a0_1,false,Sl3.nil,0,Sl3.nil,0,0,(⟨#[]⟩:ByteArray),Sl3.nil,Sl3.nil,x1)
   else
    if a0_0=20 then
     Option.bind (z7f L m H2 a0_2 a0_3) fun (x16_0,x16_1,H17) =>
     some (H17,a0_0,(⟨#[]⟩:ByteArray),x16_0,x16_1,0,Sl3.nil,0,0,(⟨#[]⟩:ByteArray),Sl3.nil,Sl3.nil,x1)
    else
     if a0_0=40 then
      none
     else
      if a0_0=34 then
       none
      else
       some (H2,a0_0,(⟨#[]⟩:ByteArray),false,Sl3.nil,0,Sl3.nil,0,0,(⟨#[]⟩:ByteArray),Sl3.nil,Sl3.nil,x1)
  else
   none) fun (H3,w2_4,w2_5,w2_6,w2_7,w2_8,w2_9,w2_10,w2_11,w2_12,w2_13,w2_14,w2_15) =>
 Option.bind (zce L a0_0) fun (_,_,x20,_) =>
 if x20 > 0 then
  none
 else
  some (w2_4,w2_5,w2_6,w2_7,w2_8,w2_9,w2_10,w2_11,w2_12,w2_13,w2_14,w2_15,H3)
theorem zg0 {L:LC} {m:Nat} {H:AH} {a0_0:Int} {a0_1:ByteArray} {a0_2:Bool} {a0_3:Sl3} {a0_4:Int} {a0_5:Sl3} {a0_6 a0_7:Int} {a0_8:ByteArray} {a0_9 a0_10 a0_11:Sl3} {r:(Int×ByteArray×Bool×Sl3×Int×Sl3×Int×Int×ByteArray×Sl3×Sl3×Sl3×AH)} (h:zan L m H a0_0 a0_1 a0_2 a0_3 a0_4 a0_5 a0_6 a0_7 a0_8 a0_9 a0_10 a0_11=some r) :
  CallS Tryz.prog (NE.plain 167) m 25 #[(Value.agg #[(Value.int .i64 a0_0),(Value.string a0_1),(Value.bool a0_2),(Sl3.v a0_3),(Value.int .i64 a0_4),(Sl3.v a0_5),(Value.int .i64 a0_6),(Value.int .i64 a0_7),(Value.string a0_8),(Sl3.v a0_9),(Sl3.v a0_10),(Sl3.v a0_11)])] H (zm8 r) (zmo H r):=by
 refine CallS.mk (args:=[(Value.agg #[(Value.int .i64 a0_0),(Value.string a0_1),(Value.bool a0_2),(Sl3.v a0_3),(Value.int .i64 a0_4),(Sl3.v a0_5),(Value.int .i64 a0_6),(Value.int .i64 a0_7),(Value.string a0_8),(Sl3.v a0_9),(Sl3.v a0_10),(Sl3.v a0_11)])]) Tryz.func25 (B:=B25) (by kernel_rfl) (fun E _=>?_)
 unfold zan at h
 refine WS.sq (WS.rg (RS.mL 2 [kL 2 1 0,kL 1 0 0] ([some (61,[(Value.int .i64 a0_0),(Value.string a0_1),(Value.bool a0_2),(Sl3.v a0_3),(Value.int .i64 a0_4),(Sl3.v a0_5),(Value.int .i64 a0_6),(Value.int .i64 a0_7),(Value.string a0_8),(Sl3.v a0_9),(Sl3.v a0_10),(Sl3.v a0_11)]),some (61,[(Value.int .i64 0),(Value.string (⟨#[]⟩:ByteArray)),(Value.bool false),(Sl3.v Sl3.nil),(Value.int .i64 0),(Sl3.v Sl3.nil),(Value.int .i64 0),(Value.int .i64 0),(Value.string (⟨#[]⟩:ByteArray)),(Sl3.v Sl3.nil),(Sl3.v Sl3.nil),(Sl3.v Sl3.nil)])]) (RS.dn (WS.nxt (WS.sq ?_)))))
 obtain ⟨⟨x1,H2⟩,hx_4,h⟩:=bind_some h
 try dsimp only at h
 refine WS.toone ([kL 1 0 0,kL 2 1 0,kL 3 2 0]) ([some (61,[(Value.int .i64 a0_0),(Value.string a0_1),(Value.bool a0_2),(Sl3.v a0_3),(Value.int .i64 a0_4),(Sl3.v a0_5),(Value.int .i64 a0_6),(Value.int .i64 a0_7),(Value.string a0_8),(Sl3.v a0_9),(Sl3.v a0_10),(Sl3.v a0_11)]),some (61,[(Value.int .i64 0),(Value.string (⟨#[]⟩:ByteArray)),(Value.bool false),(Sl3.v Sl3.nil),(Value.int .i64 0),(Sl3.v Sl3.nil),(Value.int .i64 0),(Value.int .i64 0),(Value.string (⟨#[]⟩:ByteArray)),(Sl3.v Sl3.nil),(Sl3.v Sl3.nil),(Sl3.v Sl3.nil)]),some (61,[(Value.int .i64 a0_0),(Value.string (⟨#[]⟩:ByteArray)),(Value.bool false),(Sl3.v Sl3.nil),(Value.int .i64 0),(Sl3.v Sl3.nil),(Value.int .i64 0),(Value.int .i64 0),(Value.string (⟨#[]⟩:ByteArray)),(Sl3.v Sl3.nil),(Sl3.v Sl3.nil),(Sl3.v x1)])]) H2 ?_ ?_
 ·clear h
  refine WS.dr [2,3] [0,1,0,4,12,31,0,127] 8 (fun hcl=>?_)
  refine DA.tL 2 (some 10) (.loc 0 11) (DA.tL 3 (some 11) (.val (Sl3.v a0_11)) (DA.restart [0,2,3] (by kernel_rfl) (DA.tL 0 (some 8) (.loc 0 0) ?_)))
  refine DA.three 1 4 6 (by kernel_rfl) ?_ ?_ ?_
  ·refine DA.aL 1 (some 9) (.val (Value.int .i64 a0_0)) ([some (61,[(Value.int .i64 a0_0),(Value.string a0_1),(Value.bool a0_2),(Sl3.v a0_3),(Value.int .i64 a0_4),(Sl3.v a0_5),(Value.int .i64 a0_6),(Value.int .i64 a0_7),(Value.string a0_8),(Sl3.v a0_9),(Sl3.v a0_10),(Sl3.v a0_11)]),some (61,[(Value.int .i64 0),(Value.string (⟨#[]⟩:ByteArray)),(Value.bool false),(Sl3.v Sl3.nil),(Value.int .i64 0),(Sl3.v Sl3.nil),(Value.int .i64 0),(Value.int .i64 0),(Value.string (⟨#[]⟩:ByteArray)),(Sl3.v Sl3.nil),(Sl3.v Sl3.nil),(Sl3.v Sl3.nil)])]) true ?_
   refine DA.two 4 6 (by kernel_rfl) ?_ ?_
   ·refine DA.aCj 4 (some 12) true (v:=(Sl3.v x1)) 55 #[(Sl3.v a0_11)] (z1j hx_4) ?_
    refine DA.two 5 6 (by kernel_rfl) ?_ ?_
    ·refine DA.aHj (H':=H2) 5 (some 13) true (Value.agg #[(Value.int .i64 a0_0),(Value.string (⟨#[]⟩:ByteArray)),(Value.bool false),(Sl3.v Sl3.nil),(Value.int .i64 0),(Sl3.v Sl3.nil),(Value.int .i64 0),(Value.int .i64 0),(Value.string (⟨#[]⟩:ByteArray)),(Sl3.v Sl3.nil),(Sl3.v Sl3.nil),(Sl3.v x1)]) (by kernel_rfl) (DA.on 6 (DA.aL 6 (some 3) (.loc 2 0) ([some (61,[(Value.int .i64 a0_0),(Value.string a0_1),(Value.bool a0_2),(Sl3.v a0_3),(Value.int .i64 a0_4),(Sl3.v a0_5),(Value.int .i64 a0_6),(Value.int .i64 a0_7),(Value.string a0_8),(Sl3.v a0_9),(Sl3.v a0_10),(Sl3.v a0_11)]),some (61,[(Value.int .i64 0),(Value.string (⟨#[]⟩:ByteArray)),(Value.bool false),(Sl3.v Sl3.nil),(Value.int .i64 0),(Sl3.v Sl3.nil),(Value.int .i64 0),(Value.int .i64 0),(Value.string (⟨#[]⟩:ByteArray)),(Sl3.v Sl3.nil),(Sl3.v Sl3.nil),(Sl3.v Sl3.nil)]),some (61,[(Value.int .i64 0),(Value.string (⟨#[]⟩:ByteArray)),(Value.bool false),(Sl3.v Sl3.nil),(Value.int .i64 0),(Sl3.v Sl3.nil),(Value.int .i64 0),(Value.int .i64 0),(Value.string (⟨#[]⟩:ByteArray)),(Sl3.v Sl3.nil),(Sl3.v Sl3.nil),(Sl3.v Sl3.nil)])]) false (DA.on 7 (DA.aL 7 none (.val undef) ([some (61,[(Value.int .i64 a0_0),(Value.string a0_1),(Value.bool a0_2),(Sl3.v a0_3),(Value.int .i64 a0_4),(Sl3.v a0_5),(Value.int .i64 a0_6),(Value.int .i64 a0_7),(Value.string a0_8),(Sl3.v a0_9),(Sl3.v a0_10),(Sl3.v a0_11)]),some (61,[(Value.int .i64 0),(Value.string (⟨#[]⟩:ByteArray)),(Value.bool false),(Sl3.v Sl3.nil),(Value.int .i64 0),(Sl3.v Sl3.nil),(Value.int .i64 0),(Value.int .i64 0),(Value.string (⟨#[]⟩:ByteArray)),(Sl3.v Sl3.nil),(Sl3.v Sl3.nil),(Sl3.v Sl3.nil)]),some (61,[(Value.int .i64 a0_0),(Value.string (⟨#[]⟩:ByteArray)),(Value.bool false),(Sl3.v Sl3.nil),(Value.int .i64 0),(Sl3.v Sl3.nil),(Value.int .i64 0),(Value.int .i64 0),(Value.string (⟨#[]⟩:ByteArray)),(Sl3.v Sl3.nil),(Sl3.v Sl3.nil),(Sl3.v x1)])]) false (DA.dn ?_)))))
     exact fun a w hs=>jsN (hs.sb 3)
    ·refine DA.aL 6 (some 3) (.loc 2 0) ([some (61,[(Value.int .i64 a0_0),(Value.string a0_1),(Value.bool a0_2),(Sl3.v a0_3),(Value.int .i64 a0_4),(Sl3.v a0_5),(Value.int .i64 a0_6),(Value.int .i64 a0_7),(Value.string a0_8),(Sl3.v a0_9),(Sl3.v a0_10),(Sl3.v a0_11)]),some (61,[(Value.int .i64 0),(Value.string (⟨#[]⟩:ByteArray)),(Value.bool false),(Sl3.v Sl3.nil),(Value.int .i64 0),(Sl3.v Sl3.nil),(Value.int .i64 0),(Value.int .i64 0),(Value.string (⟨#[]⟩:ByteArray)),(Sl3.v Sl3.nil),(Sl3.v Sl3.nil),(Sl3.v Sl3.nil)]),some (61,[(Value.int .i64 0),(Value.string (⟨#[]⟩:ByteArray)),(Value.bool false),(Sl3.v Sl3.nil),(Value.int .i64 0),(Sl3.v Sl3.nil),(Value.int .i64 0),(Value.int .i64 0),(Value.string (⟨#[]⟩:ByteArray)),(Sl3.v Sl3.nil),(Sl3.v Sl3.nil),(Sl3.v Sl3.nil)])]) false (DA.on 5 (DA.aH (H':=H2) 5 (some 13) (Value.agg #[(Value.int .i64 a0_0),(Value.string (⟨#[]⟩:ByteArray)),(Value.bool false),(Sl3.v Sl3.nil),(Value.int .i64 0),(Sl3.v Sl3.nil),(Value.int .i64 0),(Value.int .i64 0),(Value.string (⟨#[]⟩:ByteArray)),(Sl3.v Sl3.nil),(Sl3.v Sl3.nil),(Sl3.v x1)]) (by kernel_rfl) (DA.on 7 (DA.aL 7 none (.val undef) ([some (61,[(Value.int .i64 a0_0),(Value.string a0_1),(Value.bool a0_2),(Sl3.v a0_3),(Value.int .i64 a0_4),(Sl3.v a0_5),(Value.int .i64 a0_6),(Value.int .i64 a0_7),(Value.string a0_8),(Sl3.v a0_9),(Sl3.v a0_10),(Sl3.v a0_11)]),some (61,[(Value.int .i64 0),(Value.string (⟨#[]⟩:ByteArray)),(Value.bool false),(Sl3.v Sl3.nil),(Value.int .i64 0),(Sl3.v Sl3.nil),(Value.int .i64 0),(Value.int .i64 0),(Value.string (⟨#[]⟩:ByteArray)),(Sl3.v Sl3.nil),(Sl3.v Sl3.nil),(Sl3.v Sl3.nil)]),some (61,[(Value.int .i64 a0_0),(Value.string (⟨#[]⟩:ByteArray)),(Value.bool false),(Sl3.v Sl3.nil),(Value.int .i64 0),(Sl3.v Sl3.nil),(Value.int .i64 0),(Value.int .i64 0),(Value.string (⟨#[]⟩:ByteArray)),(Sl3.v Sl3.nil),(Sl3.v Sl3.nil),(Sl3.v x1)])]) false (DA.dn ?_)))))
     exact fun a w hs=>jsN (hs.sb 3)
   ·refine DA.aL 6 (some 3) (.loc 2 0) ([some (61,[(Value.int .i64 a0_0),(Value.string a0_1),(Value.bool a0_2),(Sl3.v a0_3),(Value.int .i64 a0_4),(Sl3.v a0_5),(Value.int .i64 a0_6),(Value.int .i64 a0_7),(Value.string a0_8),(Sl3.v a0_9),(Sl3.v a0_10),(Sl3.v a0_11)]),some (61,[(Value.int .i64 0),(Value.string (⟨#[]⟩:ByteArray)),(Value.bool false),(Sl3.v Sl3.nil),(Value.int .i64 0),(Sl3.v Sl3.nil),(Value.int .i64 0),(Value.int .i64 0),(Value.string (⟨#[]⟩:ByteArray)),(Sl3.v Sl3.nil),(Sl3.v Sl3.nil),(Sl3.v Sl3.nil)]),some (61,[(Value.int .i64 0),(Value.string (⟨#[]⟩:ByteArray)),(Value.bool false),(Sl3.v Sl3.nil),(Value.int .i64 0),(Sl3.v Sl3.nil),(Value.int .i64 0),(Value.int .i64 0),(Value.string (⟨#[]⟩:ByteArray)),(Sl3.v Sl3.nil),(Sl3.v Sl3.nil),(Sl3.v Sl3.nil)])]) true (DA.on 4 (DA.aCj 4 (some 12) false (v:=(Sl3.v x1)) 55 #[(Sl3.v a0_11)] (z1j hx_4) (DA.on 5 (DA.aH (H':=H2) 5 (some 13) (Value.agg #[(Value.int .i64 a0_0),(Value.string (⟨#[]⟩:ByteArray)),(Value.bool false),(Sl3.v Sl3.nil),(Value.int .i64 0),(Sl3.v Sl3.nil),(Value.int .i64 0),(Value.int .i64 0),(Value.string (⟨#[]⟩:ByteArray)),(Sl3.v Sl3.nil),(Sl3.v Sl3.nil),(Sl3.v x1)]) (by kernel_rfl) (DA.on 7 (DA.aL 7 none (.val undef) ([some (61,[(Value.int .i64 a0_0),(Value.string a0_1),(Value.bool a0_2),(Sl3.v a0_3),(Value.int .i64 a0_4),(Sl3.v a0_5),(Value.int .i64 a0_6),(Value.int .i64 a0_7),(Value.string a0_8),(Sl3.v a0_9),(Sl3.v a0_10),(Sl3.v a0_11)]),some (61,[(Value.int .i64 0),(Value.string (⟨#[]⟩:ByteArray)),(Value.bool false),(Sl3.v Sl3.nil),(Value.int .i64 0),(Sl3.v Sl3.nil),(Value.int .i64 0),(Value.int .i64 0),(Value.string (⟨#[]⟩:ByteArray)),(Sl3.v Sl3.nil),(Sl3.v Sl3.nil),(Sl3.v Sl3.nil)]),some (61,[(Value.int .i64 a0_0),(Value.string (⟨#[]⟩:ByteArray)),(Value.bool false),(Sl3.v Sl3.nil),(Value.int .i64 0),(Sl3.v Sl3.nil),(Value.int .i64 0),(Value.int .i64 0),(Value.string (⟨#[]⟩:ByteArray)),(Sl3.v Sl3.nil),(Sl3.v Sl3.nil),(Sl3.v x1)])]) false (DA.dn ?_)))))))
    exact fun a w hs=>jsN (hs.sb 3)
  ·refine DA.aCj 4 (some 12) true (v:=(Sl3.v x1)) 55 #[(Sl3.v a0_11)] (z1j hx_4) ?_
   refine DA.two 1 6 (by kernel_rfl) ?_ ?_
   ·refine DA.aL 1 (some 9) (.val (Value.int .i64 a0_0)) ([some (61,[(Value.int .i64 a0_0),(Value.string a0_1),(Value.bool a0_2),(Sl3.v a0_3),(Value.int .i64 a0_4),(Sl3.v a0_5),(Value.int .i64 a0_6),(Value.int .i64 a0_7),(Value.string a0_8),(Sl3.v a0_9),(Sl3.v a0_10),(Sl3.v a0_11)]),some (61,[(Value.int .i64 0),(Value.string (⟨#[]⟩:ByteArray)),(Value.bool false),(Sl3.v Sl3.nil),(Value.int .i64 0),(Sl3.v Sl3.nil),(Value.int .i64 0),(Value.int .i64 0),(Value.string (⟨#[]⟩:ByteArray)),(Sl3.v Sl3.nil),(Sl3.v Sl3.nil),(Sl3.v Sl3.nil)])]) true ?_
    refine DA.two 5 6 (by kernel_rfl) ?_ ?_
    ·refine DA.aHj (H':=H2) 5 (some 13) true (Value.agg #[(Value.int .i64 a0_0),(Value.string (⟨#[]⟩:ByteArray)),(Value.bool false),(Sl3.v Sl3.nil),(Value.int .i64 0),(Sl3.v Sl3.nil),(Value.int .i64 0),(Value.int .i64 0),(Value.string (⟨#[]⟩:ByteArray)),(Sl3.v Sl3.nil),(Sl3.v Sl3.nil),(Sl3.v x1)]) (by kernel_rfl) (DA.on 6 (DA.aL 6 (some 3) (.loc 2 0) ([some (61,[(Value.int .i64 a0_0),(Value.string a0_1),(Value.bool a0_2),(Sl3.v a0_3),(Value.int .i64 a0_4),(Sl3.v a0_5),(Value.int .i64 a0_6),(Value.int .i64 a0_7),(Value.string a0_8),(Sl3.v a0_9),(Sl3.v a0_10),(Sl3.v a0_11)]),some (61,[(Value.int .i64 0),(Value.string (⟨#[]⟩:ByteArray)),(Value.bool false),(Sl3.v Sl3.nil),(Value.int .i64 0),(Sl3.v Sl3.nil),(Value.int .i64 0),(Value.int .i64 0),(Value.string (⟨#[]⟩:ByteArray)),(Sl3.v Sl3.nil),(Sl3.v Sl3.nil),(Sl3.v Sl3.nil)]),some (61,[(Value.int .i64 0),(Value.string (⟨#[]⟩:ByteArray)),(Value.bool false),(Sl3.v Sl3.nil),(Value.int .i64 0),(Sl3.v Sl3.nil),(Value.int .i64 0),(Value.int .i64 0),(Value.string (⟨#[]⟩:ByteArray)),(Sl3.v Sl3.nil),(Sl3.v Sl3.nil),(Sl3.v Sl3.nil)])]) false (DA.on 7 (DA.aL 7 none (.val undef) ([some (61,[(Value.int .i64 a0_0),(Value.string a0_1),(Value.bool a0_2),(Sl3.v a0_3),(Value.int .i64 a0_4),(Sl3.v a0_5),(Value.int .i64 a0_6),(Value.int .i64 a0_7),(Value.string a0_8),(Sl3.v a0_9),(Sl3.v a0_10),(Sl3.v a0_11)]),some (61,[(Value.int .i64 0),(Value.string (⟨#[]⟩:ByteArray)),(Value.bool false),(Sl3.v Sl3.nil),(Value.int .i64 0),(Sl3.v Sl3.nil),(Value.int .i64 0),(Value.int .i64 0),(Value.string (⟨#[]⟩:ByteArray)),(Sl3.v Sl3.nil),(Sl3.v Sl3.nil),(Sl3.v Sl3.nil)]),some (61,[(Value.int .i64 a0_0),(Value.string (⟨#[]⟩:ByteArray)),(Value.bool false),(Sl3.v Sl3.nil),(Value.int .i64 0),(Sl3.v Sl3.nil),(Value.int .i64 0),(Value.int .i64 0),(Value.string (⟨#[]⟩:ByteArray)),(Sl3.v Sl3.nil),(Sl3.v Sl3.nil),(Sl3.v x1)])]) false (DA.dn ?_)))))
     exact fun a w hs=>jsN (hs.sb 3)
    ·refine DA.aL 6 (some 3) (.loc 2 0) ([some (61,[(Value.int .i64 a0_0),(Value.string a0_1),(Value.bool a0_2),(Sl3.v a0_3),(Value.int .i64 a0_4),(Sl3.v a0_5),(Value.int .i64 a0_6),(Value.int .i64 a0_7),(Value.string a0_8),(Sl3.v a0_9),(Sl3.v a0_10),(Sl3.v a0_11)]),some (61,[(Value.int .i64 0),(Value.string (⟨#[]⟩:ByteArray)),(Value.bool false),(Sl3.v Sl3.nil),(Value.int .i64 0),(Sl3.v Sl3.nil),(Value.int .i64 0),(Value.int .i64 0),(Value.string (⟨#[]⟩:ByteArray)),(Sl3.v Sl3.nil),(Sl3.v Sl3.nil),(Sl3.v Sl3.nil)]),some (61,[(Value.int .i64 0),(Value.string (⟨#[]⟩:ByteArray)),(Value.bool false),(Sl3.v Sl3.nil),(Value.int .i64 0),(Sl3.v Sl3.nil),(Value.int .i64 0),(Value.int .i64 0),(Value.string (⟨#[]⟩:ByteArray)),(Sl3.v Sl3.nil),(Sl3.v Sl3.nil),(Sl3.v Sl3.nil)])]) false (DA.on 5 (DA.aH (H':=H2) 5 (some 13) (Value.agg #[(Value.int .i64 a0_0),(Value.string (⟨#[]⟩:ByteArray)),(Value.bool false),(Sl3.v Sl3.nil),(Value.int .i64 0),(Sl3.v Sl3.nil),(Value.int .i64 0),(Value.int .i64 0),(Value.string (⟨#[]⟩:ByteArray)),(Sl3.v Sl3.nil),(Sl3.v Sl3.nil),(Sl3.v x1)]) (by kernel_rfl) (DA.on 7 (DA.aL 7 none (.val undef) ([some (61,[(Value.int .i64 a0_0),(Value.string a0_1),(Value.bool a0_2),(Sl3.v a0_3),(Value.int .i64 a0_4),(Sl3.v a0_5),(Value.int .i64 a0_6),(Value.int .i64 a0_7),(Value.string a0_8),(Sl3.v a0_9),(Sl3.v a0_10),(Sl3.v a0_11)]),some (61,[(Value.int .i64 0),(Value.string (⟨#[]⟩:ByteArray)),(Value.bool false),(Sl3.v Sl3.nil),(Value.int .i64 0),(Sl3.v Sl3.nil),(Value.int .i64 0),(Value.int .i64 0),(Value.string (⟨#[]⟩:ByteArray)),(Sl3.v Sl3.nil),(Sl3.v Sl3.nil),(Sl3.v Sl3.nil)]),some (61,[(Value.int .i64 a0_0),(Value.string (⟨#[]⟩:ByteArray)),(Value.bool false),(Sl3.v Sl3.nil),(Value.int .i64 0),(Sl3.v Sl3.nil),(Value.int .i64 0),(Value.int .i64 0),(Value.string (⟨#[]⟩:ByteArray)),(Sl3.v Sl3.nil),(Sl3.v Sl3.nil),(Sl3.v x1)])]) false (DA.dn ?_)))))
     exact fun a w hs=>jsN (hs.sb 3)
   ·refine DA.aL 6 (some 3) (.loc 2 0) ([some (61,[(Value.int .i64 a0_0),(Value.string a0_1),(Value.bool a0_2),(Sl3.v a0_3),(Value.int .i64 a0_4),(Sl3.v a0_5),(Value.int .i64 a0_6),(Value.int .i64 a0_7),(Value.string a0_8),(Sl3.v a0_9),(Sl3.v a0_10),(Sl3.v a0_11)]),some (61,[(Value.int .i64 0),(Value.string (⟨#[]⟩:ByteArray)),(Value.bool false),(Sl3.v Sl3.nil),(Value.int .i64 0),(Sl3.v Sl3.nil),(Value.int .i64 0),(Value.int .i64 0),(Value.string (⟨#[]⟩:ByteArray)),(Sl3.v Sl3.nil),(Sl3.v Sl3.nil),(Sl3.v Sl3.nil)]),some (61,[(Value.int .i64 0),(Value.string (⟨#[]⟩:ByteArray)),(Value.bool false),(Sl3.v Sl3.nil),(Value.int .i64 0),(Sl3.v Sl3.nil),(Value.int .i64 0),(Value.int .i64 0),(Value.string (⟨#[]⟩:ByteArray)),(Sl3.v Sl3.nil),(Sl3.v Sl3.nil),(Sl3.v Sl3.nil)])]) true (DA.on 1 (DA.aL 1 (some 9) (.val (Value.int .i64 a0_0)) ([some (61,[(Value.int .i64 a0_0),(Value.string a0_1),(Value.bool a0_2),(Sl3.v a0_3),(Value.int .i64 a0_4),(Sl3.v a0_5),(Value.int .i64 a0_6),(Value.int .i64 a0_7),(Value.string a0_8),(Sl3.v a0_9),(Sl3.v a0_10),(Sl3.v a0_11)]),some (61,[(Value.int .i64 0),(Value.string (⟨#[]⟩:ByteArray)),(Value.bool false),(Sl3.v Sl3.nil),(Value.int .i64 0),(Sl3.v Sl3.nil),(Value.int .i64 0),(Value.int .i64 0),(Value.string (⟨#[]⟩:ByteArray)),(Sl3.v Sl3.nil),(Sl3.v Sl3.nil),(Sl3.v Sl3.nil)]),some (61,[(Value.int .i64 0),(Value.string (⟨#[]⟩:ByteArray)),(Value.bool false),(Sl3.v Sl3.nil),(Value.int .i64 0),(Sl3.v Sl3.nil),(Value.int .i64 0),(Value.int .i64 0),(Value.string (⟨#[]⟩:ByteArray)),(Sl3.v Sl3.nil),(Sl3.v Sl3.nil),(Sl3.v Sl3.nil)])]) false (DA.on 5 (DA.aH (H':=H2) 5 (some 13) (Value.agg #[(Value.int .i64 a0_0),(Value.string (⟨#[]⟩:ByteArray)),(Value.bool false),(Sl3.v Sl3.nil),(Value.int .i64 0),(Sl3.v Sl3.nil),(Value.int .i64 0),(Value.int .i64 0),(Value.string (⟨#[]⟩:ByteArray)),(Sl3.v Sl3.nil),(Sl3.v Sl3.nil),(Sl3.v x1)]) (by kernel_rfl) (DA.on 7 (DA.aL 7 none (.val undef) ([some (61,[(Value.int .i64 a0_0),(Value.string a0_1),(Value.bool a0_2),(Sl3.v a0_3),(Value.int .i64 a0_4),(Sl3.v a0_5),(Value.int .i64 a0_6),(Value.int .i64 a0_7),(Value.string a0_8),(Sl3.v a0_9),(Sl3.v a0_10),(Sl3.v a0_11)]),some (61,[(Value.int .i64 0),(Value.string (⟨#[]⟩:ByteArray)),(Value.bool false),(Sl3.v Sl3.nil),(Value.int .i64 0),(Sl3.v Sl3.nil),(Value.int .i64 0),(Value.int .i64 0),(Value.string (⟨#[]⟩:ByteArray)),(Sl3.v Sl3.nil),(Sl3.v Sl3.nil),(Sl3.v Sl3.nil)]),some (61,[(Value.int .i64 a0_0),(Value.string (⟨#[]⟩:ByteArray)),(Value.bool false),(Sl3.v Sl3.nil),(Value.int .i64 0),(Sl3.v Sl3.nil),(Value.int .i64 0),(Value.int .i64 0),(Value.string (⟨#[]⟩:ByteArray)),(Sl3.v Sl3.nil),(Sl3.v Sl3.nil),(Sl3.v x1)])]) false (DA.dn ?_)))))))
    exact fun a w hs=>jsN (hs.sb 3)
  ·refine DA.aL 6 (some 3) (.loc 2 0) ([some (61,[(Value.int .i64 a0_0),(Value.string a0_1),(Value.bool a0_2),(Sl3.v a0_3),(Value.int .i64 a0_4),(Sl3.v a0_5),(Value.int .i64 a0_6),(Value.int .i64 a0_7),(Value.string a0_8),(Sl3.v a0_9),(Sl3.v a0_10),(Sl3.v a0_11)]),some (61,[(Value.int .i64 0),(Value.string (⟨#[]⟩:ByteArray)),(Value.bool false),(Sl3.v Sl3.nil),(Value.int .i64 0),(Sl3.v Sl3.nil),(Value.int .i64 0),(Value.int .i64 0),(Value.string (⟨#[]⟩:ByteArray)),(Sl3.v Sl3.nil),(Sl3.v Sl3.nil),(Sl3.v Sl3.nil)]),some (61,[(Value.int .i64 0),(Value.string (⟨#[]⟩:ByteArray)),(Value.bool false),(Sl3.v Sl3.nil),(Value.int .i64 0),(Sl3.v Sl3.nil),(Value.int .i64 0),(Value.int .i64 0),(Value.string (⟨#[]⟩:ByteArray)),(Sl3.v Sl3.nil),(Sl3.v Sl3.nil),(Sl3.v Sl3.nil)])]) true ?_
   refine DA.two 1 4 (by kernel_rfl) ?_ ?_
   ·refine DA.aL 1 (some 9) (.val (Value.int .i64 a0_0)) ([some (61,[(Value.int .i64 a0_0),(Value.string a0_1),(Value.bool a0_2),(Sl3.v a0_3),(Value.int .i64 a0_4),(Sl3.v a0_5),(Value.int .i64 a0_6),(Value.int .i64 a0_7),(Value.string a0_8),(Sl3.v a0_9),(Sl3.v a0_10),(Sl3.v a0_11)]),some (61,[(Value.int .i64 0),(Value.string (⟨#[]⟩:ByteArray)),(Value.bool false),(Sl3.v Sl3.nil),(Value.int .i64 0),(Sl3.v Sl3.nil),(Value.int .i64 0),(Value.int .i64 0),(Value.string (⟨#[]⟩:ByteArray)),(Sl3.v Sl3.nil),(Sl3.v Sl3.nil),(Sl3.v Sl3.nil)]),some (61,[(Value.int .i64 0),(Value.string (⟨#[]⟩:ByteArray)),(Value.bool false),(Sl3.v Sl3.nil),(Value.int .i64 0),(Sl3.v Sl3.nil),(Value.int .i64 0),(Value.int .i64 0),(Value.string (⟨#[]⟩:ByteArray)),(Sl3.v Sl3.nil),(Sl3.v Sl3.nil),(Sl3.v Sl3.nil)])]) true (DA.on 4 (DA.aCj 4 (some 12) false (v:=(Sl3.v x1)) 55 #[(Sl3.v a0_11)] (z1j hx_4) (DA.on 5 (DA.aH (H':=H2) 5 (some 13) (Value.agg #[(Value.int .i64 a0_0),(Value.string (⟨#[]⟩:ByteArray)),(Value.bool false),(Sl3.v Sl3.nil),(Value.int .i64 0),(Sl3.v Sl3.nil),(Value.int .i64 0),(Value.int .i64 0),(Value.string (⟨#[]⟩:ByteArray)),(Sl3.v Sl3.nil),(Sl3.v Sl3.nil),(Sl3.v x1)]) (by kernel_rfl) (DA.on 7 (DA.aL 7 none (.val undef) ([some (61,[(Value.int .i64 a0_0),(Value.string a0_1),(Value.bool a0_2),(Sl3.v a0_3),(Value.int .i64 a0_4),(Sl3.v a0_5),(Value.int .i64 a0_6),(Value.int .i64 a0_7),(Value.string a0_8),(Sl3.v a0_9),(Sl3.v a0_10),(Sl3.v a0_11)]),some (61,[(Value.int .i64 0),(Value.string (⟨#[]⟩:ByteArray)),(Value.bool false),(Sl3.v Sl3.nil),(Value.int .i64 0),(Sl3.v Sl3.nil),(Value.int .i64 0),(Value.int .i64 0),(Value.string (⟨#[]⟩:ByteArray)),(Sl3.v Sl3.nil),(Sl3.v Sl3.nil),(Sl3.v Sl3.nil)]),some (61,[(Value.int .i64 a0_0),(Value.string (⟨#[]⟩:ByteArray)),(Value.bool false),(Sl3.v Sl3.nil),(Value.int .i64 0),(Sl3.v Sl3.nil),(Value.int .i64 0),(Value.int .i64 0),(Value.string (⟨#[]⟩:ByteArray)),(Sl3.v Sl3.nil),(Sl3.v Sl3.nil),(Sl3.v x1)])]) false (DA.dn ?_)))))))
    exact fun a w hs=>jsN (hs.sb 3)
   ·refine DA.aCj 4 (some 12) true (v:=(Sl3.v x1)) 55 #[(Sl3.v a0_11)] (z1j hx_4) (DA.on 1 (DA.aL 1 (some 9) (.val (Value.int .i64 a0_0)) ([some (61,[(Value.int .i64 a0_0),(Value.string a0_1),(Value.bool a0_2),(Sl3.v a0_3),(Value.int .i64 a0_4),(Sl3.v a0_5),(Value.int .i64 a0_6),(Value.int .i64 a0_7),(Value.string a0_8),(Sl3.v a0_9),(Sl3.v a0_10),(Sl3.v a0_11)]),some (61,[(Value.int .i64 0),(Value.string (⟨#[]⟩:ByteArray)),(Value.bool false),(Sl3.v Sl3.nil),(Value.int .i64 0),(Sl3.v Sl3.nil),(Value.int .i64 0),(Value.int .i64 0),(Value.string (⟨#[]⟩:ByteArray)),(Sl3.v Sl3.nil),(Sl3.v Sl3.nil),(Sl3.v Sl3.nil)]),some (61,[(Value.int .i64 0),(Value.string (⟨#[]⟩:ByteArray)),(Value.bool false),(Sl3.v Sl3.nil),(Value.int .i64 0),(Sl3.v Sl3.nil),(Value.int .i64 0),(Value.int .i64 0),(Value.string (⟨#[]⟩:ByteArray)),(Sl3.v Sl3.nil),(Sl3.v Sl3.nil),(Sl3.v Sl3.nil)])]) false (DA.on 5 (DA.aH (H':=H2) 5 (some 13) (Value.agg #[(Value.int .i64 a0_0),(Value.string (⟨#[]⟩:ByteArray)),(Value.bool false),(Sl3.v Sl3.nil),(Value.int .i64 0),(Sl3.v Sl3.nil),(Value.int .i64 0),(Value.int .i64 0),(Value.string (⟨#[]⟩:ByteArray)),(Sl3.v Sl3.nil),(Sl3.v Sl3.nil),(Sl3.v x1)]) (by kernel_rfl) (DA.on 7 (DA.aL 7 none (.val undef) ([some (61,[(Value.int .i64 a0_0),(Value.string a0_1),(Value.bool a0_2),(Sl3.v a0_3),(Value.int .i64 a0_4),(Sl3.v a0_5),(Value.int .i64 a0_6),(Value.int .i64 a0_7),(Value.string a0_8),(Sl3.v a0_9),(Sl3.v a0_10),(Sl3.v a0_11)]),some (61,[(Value.int .i64 0),(Value.string (⟨#[]⟩:ByteArray)),(Value.bool false),(Sl3.v Sl3.nil),(Value.int .i64 0),(Sl3.v Sl3.nil),(Value.int .i64 0),(Value.int .i64 0),(Value.string (⟨#[]⟩:ByteArray)),(Sl3.v Sl3.nil),(Sl3.v Sl3.nil),(Sl3.v Sl3.nil)]),some (61,[(Value.int .i64 a0_0),(Value.string (⟨#[]⟩:ByteArray)),(Value.bool false),(Sl3.v Sl3.nil),(Value.int .i64 0),(Sl3.v Sl3.nil),(Value.int .i64 0),(Value.int .i64 0),(Value.string (⟨#[]⟩:ByteArray)),(Sl3.v Sl3.nil),(Sl3.v Sl3.nil),(Sl3.v x1)])]) false (DA.dn ?_)))))))
    exact fun a w hs=>jsN (hs.sb 3)
 ·refine WS.nxt ?_
  obtain ⟨⟨H3,w2_4,w2_5,w2_6,w2_7,w2_8,w2_9,w2_10,w2_11,w2_12,w2_13,w2_14,w2_15⟩,hx,h⟩:=bind_some h
  try dsimp only at h
  refine WS.sq ?_
  refine WS.join ([kL 1 0 0,kL 2 1 0,kL 3 2 0]) ([some (61,[(Value.int .i64 a0_0),(Value.string a0_1),(Value.bool a0_2),(Sl3.v a0_3),(Value.int .i64 a0_4),(Sl3.v a0_5),(Value.int .i64 a0_6),(Value.int .i64 a0_7),(Value.string a0_8),(Sl3.v a0_9),(Sl3.v a0_10),(Sl3.v a0_11)]),some (61,[(Value.int .i64 0),(Value.string (⟨#[]⟩:ByteArray)),(Value.bool false),(Sl3.v Sl3.nil),(Value.int .i64 0),(Sl3.v Sl3.nil),(Value.int .i64 0),(Value.int .i64 0),(Value.string (⟨#[]⟩:ByteArray)),(Sl3.v Sl3.nil),(Sl3.v Sl3.nil),(Sl3.v Sl3.nil)]),some (61,[(Value.int .i64 w2_4),(Value.string w2_5),(Value.bool w2_6),(Sl3.v w2_7),(Value.int .i64 w2_8),(Sl3.v w2_9),(Value.int .i64 w2_10),(Value.int .i64 w2_11),(Value.string w2_12),(Sl3.v w2_13),(Sl3.v w2_14),(Sl3.v w2_15)])]) H3 ?_ (fun a w hs=>WS.nxt ?_ a w hs)
  ·clear h; rename _=>h
   refine WS.bk 0 (WS.sq (WS.rg (RS.mS 4 [kB 18 (decide (a0_0≥11)),kB 17 (decide (a0_0≥11)),kI 16 a0_0,kL 15 0 0] ?_)))
   rcases z0 h with ⟨hp,h⟩ | ⟨hp,h⟩
   ·refine RS.fx 18 true (decide_eq_true hp) (RS.mS 5 [kB 14 (decide (a0_0≤14)),kB 22 (decide (a0_0≤14)),kB 21 (decide (a0_0≤14)),kI 20 a0_0,kL 19 0 0] (RS.dn (WS.nxt ?_)))
    rcases z0 h with ⟨hp,h⟩ | ⟨hp,h⟩
    ·refine WS.fx 14 true (decide_eq_true hp) (WS.cT (WS.rg (RS.mL 4 [kL 25 2 1,kT 24 a0_1,kL 23 0 1] ([some (61,[(Value.int .i64 a0_0),(Value.string a0_1),(Value.bool a0_2),(Sl3.v a0_3),(Value.int .i64 a0_4),(Sl3.v a0_5),(Value.int .i64 a0_6),(Value.int .i64 a0_7),(Value.string a0_8),(Sl3.v a0_9),(Sl3.v a0_10),(Sl3.v a0_11)]),some (61,[(Value.int .i64 0),(Value.string (⟨#[]⟩:ByteArray)),(Value.bool false),(Sl3.v Sl3.nil),(Value.int .i64 0),(Sl3.v Sl3.nil),(Value.int .i64 0),(Value.int .i64 0),(Value.string (⟨#[]⟩:ByteArray)),(Sl3.v Sl3.nil),(Sl3.v Sl3.nil),(Sl3.v Sl3.nil)]),some (61,[(Value.int .i64 a0_0),(Value.string a0_1),(Value.bool false),(Sl3.v Sl3.nil),(Value.int .i64 0),(Sl3.v Sl3.nil),(Value.int .i64 0),(Value.int .i64 0),(Value.string (⟨#[]⟩:ByteArray)),(Sl3.v Sl3.nil),(Sl3.v Sl3.nil),(Sl3.v x1)])]) (RS.dn ?_))))
     cases h
     exact fun a w hs=>bkN ((jsN (hs.sb 3)))
    ·refine WS.fx 14 false (decide_eq_false hp) (WS.cF (WS.sq (WS.rg (RS.mS 4 [kB 26 (decide (a0_0=20)),kB 29 (decide (a0_0=20)),kI 28 a0_0,kL 27 0 0] (RS.dn (WS.nxt ?_))))))
     rcases z0 h with ⟨hp,h⟩ | ⟨hp,h⟩
     ·refine WS.fx 26 true (decide_eq_true hp) (WS.cT (WS.rg (RS.mS 2 [kA 31 #[(Value.bool a0_2),(Sl3.v a0_3)],kL 30 0 2] ?_)))
      obtain ⟨⟨x16_0,x16_1,H17⟩,hx,h⟩:=bind_some h
      try dsimp only at h
      refine RS.cl (some 32) (v:=(Value.agg #[(Value.bool x16_0),(Sl3.v x16_1)])) 56 #[(Value.agg #[(Value.bool a0_2),(Sl3.v a0_3)])] (z9y hx) (RS.mL 2 [kL 33 2 2] ([some (61,[(Value.int .i64 a0_0),(Value.string a0_1),(Value.bool a0_2),(Sl3.v a0_3),(Value.int .i64 a0_4),(Sl3.v a0_5),(Value.int .i64 a0_6),(Value.int .i64 a0_7),(Value.string a0_8),(Sl3.v a0_9),(Sl3.v a0_10),(Sl3.v a0_11)]),some (61,[(Value.int .i64 0),(Value.string (⟨#[]⟩:ByteArray)),(Value.bool false),(Sl3.v Sl3.nil),(Value.int .i64 0),(Sl3.v Sl3.nil),(Value.int .i64 0),(Value.int .i64 0),(Value.string (⟨#[]⟩:ByteArray)),(Sl3.v Sl3.nil),(Sl3.v Sl3.nil),(Sl3.v Sl3.nil)]),some (61,[(Value.int .i64 a0_0),(Value.string (⟨#[]⟩:ByteArray)),(Value.bool x16_0),(Sl3.v x16_1),(Value.int .i64 0),(Sl3.v Sl3.nil),(Value.int .i64 0),(Value.int .i64 0),(Value.string (⟨#[]⟩:ByteArray)),(Sl3.v Sl3.nil),(Sl3.v Sl3.nil),(Sl3.v x1)])]) (RS.dn ?_))
      cases h
      exact fun a w hs=>bkN ((jsN (hs.sb 3)))
     ·refine WS.fx 26 false (decide_eq_false hp) (WS.cF (WS.sq (WS.rg (RS.mS 4 [kB 34 (decide (a0_0=40)),kB 37 (decide (a0_0=40)),kI 36 a0_0,kL 35 0 0] (RS.dn (WS.nxt ?_))))))
      rcases z0 h with ⟨hp,h⟩ | ⟨hp,h⟩
      ·refine WS.fx 34 true (decide_eq_true hp) (WS.cT ?_)
       cases h
      ·refine WS.fx 34 false (decide_eq_false hp) (WS.cF (WS.sq (WS.rg (RS.mS 4 [kB 49 (decide (a0_0=34)),kB 52 (decide (a0_0=34)),kI 51 a0_0,kL 50 0 0] (RS.dn (WS.nxt ?_))))))
       rcases z0 h with ⟨hp,h⟩ | ⟨hp,h⟩
       ·refine WS.fx 49 true (decide_eq_true hp) (WS.cT ?_)
        cases h
       ·refine WS.fx 49 false (decide_eq_false hp) (WS.cF (WS.sk ?_))
        cases h
        exact fun a w hs=>bkN ((jsN (hs.sb 3)))
   ·refine RS.fx 18 false (decide_eq_false hp) ?_
    cases h
  ·clear hx
   refine WS.sq (WS.sq (WS.rg (RS.mS 2 [kI 59 a0_0,kL 58 0 0] ?_)))
   obtain ⟨⟨x18,x19,x20,x21⟩,hx,h⟩:=bind_some h
   try dsimp only at h
   refine RS.cl (some 60) (v:=(Value.tuple #[(Value.int .i64 x18),(Value.int .i64 x19),(Value.int .i64 x20),(Value.bool x21)])) 57 #[(Value.int .i64 a0_0)] (zhl hx) (RS.mS 9 [kB 7 x21,kI 6 x20,kI 5 x19,kI 4 x18,kB 64 x21,kI 63 x20,kI 62 x19,kI 61 x18,(57,.val (Value.tuple #[(Value.int .i64 x18),(Value.int .i64 x19),(Value.int .i64 x20),(Value.bool x21)]))] (RS.dn (WS.nxt (WS.sq (WS.rg (RS.mS 2 [kB 66 (decide (x20 > 0)),kI 65 x20] (RS.dn (WS.nxt ?_))))))))
   rcases z0 h with ⟨hp,h⟩ | ⟨hp,h⟩
   ·refine WS.fx 66 true (decide_eq_true hp) (WS.cT ?_)
    cases h
   ·refine WS.fx 66 false (decide_eq_false hp) (WS.cF (WS.sk (WS.nxt (WS.sq (WS.rg (RS.mL 2 [kA 71 #[(Value.int .i64 w2_4),(Value.string w2_5),(Value.bool w2_6),(Sl3.v w2_7),(Value.int .i64 w2_8),(Sl3.v w2_9),(Value.int .i64 w2_10),(Value.int .i64 w2_11),(Value.string w2_12),(Sl3.v w2_13),(Sl3.v w2_14),(Sl3.v w2_15)]] ([some (61,[(Value.int .i64 a0_0),(Value.string a0_1),(Value.bool a0_2),(Sl3.v a0_3),(Value.int .i64 a0_4),(Sl3.v a0_5),(Value.int .i64 a0_6),(Value.int .i64 a0_7),(Value.string a0_8),(Sl3.v a0_9),(Sl3.v a0_10),(Sl3.v a0_11)]),some (61,[(Value.int .i64 w2_4),(Value.string w2_5),(Value.bool w2_6),(Sl3.v w2_7),(Value.int .i64 w2_8),(Sl3.v w2_9),(Value.int .i64 w2_10),(Value.int .i64 w2_11),(Value.string w2_12),(Sl3.v w2_13),(Sl3.v w2_14),(Sl3.v w2_15)]),some (61,[(Value.int .i64 w2_4),(Value.string w2_5),(Value.bool w2_6),(Sl3.v w2_7),(Value.int .i64 w2_8),(Sl3.v w2_9),(Value.int .i64 w2_10),(Value.int .i64 w2_11),(Value.string w2_12),(Sl3.v w2_13),(Sl3.v w2_14),(Sl3.v w2_15)])]) (RS.dn (WS.nxt (WS.rt ?_)))))))))
    cases h
    exact fun a w hs=>rtR (rS hs)
def z7r:AH→Value
 | _=>(Value.tuple #[])
def z85 (_:AH):AH→AH:=fun r=>r
noncomputable def B110:Code:=(Tryz.f110.body).getD .skip
noncomputable def z16 (_L:LC) (m:Nat) (H:AH) (a0:Option Addr):Option AH :=
 Option.bind a0 fun q1 =>
 Option.bind (rd deP H (Addr.add q1 0)) fun x2 =>
 match x2 with
 | none =>
  Option.bind (gOp Tryz.prog m (opsOf (cfst (csnd B110))) 2 [(8,.val (Value.pointer (some q1)))] deP H) fun (x7,H8) =>
  Option.bind x7 fun q9 =>
  Option.bind (gOp Tryz.prog m (opsOf (cfst (csnd B110))) 4 [(10,.val (Value.pointer (some q9)))] deP H8) fun (x10,H11) =>
  Option.bind (H11.setCell m (Addr.add q1 0) (Value.pointer x10)) fun H12 =>
  some H12
 | some _ =>
  Option.bind (rd deP H (Addr.add q1 0)) fun x4 =>
  match x4 with
  | none =>
   none
  | some q5 =>
   Option.bind (gOp1 Tryz.prog (opsOf (cfst (csnd (csnd B110)))) 5 [(17,.val (Value.pointer (some q5))),(18,.val (Value.pointer (some q1)))] deB H) fun x6 =>
   if x6=true then
    none
   else
    some H
theorem z2s {L:LC} {m:Nat} {H:AH} {a0:Option Addr} {r:AH} (h:z16 L m H a0=some r) :
  CallS Tryz.prog (NE.plain 167) m 110 #[(Value.pointer a0)] H (z7r r) (z85 H r):=by
 refine CallS.mk (args:=[(Value.pointer a0)]) Tryz.func110 (B:=B110) (by kernel_rfl) (fun E _=>?_)
 unfold z16 at h
 refine WS.sq (WS.rg (RS.mS 1 [(2,.val (Value.pointer a0))] ?_))
 obtain ⟨q1,hx,hq1⟩:=bind_some h
 subst hx
 have h:=hq1
 refine RS.mS 2 [(4,.val (Value.pointer (some (Addr.add q1 0)))),kP 3 q1] ?_
 obtain ⟨x2,hx,h⟩:=bind_some h
 refine RS.ld 5 134 (.tmp 4) (z1 hx z6j) ?_
 rcases x2 with _ | q3
 ·try dsimp only at h
  refine RS.mS 1 [kB 6 true] (RS.dn (WS.nxt (WS.cT (WS.rg (RS.mS 2 [kP 8 q1,kP 7 q1] ?_)))))
  obtain ⟨⟨x7,H8⟩,hx,h⟩:=bind_some h
  try dsimp only at h
  refine RS.o (H':=H8) (some 9) (Value.pointer x7) (ze3 hx z6j (by kernel_rfl)) ?_
  obtain ⟨q9,hx,hq9⟩:=bind_some h
  subst hx
  have h:=hq9
  refine RS.esc (H':=H8) (some 10) (Value.pointer (some q9)) (by kernel_rfl) (by kernel_rfl) (by kernel_rfl) (by kernel_rfl) ?_
  obtain ⟨⟨x10,H11⟩,hx,h⟩:=bind_some h
  try dsimp only at h
  refine RS.o (H':=H11) (some 11) (Value.pointer x10) (ze3 hx z6j (by kernel_rfl)) (RS.mS 2 [(13,.val (Value.pointer (some (Addr.add q1 0)))),kP 12 q1] ?_)
  obtain ⟨H12,hx,h⟩:=bind_some h
  refine RS.o (H':=H12) none undef (Abs.run_store1 (t:=134) (x:=.tmp 13) (y:=.tmp 11) (a:=(Addr.add q1 0)) (v:=(Value.pointer x10)) (by kernel_rfl) (by kernel_rfl) (by kernel_rfl) (by kernel_rfl) (by kernel_rfl) hx) (RS.dn ?_)
  cases h
  exact fun a w hs=>rtN (rS hs)
 ·try dsimp only at h
  refine RS.mS 1 [kB 6 false] (RS.dn (WS.nxt (WS.cF (WS.sq (WS.rg (RS.mS 3 [(16,.val (Value.pointer (some (Addr.add q1 0)))),kP 15 q1,kP 14 q1] ?_))))))
  obtain ⟨x4,hx,h⟩:=bind_some h
  refine RS.ld 17 134 (.tmp 16) (z1 hx z6j) (RS.mS 1 [kP 18 q1] ?_)
  rcases x4 with _ | q5
  ·try dsimp only at h
   cases h
  ·try dsimp only at h
   obtain ⟨x6,hx,h⟩:=bind_some h
   refine RS.o (H':=H) (some 19) (Value.bool x6) (zjp hx z13 (by kernel_rfl) (by kernel_rfl)) (RS.dn (WS.nxt ?_))
   rcases z0 h with ⟨hp,h⟩ | ⟨hp,h⟩
   ·refine WS.fx 19 true hp (WS.cT ?_)
    cases h
   ·refine WS.fx 19 false (b_not hp) (WS.cF (WS.sk ?_))
    cases h
    exact fun a w hs=>rtN (rS hs)
def z6m:(Int×Value×AH)→Value
 | (r0,r1,_)=>(Value.tuple #[(Value.int .i64 r0),r1])
def z7c (_:AH):(Int×Value×AH)→AH:=fun r=>r.2.2
noncomputable def B59:Code:=(Tryz.f59.body).getD .skip
noncomputable def zu (L:LC) (m:Nat) (H:AH) (a0:Option Addr) (a1:ByteArray):Option (Int×Value×AH) :=
 Option.bind (z16 L m H a0) fun H1 =>
 Option.bind a0 fun q2 =>
 Option.bind (rd deSl H1 (Addr.add q2 1)) fun x3 =>
 Option.bind (gOp Tryz.prog m (opsOf (cfst (csnd (csnd B59)))) 6 [(12,.val (Sl3.v x3)),(13,.val (Value.string a1))] deSl H1) fun (x4,H5) =>
 Option.bind (H5.setCell m (Addr.add q2 1) (Sl3.v x4)) fun H6 =>
 some ((a1.size:Int),Value.nilIface,H6)
theorem z19 {L:LC} {m:Nat} {H:AH} {a0:Option Addr} {a1:ByteArray} {r:(Int×Value×AH)} (h:zu L m H a0 a1=some r) :
  CallS Tryz.prog (NE.plain 167) m 59 #[(Value.pointer a0),(Value.string a1)] H (z6m r) (z7c H r):=by
 refine CallS.mk (args:=[(Value.pointer a0),(Value.string a1)]) Tryz.func59 (B:=B59) (by kernel_rfl) (fun E _=>?_)
 unfold zu at h
 refine WS.sq (WS.rg (RS.mS 2 [(5,.val Value.nilIface),kI 4 0] (RS.dn (WS.nxt (WS.sq (WS.rg (RS.mS 1 [(6,.val (Value.pointer a0))] ?_)))))))
 obtain ⟨H1,hx,h⟩:=bind_some h
 refine RS.cl (some 7) (v:=(Value.tuple #[])) 110 #[(Value.pointer a0)] (z2s hx) (RS.dn (WS.nxt (WS.sq (WS.rg (RS.mS 2 [(9,.val (Value.pointer a0)),(8,.val (Value.pointer a0))] ?_)))))
 obtain ⟨q2,hx,hq2⟩:=bind_some h
 subst hx
 have h:=hq2
 refine RS.mS 2 [(11,.val (Value.pointer (some (Addr.add q2 1)))),kP 10 q2] ?_
 obtain ⟨x3,hx,h⟩:=bind_some h
 refine RS.ld 12 135 (.tmp 11) (z1 hx z3) (RS.mS 1 [kT 13 a1] ?_)
 obtain ⟨⟨x4,H5⟩,hx,h⟩:=bind_some h
 try dsimp only at h
 refine RS.o (H':=H5) (some 14) (Sl3.v x4) (ze3 hx z3 (by kernel_rfl)) (RS.mS 2 [(16,.val (Value.pointer (some (Addr.add q2 1)))),kP 15 q2] ?_)
 obtain ⟨H6,hx,h⟩:=bind_some h
 refine RS.o (H':=H6) none undef (Abs.run_store1 (t:=135) (x:=.tmp 16) (y:=.tmp 14) (a:=(Addr.add q2 1)) (v:=(Sl3.v x4)) (by kernel_rfl) (by kernel_rfl) (by kernel_rfl) (by kernel_rfl) (by kernel_rfl) hx) (RS.dn (WS.nxt (WS.sq (WS.rg (RS.mS 4 [(5,.val Value.nilIface),kI 4 (a1.size:Int),kI 18 (a1.size:Int),kT 17 a1] (RS.dn (WS.nxt (WS.rt ?_))))))))
 cases h
 exact fun a w hs=>rtR (rS hs)
def zio:ByteArray→Value
 | r0=>(Value.string r0)
def zkf (H:AH):ByteArray→AH:=fun _=>H
noncomputable def B169:Code:=(Tryz.f169.body).getD .skip
noncomputable def z9q (_L:LC) (a0:Int):Option ByteArray :=
 if a0<10 then
  Option.bind (strC (⟨#[48,49,50,51,52,53,54,55,56,57,97,98,99,100,101,102,103,104,105,106,107,108,109,110,111,112,113,114,115,116,117,118,119,120,121,122]⟩:ByteArray) (some a0) (some (IntKind.i64.wrap (a0+1)))) fun s1 =>
  some s1
 else
  Option.bind (strC (⟨#[48,48,48,49,48,50,48,51,48,52,48,53,48,54,48,55,48,56,48,57,49,48,49,49,49,50,49,51,49,52,49,53,49,54,49,55,49,56,49,57,50,48,50,49,50,50,50,51,50,52,50,53,50,54,50,55,50,56,50,57,51,48,51,49,51,50,51,51,51,52,51,53,51,54,51,55,51,56,51,57,52,48,52,49,52,50,52,51,52,52,52,53,52,54,52,55,52,56,52,57,53,48,53,49,53,50,53,51,53,52,53,53,53,54,53,55,53,56,53,57,54,48,54,49,54,50,54,51,54,52,54,53,54,54,54,55,54,56,54,57,55,48,55,49,55,50,55,51,55,52,55,53,55,54,55,55,55,56,55,57,56,48,56,49,56,50,56,51,56,52,56,53,56,54,56,55,56,56,56,57,57,48,57,49,57,50,57,51,57,52,57,53,57,54,57,55,57,56,57,57]⟩:ByteArray) (some (IntKind.i64.wrap (a0*2))) (some (IntKind.i64.wrap ((IntKind.i64.wrap (a0*2))+2)))) fun s2 =>
  some s2
theorem zjk {L:LC} {m:Nat} {H:AH} {a0:Int} {r:ByteArray} (h:z9q L a0=some r) :
  CallS Tryz.prog (NE.plain 167) m 169 #[(Value.int .i64 a0)] H (zio r) (zkf H r):=by
 refine CallS.mk (args:=[(Value.int .i64 a0)]) Tryz.func169 (B:=B169) (by kernel_rfl) (fun E _=>?_)
 unfold z9q at h
 refine WS.sq (WS.rg (RS.mS 1 [kT 2 (⟨#[]⟩:ByteArray)] (RS.dn (WS.nxt (WS.sq (WS.sq (WS.rg (RS.mS 2 [kB 4 (decide (a0<10)),kI 3 a0] (RS.dn ?_)))))))))
 refine WS.nxt ?_
 rcases z0 h with ⟨hp,h⟩ | ⟨hp,h⟩
 ·refine WS.fx 4 true (decide_eq_true hp) (WS.cT (WS.sq (WS.rg (RS.mS 3 [kI 7 (IntKind.i64.wrap (a0+1)),kI 6 a0,kI 5 a0] ?_))))
  obtain ⟨s1,hx,h⟩:=bind_some h
  refine RS.o (H':=H) (some 8) (Value.string s1) (Abs.run_strC (t:=9) (x:=.const (Value.string (⟨#[48,49,50,51,52,53,54,55,56,57,97,98,99,100,101,102,103,104,105,106,107,108,109,110,111,112,113,114,115,116,117,118,119,120,121,122]⟩:ByteArray))) (lo:=(some (.tmp 5))) (hi:=(some (.tmp 7))) (s:=(⟨#[48,49,50,51,52,53,54,55,56,57,97,98,99,100,101,102,103,104,105,106,107,108,109,110,111,112,113,114,115,116,117,118,119,120,121,122]⟩:ByteArray)) (k1:=.i64) (k2:=.i64) (by kernel_rfl) (by kernel_rfl) (by kernel_rfl) (by kernel_rfl) (by kernel_rfl) hx) (RS.mS 1 [kT 2 s1] (RS.dn (WS.nxt (WS.rt ?_))))
  cases h
  exact fun a w hs=>sqR (rtR (rS hs))
 ·refine WS.fx 4 false (decide_eq_false hp) (WS.cF (WS.sk (WS.nxt (WS.sq (WS.rg (RS.mS 5 [kI 13 (IntKind.i64.wrap ((IntKind.i64.wrap (a0*2))+2)),kI 12 (IntKind.i64.wrap (a0*2)),kI 11 a0,kI 10 (IntKind.i64.wrap (a0*2)),kI 9 a0] ?_))))))
  obtain ⟨s2,hx,h⟩:=bind_some h
  refine RS.o (H':=H) (some 14) (Value.string s2) (Abs.run_strC (t:=9) (x:=.const (Value.string (⟨#[48,48,48,49,48,50,48,51,48,52,48,53,48,54,48,55,48,56,48,57,49,48,49,49,49,50,49,51,49,52,49,53,49,54,49,55,49,56,49,57,50,48,50,49,50,50,50,51,50,52,50,53,50,54,50,55,50,56,50,57,51,48,51,49,51,50,51,51,51,52,51,53,51,54,51,55,51,56,51,57,52,48,52,49,52,50,52,51,52,52,52,53,52,54,52,55,52,56,52,57,53,48,53,49,53,50,53,51,53,52,53,53,53,54,53,55,53,56,53,57,54,48,54,49,54,50,54,51,54,52,54,53,54,54,54,55,54,56,54,57,55,48,55,49,55,50,55,51,55,52,55,53,55,54,55,55,55,56,55,57,56,48,56,49,56,50,56,51,56,52,56,53,56,54,56,55,56,56,56,57,57,48,57,49,57,50,57,51,57,52,57,53,57,54,57,55,57,56,57,57]⟩:ByteArray))) (lo:=(some (.tmp 10))) (hi:=(some (.tmp 13))) (s:=(⟨#[48,48,48,49,48,50,48,51,48,52,48,53,48,54,48,55,48,56,48,57,49,48,49,49,49,50,49,51,49,52,49,53,49,54,49,55,49,56,49,57,50,48,50,49,50,50,50,51,50,52,50,53,50,54,50,55,50,56,50,57,51,48,51,49,51,50,51,51,51,52,51,53,51,54,51,55,51,56,51,57,52,48,52,49,52,50,52,51,52,52,52,53,52,54,52,55,52,56,52,57,53,48,53,49,53,50,53,51,53,52,53,53,53,54,53,55,53,56,53,57,54,48,54,49,54,50,54,51,54,52,54,53,54,54,54,55,54,56,54,57,55,48,55,49,55,50,55,51,55,52,55,53,55,54,55,55,55,56,55,57,56,48,56,49,56,50,56,51,56,52,56,53,56,54,56,55,56,56,56,57,57,48,57,49,57,50,57,51,57,52,57,53,57,54,57,55,57,56,57,57]⟩:ByteArray)) (k1:=.i64) (k2:=.i64) (by kernel_rfl) (by kernel_rfl) (by kernel_rfl) (by kernel_rfl) (by kernel_rfl) hx) (RS.mS 1 [kT 2 s2] (RS.dn (WS.nxt (WS.rt ?_))))
  cases h
  exact fun a w hs=>rtR (rS hs)
def zdv:(ByteArray×AH)→Value
 | (r0,_)=>(Value.string r0)
def zfc (_:AH):(ByteArray×AH)→AH:=fun r=>r.2
noncomputable def B168:Code:=(Tryz.f168.body).getD .skip
noncomputable def z5a (L:LC) (_m:Nat) (H:AH) (a0 a1:Int):Option (ByteArray×AH) :=
 if a1=10 then
  if 0≤a0 then
   if a0<100 then
    Option.bind (z9q L a0) fun x1 =>
    some (x1,H)
   else
    none
  else
   none
 else
  none
theorem zf1 {L:LC} {m:Nat} {H:AH} {a0 a1:Int} {r:(ByteArray×AH)} (h:z5a L m H a0 a1=some r) :
  CallS Tryz.prog (NE.plain 167) m 168 #[(Value.int .i64 a0),(Value.int .i64 a1)] H (zdv r) (zfc H r):=by
 refine CallS.mk (args:=[(Value.int .i64 a0),(Value.int .i64 a1)]) Tryz.func168 (B:=B168) (by kernel_rfl) (fun E _=>?_)
 unfold z5a at h
 refine WS.sq (WS.rg (RS.mS 1 [kT 4 (⟨#[]⟩:ByteArray)] (RS.dn (WS.nxt (WS.sq (WS.sq (WS.rg (RS.mS 2 [kB 11 (decide (a1=10)),kI 10 a1] (RS.dn ?_)))))))))
 refine WS.nxt ?_
 rcases z0 h with ⟨hp,h⟩ | ⟨hp,h⟩
 ·refine WS.fx 11 true (decide_eq_true hp) (WS.cT (WS.sq (WS.sq (WS.rg (RS.mS 3 [kB 14 (decide (0≤a0)),kB 13 (decide (0≤a0)),kI 12 a0] ?_)))))
  rcases z0 h with ⟨hp,h⟩ | ⟨hp,h⟩
  ·refine RS.fx 14 true (decide_eq_true hp) (RS.mS 3 [kB 17 (decide (a0<100)),kB 16 (decide (a0<100)),kI 15 a0] (RS.dn (WS.nxt ?_)))
   rcases z0 h with ⟨hp,h⟩ | ⟨hp,h⟩
   ·refine WS.fx 17 true (decide_eq_true hp) (WS.cT (WS.sq (WS.rg (RS.mS 1 [kI 18 a0] ?_))))
    obtain ⟨x1,hx,h⟩:=bind_some h
    refine RS.cl (some 19) (v:=(Value.string x1)) 169 #[(Value.int .i64 a0)] (zjk hx) (RS.mS 1 [kT 4 x1] (RS.dn (WS.nxt (WS.rt ?_))))
    cases h
    exact fun a w hs=>sqR (sqR (rtR (rS hs)))
   ·refine WS.fx 17 false (decide_eq_false hp) (WS.cF ?_)
    cases h
  ·refine RS.fx 14 false (decide_eq_false hp) ?_
   cases h
 ·refine WS.fx 11 false (decide_eq_false hp) (WS.cF ?_)
  cases h
def zfq:(ByteArray×AH)→Value
 | (r0,_)=>(Value.string r0)
def zgp (_:AH):(ByteArray×AH)→AH:=fun r=>r.2
noncomputable def B111:Code:=(Tryz.f111.body).getD .skip
noncomputable def z5u (L:LC) (m:Nat) (H:AH) (a0:Int):Option (ByteArray×AH) :=
 Option.bind (z5a L m H a0 10) fun (x1,H2) =>
 some (x1,H2)
theorem zgq {L:LC} {m:Nat} {H:AH} {a0:Int} {r:(ByteArray×AH)} (h:z5u L m H a0=some r) :
  CallS Tryz.prog (NE.plain 167) m 111 #[(Value.int .i64 a0)] H (zfq r) (zgp H r):=by
 refine CallS.mk (args:=[(Value.int .i64 a0)]) Tryz.func111 (B:=B111) (by kernel_rfl) (fun E _=>?_)
 unfold z5u at h
 refine WS.sq (WS.rg (RS.mS 1 [kT 2 (⟨#[]⟩:ByteArray)] (RS.dn (WS.nxt (WS.sq (WS.rg (RS.mS 1 [kI 3 a0] ?_)))))))
 obtain ⟨⟨x1,H2⟩,hx,h⟩:=bind_some h
 try dsimp only at h
 refine RS.cl (some 4) (v:=(Value.string x1)) 168 #[(Value.int .i64 a0),(Value.int .i64 10)] (zf1 hx) (RS.mS 1 [kT 2 x1] (RS.dn (WS.nxt (WS.rt ?_))))
 cases h
 exact fun a w hs=>rtR (rS hs)
def zjs:(ByteArray×AH)→Value
 | (r0,_)=>(Value.string r0)
def zkq (_:AH):(ByteArray×AH)→AH:=fun r=>r.2
noncomputable def B60:Code:=(Tryz.f60.body).getD .skip
noncomputable def zc2 (L:LC) (m:Nat) (H:AH) (a0:Int):Option (ByteArray×AH) :=
 Option.bind (z5u L m H a0) fun (x1,H2) =>
 some (x1,H2)
theorem zkt {L:LC} {m:Nat} {H:AH} {a0:Int} {r:(ByteArray×AH)} (h:zc2 L m H a0=some r) :
  CallS Tryz.prog (NE.plain 167) m 60 #[(Value.int .i64 a0)] H (zjs r) (zkq H r):=by
 refine CallS.mk (args:=[(Value.int .i64 a0)]) Tryz.func60 (B:=B60) (by kernel_rfl) (fun E _=>?_)
 unfold zc2 at h
 refine WS.sq (WS.rg (RS.mS 1 [kT 2 (⟨#[]⟩:ByteArray)] (RS.dn (WS.nxt (WS.sq (WS.rg (RS.mS 1 [kI 3 a0] ?_)))))))
 obtain ⟨⟨x1,H2⟩,hx,h⟩:=bind_some h
 try dsimp only at h
 refine RS.cl (some 4) (v:=(Value.string x1)) 111 #[(Value.int .i64 a0)] (zgq hx) (RS.mS 1 [kT 2 x1] (RS.dn (WS.nxt (WS.rt ?_))))
 cases h
 exact fun a w hs=>rtR (rS hs)
def z7q:(Value×AH)→Value
 | (r0,_)=>r0
def z8b (_:AH):(Value×AH)→AH:=fun r=>r.2
noncomputable def B61:Code:=(Tryz.f61.body).getD .skip
noncomputable def z1t (L:LC) (m:Nat) (H:AH) (a0:Option Addr) (a1:Int):Option (Value×AH) :=
 Option.bind (z16 L m H a0) fun H1 =>
 Option.bind a0 fun q2 =>
 Option.bind (rd deSl H1 (Addr.add q2 1)) fun x3 =>
 Option.bind (newR 5 1 #[(Value.int .u8 a1)] H1) fun (s4,H5) =>
 Option.bind (appS m 5 1 1 H5 x3 s4) fun (s6,H7) =>
 Option.bind (H7.setCell m (Addr.add q2 1) (Sl3.v s6)) fun H8 =>
 some (Value.nilIface,H8)
theorem z80 {L:LC} {m:Nat} {H:AH} {a0:Option Addr} {a1:Int} {r:(Value×AH)} (h:z1t L m H a0 a1=some r) :
  CallS Tryz.prog (NE.plain 167) m 61 #[(Value.pointer a0),(Value.int .u8 a1)] H (z7q r) (z8b H r):=by
 refine CallS.mk (args:=[(Value.pointer a0),(Value.int .u8 a1)]) Tryz.func61 (B:=B61) (by kernel_rfl) (fun E _=>?_)
 unfold z1t at h
 refine WS.sq (WS.rg (RS.mS 1 [(4,.val Value.nilIface)] (RS.dn (WS.nxt (WS.sq (WS.rg (RS.mS 1 [(5,.val (Value.pointer a0))] ?_)))))))
 obtain ⟨H1,hx,h⟩:=bind_some h
 refine RS.cl (some 6) (v:=(Value.tuple #[])) 110 #[(Value.pointer a0)] (z2s hx) (RS.dn (WS.nxt (WS.sq (WS.rg (RS.mS 2 [(8,.val (Value.pointer a0)),(7,.val (Value.pointer a0))] ?_)))))
 obtain ⟨q2,hx,hq2⟩:=bind_some h
 subst hx
 have h:=hq2
 refine RS.mS 2 [(10,.val (Value.pointer (some (Addr.add q2 1)))),kP 9 q2] ?_
 obtain ⟨x3,hx,h⟩:=bind_some h
 refine RS.ld 11 135 (.tmp 10) (z1 hx z3) (RS.mS 1 [(12,.val (Value.int .u8 a1))] ?_)
 obtain ⟨⟨s4,H5⟩,hx,h⟩:=bind_some h
 try dsimp only at h
 refine RS.o (H':=H5) (some 13) (Sl3.v s4) (Abs.run_newR (by kernel_rfl) (by kernel_rfl) hx) ?_
 obtain ⟨⟨s6,H7⟩,hx,h⟩:=bind_some h
 try dsimp only at h
 refine RS.o (H':=H7) (some 14) (Sl3.v s6) (Abs.run_app (x:=.tmp 11) (y:=.tmp 13) (ts:=#[135,135]) (s:=x3) (z:=s4) (by kernel_rfl) (by kernel_rfl) (by kernel_rfl) (by kernel_rfl) hx) (RS.mS 2 [(16,.val (Value.pointer (some (Addr.add q2 1)))),kP 15 q2] ?_)
 obtain ⟨H8,hx,h⟩:=bind_some h
 refine RS.o (H':=H8) none undef (Abs.run_store1 (t:=135) (x:=.tmp 16) (y:=.tmp 14) (a:=(Addr.add q2 1)) (v:=(Sl3.v s6)) (by kernel_rfl) (by kernel_rfl) (by kernel_rfl) (by kernel_rfl) (by kernel_rfl) hx) (RS.dn (WS.nxt (WS.sq (WS.rg (RS.mS 1 [(4,.val Value.nilIface)] (RS.dn (WS.nxt (WS.rt ?_))))))))
 cases h
 exact fun a w hs=>rtR (rS hs)
end Go.Proofs.YtdlnojjpbmibdaaGreatDoor
namespace Go.Proofs.YtdlnojjpbmibdaaGreatDoor
open Go Go.Abs
set_option maxRecDepth 100000
def zln:AH→Value
 | _=>(Value.tuple #[])
def zmw (_:AH):AH→AH:=fun r=>r
noncomputable def B58:Code:=(Tryz.f58.body).getD .skip
noncomputable def zaj (L:LC) (m:Nat) (H:AH) (a0:Int) (a1:Option Addr):Option AH :=
 Option.bind (zc2 L m H a0) fun (x1,H2) =>
 Option.bind (zu L m H2 a1 x1) fun (_,_,H5) =>
 Option.bind (z1t L m H5 a1 32) fun (_,H7) =>
 some H7
theorem zgb {L:LC} {m:Nat} {H:AH} {a0:Int} {a1:Option Addr} {r:AH} (h:zaj L m H a0 a1=some r) :
  CallS Tryz.prog (NE.plain 167) m 58 #[(Value.int .i64 a0),(Value.pointer a1)] H (zln r) (zmw H r):=by
 refine CallS.mk (args:=[(Value.int .i64 a0),(Value.pointer a1)]) Tryz.func58 (B:=B58) (by kernel_rfl) (fun E _=>?_)
 unfold zaj at h
 refine WS.sq (WS.rg (RS.mS 1 [kI 3 a0] ?_))
 obtain ⟨⟨x1,H2⟩,hx,h⟩:=bind_some h
 try dsimp only at h
 refine RS.cl (some 4) (v:=(Value.string x1)) 60 #[(Value.int .i64 a0)] (zkt hx) ?_
 obtain ⟨⟨x3,x4,H5⟩,hx,h⟩:=bind_some h
 try dsimp only at h
 refine RS.cl (some 5) (v:=(Value.tuple #[(Value.int .i64 x3),x4])) 59 #[(Value.pointer a1),(Value.string x1)] (z19 hx) (RS.dn (WS.nxt (WS.rg ?_)))
 obtain ⟨⟨x6,H7⟩,hx,h⟩:=bind_some h
 try dsimp only at h
 refine RS.cl (some 6) (v:=x6) 61 #[(Value.pointer a1),(Value.int .u8 32)] (z80 hx) (RS.dn ?_)
 cases h
 exact fun a w hs=>rtN (rS hs)
def zbi:Bool→Value
 | r0=>(Value.bool r0)
def zc8 (H:AH):Bool→AH:=fun _=>H
noncomputable def B218:Code:=(Tryz.f218.body).getD .skip
noncomputable def z36 (_L:LC) (a0:Int):Option Bool :=
 some (decide ((iand .i64 a0 (IntKind.i64.wrap (a0 - 1)))=0))
theorem zca {L:LC} {m:Nat} {H:AH} {a0:Int} {r:Bool} (h:z36 L a0=some r) :
  CallS Tryz.prog (NE.plain 167) m 218 #[(Value.int .i64 a0)] H (zbi r) (zc8 H r):=by
 refine CallS.mk (args:=[(Value.int .i64 a0)]) Tryz.func218 (B:=B218) (by kernel_rfl) (fun E _=>?_)
 unfold z36 at h
 refine WS.sq (WS.rg (RS.mS 1 [kB 2 false] (RS.dn (WS.nxt (WS.sq (WS.rg (RS.mS 6 [kB 2 (decide ((iand .i64 a0 (IntKind.i64.wrap (a0 - 1)))=0)),kB 7 (decide ((iand .i64 a0 (IntKind.i64.wrap (a0 - 1)))=0)),kI 6 (iand .i64 a0 (IntKind.i64.wrap (a0 - 1))),kI 5 (IntKind.i64.wrap (a0 - 1)),kI 4 a0,kI 3 a0] (RS.dn (WS.nxt ?_)))))))))
 refine WS.rt ?_
 cases h
 exact fun a w hs=>rtR (rS hs)
def zba:Int→Value
 | r0=>(Value.int .i64 r0)
def zc6 (H:AH):Int→AH:=fun _=>H
noncomputable def B283:Code:=(Tryz.f283.body).getD .skip
noncomputable def z35 (_L:LC) (H:AH) (a0:Int):Option Int :=
 if a0=0 then
  none
 else
  Option.bind (idxR 1 64 (⟨5,0,none⟩:Addr) (ishr .u64 (IntKind.u64.wrap ((iand .u64 a0 (IntKind.u64.wrap (0 - a0)))*285870213051353865)) 58)) fun p1 =>
  Option.bind (rd (deI .u8) H p1) fun x2 =>
  some (IntKind.i64.wrap x2)
theorem zc3 {L:LC} {m:Nat} {H:AH} {a0 r:Int} (h:z35 L H a0=some r) :
  CallS Tryz.prog (NE.plain 167) m 283 #[(Value.int .u64 a0)] H (zba r) (zc6 H r):=by
 refine CallS.mk (args:=[(Value.int .u64 a0)]) Tryz.func283 (B:=B283) (by kernel_rfl) (fun E _=>?_)
 unfold z35 at h
 refine WS.sq (WS.rg (RS.mS 1 [kI 2 0] (RS.dn (WS.nxt (WS.sq (WS.sq (WS.rg (RS.mS 2 [kB 4 (decide (a0=0)),(3,.val (Value.int .u64 a0))] (RS.dn ?_)))))))))
 refine WS.nxt ?_
 rcases z0 h with ⟨hp,h⟩ | ⟨hp,h⟩
 ·refine WS.fx 4 true (decide_eq_true hp) (WS.cT ?_)
  cases h
 ·refine WS.fx 4 false (decide_eq_false hp) (WS.cF (WS.sk (WS.nxt (WS.sq (WS.rg (RS.mS 6 [(10,.val (Value.int .u64 (ishr .u64 (IntKind.u64.wrap ((iand .u64 a0 (IntKind.u64.wrap (0 - a0)))*285870213051353865)) 58))),(9,.val (Value.int .u64 (IntKind.u64.wrap ((iand .u64 a0 (IntKind.u64.wrap (0 - a0)))*285870213051353865)))),(8,.val (Value.int .u64 (iand .u64 a0 (IntKind.u64.wrap (0 - a0))))),(7,.val (Value.int .u64 (IntKind.u64.wrap (0 - a0)))),(6,.val (Value.int .u64 a0)),(5,.val (Value.int .u64 a0))] ?_))))))
  obtain ⟨p1,hx,h⟩:=bind_some h
  refine RS.o (H':=H) (some 11) (Value.pointer (some p1)) (Abs.run_idxR (a:=(⟨5,0,none⟩:Addr)) (k:=.u64) (t:=367) (e:=5) (x:=.global 5) (y:=.tmp 10) (by kernel_rfl) (by kernel_rfl) (by kernel_rfl) (by kernel_rfl) (by kernel_rfl) hx) ?_
  obtain ⟨x2,hx,h⟩:=bind_some h
  refine RS.ld 12 5 (.tmp 11) (z1 hx z5) (RS.mS 2 [kI 2 (IntKind.i64.wrap x2),kI 13 (IntKind.i64.wrap x2)] (RS.dn (WS.nxt (WS.rt ?_))))
  cases h
  exact fun a w hs=>rtR (rS hs)
def zd2:Int→Value
 | r0=>(Value.int .i64 r0)
def zef (H:AH):Int→AH:=fun _=>H
noncomputable def B219:Code:=(Tryz.f219.body).getD .skip
noncomputable def z4e (L:LC) (H:AH) (a0:Int):Option Int :=
 Option.bind (z35 L H a0) fun x1 =>
 some x1
theorem zej {L:LC} {m:Nat} {H:AH} {a0 r:Int} (h:z4e L H a0=some r) :
  CallS Tryz.prog (NE.plain 167) m 219 #[(Value.int .u64 a0)] H (zd2 r) (zef H r):=by
 refine CallS.mk (args:=[(Value.int .u64 a0)]) Tryz.func219 (B:=B219) (by kernel_rfl) (fun E _=>?_)
 unfold z4e at h
 refine WS.sq (WS.rg (RS.mS 1 [kI 2 0] (RS.dn (WS.nxt (WS.sq (WS.cF (WS.sk (WS.nxt (WS.sq ?_)))))))))
 refine WS.rg (RS.mS 1 [(6,.val (Value.int .u64 a0))] ?_)
 obtain ⟨x1,hx,h⟩:=bind_some h
 refine RS.cl (some 7) (v:=(Value.int .i64 x1)) 283 #[(Value.int .u64 a0)] (zc3 hx) (RS.mS 1 [kI 2 x1] (RS.dn (WS.nxt (WS.rt ?_))))
 cases h
 exact fun a w hs=>rtR (rS hs)
def z5n:(Sl3×ByteArray×AH)→Value
 | (r0,r1,_)=>(Value.tuple #[(Sl3.v r0),(Value.string r1)])
def z6g (_:AH):(Sl3×ByteArray×AH)→AH:=fun r=>r.2.2
noncomputable def B172:Code:=(Tryz.f172.body).getD .skip
noncomputable def z2u (_L:LC) (_a0:Sl3) (a2:Int) (_a3 _a4:Bool) (_p1:Addr) (_x4:Int):(AH×Int×Int)→Option (Lp (AH×Int×Int) (Sl3×ByteArray×AH)):=fun (H5,v1_6,v13_7) =>
 if v1_6≥(IntKind.u64.wrap a2) then
  none
 else
  some (.brk (H5,v1_6,v13_7))
def zb2 (_L:LC) (a0:Sl3) (a2:Int) (a3 a4:Bool) (p1:Addr) (x4:Int):(AH×Int×Int)→KN×Lcs:=fun (_,v1_6,v13_7)=>([(1,.val (Value.int .u64 v1_6)),kI 13 v13_7,kS 0 a0,kB 3 a3,kB 4 a4,kS 10 Sl3.nil,kT 11 (⟨#[]⟩:ByteArray),kP 12 p1,(14,.val (Value.int .u64 (IntKind.u64.wrap x4))),(15,.val (Value.int .u64 (IntKind.u64.wrap a2))),(16,.val (Value.int .u64 (IntKind.u64.wrap ((IntKind.u64.wrap a2) - 1))))],[])
noncomputable def z4h (L:LC) (m:Nat) (H:AH) (a0:Sl3) (a1 a2:Int) (a3 a4:Bool):Option (Sl3×ByteArray×AH) :=
 if a2<2 then
  none
 else
  if a2=10 then
   none
  else
   if a2 > 36 then
    none
   else
    Option.bind (newB 308 [(Value.int .u8 0),(Value.int .u8 0),(Value.int .u8 0),(Value.int .u8 0),(Value.int .u8 0),(Value.int .u8 0),(Value.int .u8 0),(Value.int .u8 0),(Value.int .u8 0),(Value.int .u8 0),(Value.int .u8 0),(Value.int .u8 0),(Value.int .u8 0),(Value.int .u8 0),(Value.int .u8 0),(Value.int .u8 0),(Value.int .u8 0),(Value.int .u8 0),(Value.int .u8 0),(Value.int .u8 0),(Value.int .u8 0),(Value.int .u8 0),(Value.int .u8 0),(Value.int .u8 0),(Value.int .u8 0),(Value.int .u8 0),(Value.int .u8 0),(Value.int .u8 0),(Value.int .u8 0),(Value.int .u8 0),(Value.int .u8 0),(Value.int .u8 0),(Value.int .u8 0),(Value.int .u8 0),(Value.int .u8 0),(Value.int .u8 0),(Value.int .u8 0),(Value.int .u8 0),(Value.int .u8 0),(Value.int .u8 0),(Value.int .u8 0),(Value.int .u8 0),(Value.int .u8 0),(Value.int .u8 0),(Value.int .u8 0),(Value.int .u8 0),(Value.int .u8 0),(Value.int .u8 0),(Value.int .u8 0),(Value.int .u8 0),(Value.int .u8 0),(Value.int .u8 0),(Value.int .u8 0),(Value.int .u8 0),(Value.int .u8 0),(Value.int .u8 0),(Value.int .u8 0),(Value.int .u8 0),(Value.int .u8 0),(Value.int .u8 0),(Value.int .u8 0),(Value.int .u8 0),(Value.int .u8 0),(Value.int .u8 0),(Value.int .u8 0)] H) fun (p1,H2) =>
    if a3=true then
     none
    else
     Option.bind (z36 L a2) fun x3 =>
     if x3=true then
      Option.bind (z4e L H2 (IntKind.u64.wrap a2)) fun x4 =>
      Option.bind (L.run (z2u L a0 a2 a3 a4 p1 x4) (H2,a1,65)) fun o=>match o with
      | .inl (H8,v1_9,v13_10) =>
       Option.bind (bytA (⟨#[48,49,50,51,52,53,54,55,56,57,97,98,99,100,101,102,103,104,105,106,107,108,109,110,111,112,113,114,115,116,117,118,119,120,121,122]⟩:ByteArray) v1_9) fun x11 =>
       Option.bind (idxR 1 65 p1 (IntKind.i64.wrap (v13_10 - 1))) fun p12 =>
       Option.bind (H8.setCell m p12 (Value.int .u8 x11)) fun H13 =>
       if a3=true then
        none
       else
        if a4=true then
         none
        else
         Option.bind (slcR 1 65 p1 (some (IntKind.i64.wrap (v13_10 - 1))) none) fun s14 =>
         Option.bind (bts H13 s14) fun s15 =>
         some (Sl3.nil,s15,H13)
      | .inr r=>some r
     else
      none
theorem z4g {E m H L a0 a2 a3 a4 p1 x4} :LoopF Tryz.prog (NE.plain 167) m E Tryz.f172 ((cfst (cfst (csnd (csnd (csnd (cfst (csnd (cfst (csnd (csnd (csnd (csnd (csnd B172)))))))))))))) (zb2 L a0 a2 a3 a4 p1 x4) (fun s=>s.1) 0 z5n (z6g H) (z2u L a0 a2 a3 a4 p1 x4):=by
 rintro ⟨H5,v1_6,v13_7⟩ o h
 unfold z2u at h
 try dsimp only at h
 refine WS.sq (WS.sq (WS.rg (RS.mS 3 [kB 46 (decide (v1_6≥(IntKind.u64.wrap a2))),(45,.val (Value.int .u64 (IntKind.u64.wrap a2))),(44,.val (Value.int .u64 v1_6))] (RS.dn (WS.nxt ?_)))))
 rcases z0 h with ⟨hp,h⟩ | ⟨hp,h⟩
 ·refine WS.fx 46 true (decide_eq_true hp) (WS.cT ?_)
  cases h
 ·refine WS.fx 46 false (decide_eq_false hp) (WS.cF (WS.ex 0 ?_))
  cases h
  exact fun a w hs=>sqE (lsB rfl (hs.sb 0))
theorem zea {L:LC} {m:Nat} {H:AH} {a0:Sl3} {a1 a2:Int} {a3 a4:Bool} {r:(Sl3×ByteArray×AH)} (h:z4h L m H a0 a1 a2 a3 a4=some r) :
  CallS Tryz.prog (NE.plain 167) m 172 #[(Sl3.v a0),(Value.int .u64 a1),(Value.int .i64 a2),(Value.bool a3),(Value.bool a4)] H (z5n r) (z6g H r):=by
 refine CallS.mk (args:=[(Sl3.v a0),(Value.int .u64 a1),(Value.int .i64 a2),(Value.bool a3),(Value.bool a4)]) Tryz.func172 (B:=B172) (by kernel_rfl) (fun E _=>?_)
 unfold z4h at h
 refine WS.sq (WS.rg (RS.mS 2 [kT 11 (⟨#[]⟩:ByteArray),kS 10 Sl3.nil] (RS.dn (WS.nxt (WS.sq (WS.sq (WS.rg (RS.mS 3 [kB 21 (decide (a2<2)),kB 20 (decide (a2<2)),kI 19 a2] ?_))))))))
 rcases z0 h with ⟨hp,h⟩ | ⟨hp,h⟩
 ·refine RS.fx 21 true (decide_eq_true hp) ?_
  cases h
 ·refine RS.fx 21 false (decide_eq_false hp) (RS.mS 4 [kB 25 (decide (a2=10)),kB 24 (decide (a2=10)),kB 23 (decide (a2=10)),kI 22 a2] ?_)
  rcases z0 h with ⟨hp,h⟩ | ⟨hp,h⟩
  ·refine RS.fx 25 true (decide_eq_true hp) ?_
   cases h
  ·refine RS.fx 25 false (decide_eq_false hp) (RS.mS 3 [kB 28 (decide (a2 > 36)),kB 27 (decide (a2 > 36)),kI 26 a2] (RS.dn (WS.nxt ?_)))
   rcases z0 h with ⟨hp,h⟩ | ⟨hp,h⟩
   ·refine WS.fx 28 true (decide_eq_true hp) (WS.cT ?_)
    cases h
   ·refine WS.fx 28 false (decide_eq_false hp) (WS.cF (WS.sk (WS.nxt (WS.sq (WS.rg ?_)))))
    obtain ⟨⟨p1,H2⟩,hx,h⟩:=bind_some h
    try dsimp only at h
    refine RS.o (H':=H2) (some 12) (Value.pointer (some p1)) (Abs.run_newB (by kernel_rfl) hx) (RS.dn (WS.nxt (WS.sq (WS.rg (RS.mS 1 [kI 13 65] (RS.dn (WS.nxt (WS.sq (WS.sq ?_)))))))))
    refine WS.rg (RS.mS 1 [kB 30 a3] (RS.dn (WS.nxt ?_)))
    rcases z0 h with ⟨hp,h⟩ | ⟨hp,h⟩
    ·refine WS.fx 30 true hp (WS.cT ?_)
     cases h
    ·refine WS.fx 30 false (b_not hp) (WS.cF (WS.sk (WS.nxt (WS.sq (WS.sq (WS.rg (RS.mS 1 [kI 33 a2] ?_)))))))
     obtain ⟨x3,hx,h⟩:=bind_some h
     refine RS.cl (some 34) (v:=(Value.bool x3)) 218 #[(Value.int .i64 a2)] (zca hx) (RS.dn (WS.nxt ?_))
     rcases z0 h with ⟨hp,h⟩ | ⟨hp,h⟩
     ·refine WS.fx 34 true hp (WS.cT (WS.sq (WS.rg (RS.mS 2 [(36,.val (Value.int .u64 (IntKind.u64.wrap a2))),kI 35 a2] ?_))))
      obtain ⟨x4,hx,h⟩:=bind_some h
      refine RS.cl (some 37) (v:=(Value.int .i64 x4)) 219 #[(Value.int .u64 (IntKind.u64.wrap a2))] (zej hx) (RS.mS 2 [(14,.val (Value.int .u64 (IntKind.u64.wrap x4))),(38,.val (Value.int .u64 (IntKind.u64.wrap x4)))] (RS.dn (WS.nxt (WS.sq (WS.rg (RS.mS 3 [(15,.val (Value.int .u64 (IntKind.u64.wrap a2))),(40,.val (Value.int .u64 (IntKind.u64.wrap a2))),kI 39 a2] (RS.dn (WS.nxt (WS.sq ?_)))))))))
      refine WS.rg (RS.mS 4 [(16,.val (Value.int .u64 (IntKind.u64.wrap ((IntKind.u64.wrap a2) - 1)))),(43,.val (Value.int .u64 (IntKind.u64.wrap ((IntKind.u64.wrap a2) - 1)))),(42,.val (Value.int .u64 (IntKind.u64.wrap a2))),kI 41 a2] (RS.dn (WS.nxt (WS.sq (WS.bk 0 ?_)))))
      obtain ⟨o,hl,h⟩:=bind_some h
      rcases o with ⟨H8,v1_9,v13_10⟩ | r
      ·try dsimp only at h
       refine WS.lI (z4g (L:=L) (E:=E) (m:=m) (H:=H)) (L.ok hl) 0 ?_
       clear hl
       refine fun a w hs=>bkE ((WS.nxt ?_ a w hs))
       refine WS.sq (WS.rg (RS.mS 3 [kI 13 (IntKind.i64.wrap (v13_10 - 1)),kI 59 (IntKind.i64.wrap (v13_10 - 1)),kI 58 v13_10] (RS.dn (WS.nxt (WS.rg (RS.mS 2 [(61,.val (Value.int .u64 v1_9)),kI 60 (IntKind.i64.wrap (v13_10 - 1))] ?_))))))
       obtain ⟨x11,hx,h⟩:=bind_some h
       refine RS.o (H':=H8) (some 62) (Value.int .u8 x11) (Abs.run_byt (t:=9) (x:=.const (Value.string (⟨#[48,49,50,51,52,53,54,55,56,57,97,98,99,100,101,102,103,104,105,106,107,108,109,110,111,112,113,114,115,116,117,118,119,120,121,122]⟩:ByteArray))) (y:=.tmp 61) (s:=(⟨#[48,49,50,51,52,53,54,55,56,57,97,98,99,100,101,102,103,104,105,106,107,108,109,110,111,112,113,114,115,116,117,118,119,120,121,122]⟩:ByteArray)) (k:=.u64) (i:=v1_9) (by kernel_rfl) (by kernel_rfl) (by kernel_rfl) (by kernel_rfl) hx) ?_
       obtain ⟨p12,hx,h⟩:=bind_some h
       refine RS.o (H':=H8) (some 63) (Value.pointer (some p12)) (Abs.run_idxR (a:=p1) (k:=.i64) (t:=308) (e:=5) (x:=.tmp 12) (y:=.tmp 60) (by kernel_rfl) (by kernel_rfl) (by kernel_rfl) (by kernel_rfl) (by kernel_rfl) hx) ?_
       obtain ⟨H13,hx,h⟩:=bind_some h
       refine RS.o (H':=H13) none undef (Abs.run_store1 (t:=5) (x:=.tmp 63) (y:=.tmp 62) (a:=p12) (v:=(Value.int .u8 x11)) (by kernel_rfl) (by kernel_rfl) (by kernel_rfl) (by kernel_rfl) (by kernel_rfl) hx) (RS.dn (WS.nxt (WS.sq (WS.sq (WS.rg (RS.mS 1 [kB 89 a3] (RS.dn (WS.nxt ?_))))))))
       rcases z0 h with ⟨hp,h⟩ | ⟨hp,h⟩
       ·refine WS.fx 89 true hp (WS.cT ?_)
        cases h
       ·refine WS.fx 89 false (b_not hp) (WS.cF (WS.sk (WS.nxt (WS.sq (WS.sq (WS.rg (RS.mS 1 [kB 94 a4] (RS.dn (WS.nxt ?_)))))))))
        rcases z0 h with ⟨hp,h⟩ | ⟨hp,h⟩
        ·refine WS.fx 94 true hp (WS.cT ?_)
         cases h
        ·refine WS.fx 94 false (b_not hp) (WS.cF (WS.sk (WS.nxt (WS.sq (WS.rg (RS.mS 1 [kI 99 (IntKind.i64.wrap (v13_10 - 1))] ?_))))))
         obtain ⟨s14,hx,h⟩:=bind_some h
         refine RS.o (H':=H13) (some 100) (Sl3.v s14) (Abs.run_slcR (t:=308) (e:=5) (x:=.tmp 12) (lo:=(some (.tmp 99))) (hi:=none) (a:=p1) (k1:=.i64) (k2:=.i64) (by kernel_rfl) (by kernel_rfl) (by kernel_rfl) (by kernel_rfl) (by kernel_rfl) (by kernel_rfl) hx) ?_
         obtain ⟨s15,hx,h⟩:=bind_some h
         refine RS.o (H':=H13) (some 101) (Value.string s15) (Abs.run_bts (t:=135) (u:=9) (e:=5) (x:=.tmp 100) (s:=s14) (by kernel_rfl) (by kernel_rfl) (by kernel_rfl) (by kernel_rfl) (by kernel_rfl) hx) (RS.mS 1 [kT 11 s15] (RS.dn (WS.nxt (WS.rt ?_))))
         cases h
         exact fun a w hs=>rtR (rS hs)
      ·try dsimp only at h
       refine WS.lR (z4g (L:=L) (E:=E) (m:=m) (H:=H)) (L.ok hl) 0 ?_
       cases h
       exact fun a w hq=>bkR (sqR (sqR (rtR hq)))
     ·refine WS.fx 34 false (b_not hp) (WS.cF ?_)
      cases h
def za4:(ByteArray×AH)→Value
 | (r0,_)=>(Value.string r0)
def zau (_:AH):(ByteArray×AH)→AH:=fun r=>r.2
noncomputable def B112:Code:=(Tryz.f112.body).getD .skip
noncomputable def z2k (L:LC) (m:Nat) (H:AH) (a0 a1:Int):Option (ByteArray×AH) :=
 if a1=10 then
  none
 else
  Option.bind (z4h L m H Sl3.nil a0 a1 false false) fun (_,x2,H3) =>
  some (x2,H3)
theorem zal {L:LC} {m:Nat} {H:AH} {a0 a1:Int} {r:(ByteArray×AH)} (h:z2k L m H a0 a1=some r) :
  CallS Tryz.prog (NE.plain 167) m 112 #[(Value.int .u64 a0),(Value.int .i64 a1)] H (za4 r) (zau H r):=by
 refine CallS.mk (args:=[(Value.int .u64 a0),(Value.int .i64 a1)]) Tryz.func112 (B:=B112) (by kernel_rfl) (fun E _=>?_)
 unfold z2k at h
 refine WS.sq (WS.rg (RS.mS 1 [kT 4 (⟨#[]⟩:ByteArray)] (RS.dn (WS.nxt (WS.sq (WS.sq (WS.rg (RS.mS 2 [kB 10 (decide (a1=10)),kI 9 a1] (RS.dn ?_)))))))))
 refine WS.nxt ?_
 rcases z0 h with ⟨hp,h⟩ | ⟨hp,h⟩
 ·refine WS.fx 10 true (decide_eq_true hp) (WS.cT ?_)
  cases h
 ·refine WS.fx 10 false (decide_eq_false hp) (WS.cF (WS.sk (WS.nxt (WS.sq (WS.rg (RS.mS 2 [kI 27 a1,(26,.val (Value.int .u64 a0))] ?_))))))
  obtain ⟨⟨x1,x2,H3⟩,hx,h⟩:=bind_some h
  try dsimp only at h
  refine RS.cl (some 28) (v:=(Value.tuple #[(Sl3.v x1),(Value.string x2)])) 172 #[(Sl3.v Sl3.nil),(Value.int .u64 a0),(Value.int .i64 a1),(Value.bool false),(Value.bool false)] (zea hx) (RS.mS 5 [kT 8 x2,kS 7 x1,kT 30 x2,kS 29 x1,(25,.val (Value.tuple #[(Sl3.v x1),(Value.string x2)]))] (RS.dn (WS.nxt (WS.sq (WS.rg (RS.mS 2 [kT 4 x2,kT 31 x2] (RS.dn (WS.nxt (WS.rt ?_)))))))))
  cases h
  exact fun a w hs=>rtR (rS hs)
def zcx:(ByteArray×AH)→Value
 | (r0,_)=>(Value.string r0)
def ze7 (_:AH):(ByteArray×AH)→AH:=fun r=>r.2
noncomputable def B62:Code:=(Tryz.f62.body).getD .skip
noncomputable def z4f (L:LC) (m:Nat) (H:AH) (a0 a1:Int):Option (ByteArray×AH) :=
 Option.bind (z2k L m H a0 a1) fun (x1,H2) =>
 some (x1,H2)
theorem zep {L:LC} {m:Nat} {H:AH} {a0 a1:Int} {r:(ByteArray×AH)} (h:z4f L m H a0 a1=some r) :
  CallS Tryz.prog (NE.plain 167) m 62 #[(Value.int .u64 a0),(Value.int .i64 a1)] H (zcx r) (ze7 H r):=by
 refine CallS.mk (args:=[(Value.int .u64 a0),(Value.int .i64 a1)]) Tryz.func62 (B:=B62) (by kernel_rfl) (fun E _=>?_)
 unfold z4f at h
 refine WS.sq (WS.rg (RS.mS 1 [kT 4 (⟨#[]⟩:ByteArray)] (RS.dn (WS.nxt (WS.sq (WS.rg (RS.mS 2 [kI 6 a1,(5,.val (Value.int .u64 a0))] ?_)))))))
 obtain ⟨⟨x1,H2⟩,hx,h⟩:=bind_some h
 try dsimp only at h
 refine RS.cl (some 7) (v:=(Value.string x1)) 112 #[(Value.int .u64 a0),(Value.int .i64 a1)] (zal hx) (RS.mS 1 [kT 4 x1] (RS.dn (WS.nxt (WS.rt ?_))))
 cases h
 exact fun a w hs=>rtR (rS hs)
def z9g:ByteArray→Value
 | r0=>(Value.string r0)
def zak (H:AH):ByteArray→AH:=fun _=>H
noncomputable def B113:Code:=(Tryz.f113.body).getD .skip
noncomputable def z2h (_L:LC) (a0:Bool):Option ByteArray :=
 if a0=true then
  none
 else
  some (⟨#[102,97,108,115,101]⟩:ByteArray)
theorem zar {L:LC} {m:Nat} {H:AH} {a0:Bool} {r:ByteArray} (h:z2h L a0=some r) :
  CallS Tryz.prog (NE.plain 167) m 113 #[(Value.bool a0)] H (z9g r) (zak H r):=by
 refine CallS.mk (args:=[(Value.bool a0)]) Tryz.func113 (B:=B113) (by kernel_rfl) (fun E _=>?_)
 unfold z2h at h
 refine WS.sq (WS.rg (RS.mS 1 [kT 2 (⟨#[]⟩:ByteArray)] (RS.dn (WS.nxt (WS.sq (WS.sq (WS.rg (RS.mS 1 [kB 3 a0] (RS.dn ?_)))))))))
 refine WS.nxt ?_
 rcases z0 h with ⟨hp,h⟩ | ⟨hp,h⟩
 ·refine WS.fx 3 true hp (WS.cT ?_)
  cases h
 ·refine WS.fx 3 false (b_not hp) (WS.cF (WS.sk (WS.nxt (WS.sq (WS.rg (RS.mS 1 [kT 2 (⟨#[102,97,108,115,101]⟩:ByteArray)] (RS.dn (WS.nxt (WS.rt ?_)))))))))
  cases h
  exact fun a w hs=>rtR (rS hs)
def zdd:ByteArray→Value
 | r0=>(Value.string r0)
def zdu (H:AH):ByteArray→AH:=fun _=>H
noncomputable def B63:Code:=(Tryz.f63.body).getD .skip
noncomputable def z44 (L:LC) (a0:Bool):Option ByteArray :=
 Option.bind (z2h L a0) fun x1 =>
 some x1
theorem zdw {L:LC} {m:Nat} {H:AH} {a0:Bool} {r:ByteArray} (h:z44 L a0=some r) :
  CallS Tryz.prog (NE.plain 167) m 63 #[(Value.bool a0)] H (zdd r) (zdu H r):=by
 refine CallS.mk (args:=[(Value.bool a0)]) Tryz.func63 (B:=B63) (by kernel_rfl) (fun E _=>?_)
 unfold z44 at h
 refine WS.sq (WS.rg (RS.mS 1 [kT 2 (⟨#[]⟩:ByteArray)] (RS.dn (WS.nxt (WS.sq (WS.rg (RS.mS 1 [kB 3 a0] ?_)))))))
 obtain ⟨x1,hx,h⟩:=bind_some h
 refine RS.cl (some 4) (v:=(Value.string x1)) 113 #[(Value.bool a0)] (zar hx) (RS.mS 1 [kT 2 x1] (RS.dn (WS.nxt (WS.rt ?_))))
 cases h
 exact fun a w hs=>rtR (rS hs)
def z9l:(ByteArray×AH)→Value
 | (r0,_)=>(Value.string r0)
def zap (_:AH):(ByteArray×AH)→AH:=fun r=>r.2
noncomputable def B65:Code:=(Tryz.f65.body).getD .skip
noncomputable def z2j (_L:LC) (m:Nat) (H:AH) (a0:Option Addr):Option (ByteArray×AH) :=
 Option.bind a0 fun q1 =>
 Option.bind (rd deSl H (Addr.add q1 1)) fun x2 =>
 Option.bind (rd deSl H (Addr.add q1 1)) fun x3 =>
 Option.bind (gOp1 Tryz.prog (opsOf (cfst (csnd B65))) 4 [(6,.val (Sl3.v x2))] deP H) fun x4 =>
 Option.bind (gOp Tryz.prog m (opsOf (cfst (csnd B65))) 10 [(7,.val (Value.pointer x4)),(12,.val (Value.int .i64 (x3.n:Int)))] deS H) fun (x5,H6) =>
 some (x5,H6)
theorem z43 {L:LC} {m:Nat} {H:AH} {a0:Option Addr} {r:(ByteArray×AH)} (h:z2j L m H a0=some r) :
  CallS Tryz.prog (NE.plain 167) m 65 #[(Value.pointer a0)] H (z9l r) (zap H r):=by
 refine CallS.mk (args:=[(Value.pointer a0)]) Tryz.func65 (B:=B65) (by kernel_rfl) (fun E _=>?_)
 unfold z2j at h
 refine WS.sq (WS.rg (RS.mS 1 [kT 2 (⟨#[]⟩:ByteArray)] (RS.dn (WS.nxt (WS.sq ?_)))))
 refine WS.dr [0,1,2,3,5,6,7,8] [0,1,3,7,15,0,32,96,224,480,1023,2047] 12 (fun hcl=>?_)
 refine DA.tK 0 (some 3) (Value.pointer a0) ?_
 obtain ⟨q1,hx,hq1⟩:=bind_some h
 subst hx
 have h:=hq1
 refine DA.tK 1 (some 4) (Value.pointer (some q1)) (DA.tK 2 (some 5) (Value.pointer (some (Addr.add q1 1))) ?_)
 obtain ⟨x2,hx,h⟩:=bind_some h
 refine DA.tD 3 (some 6) (Sl3.v x2) (Abs.det_load (t:=135) (x:=.tmp 5) (a:=(Addr.add q1 1)) (by kernel_rfl) (by kernel_rfl) (by kernel_rfl) (by kernel_rfl) (z1 hx z3)) (DA.tK 5 (some 8) (Value.pointer (some q1)) (DA.tK 6 (some 9) (Value.pointer (some q1)) (DA.tK 7 (some 10) (Value.pointer (some (Addr.add q1 1))) ?_)))
 obtain ⟨x3,hx,h⟩:=bind_some h
 refine DA.tD 8 (some 11) (Sl3.v x3) (Abs.det_load (t:=135) (x:=.tmp 10) (a:=(Addr.add q1 1)) (by kernel_rfl) (by kernel_rfl) (by kernel_rfl) (by kernel_rfl) (z1 hx z3)) (DA.restart [0,1,2,3,5,6,7,8,9] (by kernel_rfl) (DA.tK 9 (some 12) (Value.int .i64 (x3.n:Int)) ?_))
 obtain ⟨x4,hx,h⟩:=bind_some h
 refine DA.on 4 (DA.aHj (H':=H) 4 (some 7) false (Value.pointer x4) (zjp hx z6j (by kernel_rfl) (by kernel_rfl)) ?_)
 obtain ⟨⟨x5,H6⟩,hx,h⟩:=bind_some h
 try dsimp only at h
 refine DA.on 10 (DA.aH (H':=H6) 10 (some 13) (Value.string x5) (ze3 hx z9 (by kernel_rfl)) (DA.tP 11 (some 2) (Value.string x5) (DA.dn (WS.nxt (WS.rt ?_)))))
 cases h
 exact fun a w hs=>rtR (rS hs)
def z7d:(ByteArray×AH)→Value
 | (r0,_)=>(Value.string r0)
def z8t (_:AH):(ByteArray×AH)→AH:=fun r=>r.2
noncomputable def B26:Code:=(Tryz.f26.body).getD .skip
noncomputable def zd9 (L:LC) (m:Nat) (_a0_0:Int) (_a0_1:ByteArray) (_a0_2:Bool) (_a0_3:Sl3) (_a0_4:Int) (_a0_5:Sl3) (_a0_6 _a0_7:Int) (_a0_8:ByteArray) (_a0_9 _a0_10 a0_11:Sl3) (p1:Addr):(AH×Int)→Option (Lp (AH×Int) (ByteArray×AH)):=fun (H4,v23_5) =>
 if v23_5<(a0_11.n:Int) then
  Option.bind (idxA 1 a0_11 v23_5) fun p6 =>
  Option.bind (rd (deI .i64) H4 p6) fun x7 =>
  Option.bind (zaj L m H4 x7 (some p1)) fun H8 =>
  some (.next (H8,(IntKind.i64.wrap (v23_5+1))))
 else
  some (.brk (H4,v23_5))
def zll (_L:LC) (_m:Nat) (a0_0:Int) (a0_1:ByteArray) (a0_2:Bool) (a0_3:Sl3) (a0_4:Int) (a0_5:Sl3) (a0_6 a0_7:Int) (a0_8:ByteArray) (a0_9 a0_10 a0_11:Sl3) (p1:Addr):(AH×Int)→KN×Lcs:=fun (_,v23_5)=>([kI 23 v23_5,kL 1 0 0,kP 3 p1,(4,.val (Value.func (.func 58) #[] #[(Value.pointer (some p1))])),kS 21 a0_11,kI 22 (a0_11.n:Int)],[some (61,[(Value.int .i64 a0_0),(Value.string a0_1),(Value.bool a0_2),(Sl3.v a0_3),(Value.int .i64 a0_4),(Sl3.v a0_5),(Value.int .i64 a0_6),(Value.int .i64 a0_7),(Value.string a0_8),(Sl3.v a0_9),(Sl3.v a0_10),(Sl3.v a0_11)])])
noncomputable def zd3 (_L:LC) (_a0_0:Int) (_a0_1:ByteArray) (_a0_2:Bool) (_a0_3:Sl3) (_a0_4:Int) (_a0_5:Sl3) (_a0_6 _a0_7:Int) (_a0_8:ByteArray) (_a0_9 a0_10 _a0_11:Sl3) (_p1:Addr):(AH×Int)→Option (Lp (AH×Int) (ByteArray×AH)):=fun (H11,v34_12) =>
 if v34_12<(a0_10.n:Int) then
  none
 else
  some (.brk (H11,v34_12))
def zm9 (_L:LC) (a0_0:Int) (a0_1:ByteArray) (a0_2:Bool) (a0_3:Sl3) (a0_4:Int) (a0_5:Sl3) (a0_6 a0_7:Int) (a0_8:ByteArray) (a0_9 a0_10 a0_11:Sl3) (p1:Addr):(AH×Int)→KN×Lcs:=fun (_,v34_12)=>([kI 34 v34_12,kL 1 0 0,kP 3 p1,(4,.val (Value.func (.func 58) #[] #[(Value.pointer (some p1))])),kS 32 a0_10,kI 33 (a0_10.n:Int)],[some (61,[(Value.int .i64 a0_0),(Value.string a0_1),(Value.bool a0_2),(Sl3.v a0_3),(Value.int .i64 a0_4),(Sl3.v a0_5),(Value.int .i64 a0_6),(Value.int .i64 a0_7),(Value.string a0_8),(Sl3.v a0_9),(Sl3.v a0_10),(Sl3.v a0_11)])])
noncomputable def zcu (L:LC) (m:Nat) (_a0_0:Int) (_a0_1:ByteArray) (_a0_2:Bool) (a0_3:Sl3) (_a0_4:Int) (_a0_5:Sl3) (_a0_6 _a0_7:Int) (_a0_8:ByteArray) (_a0_9 _a0_10 _a0_11:Sl3) (p1:Addr):(AH×Int)→Option (Lp (AH×Int) (ByteArray×AH)):=fun (H16,v50_17) =>
 if v50_17<(a0_3.n:Int) then
  Option.bind (idxA 1 a0_3 v50_17) fun p18 =>
  Option.bind (rd (deI .u64) H16 p18) fun x19 =>
  Option.bind (z4f L m H16 x19 16) fun (x20,H21) =>
  Option.bind (strcat x20 (⟨#[32]⟩:ByteArray)) fun s22 =>
  Option.bind (zu L m H21 (some p1) s22) fun (_,_,H25) =>
  some (.next (H25,(IntKind.i64.wrap (v50_17+1))))
 else
  some (.brk (H16,v50_17))
def zlr (_L:LC) (_m:Nat) (a0_0:Int) (a0_1:ByteArray) (a0_2:Bool) (a0_3:Sl3) (a0_4:Int) (a0_5:Sl3) (a0_6 a0_7:Int) (a0_8:ByteArray) (a0_9 a0_10 a0_11:Sl3) (p1:Addr):(AH×Int)→KN×Lcs:=fun (_,v50_17)=>([kI 50 v50_17,kL 1 0 0,kP 3 p1,kS 48 a0_3,kI 49 (a0_3.n:Int)],[some (61,[(Value.int .i64 a0_0),(Value.string a0_1),(Value.bool a0_2),(Sl3.v a0_3),(Value.int .i64 a0_4),(Sl3.v a0_5),(Value.int .i64 a0_6),(Value.int .i64 a0_7),(Value.string a0_8),(Sl3.v a0_9),(Sl3.v a0_10),(Sl3.v a0_11)])])
noncomputable def zkh (L:LC) (m:Nat) (H:AH) (a0_0:Int) (a0_1:ByteArray) (a0_2:Bool) (a0_3:Sl3) (a0_4:Int) (a0_5:Sl3) (a0_6 a0_7:Int) (a0_8:ByteArray) (a0_9 a0_10 a0_11:Sl3):Option (ByteArray×AH) :=
 Option.bind (newB 137 [(Value.pointer none),(Sl3.v Sl3.nil)] H) fun (p1,H2) =>
 Option.bind (zaj L m H2 a0_0 (some p1)) fun H3 =>
 Option.bind (L.run (zd9 L m a0_0 a0_1 a0_2 a0_3 a0_4 a0_5 a0_6 a0_7 a0_8 a0_9 a0_10 a0_11 p1) (H3,0)) fun o=>match o with
 | .inl (H9,_) =>
  Option.bind (L.run (zd3 L a0_0 a0_1 a0_2 a0_3 a0_4 a0_5 a0_6 a0_7 a0_8 a0_9 a0_10 a0_11 p1) (H9,0)) fun o=>match o with
  | .inl (H13,_) =>
   Option.bind (α:=AH) (
    if a0_0=20 then
     Option.bind (L.run (zcu L m a0_0 a0_1 a0_2 a0_3 a0_4 a0_5 a0_6 a0_7 a0_8 a0_9 a0_10 a0_11 p1) (H13,0)) fun o=>match o with
     | .inl (H26,_) =>
      Option.bind (z44 L a0_2) fun x28 =>
      Option.bind (zu L m H26 (some p1) x28) fun (_,_,H31) =>
      some H31
     | .inr r=>none
    else
     if a0_0=40 then
      none
     else
      if a0_0=34 then
       none
      else
       some H13) fun H15 =>
   Option.bind (z2j L m H15 (some p1)) fun (x32,H33) =>
   Option.bind (strcat x32 a0_1) fun s34 =>
   some (s34,H33)
  | .inr r=>some r
 | .inr r=>some r
theorem zdm {E H L m a0_0 a0_1 a0_2 a0_3 a0_4 a0_5 a0_6 a0_7 a0_8 a0_9 a0_10 a0_11 p1} :LoopF Tryz.prog (NE.plain 167) m E Tryz.f26 ((cfst (csnd (cfst (csnd (csnd (csnd (csnd B26)))))))) (zll L m a0_0 a0_1 a0_2 a0_3 a0_4 a0_5 a0_6 a0_7 a0_8 a0_9 a0_10 a0_11 p1) (fun s=>s.1) 0 z7d (z8t H) (zd9 L m a0_0 a0_1 a0_2 a0_3 a0_4 a0_5 a0_6 a0_7 a0_8 a0_9 a0_10 a0_11 p1):=by
 rintro ⟨H4,v23_5⟩ o h
 unfold zd9 at h
 try dsimp only at h
 refine WS.sq (WS.rg (RS.mS 1 [kB 24 (decide (v23_5<(a0_11.n:Int)))] (RS.dn (WS.nxt (WS.sq ?_)))))
 rcases z0 h with ⟨hp,h⟩ | ⟨hp,h⟩
 ·refine WS.fx 24 true (decide_eq_true hp) (WS.cT (WS.sk (WS.nxt (WS.sq (WS.bk 1 (WS.sq (WS.rg ?_)))))))
  obtain ⟨p6,hx,h⟩:=bind_some h
  refine RS.ix 25 25 3 (.tmp 21) (.tmp 23) hx ?_
  obtain ⟨x7,hx,h⟩:=bind_some h
  refine RS.ld 26 3 (.tmp 25) (z1 hx z5) (RS.mS 1 [kI 6 x7] (RS.dn (WS.nxt (WS.rg (RS.mS 2 [kI 28 x7,(27,.val (Value.func (.func 58) #[] #[(Value.pointer (some p1))]))] ?_)))))
  obtain ⟨H8,hx,h⟩:=bind_some h
  refine RS.cl (some 29) (v:=(Value.tuple #[])) 58 #[(Value.int .i64 x7),(Value.pointer (some p1))] (zgb hx) (RS.dn ?_)
  refine fun a w hs=>bkN ((WS.nxt ?_ a w hs))
  refine WS.rg (RS.mS 2 [kI 23 (IntKind.i64.wrap (v23_5+1)),kI 30 (IntKind.i64.wrap (v23_5+1))] (RS.dn ?_))
  cases h
  exact fun a w hs=>lsN rfl (hs.sb 1)
 ·refine WS.fx 24 false (decide_eq_false hp) (WS.cF (WS.ex 0 ?_))
  cases h
  exact fun a w hs=>sqE (lsB rfl (hs.sb 1))
theorem zeg {E m H L a0_0 a0_1 a0_2 a0_3 a0_4 a0_5 a0_6 a0_7 a0_8 a0_9 a0_10 a0_11 p1} :LoopF Tryz.prog (NE.plain 167) m E Tryz.f26 ((cfst (csnd (cfst (csnd (csnd (csnd (csnd (csnd B26))))))))) (zm9 L a0_0 a0_1 a0_2 a0_3 a0_4 a0_5 a0_6 a0_7 a0_8 a0_9 a0_10 a0_11 p1) (fun s=>s.1) 2 z7d (z8t H) (zd3 L a0_0 a0_1 a0_2 a0_3 a0_4 a0_5 a0_6 a0_7 a0_8 a0_9 a0_10 a0_11 p1):=by
 rintro ⟨H11,v34_12⟩ o h
 unfold zd3 at h
 try dsimp only at h
 refine WS.sq (WS.rg (RS.mS 1 [kB 35 (decide (v34_12<(a0_10.n:Int)))] (RS.dn (WS.nxt (WS.sq ?_)))))
 rcases z0 h with ⟨hp,h⟩ | ⟨hp,h⟩
 ·refine WS.fx 35 true (decide_eq_true hp) (WS.cT ?_)
  cases h
 ·refine WS.fx 35 false (decide_eq_false hp) (WS.cF (WS.ex 2 ?_))
  cases h
  exact fun a w hs=>sqE (lsB rfl (hs.sb 1))
theorem zdq {E H L m a0_0 a0_1 a0_2 a0_3 a0_4 a0_5 a0_6 a0_7 a0_8 a0_9 a0_10 a0_11 p1} :LoopF Tryz.prog (NE.plain 167) m E Tryz.f26 ((cfst (csnd (cfst (cfst (csnd (cfst (csnd (cfst (csnd (csnd (csnd (csnd (csnd (csnd B26))))))))))))))) (zlr L m a0_0 a0_1 a0_2 a0_3 a0_4 a0_5 a0_6 a0_7 a0_8 a0_9 a0_10 a0_11 p1) (fun s=>s.1) 5 z7d (z8t H) (zcu L m a0_0 a0_1 a0_2 a0_3 a0_4 a0_5 a0_6 a0_7 a0_8 a0_9 a0_10 a0_11 p1):=by
 rintro ⟨H16,v50_17⟩ o h
 unfold zcu at h
 try dsimp only at h
 refine WS.sq (WS.rg (RS.mS 1 [kB 51 (decide (v50_17<(a0_3.n:Int)))] (RS.dn (WS.nxt (WS.sq ?_)))))
 rcases z0 h with ⟨hp,h⟩ | ⟨hp,h⟩
 ·refine WS.fx 51 true (decide_eq_true hp) (WS.cT (WS.sk (WS.nxt (WS.sq (WS.bk 6 (WS.sq (WS.rg ?_)))))))
  obtain ⟨p18,hx,h⟩:=bind_some h
  refine RS.ix 52 55 112 (.tmp 48) (.tmp 50) hx ?_
  obtain ⟨x19,hx,h⟩:=bind_some h
  refine RS.ld 53 112 (.tmp 52) (z1 hx z5) (RS.mS 1 [(10,.val (Value.int .u64 x19))] (RS.dn (WS.nxt (WS.rg (RS.mS 1 [(54,.val (Value.int .u64 x19))] ?_)))))
  obtain ⟨⟨x20,H21⟩,hx,h⟩:=bind_some h
  try dsimp only at h
  refine RS.cl (some 55) (v:=(Value.string x20)) 62 #[(Value.int .u64 x19),(Value.int .i64 16)] (zep hx) ?_
  obtain ⟨s22,hx,h⟩:=bind_some h
  refine RS.o (H':=H21) (some 56) (Value.string s22) (Abs.run_strcat (t:=9) (u:=9) (x:=.tmp 55) (y:=.const (Value.string (⟨#[32]⟩:ByteArray))) (a:=x20) (b:=(⟨#[32]⟩:ByteArray)) (by kernel_rfl) (by kernel_rfl) (by kernel_rfl) hx) ?_
  obtain ⟨⟨x23,x24,H25⟩,hx,h⟩:=bind_some h
  try dsimp only at h
  refine RS.cl (some 57) (v:=(Value.tuple #[(Value.int .i64 x23),x24])) 59 #[(Value.pointer (some p1)),(Value.string s22)] (z19 hx) (RS.dn ?_)
  refine fun a w hs=>bkN ((WS.nxt ?_ a w hs))
  refine WS.rg (RS.mS 2 [kI 50 (IntKind.i64.wrap (v50_17+1)),kI 58 (IntKind.i64.wrap (v50_17+1))] (RS.dn ?_))
  cases h
  exact fun a w hs=>lsN rfl (hs.sb 1)
 ·refine WS.fx 51 false (decide_eq_false hp) (WS.cF (WS.ex 5 ?_))
  cases h
  exact fun a w hs=>sqE (lsB rfl (hs.sb 1))
theorem zpj {L:LC} {m:Nat} {H:AH} {a0_0:Int} {a0_1:ByteArray} {a0_2:Bool} {a0_3:Sl3} {a0_4:Int} {a0_5:Sl3} {a0_6 a0_7:Int} {a0_8:ByteArray} {a0_9 a0_10 a0_11:Sl3} {r:(ByteArray×AH)} (h:zkh L m H a0_0 a0_1 a0_2 a0_3 a0_4 a0_5 a0_6 a0_7 a0_8 a0_9 a0_10 a0_11=some r) :
  CallS Tryz.prog (NE.plain 167) m 26 #[(Value.agg #[(Value.int .i64 a0_0),(Value.string a0_1),(Value.bool a0_2),(Sl3.v a0_3),(Value.int .i64 a0_4),(Sl3.v a0_5),(Value.int .i64 a0_6),(Value.int .i64 a0_7),(Value.string a0_8),(Sl3.v a0_9),(Sl3.v a0_10),(Sl3.v a0_11)])] H (z7d r) (z8t H r):=by
 refine CallS.mk (args:=[(Value.agg #[(Value.int .i64 a0_0),(Value.string a0_1),(Value.bool a0_2),(Sl3.v a0_3),(Value.int .i64 a0_4),(Sl3.v a0_5),(Value.int .i64 a0_6),(Value.int .i64 a0_7),(Value.string a0_8),(Sl3.v a0_9),(Sl3.v a0_10),(Sl3.v a0_11)])]) Tryz.func26 (B:=B26) (by kernel_rfl) (fun E _=>?_)
 unfold zkh at h
 refine WS.sq (WS.rg (RS.mL 2 [kT 2 (⟨#[]⟩:ByteArray),kL 1 0 0] ([some (61,[(Value.int .i64 a0_0),(Value.string a0_1),(Value.bool a0_2),(Sl3.v a0_3),(Value.int .i64 a0_4),(Sl3.v a0_5),(Value.int .i64 a0_6),(Value.int .i64 a0_7),(Value.string a0_8),(Sl3.v a0_9),(Sl3.v a0_10),(Sl3.v a0_11)])]) (RS.dn (WS.nxt (WS.sq (WS.rg ?_))))))
 obtain ⟨⟨p1,H2⟩,hx,h⟩:=bind_some h
 try dsimp only at h
 refine RS.o (H':=H2) (some 3) (Value.pointer (some p1)) (Abs.run_newB (by kernel_rfl) hx) (RS.dn (WS.nxt (WS.sq (WS.rg (RS.mS 2 [(4,.val (Value.func (.func 58) #[] #[(Value.pointer (some p1))])),(15,.val (Value.func (.func 58) #[] #[(Value.pointer (some p1))]))] (RS.dn (WS.nxt (WS.sq (WS.rg ?_)))))))))
 refine RS.mS 3 [kI 18 a0_0,kL 17 0 0,(16,.val (Value.func (.func 58) #[] #[(Value.pointer (some p1))]))] ?_
 obtain ⟨H3,hx,h⟩:=bind_some h
 refine RS.cl (some 19) (v:=(Value.tuple #[])) 58 #[(Value.int .i64 a0_0),(Value.pointer (some p1))] (zgb hx) (RS.dn (WS.nxt (WS.sq (WS.sq (WS.rg (RS.mS 4 [kI 23 0,kI 22 (a0_11.n:Int),kS 21 a0_11,kL 20 0 11] (RS.dn (WS.nxt (WS.bk 0 ?_)))))))))
 obtain ⟨o,hl,h⟩:=bind_some h
 rcases o with ⟨H9,v23_10⟩ | r
 ·try dsimp only at h
  refine WS.lI (zdm (L:=L) (E:=E) (m:=m) (H:=H)) (L.ok hl) 1 ?_
  clear hl
  refine fun a w hs=>bkE ((WS.nxt ?_ a w hs))
  refine WS.sq (WS.sq (WS.rg (RS.mS 4 [kI 34 0,kI 33 (a0_10.n:Int),kS 32 a0_10,kL 31 0 10] (RS.dn (WS.nxt (WS.bk 2 ?_))))))
  obtain ⟨o,hl,h⟩:=bind_some h
  rcases o with ⟨H13,v34_14⟩ | r
  ·try dsimp only at h
   refine WS.lI (zeg (L:=L) (E:=E) (m:=m) (H:=H)) (L.ok hl) 1 ?_
   clear hl
   refine fun a w hs=>bkE ((WS.nxt ?_ a w hs))
   obtain ⟨H15,hx,h⟩:=bind_some h
   refine WS.sq ?_
   refine WS.join ([kL 1 0 0,kP 3 p1]) ([some (61,[(Value.int .i64 a0_0),(Value.string a0_1),(Value.bool a0_2),(Sl3.v a0_3),(Value.int .i64 a0_4),(Sl3.v a0_5),(Value.int .i64 a0_6),(Value.int .i64 a0_7),(Value.string a0_8),(Sl3.v a0_9),(Sl3.v a0_10),(Sl3.v a0_11)])]) H15 ?_ (fun a w hs=>WS.nxt ?_ a w hs)
   ·clear h; rename _=>h
    refine WS.sq (WS.rg (RS.mS 2 [kI 43 a0_0,kL 42 0 0] (RS.dn (WS.nxt (WS.bk 4 (WS.sq (WS.rg (RS.mS 2 [kB 44 (decide (a0_0=20)),kB 45 (decide (a0_0=20))] (RS.dn ?_)))))))))
    refine WS.nxt ?_
    rcases z0 h with ⟨hp,h⟩ | ⟨hp,h⟩
    ·refine WS.fx 44 true (decide_eq_true hp) (WS.cT (WS.sq (WS.sq (WS.rg (RS.mS 5 [kI 50 0,kI 49 (a0_3.n:Int),kS 48 a0_3,kL 47 0 3,kL 46 0 2] (RS.dn (WS.nxt (WS.bk 5 ?_))))))))
     obtain ⟨o,hl,h⟩:=bind_some h
     rcases o with ⟨H26,v50_27⟩ | r
     ·try dsimp only at h
      refine WS.lI (zdq (L:=L) (E:=E) (m:=m) (H:=H)) (L.ok hl) 1 ?_
      clear hl
      refine fun a w hs=>bkE ((WS.nxt ?_ a w hs))
      refine WS.rg (RS.mS 3 [kB 61 a0_2,kL 60 0 2,kL 59 0 2] ?_)
      obtain ⟨x28,hx,h⟩:=bind_some h
      refine RS.cl (some 62) (v:=(Value.string x28)) 63 #[(Value.bool a0_2)] (zdw hx) ?_
      obtain ⟨⟨x29,x30,H31⟩,hx,h⟩:=bind_some h
      try dsimp only at h
      refine RS.cl (some 63) (v:=(Value.tuple #[(Value.int .i64 x29),x30])) 59 #[(Value.pointer (some p1)),(Value.string x28)] (z19 hx) (RS.dn ?_)
      cases h
      exact fun a w hs=>bkN ((jsN (hs.sb 1)))
     ·try dsimp only at h
      refine WS.lR (zdq (L:=L) (E:=E) (m:=m) (H:=H)) (L.ok hl) 1 ?_
      cases h
    ·refine WS.fx 44 false (decide_eq_false hp) (WS.cF (WS.sq (WS.rg (RS.mS 2 [kB 64 (decide (a0_0=40)),kB 65 (decide (a0_0=40))] (RS.dn (WS.nxt ?_))))))
     rcases z0 h with ⟨hp,h⟩ | ⟨hp,h⟩
     ·refine WS.fx 64 true (decide_eq_true hp) (WS.cT ?_)
      cases h
     ·refine WS.fx 64 false (decide_eq_false hp) (WS.cF (WS.sq (WS.rg (RS.mS 2 [kB 84 (decide (a0_0=34)),kB 85 (decide (a0_0=34))] (RS.dn (WS.nxt ?_))))))
      rcases z0 h with ⟨hp,h⟩ | ⟨hp,h⟩
      ·refine WS.fx 84 true (decide_eq_true hp) (WS.cT ?_)
       cases h
      ·refine WS.fx 84 false (decide_eq_false hp) (WS.cF (WS.sk ?_))
       cases h
       exact fun a w hs=>bkN ((jsN (hs.sb 1)))
   ·clear hx
    refine WS.sq ?_
    obtain ⟨⟨x32,H33⟩,hx_0,h⟩:=bind_some h
    try dsimp only at h
    obtain ⟨s34,hx_3,h⟩:=bind_some h
    refine WS.toone ([kT 2 s34]) ([some (61,[(Value.int .i64 a0_0),(Value.string a0_1),(Value.bool a0_2),(Sl3.v a0_3),(Value.int .i64 a0_4),(Sl3.v a0_5),(Value.int .i64 a0_6),(Value.int .i64 a0_7),(Value.string a0_8),(Sl3.v a0_9),(Sl3.v a0_10),(Sl3.v a0_11)])]) H33 ?_ ?_
    ·clear h
     refine WS.dr [] [0,0,2,7,15] 5 (fun hcl=>?_)
     refine DA.tPL 1 (some 95) (.loc 0 1) ?_
     refine DA.two 0 2 (by kernel_rfl) ?_ ?_
     ·refine DA.aC 0 (some 94) (v:=(Value.string x32)) 65 #[(Value.pointer (some p1))] (z43 hx_0) (DA.on 2 (DA.aL 2 (some 96) (.val (Value.string a0_1)) ([some (61,[(Value.int .i64 a0_0),(Value.string a0_1),(Value.bool a0_2),(Sl3.v a0_3),(Value.int .i64 a0_4),(Sl3.v a0_5),(Value.int .i64 a0_6),(Value.int .i64 a0_7),(Value.string a0_8),(Sl3.v a0_9),(Sl3.v a0_10),(Sl3.v a0_11)])]) false (DA.tPx 3 (some 97) (Value.string s34) (Abs.det_strcat (t:=9) (u:=9) (x:=.tmp 94) (y:=.tmp 96) (a:=x32) (b:=a0_1) (by kernel_rfl) (by kernel_rfl) (by kernel_rfl) hx_3) (DA.tP 4 (some 2) (Value.string s34) (DA.dn ?_)))))
      exact fun a w hs=>jsN (hs.sb 1)
     ·refine DA.aL 2 (some 96) (.val (Value.string a0_1)) ([some (61,[(Value.int .i64 a0_0),(Value.string a0_1),(Value.bool a0_2),(Sl3.v a0_3),(Value.int .i64 a0_4),(Sl3.v a0_5),(Value.int .i64 a0_6),(Value.int .i64 a0_7),(Value.string a0_8),(Sl3.v a0_9),(Sl3.v a0_10),(Sl3.v a0_11)])]) false (DA.on 0 (DA.aC 0 (some 94) (v:=(Value.string x32)) 65 #[(Value.pointer (some p1))] (z43 hx_0) (DA.tPx 3 (some 97) (Value.string s34) (Abs.det_strcat (t:=9) (u:=9) (x:=.tmp 94) (y:=.tmp 96) (a:=x32) (b:=a0_1) (by kernel_rfl) (by kernel_rfl) (by kernel_rfl) hx_3) (DA.tP 4 (some 2) (Value.string s34) (DA.dn ?_)))))
      exact fun a w hs=>jsN (hs.sb 1)
    ·refine WS.nxt (WS.rt ?_)
     cases h
     exact fun a w hs=>rtR (rS hs)
  ·try dsimp only at h
   refine WS.lR (zeg (L:=L) (E:=E) (m:=m) (H:=H)) (L.ok hl) 1 ?_
   cases h
   exact fun a w hq=>bkR (sqR (rtR hq))
 ·try dsimp only at h
  refine WS.lR (zdm (L:=L) (E:=E) (m:=m) (H:=H)) (L.ok hl) 1 ?_
  cases h
  exact fun a w hq=>bkR (sqR (rtR hq))
end Go.Proofs.YtdlnojjpbmibdaaGreatDoor
namespace Go.Proofs.YtdlnojjpbmibdaaGreatDoor
open Go Go.Abs
set_option maxRecDepth 100000
def zi6:(Int×Int×AH)→Value
 | (r0,r1,_)=>(Value.tuple #[(Value.int .i64 r0),(Value.int .i64 r1)])
def zil (_:AH):(Int×Int×AH)→AH:=fun r=>r.2.2
noncomputable def B9:Code:=(Tryz.f9.body).getD .skip
noncomputable def z1f (L:LC) (m:Nat) (H:AH) (a0:Option Addr) (a1_0:Int) (a1_1:ByteArray) (a1_2:Bool) (a1_3:Sl3) (a1_4:Int) (a1_5:Sl3) (a1_6 a1_7:Int) (a1_8:ByteArray) (a1_9 a1_10 a1_11:Sl3):Option (Int×Int×AH) :=
 Option.bind (z12 L H a0) fun x1 =>
 if x1=true then
  Option.bind (z60 L m H a0 a1_0 a1_1 a1_2 a1_3 a1_4 a1_5 a1_6 a1_7 a1_8 a1_9 a1_10 a1_11) fun (x2_0,x2_1,x2_2,x2_3,x3,H4) =>
  if x3=0 then
   Option.bind (zan L m H4 a1_0 a1_1 a1_2 a1_3 a1_4 a1_5 a1_6 a1_7 a1_8 a1_9 a1_10 a1_11) fun (x5_0,x5_1,x5_2,x5_3,x5_4,x5_5,x5_6,x5_7,x5_8,x5_9,x5_10,x5_11,H6) =>
   Option.bind (zkh L m H6 x5_0 x5_1 x5_2 x5_3 x5_4 x5_5 x5_6 x5_7 x5_8 x5_9 x5_10 x5_11) fun (x7,H8) =>
   Option.bind a0 fun q9 =>
   Option.bind (rd deM H8 (Addr.add q9 4)) fun x10 =>
   Option.bind (lkM Tryz.prog 39 (deI .i64) H8 x10 (Value.string x7)) fun (_,b12) =>
   if b12=true then
    none
   else
    Option.bind (rd deSl H8 (Addr.add q9 3)) fun x13 =>
    if (x13.n:Int)≥1048576 then
     none
    else
     Option.bind (rd deM H8 (Addr.add q9 4)) fun x14 =>
     Option.bind (rd deSl H8 (Addr.add q9 3)) fun x15 =>
     Option.bind (upM Tryz.prog m 39 H8 x14 (Value.string x7) (Value.int .i64 (x15.n:Int))) fun H16 =>
     Option.bind (rd deSl H16 (Addr.add q9 3)) fun x17 =>
     Option.bind (z3e L (Nat.max m H16.next) H16 x2_0 x2_1 x2_2 x2_3) fun (x18_0,x18_1,x18_2,x18_3,H19) =>
     Option.bind (newS 95 [(Value.int .i64 x5_0),(Value.string x5_1),(Value.bool x5_2),(Sl3.v x5_3),(Value.int .i64 x5_4),(Sl3.v x5_5),(Value.int .i64 x5_6),(Value.int .i64 x5_7),(Value.string x5_8),(Sl3.v x5_9),(Sl3.v x5_10),(Sl3.v x5_11),(Value.int .i64 x18_0),(Value.int .i64 x18_1),(Value.string x18_2),(Sl3.v x18_3)] H19) fun (k20,H21) =>
     Option.bind (appS m 95 16 248 H21 x17 (⟨some ⟨k20,0,none⟩,1,1⟩:Sl3)) fun (s22,H23) =>
     Option.bind (H23.setCell m (Addr.add q9 3) (Sl3.v s22)) fun H24 =>
     Option.bind (rd deSl H24 (Addr.add q9 3)) fun x25 =>
     some ((IntKind.i64.wrap ((x25.n:Int) - 1)),0,H24)
  else
   none
 else
  some (0,4,H)
theorem z1o {L:LC} {m:Nat} {H:AH} {a0:Option Addr} {a1_0:Int} {a1_1:ByteArray} {a1_2:Bool} {a1_3:Sl3} {a1_4:Int} {a1_5:Sl3} {a1_6 a1_7:Int} {a1_8:ByteArray} {a1_9 a1_10 a1_11:Sl3} {r:(Int×Int×AH)} (h:z1f L m H a0 a1_0 a1_1 a1_2 a1_3 a1_4 a1_5 a1_6 a1_7 a1_8 a1_9 a1_10 a1_11=some r) :
  CallS Tryz.prog (NE.plain 167) m 9 #[(Value.pointer a0),(Value.agg #[(Value.int .i64 a1_0),(Value.string a1_1),(Value.bool a1_2),(Sl3.v a1_3),(Value.int .i64 a1_4),(Sl3.v a1_5),(Value.int .i64 a1_6),(Value.int .i64 a1_7),(Value.string a1_8),(Sl3.v a1_9),(Sl3.v a1_10),(Sl3.v a1_11)])] H (zi6 r) (zil H r):=by
 refine CallS.mk (args:=[(Value.pointer a0),(Value.agg #[(Value.int .i64 a1_0),(Value.string a1_1),(Value.bool a1_2),(Sl3.v a1_3),(Value.int .i64 a1_4),(Sl3.v a1_5),(Value.int .i64 a1_6),(Value.int .i64 a1_7),(Value.string a1_8),(Sl3.v a1_9),(Sl3.v a1_10),(Sl3.v a1_11)])]) Tryz.func9 (B:=B9) (by kernel_rfl) (fun E _=>?_)
 unfold z1f at h
 refine WS.sq (WS.rg (RS.mL 3 [kI 5 0,kI 4 0,kL 3 0 0] ([some (61,[(Value.int .i64 a1_0),(Value.string a1_1),(Value.bool a1_2),(Sl3.v a1_3),(Value.int .i64 a1_4),(Sl3.v a1_5),(Value.int .i64 a1_6),(Value.int .i64 a1_7),(Value.string a1_8),(Sl3.v a1_9),(Sl3.v a1_10),(Sl3.v a1_11)])]) (RS.dn (WS.nxt (WS.sq (WS.sq (WS.rg (RS.mS 1 [(12,.val (Value.pointer a0))] ?_))))))))
 obtain ⟨x1,hx,h⟩:=bind_some h
 refine RS.cl (some 13) (v:=(Value.bool x1)) 22 #[(Value.pointer a0)] (z15 hx) (RS.mS 1 [kB 14 (!x1)] (RS.dn (WS.nxt ?_)))
 rcases z0 h with ⟨hp,h⟩ | ⟨hp,h⟩
 ·refine WS.fx 14 false (nb_not hp) (WS.cF (WS.sk (WS.nxt (WS.sq (WS.rg (RS.mS 2 [kA 17 #[(Value.int .i64 a1_0),(Value.string a1_1),(Value.bool a1_2),(Sl3.v a1_3),(Value.int .i64 a1_4),(Sl3.v a1_5),(Value.int .i64 a1_6),(Value.int .i64 a1_7),(Value.string a1_8),(Sl3.v a1_9),(Sl3.v a1_10),(Sl3.v a1_11)],(16,.val (Value.pointer a0))] ?_))))))
  obtain ⟨⟨x2_0,x2_1,x2_2,x2_3,x3,H4⟩,hx,h⟩:=bind_some h
  try dsimp only at h
  refine RS.cl (some 18) (v:=(Value.tuple #[(Value.agg #[(Value.int .i64 x2_0),(Value.int .i64 x2_1),(Value.string x2_2),(Sl3.v x2_3)]),(Value.int .i64 x3)])) 24 #[(Value.pointer a0),(Value.agg #[(Value.int .i64 a1_0),(Value.string a1_1),(Value.bool a1_2),(Sl3.v a1_3),(Value.int .i64 a1_4),(Sl3.v a1_5),(Value.int .i64 a1_6),(Value.int .i64 a1_7),(Value.string a1_8),(Sl3.v a1_9),(Sl3.v a1_10),(Sl3.v a1_11)])] (zgs hx) (RS.mL 6 [kI 7 x3,kL 6 1 0,kI 20 x3,kA 19 #[(Value.int .i64 x2_0),(Value.int .i64 x2_1),(Value.string x2_2),(Sl3.v x2_3)],(15,.val (Value.tuple #[(Value.agg #[(Value.int .i64 x2_0),(Value.int .i64 x2_1),(Value.string x2_2),(Sl3.v x2_3)]),(Value.int .i64 x3)]))] ([some (61,[(Value.int .i64 a1_0),(Value.string a1_1),(Value.bool a1_2),(Sl3.v a1_3),(Value.int .i64 a1_4),(Sl3.v a1_5),(Value.int .i64 a1_6),(Value.int .i64 a1_7),(Value.string a1_8),(Sl3.v a1_9),(Sl3.v a1_10),(Sl3.v a1_11)]),some (47,[(Value.int .i64 x2_0),(Value.int .i64 x2_1),(Value.string x2_2),(Sl3.v x2_3)])]) (RS.dn (WS.nxt (WS.sq (WS.sq (WS.rg (RS.mS 2 [kB 22 (!decide (x3=0)),kI 21 x3] (RS.dn (WS.nxt ?_)))))))))
  rcases z0 h with ⟨hp,h⟩ | ⟨hp,h⟩
  ·refine WS.fx 22 false (zh hp) (WS.cF (WS.sk (WS.nxt (WS.sq (WS.rg (RS.mS 1 [kA 24 #[(Value.int .i64 a1_0),(Value.string a1_1),(Value.bool a1_2),(Sl3.v a1_3),(Value.int .i64 a1_4),(Sl3.v a1_5),(Value.int .i64 a1_6),(Value.int .i64 a1_7),(Value.string a1_8),(Sl3.v a1_9),(Sl3.v a1_10),(Sl3.v a1_11)]] ?_))))))
   obtain ⟨⟨x5_0,x5_1,x5_2,x5_3,x5_4,x5_5,x5_6,x5_7,x5_8,x5_9,x5_10,x5_11,H6⟩,hx,h⟩:=bind_some h
   try dsimp only at h
   refine RS.cl (some 25) (v:=(Value.agg #[(Value.int .i64 x5_0),(Value.string x5_1),(Value.bool x5_2),(Sl3.v x5_3),(Value.int .i64 x5_4),(Sl3.v x5_5),(Value.int .i64 x5_6),(Value.int .i64 x5_7),(Value.string x5_8),(Sl3.v x5_9),(Sl3.v x5_10),(Sl3.v x5_11)])) 25 #[(Value.agg #[(Value.int .i64 a1_0),(Value.string a1_1),(Value.bool a1_2),(Sl3.v a1_3),(Value.int .i64 a1_4),(Sl3.v a1_5),(Value.int .i64 a1_6),(Value.int .i64 a1_7),(Value.string a1_8),(Sl3.v a1_9),(Sl3.v a1_10),(Sl3.v a1_11)])] (zg0 hx) (RS.mL 2 [kL 8 2 0] ([some (61,[(Value.int .i64 a1_0),(Value.string a1_1),(Value.bool a1_2),(Sl3.v a1_3),(Value.int .i64 a1_4),(Sl3.v a1_5),(Value.int .i64 a1_6),(Value.int .i64 a1_7),(Value.string a1_8),(Sl3.v a1_9),(Sl3.v a1_10),(Sl3.v a1_11)]),some (47,[(Value.int .i64 x2_0),(Value.int .i64 x2_1),(Value.string x2_2),(Sl3.v x2_3)]),some (61,[(Value.int .i64 x5_0),(Value.string x5_1),(Value.bool x5_2),(Sl3.v x5_3),(Value.int .i64 x5_4),(Sl3.v x5_5),(Value.int .i64 x5_6),(Value.int .i64 x5_7),(Value.string x5_8),(Sl3.v x5_9),(Sl3.v x5_10),(Sl3.v x5_11)])]) (RS.dn (WS.nxt (WS.sq (WS.rg (RS.mS 1 [kA 26 #[(Value.int .i64 x5_0),(Value.string x5_1),(Value.bool x5_2),(Sl3.v x5_3),(Value.int .i64 x5_4),(Sl3.v x5_5),(Value.int .i64 x5_6),(Value.int .i64 x5_7),(Value.string x5_8),(Sl3.v x5_9),(Sl3.v x5_10),(Sl3.v x5_11)]] ?_))))))
   obtain ⟨⟨x7,H8⟩,hx,h⟩:=bind_some h
   try dsimp only at h
   refine RS.cl (some 27) (v:=(Value.string x7)) 26 #[(Value.agg #[(Value.int .i64 x5_0),(Value.string x5_1),(Value.bool x5_2),(Sl3.v x5_3),(Value.int .i64 x5_4),(Sl3.v x5_5),(Value.int .i64 x5_6),(Value.int .i64 x5_7),(Value.string x5_8),(Sl3.v x5_9),(Sl3.v x5_10),(Sl3.v x5_11)])] (zpj hx) (RS.mS 1 [kT 9 x7] (RS.dn (WS.nxt (WS.sq (WS.sq (WS.rg (RS.mS 1 [(29,.val (Value.pointer a0))] ?_)))))))
   obtain ⟨q9,hx,hq9⟩:=bind_some h
   subst hx
   have h:=hq9
   refine RS.mS 2 [(31,.val (Value.pointer (some (Addr.add q9 4)))),kP 30 q9] ?_
   obtain ⟨x10,hx,h⟩:=bind_some h
   refine RS.ld 32 39 (.tmp 31) (z1 hx zm7) (RS.mS 1 [kT 33 x7] ?_)
   obtain ⟨⟨x11,b12⟩,hx,h⟩:=bind_some h
   try dsimp only at h
   refine RS.o (H':=H8) (some 34) (Value.tuple #[(Value.int .i64 x11),(Value.bool b12)]) (Abs.run_look (t:=39) (x:=.tmp 32) (y:=.tmp 33) (mm:=x10) (k:=(Value.string x7)) (by kernel_rfl) (by kernel_rfl) (by kernel_rfl) (by kernel_rfl) (lkM_eq hx z5)) (RS.mS 5 [kB 11 b12,kI 10 x11,kB 36 b12,kI 35 x11,(28,.val (Value.tuple #[(Value.int .i64 x11),(Value.bool b12)]))] (RS.dn (WS.nxt (WS.sq (WS.rg (RS.mS 1 [kB 37 b12] (RS.dn (WS.nxt ?_))))))))
   rcases z0 h with ⟨hp,h⟩ | ⟨hp,h⟩
   ·refine WS.fx 37 true hp (WS.cT ?_)
    cases h
   ·refine WS.fx 37 false (b_not hp) (WS.cF (WS.sk (WS.nxt (WS.sq (WS.sq (WS.rg (RS.mS 3 [(41,.val (Value.pointer (some (Addr.add q9 3)))),kP 40 q9,kP 39 q9] ?_)))))))
    obtain ⟨x13,hx,h⟩:=bind_some h
    refine RS.ld 42 38 (.tmp 41) (z1 hx z3) (RS.mS 2 [kB 44 (decide ((x13.n:Int)≥1048576)),kI 43 (x13.n:Int)] (RS.dn (WS.nxt ?_)))
    rcases z0 h with ⟨hp,h⟩ | ⟨hp,h⟩
    ·refine WS.fx 44 true (decide_eq_true hp) (WS.cT ?_)
     cases h
    ·refine WS.fx 44 false (decide_eq_false hp) (WS.cF (WS.sk (WS.nxt (WS.sq ?_))))
     refine WS.dr [0,1,2,3,5,6,7,8] [0,1,3,7,0,0,32,96,224,480,1023] 11 (fun hcl=>?_)
     refine DA.tK 0 (some 45) (Value.pointer (some q9)) (DA.tK 1 (some 46) (Value.pointer (some q9)) (DA.tK 2 (some 47) (Value.pointer (some (Addr.add q9 4))) ?_))
     obtain ⟨x14,hx,h⟩:=bind_some h
     refine DA.tD 3 (some 48) (Value.map x14) (Abs.det_load (t:=39) (x:=.tmp 47) (a:=(Addr.add q9 4)) (by kernel_rfl) (by kernel_rfl) (by kernel_rfl) (by kernel_rfl) (z1 hx zm7)) (DA.tK 5 (some 50) (Value.pointer (some q9)) (DA.tK 6 (some 51) (Value.pointer (some q9)) (DA.tK 7 (some 52) (Value.pointer (some (Addr.add q9 3))) ?_)))
     obtain ⟨x15,hx,h⟩:=bind_some h
     refine DA.tD 8 (some 53) (Sl3.v x15) (Abs.det_load (t:=38) (x:=.tmp 52) (a:=(Addr.add q9 3)) (by kernel_rfl) (by kernel_rfl) (by kernel_rfl) (by kernel_rfl) (z1 hx z3)) (DA.tP 4 (some 49) (Value.string x7) (DA.on 9 (DA.aHj (H':=H8) 9 (some 54) false (Value.int .i64 (x15.n:Int)) (by kernel_rfl) ?_)))
     obtain ⟨H16,hx,h⟩:=bind_some h
     refine DA.on 10 (DA.aH (H':=H16) 10 none undef (Abs.run_upM (t:=39) (x:=.tmp 48) (y:=.tmp 49) (z:=.tmp 54) (mm:=x14) (k:=(Value.string x7)) (v:=(Value.int .i64 (x15.n:Int))) (by kernel_rfl) (by kernel_rfl) (by kernel_rfl) (by kernel_rfl) (by kernel_rfl) hx) (DA.dn (WS.nxt (WS.sq ?_))))
     obtain ⟨x17,hx_4,h⟩:=bind_some h
     obtain ⟨⟨x18_0,x18_1,x18_2,x18_3,H19⟩,hx_7,h⟩:=bind_some h
     try dsimp only at h
     obtain ⟨⟨k20,H21⟩,hx_k20,h⟩:=bind_some h
     try dsimp only at h
     obtain ⟨⟨s22,H23⟩,hx_10,h⟩:=bind_some h
     try dsimp only at h
     obtain ⟨H24,hx_13,h⟩:=bind_some h
     refine WS.toone ([kP 0 q9]) ([some (61,[(Value.int .i64 a1_0),(Value.string a1_1),(Value.bool a1_2),(Sl3.v a1_3),(Value.int .i64 a1_4),(Sl3.v a1_5),(Value.int .i64 a1_6),(Value.int .i64 a1_7),(Value.string a1_8),(Sl3.v a1_9),(Sl3.v a1_10),(Sl3.v a1_11)]),some (47,[(Value.int .i64 x2_0),(Value.int .i64 x2_1),(Value.string x2_2),(Sl3.v x2_3)]),some (61,[(Value.int .i64 x5_0),(Value.string x5_1),(Value.bool x5_2),(Sl3.v x5_3),(Value.int .i64 x5_4),(Sl3.v x5_5),(Value.int .i64 x5_6),(Value.int .i64 x5_7),(Value.string x5_8),(Sl3.v x5_9),(Sl3.v x5_10),(Sl3.v x5_11)]),none]) H24 ?_ ?_
     ·clear h
      refine WS.dr [1,2,3,4,6] [0,0,2,6,14,0,0,64,224,480,1022,2047,4095,8191] 14 (fun hcl=>?_)
      refine DA.tK 1 (some 56) (Value.pointer (some q9)) (DA.tK 2 (some 57) (Value.pointer (some q9)) (DA.tK 3 (some 58) (Value.pointer (some (Addr.add q9 3))) (DA.tD 4 (some 59) (Sl3.v x17) (Abs.det_load (t:=38) (x:=.tmp 58) (a:=(Addr.add q9 3)) (by kernel_rfl) (by kernel_rfl) (by kernel_rfl) (by kernel_rfl) (z1 hx_4 z3)) (DA.tL 6 (some 61) (.val (Value.agg #[(Value.int .i64 x2_0),(Value.int .i64 x2_1),(Value.string x2_2),(Sl3.v x2_3)])) (DA.tP 0 (some 55) (Value.pointer (some q9)) ?_)))))
      refine DA.two 5 7 (by kernel_rfl) ?_ ?_
      ·refine DA.aL 5 (some 60) (.val (Value.agg #[(Value.int .i64 x5_0),(Value.string x5_1),(Value.bool x5_2),(Sl3.v x5_3),(Value.int .i64 x5_4),(Sl3.v x5_5),(Value.int .i64 x5_6),(Value.int .i64 x5_7),(Value.string x5_8),(Sl3.v x5_9),(Sl3.v x5_10),(Sl3.v x5_11)])) ([some (61,[(Value.int .i64 a1_0),(Value.string a1_1),(Value.bool a1_2),(Sl3.v a1_3),(Value.int .i64 a1_4),(Sl3.v a1_5),(Value.int .i64 a1_6),(Value.int .i64 a1_7),(Value.string a1_8),(Sl3.v a1_9),(Sl3.v a1_10),(Sl3.v a1_11)]),some (47,[(Value.int .i64 x2_0),(Value.int .i64 x2_1),(Value.string x2_2),(Sl3.v x2_3)]),some (61,[(Value.int .i64 x5_0),(Value.string x5_1),(Value.bool x5_2),(Sl3.v x5_3),(Value.int .i64 x5_4),(Sl3.v x5_5),(Value.int .i64 x5_6),(Value.int .i64 x5_7),(Value.string x5_8),(Sl3.v x5_9),(Sl3.v x5_10),(Sl3.v x5_11)])]) true (DA.on 7 (DA.aCj 7 (some 62) true (v:=(Value.agg #[(Value.int .i64 x18_0),(Value.int .i64 x18_1),(Value.string x18_2),(Sl3.v x18_3)])) 23 #[(Value.agg #[(Value.int .i64 x2_0),(Value.int .i64 x2_1),(Value.string x2_2),(Sl3.v x2_3)])] (zo hx_7) (DA.on 8 (DA.aHj (H':=H19) 8 (some 63) true (Value.agg #[(Value.int .i64 x5_0),(Value.string x5_1),(Value.bool x5_2),(Sl3.v x5_3),(Value.int .i64 x5_4),(Sl3.v x5_5),(Value.int .i64 x5_6),(Value.int .i64 x5_7),(Value.string x5_8),(Sl3.v x5_9),(Sl3.v x5_10),(Sl3.v x5_11),(Value.int .i64 x18_0),(Value.int .i64 x18_1),(Value.string x18_2),(Sl3.v x18_3)]) (by kernel_rfl) (DA.on 9 (DA.actS 9 (some 64) (.sli 3 1) ([some (61,[(Value.int .i64 a1_0),(Value.string a1_1),(Value.bool a1_2),(Sl3.v a1_3),(Value.int .i64 a1_4),(Sl3.v a1_5),(Value.int .i64 a1_6),(Value.int .i64 a1_7),(Value.string a1_8),(Sl3.v a1_9),(Sl3.v a1_10),(Sl3.v a1_11)]),some (47,[(Value.int .i64 x2_0),(Value.int .i64 x2_1),(Value.string x2_2),(Sl3.v x2_3)]),some (61,[(Value.int .i64 x5_0),(Value.string x5_1),(Value.bool x5_2),(Sl3.v x5_3),(Value.int .i64 x5_4),(Sl3.v x5_5),(Value.int .i64 x5_6),(Value.int .i64 x5_7),(Value.string x5_8),(Sl3.v x5_9),(Sl3.v x5_10),(Sl3.v x5_11)]),some (95,[(Value.int .i64 x5_0),(Value.string x5_1),(Value.bool x5_2),(Sl3.v x5_3),(Value.int .i64 x5_4),(Sl3.v x5_5),(Value.int .i64 x5_6),(Value.int .i64 x5_7),(Value.string x5_8),(Sl3.v x5_9),(Sl3.v x5_10),(Sl3.v x5_11),(Value.int .i64 x18_0),(Value.int .i64 x18_1),(Value.string x18_2),(Sl3.v x18_3)])]) (by kernel_rfl) (by kernel_rfl) (by kernel_rfl) hcl (by kernel_rfl) (by kernel_rfl) (by kernel_rfl) (DA.on 10 (DA.pubK 3 _ _ hx_k20 (by kernel_rfl) rfl rfl (DA.aH (H':=H23) 10 (some 65) (Sl3.v s22) (Abs.run_app (x:=.tmp 59) (y:=.tmp 64) (ts:=#[38,38]) (s:=x17) (z:=(⟨some ⟨k20,0,none⟩,1,1⟩:Sl3)) (by kernel_rfl) (by kernel_rfl) (by kernel_rfl) (by kernel_rfl) hx_10) ?_)))))))))
       refine DA.tP 11 (some 66) (Value.pointer (some q9)) (DA.tP 12 (some 67) (Value.pointer (some (Addr.add q9 3))) (DA.on 13 (DA.aH (H':=H24) 13 none undef (Abs.run_store1 (t:=38) (x:=.tmp 67) (y:=.tmp 65) (a:=(Addr.add q9 3)) (v:=(Sl3.v s22)) (by kernel_rfl) (by kernel_rfl) (by kernel_rfl) (by kernel_rfl) (by kernel_rfl) hx_13) (DA.dn ?_))))
       exact fun a w hs=>jsN (hs.sb 4)
      ·refine DA.aCj 7 (some 62) true (v:=(Value.agg #[(Value.int .i64 x18_0),(Value.int .i64 x18_1),(Value.string x18_2),(Sl3.v x18_3)])) 23 #[(Value.agg #[(Value.int .i64 x2_0),(Value.int .i64 x2_1),(Value.string x2_2),(Sl3.v x2_3)])] (zo hx_7) (DA.on 5 (DA.aL 5 (some 60) (.val (Value.agg #[(Value.int .i64 x5_0),(Value.string x5_1),(Value.bool x5_2),(Sl3.v x5_3),(Value.int .i64 x5_4),(Sl3.v x5_5),(Value.int .i64 x5_6),(Value.int .i64 x5_7),(Value.string x5_8),(Sl3.v x5_9),(Sl3.v x5_10),(Sl3.v x5_11)])) ([some (61,[(Value.int .i64 a1_0),(Value.string a1_1),(Value.bool a1_2),(Sl3.v a1_3),(Value.int .i64 a1_4),(Sl3.v a1_5),(Value.int .i64 a1_6),(Value.int .i64 a1_7),(Value.string a1_8),(Sl3.v a1_9),(Sl3.v a1_10),(Sl3.v a1_11)]),some (47,[(Value.int .i64 x2_0),(Value.int .i64 x2_1),(Value.string x2_2),(Sl3.v x2_3)]),some (61,[(Value.int .i64 x5_0),(Value.string x5_1),(Value.bool x5_2),(Sl3.v x5_3),(Value.int .i64 x5_4),(Sl3.v x5_5),(Value.int .i64 x5_6),(Value.int .i64 x5_7),(Value.string x5_8),(Sl3.v x5_9),(Sl3.v x5_10),(Sl3.v x5_11)])]) true (DA.on 8 (DA.aHj (H':=H19) 8 (some 63) true (Value.agg #[(Value.int .i64 x5_0),(Value.string x5_1),(Value.bool x5_2),(Sl3.v x5_3),(Value.int .i64 x5_4),(Sl3.v x5_5),(Value.int .i64 x5_6),(Value.int .i64 x5_7),(Value.string x5_8),(Sl3.v x5_9),(Sl3.v x5_10),(Sl3.v x5_11),(Value.int .i64 x18_0),(Value.int .i64 x18_1),(Value.string x18_2),(Sl3.v x18_3)]) (by kernel_rfl) (DA.on 9 (DA.actS 9 (some 64) (.sli 3 1) ([some (61,[(Value.int .i64 a1_0),(Value.string a1_1),(Value.bool a1_2),(Sl3.v a1_3),(Value.int .i64 a1_4),(Sl3.v a1_5),(Value.int .i64 a1_6),(Value.int .i64 a1_7),(Value.string a1_8),(Sl3.v a1_9),(Sl3.v a1_10),(Sl3.v a1_11)]),some (47,[(Value.int .i64 x2_0),(Value.int .i64 x2_1),(Value.string x2_2),(Sl3.v x2_3)]),some (61,[(Value.int .i64 x5_0),(Value.string x5_1),(Value.bool x5_2),(Sl3.v x5_3),(Value.int .i64 x5_4),(Sl3.v x5_5),(Value.int .i64 x5_6),(Value.int .i64 x5_7),(Value.string x5_8),(Sl3.v x5_9),(Sl3.v x5_10),(Sl3.v x5_11)]),some (95,[(Value.int .i64 x5_0),(Value.string x5_1),(Value.bool x5_2),(Sl3.v x5_3),(Value.int .i64 x5_4),(Sl3.v x5_5),(Value.int .i64 x5_6),(Value.int .i64 x5_7),(Value.string x5_8),(Sl3.v x5_9),(Sl3.v x5_10),(Sl3.v x5_11),(Value.int .i64 x18_0),(Value.int .i64 x18_1),(Value.string x18_2),(Sl3.v x18_3)])]) (by kernel_rfl) (by kernel_rfl) (by kernel_rfl) hcl (by kernel_rfl) (by kernel_rfl) (by kernel_rfl) (DA.on 10 (DA.pubK 3 _ _ hx_k20 (by kernel_rfl) rfl rfl (DA.aH (H':=H23) 10 (some 65) (Sl3.v s22) (Abs.run_app (x:=.tmp 59) (y:=.tmp 64) (ts:=#[38,38]) (s:=x17) (z:=(⟨some ⟨k20,0,none⟩,1,1⟩:Sl3)) (by kernel_rfl) (by kernel_rfl) (by kernel_rfl) (by kernel_rfl) hx_10) ?_)))))))))
       refine DA.tP 11 (some 66) (Value.pointer (some q9)) (DA.tP 12 (some 67) (Value.pointer (some (Addr.add q9 3))) (DA.on 13 (DA.aH (H':=H24) 13 none undef (Abs.run_store1 (t:=38) (x:=.tmp 67) (y:=.tmp 65) (a:=(Addr.add q9 3)) (v:=(Sl3.v s22)) (by kernel_rfl) (by kernel_rfl) (by kernel_rfl) (by kernel_rfl) (by kernel_rfl) hx_13) (DA.dn ?_))))
       exact fun a w hs=>jsN (hs.sb 4)
     ·refine WS.nxt (WS.sq (WS.rg (RS.mS 3 [(70,.val (Value.pointer (some (Addr.add q9 3)))),kP 69 q9,kP 68 q9] ?_)))
      obtain ⟨x25,hx,h⟩:=bind_some h
      refine RS.ld 71 38 (.tmp 70) (z1 hx z3) (RS.mS 4 [kI 5 0,kI 4 (IntKind.i64.wrap ((x25.n:Int) - 1)),kI 73 (IntKind.i64.wrap ((x25.n:Int) - 1)),kI 72 (x25.n:Int)] (RS.dn (WS.nxt (WS.rt ?_))))
      cases h
      exact fun a w hs=>rtR (rS hs)
  ·refine WS.fx 22 true (ze hp) (WS.cT ?_)
   cases h
 ·refine WS.fx 14 true (za hp) (WS.cT (WS.sq (WS.rg (RS.mS 2 [kI 5 4,kI 4 0] (RS.dn (WS.nxt (WS.rt ?_)))))))
  cases h
  exact fun a w hs=>sqR (rtR (rS hs))
def zjn:(Sl3×Int×AH)→Value
 | (r0,r1,_)=>(Value.tuple #[(Sl3.v r0),(Value.int .i64 r1)])
def zl6 (_:AH):(Sl3×Int×AH)→AH:=fun r=>r.2.2
noncomputable def B4:Code:=(Tryz.f4.body).getD .skip
noncomputable def z72 (L:LC) (m:Nat) (H:AH) (a0:Option Addr):Option (Sl3×Int×AH) :=
 Option.bind (z3v L m H a0 0) fun (_,_,_,_,x2,H3) =>
 if x2=true then
  none
 else
  Option.bind (z2t L H3 a0) fun x4 =>
  if x4=0 then
   Option.bind (z1f L m H3 a0 0 (⟨#[]⟩:ByteArray) false Sl3.nil 0 Sl3.nil 0 0 (⟨#[]⟩:ByteArray) Sl3.nil Sl3.nil Sl3.nil) fun (_,x6,H7) =>
   if x6=4 then
    some (Sl3.nil,4,H7)
   else
    none
  else
   none
theorem zcs {L:LC} {m:Nat} {H:AH} {a0:Option Addr} {r:(Sl3×Int×AH)} (h:z72 L m H a0=some r) :
  CallS Tryz.prog (NE.plain 167) m 4 #[(Value.pointer a0),(Value.agg #[anyV]),anyV] H (zjn r) (zl6 H r):=by
 refine CallS.mk (args:=[(Value.pointer a0),(Value.agg #[anyV]),anyV]) Tryz.func4 (B:=B4) (by kernel_rfl) (fun E _=>?_)
 unfold z72 at h
 refine WS.sq (WS.rg (RS.mL 3 [kI 7 0,kS 6 Sl3.nil,kL 4 0 0] ([some (24,[anyV])]) (RS.dn (WS.nxt (WS.sq (WS.sq (WS.rg (RS.mS 1 [(25,.val (Value.pointer a0))] ?_))))))))
 obtain ⟨⟨x1_0,x1_1,x1_2,x1_3,x2,H3⟩,hx,h⟩:=bind_some h
 try dsimp only at h
 refine RS.cl (some 26) (v:=(Value.tuple #[(Value.agg #[(Value.int .i64 x1_0),(Value.int .i64 x1_1),(Value.string x1_2),(Sl3.v x1_3)]),(Value.bool x2)])) 7 #[(Value.pointer a0),(Value.int .i64 0)] (z90 hx) (RS.mL 6 [kB 9 x2,kL 8 1 0,kB 28 x2,kA 27 #[(Value.int .i64 x1_0),(Value.int .i64 x1_1),(Value.string x1_2),(Sl3.v x1_3)],(24,.val (Value.tuple #[(Value.agg #[(Value.int .i64 x1_0),(Value.int .i64 x1_1),(Value.string x1_2),(Sl3.v x1_3)]),(Value.bool x2)]))] ([some (24,[anyV]),some (47,[(Value.int .i64 x1_0),(Value.int .i64 x1_1),(Value.string x1_2),(Sl3.v x1_3)])]) (RS.dn (WS.nxt (WS.sq (WS.rg (RS.mS 3 [kB 31 (!x2),kB 30 (!x2),kB 29 x2] ?_))))))
 rcases z0 h with ⟨hp,h⟩ | ⟨hp,h⟩
 ·refine RS.fx 31 false (nb_not hp) ?_
  cases h
 ·refine RS.fx 31 true (za hp) (RS.mS 1 [(32,.val (Value.pointer a0))] ?_)
  obtain ⟨x4,hx,h⟩:=bind_some h
  refine RS.cl (some 33) (v:=(Value.int .i64 x4)) 8 #[(Value.pointer a0)] (zq hx) (RS.mS 2 [kB 35 (decide (x4=0)),kB 34 (decide (x4=0))] (RS.dn (WS.nxt ?_)))
  rcases z0 h with ⟨hp,h⟩ | ⟨hp,h⟩
  ·refine WS.fx 35 true (decide_eq_true hp) (WS.cT (WS.sq (WS.rg (RS.mS 2 [kA 38 #[(Value.int .i64 0),(Value.string (⟨#[]⟩:ByteArray)),(Value.bool false),(Sl3.v Sl3.nil),(Value.int .i64 0),(Sl3.v Sl3.nil),(Value.int .i64 0),(Value.int .i64 0),(Value.string (⟨#[]⟩:ByteArray)),(Sl3.v Sl3.nil),(Sl3.v Sl3.nil),(Sl3.v Sl3.nil)],(37,.val (Value.pointer a0))] ?_))))
   obtain ⟨⟨x5,x6,H7⟩,hx,h⟩:=bind_some h
   try dsimp only at h
   refine RS.cl (some 39) (v:=(Value.tuple #[(Value.int .i64 x5),(Value.int .i64 x6)])) 9 #[(Value.pointer a0),(Value.agg #[(Value.int .i64 0),(Value.string (⟨#[]⟩:ByteArray)),(Value.bool false),(Sl3.v Sl3.nil),(Value.int .i64 0),(Sl3.v Sl3.nil),(Value.int .i64 0),(Value.int .i64 0),(Value.string (⟨#[]⟩:ByteArray)),(Sl3.v Sl3.nil),(Sl3.v Sl3.nil),(Sl3.v Sl3.nil)])] (z1o hx) (RS.mS 5 [kI 11 x6,kI 10 x5,kI 41 x6,kI 40 x5,(36,.val (Value.tuple #[(Value.int .i64 x5),(Value.int .i64 x6)]))] (RS.dn (WS.nxt (WS.sq (WS.rg (RS.mS 2 [kB 43 (decide (x6=4)),kI 42 x6] (RS.dn (WS.nxt ?_))))))))
   rcases z0 h with ⟨hp,h⟩ | ⟨hp,h⟩
   ·refine WS.fx 43 true (decide_eq_true hp) (WS.cT (WS.sq (WS.rg (RS.mS 2 [kI 7 4,kS 6 Sl3.nil] (RS.dn (WS.nxt (WS.rt ?_)))))))
    cases h
    exact fun a w hs=>sqR (rtR (rS hs))
   ·refine WS.fx 43 false (decide_eq_false hp) (WS.cF ?_)
    cases h
  ·refine WS.fx 35 false (decide_eq_false hp) (WS.cF ?_)
   cases h
def zkj:(Bool×Int×AH)→Value
 | (r0,r1,_)=>(Value.tuple #[(Value.bool r0),(Value.int .i64 r1)])
def zkr (_:AH):(Bool×Int×AH)→AH:=fun r=>r.2.2
noncomputable def B5:Code:=(Tryz.f5.body).getD .skip
noncomputable def zbe (L:LC) (m:Nat) (H:AH) (a0:Option Addr):Option (Bool×Int×AH) :=
 Option.bind (z72 L m H a0) fun (_,x2,H3) =>
 if x2=0 then
  none
 else
  some (false,x2,H3)
theorem zkl {L:LC} {m:Nat} {H:AH} {a0:Option Addr} {r:(Bool×Int×AH)} (h:zbe L m H a0=some r) :
  CallS Tryz.prog (NE.plain 167) m 5 #[(Value.pointer a0),(Value.agg #[anyV]),anyV] H (zkj r) (zkr H r):=by
 refine CallS.mk (args:=[(Value.pointer a0),(Value.agg #[anyV]),anyV]) Tryz.func5 (B:=B5) (by kernel_rfl) (fun E _=>?_)
 unfold zbe at h
 refine WS.sq (WS.rg (RS.mL 3 [kI 7 0,kB 6 false,kL 4 0 0] ([some (24,[anyV])]) (RS.dn (WS.nxt (WS.sq (WS.rg (RS.mS 3 [(17,.val anyV),kA 16 #[anyV],(15,.val (Value.pointer a0))] ?_)))))))
 obtain ⟨⟨x1,x2,H3⟩,hx,h⟩:=bind_some h
 try dsimp only at h
 refine RS.cl (some 18) (v:=(Value.tuple #[(Sl3.v x1),(Value.int .i64 x2)])) 4 #[(Value.pointer a0),(Value.agg #[anyV]),anyV] (zcs hx) (RS.mS 5 [kI 9 x2,kS 8 x1,kI 20 x2,kS 19 x1,(14,.val (Value.tuple #[(Sl3.v x1),(Value.int .i64 x2)]))] (RS.dn (WS.nxt (WS.sq (WS.sq (WS.rg (RS.mS 2 [kB 22 (!decide (x2=0)),kI 21 x2] (RS.dn (WS.nxt ?_)))))))))
 rcases z0 h with ⟨hp,h⟩ | ⟨hp,h⟩
 ·refine WS.fx 22 false (zh hp) (WS.cF ?_)
  cases h
 ·refine WS.fx 22 true (ze hp) (WS.cT (WS.sq (WS.rg (RS.mS 3 [kI 7 x2,kB 6 false,kI 23 x2] (RS.dn (WS.nxt (WS.rt ?_)))))))
  cases h
  exact fun a w hs=>sqR (rtR (rS hs))
def zgg:(Sl3×AH)→Value
 | (r0,_)=>(Sl3.v r0)
def zhc (_:AH):(Sl3×AH)→AH:=fun r=>r.2
noncomputable def B66:Code:=(Tryz.f66.body).getD .skip
noncomputable def z2e (_L:LC) (_m:Nat) (H:AH) (a0:Sl3):Option (Sl3×AH) :=
 if (isNilS a0)=true then
  some (Sl3.nil,H)
 else
  none
theorem z4k {L:LC} {m:Nat} {H:AH} {a0:Sl3} {r:(Sl3×AH)} (h:z2e L m H a0=some r) :
  CallS Tryz.prog (NE.plain 167) m 66 #[(Sl3.v a0)] H (zgg r) (zhc H r):=by
 refine CallS.mk (args:=[(Sl3.v a0)]) Tryz.func66 (B:=B66) (by kernel_rfl) (fun E _=>?_)
 unfold z2e at h
 refine WS.sq (WS.rg (RS.mS 1 [kS 2 Sl3.nil] (RS.dn (WS.nxt (WS.sq (WS.sq (WS.rg (RS.mS 1 [kS 3 a0] (RS.o (H':=H) (some 4) (Value.bool (isNilS a0)) (z8s (t:=33) (e:=9) (u:=33) (x:=.tmp 3) (y:=.const (Sl3.v Sl3.nil)) (s:=a0) (by kernel_rfl) (by kernel_rfl) (by kernel_rfl) (by kernel_rfl)) ?_)))))))))
 refine RS.dn (WS.nxt ?_)
 rcases z0 h with ⟨hp,h⟩ | ⟨hp,h⟩
 ·refine WS.fx 4 true hp (WS.cT (WS.sq (WS.rg (RS.mS 1 [kS 2 Sl3.nil] (RS.dn (WS.nxt (WS.rt ?_)))))))
  cases h
  exact fun a w hs=>sqR (rtR (rS hs))
 ·refine WS.fx 4 false (b_not hp) (WS.cF ?_)
  cases h
end Go.Proofs.YtdlnojjpbmibdaaGreatDoor
namespace Go.Proofs.YtdlnojjpbmibdaaGreatDoor
open Go Go.Abs
set_option maxRecDepth 100000
def z39:(Sl3×Sl3×Sl3×AH)→Value
 | (r0,r1,r2,_)=>(Value.agg #[(Sl3.v r0),(Sl3.v r1),(Sl3.v r2)])
def z3u (_:AH):(Sl3×Sl3×Sl3×AH)→AH:=fun r=>r.2.2.2
noncomputable def B27:Code:=(Tryz.f27.body).getD .skip
noncomputable def z6u (_L:LC) (_a0_0 a0_1 _a0_2:Sl3):(AH×Int×Sl3×Sl3×Sl3)→Option (Lp (AH×Int×Sl3×Sl3×Sl3) (Sl3×Sl3×Sl3×AH)):=fun (H3,v24_4,w2_5,w2_6,w2_7) =>
 if v24_4<(a0_1.n:Int) then
  none
 else
  some (.brk (H3,v24_4,w2_5,w2_6,w2_7))
def zh9 (_L:LC) (a0_0 a0_1 a0_2:Sl3):(AH×Int×Sl3×Sl3×Sl3)→KN×Lcs:=fun (_,v24_4,w2_5,w2_6,w2_7)=>([kI 24 v24_4,kL 1 0 0,kL 2 1 0,kL 3 2 0,kS 22 a0_1,kI 23 (a0_1.n:Int)],[some (37,[(Sl3.v a0_0),(Sl3.v a0_1),(Sl3.v a0_2)]),some (37,[(Sl3.v Sl3.nil),(Sl3.v Sl3.nil),(Sl3.v Sl3.nil)]),some (37,[(Sl3.v w2_5),(Sl3.v w2_6),(Sl3.v w2_7)])])
noncomputable def z7j (L:LC) (m:Nat) (_a0_0 _a0_1 _a0_2:Sl3) (_v77_14:Int) (_w2_15 _w2_16 _w2_17:Sl3) (_x19_0:ByteArray) (x19_1:Sl3) (_x19_2 _x19_3:Int) (_x19_4:ByteArray) (_x19_5:Sl3):(AH×Int×ByteArray×Sl3×Int×Int×ByteArray×Sl3)→Option (Lp (AH×Int×ByteArray×Sl3×Int×Int×ByteArray×Sl3) (Sl3×Sl3×Sl3×AH)):=fun (H22,v90_23,w4_24,w4_25,w4_26,w4_27,w4_28,w4_29) =>
 if v90_23<(x19_1.n:Int) then
  Option.bind (idxA 4 x19_1 v90_23) fun p30 =>
  Option.bind (rd (deI .i64) H22 (Addr.add p30 0)) fun x31_0 =>
  Option.bind (rd (deI .i64) H22 (Addr.add p30 1)) fun x31_1 =>
  Option.bind (rd deS H22 (Addr.add p30 2)) fun x31_2 =>
  Option.bind (rd deSl H22 (Addr.add p30 3)) fun x31_3 =>
  Option.bind (z3e L (Nat.max m H22.next) H22 x31_0 x31_1 x31_2 x31_3) fun (x32_0,x32_1,x32_2,x32_3,H33) =>
  Option.bind (newS 47 [(Value.int .i64 x32_0),(Value.int .i64 x32_1),(Value.string x32_2),(Sl3.v x32_3)] H33) fun (k34,H35) =>
  Option.bind (appS m 47 4 56 H35 w4_25 (⟨some ⟨k34,0,none⟩,1,1⟩:Sl3)) fun (s36,H37) =>
  some (.next (H37,(IntKind.i64.wrap (v90_23+1)),w4_24,s36,w4_26,w4_27,w4_28,w4_29))
 else
  some (.brk (H22,v90_23,w4_24,w4_25,w4_26,w4_27,w4_28,w4_29))
def zhg (_L:LC) (_m:Nat) (a0_0 a0_1 a0_2:Sl3) (v77_14:Int) (w2_15 w2_16 w2_17:Sl3) (x19_0:ByteArray) (x19_1:Sl3) (x19_2 x19_3:Int) (x19_4:ByteArray) (x19_5:Sl3):(AH×Int×ByteArray×Sl3×Int×Int×ByteArray×Sl3)→KN×Lcs:=fun (_,v90_23,w4_24,w4_25,w4_26,w4_27,w4_28,w4_29)=>([kI 90 v90_23,kL 2 1 0,kL 3 2 0,kL 14 4 0,kS 75 a0_2,kI 76 (a0_2.n:Int),kI 77 v77_14,kS 88 x19_1,kI 89 (x19_1.n:Int)],[some (37,[(Sl3.v a0_0),(Sl3.v a0_1),(Sl3.v a0_2)]),some (37,[(Sl3.v Sl3.nil),(Sl3.v Sl3.nil),(Sl3.v Sl3.nil)]),some (37,[(Sl3.v w2_15),(Sl3.v w2_16),(Sl3.v w2_17)]),some (84,[(Value.string x19_0),(Sl3.v x19_1),(Value.int .i64 x19_2),(Value.int .i64 x19_3),(Value.string x19_4),(Sl3.v x19_5)]),some (84,[(Value.string w4_24),(Sl3.v w4_25),(Value.int .i64 w4_26),(Value.int .i64 w4_27),(Value.string w4_28),(Sl3.v w4_29)])])
noncomputable def z6w (L:LC) (m:Nat) (a0_0 a0_1 a0_2:Sl3):(AH×Int×Sl3×Sl3×Sl3)→Option (Lp (AH×Int×Sl3×Sl3×Sl3) (Sl3×Sl3×Sl3×AH)):=fun (H13,v77_14,w2_15,w2_16,w2_17) =>
 if v77_14<(a0_2.n:Int) then
  Option.bind (idxA 6 a0_2 v77_14) fun p18 =>
  Option.bind (rd deS H13 (Addr.add p18 0)) fun x19_0 =>
  Option.bind (rd deSl H13 (Addr.add p18 1)) fun x19_1 =>
  Option.bind (rd (deI .i64) H13 (Addr.add p18 2)) fun x19_2 =>
  Option.bind (rd (deI .i64) H13 (Addr.add p18 3)) fun x19_3 =>
  Option.bind (rd deS H13 (Addr.add p18 4)) fun x19_4 =>
  Option.bind (rd deSl H13 (Addr.add p18 5)) fun x19_5 =>
  Option.bind (z3e L (Nat.max m H13.next) H13 x19_2 x19_3 x19_4 x19_5) fun (x20_0,x20_1,x20_2,x20_3,H21) =>
  Option.bind (L.run (z7j L m a0_0 a0_1 a0_2 v77_14 w2_15 w2_16 w2_17 x19_0 x19_1 x19_2 x19_3 x19_4 x19_5) (H21,0,x19_0,Sl3.nil,x20_0,x20_1,x20_2,x20_3)) fun o=>match o with
  | .inl (H38,_,w4_40,w4_41,w4_42,w4_43,w4_44,w4_45) =>
   Option.bind (newR 84 1 #[(Value.string w4_40),(Sl3.v w4_41),(Value.int .i64 w4_42),(Value.int .i64 w4_43),(Value.string w4_44),(Sl3.v w4_45)] H38) fun (s46,H47) =>
   Option.bind (appS m 84 6 96 H47 w2_17 s46) fun (s48,H49) =>
   some (.next (H49,(IntKind.i64.wrap (v77_14+1)),w2_15,w2_16,s48))
  | .inr r=>some (.ret r)
 else
  some (.brk (H13,v77_14,w2_15,w2_16,w2_17))
def zh6 (_L:LC) (_m:Nat) (a0_0 a0_1 a0_2:Sl3):(AH×Int×Sl3×Sl3×Sl3)→KN×Lcs:=fun (_,v77_14,w2_15,w2_16,w2_17)=>([kI 77 v77_14,kL 2 1 0,kL 3 2 0,kS 75 a0_2,kI 76 (a0_2.n:Int)],[some (37,[(Sl3.v a0_0),(Sl3.v a0_1),(Sl3.v a0_2)]),some (37,[(Sl3.v Sl3.nil),(Sl3.v Sl3.nil),(Sl3.v Sl3.nil)]),some (37,[(Sl3.v w2_15),(Sl3.v w2_16),(Sl3.v w2_17)])])
noncomputable def z75 (L:LC) (m:Nat) (H:AH) (a0_0 a0_1 a0_2:Sl3):Option (Sl3×Sl3×Sl3×AH) :=
 Option.bind (z2e L m H a0_0) fun (x1,H2) =>
 Option.bind (L.run (z6u L a0_0 a0_1 a0_2) (H2,0,x1,Sl3.nil,Sl3.nil)) fun o=>match o with
 | .inl (H8,_,w2_10,w2_11,w2_12) =>
  Option.bind (L.run (z6w L m a0_0 a0_1 a0_2) (H8,0,w2_10,w2_11,w2_12)) fun o=>match o with
  | .inl (H50,_,w2_52,w2_53,w2_54) =>
   some (w2_52,w2_53,w2_54,H50)
  | .inr r=>some r
 | .inr r=>some r
theorem z8v {E m H L a0_0 a0_1 a0_2} :LoopF Tryz.prog (NE.plain 167) m E Tryz.f27 ((cfst (csnd (cfst (csnd (csnd B27)))))) (zh9 L a0_0 a0_1 a0_2) (fun s=>s.1) 0 z39 (z3u H) (z6u L a0_0 a0_1 a0_2):=by
 rintro ⟨H3,v24_4,w2_5,w2_6,w2_7⟩ o h
 unfold z6u at h
 try dsimp only at h
 refine WS.sq (WS.rg (RS.mS 1 [kB 25 (decide (v24_4<(a0_1.n:Int)))] (RS.dn (WS.nxt (WS.sq ?_)))))
 rcases z0 h with ⟨hp,h⟩ | ⟨hp,h⟩
 ·refine WS.fx 25 true (decide_eq_true hp) (WS.cT ?_)
  cases h
 ·refine WS.fx 25 false (decide_eq_false hp) (WS.cF (WS.ex 0 ?_))
  cases h
  exact fun a w hs=>sqE (lsB rfl (hs.sb 3))
theorem z98 {E H L m a0_0 a0_1 a0_2 v77_14 w2_15 w2_16 w2_17 x19_0 x19_1 x19_2 x19_3 x19_4 x19_5} :LoopF Tryz.prog (NE.plain 167) m E Tryz.f27 ((cfst (csnd (cfst (csnd (csnd (cfst (cfst (csnd (csnd (cfst (cfst (csnd (cfst (csnd (csnd (csnd B27))))))))))))))))) (zhg L m a0_0 a0_1 a0_2 v77_14 w2_15 w2_16 w2_17 x19_0 x19_1 x19_2 x19_3 x19_4 x19_5) (fun s=>s.1) 8 z39 (z3u H) (z7j L m a0_0 a0_1 a0_2 v77_14 w2_15 w2_16 w2_17 x19_0 x19_1 x19_2 x19_3 x19_4 x19_5):=by
 rintro ⟨H22,v90_23,w4_24,w4_25,w4_26,w4_27,w4_28,w4_29⟩ o h
 unfold z7j at h
 try dsimp only at h
 refine WS.sq (WS.rg (RS.mS 1 [kB 91 (decide (v90_23<(x19_1.n:Int)))] (RS.dn (WS.nxt (WS.sq ?_)))))
 rcases z0 h with ⟨hp,h⟩ | ⟨hp,h⟩
 ·refine WS.fx 91 true (decide_eq_true hp) (WS.cT (WS.sk (WS.nxt (WS.sq (WS.bk 9 (WS.sq (WS.rg ?_)))))))
  obtain ⟨p30,hx,h⟩:=bind_some h
  refine RS.ix 92 45 47 (.tmp 88) (.tmp 90) hx ?_
  obtain ⟨x31_0,hx0,h⟩:=bind_some h
  obtain ⟨x31_1,hx1,h⟩:=bind_some h
  obtain ⟨x31_2,hx2,h⟩:=bind_some h
  obtain ⟨x31_3,hx3,h⟩:=bind_some h
  refine RS.la 93 47 (.tmp 92) 4 (z2 (z1 hx0 z5) (z2 (z1 hx1 z5) (z2 (z1 hx2 z9) (z2 (z1 hx3 z3) zm)))) (RS.mL 2 [kL 16 5 0] ([some (37,[(Sl3.v a0_0),(Sl3.v a0_1),(Sl3.v a0_2)]),some (37,[(Sl3.v Sl3.nil),(Sl3.v Sl3.nil),(Sl3.v Sl3.nil)]),some (37,[(Sl3.v w2_15),(Sl3.v w2_16),(Sl3.v w2_17)]),some (84,[(Value.string x19_0),(Sl3.v x19_1),(Value.int .i64 x19_2),(Value.int .i64 x19_3),(Value.string x19_4),(Sl3.v x19_5)]),some (84,[(Value.string w4_24),(Sl3.v w4_25),(Value.int .i64 w4_26),(Value.int .i64 w4_27),(Value.string w4_28),(Sl3.v w4_29)]),some (47,[(Value.int .i64 x31_0),(Value.int .i64 x31_1),(Value.string x31_2),(Sl3.v x31_3)])]) (RS.dn (WS.nxt ?_)))
  obtain ⟨⟨x32_0,x32_1,x32_2,x32_3,H33⟩,hx_3,h⟩:=bind_some h
  try dsimp only at h
  obtain ⟨⟨k34,H35⟩,hx_k34,h⟩:=bind_some h
  try dsimp only at h
  obtain ⟨⟨s36,H37⟩,hx_5,h⟩:=bind_some h
  try dsimp only at h
  refine WS.toone ([kL 2 1 0,kL 3 2 0,kL 14 4 0,kS 75 a0_2,kI 76 (a0_2.n:Int),kI 77 v77_14,kS 88 x19_1,kI 89 (x19_1.n:Int),kI 90 v90_23]) ([some (37,[(Sl3.v a0_0),(Sl3.v a0_1),(Sl3.v a0_2)]),some (37,[(Sl3.v Sl3.nil),(Sl3.v Sl3.nil),(Sl3.v Sl3.nil)]),some (37,[(Sl3.v w2_15),(Sl3.v w2_16),(Sl3.v w2_17)]),some (84,[(Value.string x19_0),(Sl3.v x19_1),(Value.int .i64 x19_2),(Value.int .i64 x19_3),(Value.string x19_4),(Sl3.v x19_5)]),some (84,[(Value.string w4_24),(Sl3.v s36),(Value.int .i64 w4_26),(Value.int .i64 w4_27),(Value.string w4_28),(Sl3.v w4_29)]),some (47,[(Value.int .i64 x31_0),(Value.int .i64 x31_1),(Value.string x31_2),(Sl3.v x31_3)]),none]) H37 ?_ ?_
  ·clear h
   refine WS.dr [2] [0,1,0,4,12,31,63,127] 8 (fun hcl=>?_)
   refine DA.tL 2 (some 96) (.val (Value.agg #[(Value.int .i64 x31_0),(Value.int .i64 x31_1),(Value.string x31_2),(Sl3.v x31_3)])) (DA.restart [0,2] (by kernel_rfl) (DA.tL 0 (some 94) (.loc 4 1) ?_))
   refine DA.two 1 3 (by kernel_rfl) ?_ ?_
   ·refine DA.aL 1 (some 95) (.val (Sl3.v w4_25)) ([some (37,[(Sl3.v a0_0),(Sl3.v a0_1),(Sl3.v a0_2)]),some (37,[(Sl3.v Sl3.nil),(Sl3.v Sl3.nil),(Sl3.v Sl3.nil)]),some (37,[(Sl3.v w2_15),(Sl3.v w2_16),(Sl3.v w2_17)]),some (84,[(Value.string x19_0),(Sl3.v x19_1),(Value.int .i64 x19_2),(Value.int .i64 x19_3),(Value.string x19_4),(Sl3.v x19_5)]),some (84,[(Value.string w4_24),(Sl3.v w4_25),(Value.int .i64 w4_26),(Value.int .i64 w4_27),(Value.string w4_28),(Sl3.v w4_29)]),some (47,[(Value.int .i64 x31_0),(Value.int .i64 x31_1),(Value.string x31_2),(Sl3.v x31_3)])]) true (DA.on 3 (DA.aCj 3 (some 97) true (v:=(Value.agg #[(Value.int .i64 x32_0),(Value.int .i64 x32_1),(Value.string x32_2),(Sl3.v x32_3)])) 23 #[(Value.agg #[(Value.int .i64 x31_0),(Value.int .i64 x31_1),(Value.string x31_2),(Sl3.v x31_3)])] (zo hx_3) (DA.on 4 (DA.actS 4 (some 98) (.sli 6 1) ([some (37,[(Sl3.v a0_0),(Sl3.v a0_1),(Sl3.v a0_2)]),some (37,[(Sl3.v Sl3.nil),(Sl3.v Sl3.nil),(Sl3.v Sl3.nil)]),some (37,[(Sl3.v w2_15),(Sl3.v w2_16),(Sl3.v w2_17)]),some (84,[(Value.string x19_0),(Sl3.v x19_1),(Value.int .i64 x19_2),(Value.int .i64 x19_3),(Value.string x19_4),(Sl3.v x19_5)]),some (84,[(Value.string w4_24),(Sl3.v w4_25),(Value.int .i64 w4_26),(Value.int .i64 w4_27),(Value.string w4_28),(Sl3.v w4_29)]),some (47,[(Value.int .i64 x31_0),(Value.int .i64 x31_1),(Value.string x31_2),(Sl3.v x31_3)]),some (47,[(Value.int .i64 x32_0),(Value.int .i64 x32_1),(Value.string x32_2),(Sl3.v x32_3)])]) (by kernel_rfl) (by kernel_rfl) (by kernel_rfl) hcl (by kernel_rfl) (by kernel_rfl) (by kernel_rfl) (DA.on 5 (DA.pubK 6 _ _ hx_k34 (by kernel_rfl) rfl rfl (DA.aH (H':=H37) 5 (some 99) (Sl3.v s36) (Abs.run_app (x:=.tmp 95) (y:=.tmp 98) (ts:=#[45,45]) (s:=w4_25) (z:=(⟨some ⟨k34,0,none⟩,1,1⟩:Sl3)) (by kernel_rfl) (by kernel_rfl) (by kernel_rfl) (by kernel_rfl) hx_5) (DA.tPL 6 (some 100) (.loc 4 1) (DA.on 7 ?_)))))))))
    refine DA.aL 7 none (.val undef) ([some (37,[(Sl3.v a0_0),(Sl3.v a0_1),(Sl3.v a0_2)]),some (37,[(Sl3.v Sl3.nil),(Sl3.v Sl3.nil),(Sl3.v Sl3.nil)]),some (37,[(Sl3.v w2_15),(Sl3.v w2_16),(Sl3.v w2_17)]),some (84,[(Value.string x19_0),(Sl3.v x19_1),(Value.int .i64 x19_2),(Value.int .i64 x19_3),(Value.string x19_4),(Sl3.v x19_5)]),some (84,[(Value.string w4_24),(Sl3.v s36),(Value.int .i64 w4_26),(Value.int .i64 w4_27),(Value.string w4_28),(Sl3.v w4_29)]),some (47,[(Value.int .i64 x31_0),(Value.int .i64 x31_1),(Value.string x31_2),(Sl3.v x31_3)]),none]) false (DA.dn ?_)
    exact fun a w hs=>jsN (hs.sb 7)
   ·refine DA.aCj 3 (some 97) true (v:=(Value.agg #[(Value.int .i64 x32_0),(Value.int .i64 x32_1),(Value.string x32_2),(Sl3.v x32_3)])) 23 #[(Value.agg #[(Value.int .i64 x31_0),(Value.int .i64 x31_1),(Value.string x31_2),(Sl3.v x31_3)])] (zo hx_3) ?_
    refine DA.two 1 4 (by kernel_rfl) ?_ ?_
    ·refine DA.aL 1 (some 95) (.val (Sl3.v w4_25)) ([some (37,[(Sl3.v a0_0),(Sl3.v a0_1),(Sl3.v a0_2)]),some (37,[(Sl3.v Sl3.nil),(Sl3.v Sl3.nil),(Sl3.v Sl3.nil)]),some (37,[(Sl3.v w2_15),(Sl3.v w2_16),(Sl3.v w2_17)]),some (84,[(Value.string x19_0),(Sl3.v x19_1),(Value.int .i64 x19_2),(Value.int .i64 x19_3),(Value.string x19_4),(Sl3.v x19_5)]),some (84,[(Value.string w4_24),(Sl3.v w4_25),(Value.int .i64 w4_26),(Value.int .i64 w4_27),(Value.string w4_28),(Sl3.v w4_29)]),some (47,[(Value.int .i64 x31_0),(Value.int .i64 x31_1),(Value.string x31_2),(Sl3.v x31_3)])]) true (DA.on 4 (DA.actS 4 (some 98) (.sli 6 1) ([some (37,[(Sl3.v a0_0),(Sl3.v a0_1),(Sl3.v a0_2)]),some (37,[(Sl3.v Sl3.nil),(Sl3.v Sl3.nil),(Sl3.v Sl3.nil)]),some (37,[(Sl3.v w2_15),(Sl3.v w2_16),(Sl3.v w2_17)]),some (84,[(Value.string x19_0),(Sl3.v x19_1),(Value.int .i64 x19_2),(Value.int .i64 x19_3),(Value.string x19_4),(Sl3.v x19_5)]),some (84,[(Value.string w4_24),(Sl3.v w4_25),(Value.int .i64 w4_26),(Value.int .i64 w4_27),(Value.string w4_28),(Sl3.v w4_29)]),some (47,[(Value.int .i64 x31_0),(Value.int .i64 x31_1),(Value.string x31_2),(Sl3.v x31_3)]),some (47,[(Value.int .i64 x32_0),(Value.int .i64 x32_1),(Value.string x32_2),(Sl3.v x32_3)])]) (by kernel_rfl) (by kernel_rfl) (by kernel_rfl) hcl (by kernel_rfl) (by kernel_rfl) (by kernel_rfl) (DA.on 5 (DA.pubK 6 _ _ hx_k34 (by kernel_rfl) rfl rfl (DA.aH (H':=H37) 5 (some 99) (Sl3.v s36) (Abs.run_app (x:=.tmp 95) (y:=.tmp 98) (ts:=#[45,45]) (s:=w4_25) (z:=(⟨some ⟨k34,0,none⟩,1,1⟩:Sl3)) (by kernel_rfl) (by kernel_rfl) (by kernel_rfl) (by kernel_rfl) hx_5) (DA.tPL 6 (some 100) (.loc 4 1) (DA.on 7 (DA.aL 7 none (.val undef) ([some (37,[(Sl3.v a0_0),(Sl3.v a0_1),(Sl3.v a0_2)]),some (37,[(Sl3.v Sl3.nil),(Sl3.v Sl3.nil),(Sl3.v Sl3.nil)]),some (37,[(Sl3.v w2_15),(Sl3.v w2_16),(Sl3.v w2_17)]),some (84,[(Value.string x19_0),(Sl3.v x19_1),(Value.int .i64 x19_2),(Value.int .i64 x19_3),(Value.string x19_4),(Sl3.v x19_5)]),some (84,[(Value.string w4_24),(Sl3.v s36),(Value.int .i64 w4_26),(Value.int .i64 w4_27),(Value.string w4_28),(Sl3.v w4_29)]),some (47,[(Value.int .i64 x31_0),(Value.int .i64 x31_1),(Value.string x31_2),(Sl3.v x31_3)]),none]) false (DA.dn ?_)))))))))
     exact fun a w hs=>jsN (hs.sb 7)
    ·refine DA.actS 4 (some 98) (.sli 6 1) ([some (37,[(Sl3.v a0_0),(Sl3.v a0_1),(Sl3.v a0_2)]),some (37,[(Sl3.v Sl3.nil),(Sl3.v Sl3.nil),(Sl3.v Sl3.nil)]),some (37,[(Sl3.v w2_15),(Sl3.v w2_16),(Sl3.v w2_17)]),some (84,[(Value.string x19_0),(Sl3.v x19_1),(Value.int .i64 x19_2),(Value.int .i64 x19_3),(Value.string x19_4),(Sl3.v x19_5)]),some (84,[(Value.string w4_24),(Sl3.v w4_25),(Value.int .i64 w4_26),(Value.int .i64 w4_27),(Value.string w4_28),(Sl3.v w4_29)]),some (47,[(Value.int .i64 x31_0),(Value.int .i64 x31_1),(Value.string x31_2),(Sl3.v x31_3)]),some (47,[(Value.int .i64 x32_0),(Value.int .i64 x32_1),(Value.string x32_2),(Sl3.v x32_3)])]) (by kernel_rfl) (by kernel_rfl) (by kernel_rfl) hcl (by kernel_rfl) (by kernel_rfl) (by kernel_rfl) (DA.on 1 (DA.aL 1 (some 95) (.val (Sl3.v w4_25)) ([some (37,[(Sl3.v a0_0),(Sl3.v a0_1),(Sl3.v a0_2)]),some (37,[(Sl3.v Sl3.nil),(Sl3.v Sl3.nil),(Sl3.v Sl3.nil)]),some (37,[(Sl3.v w2_15),(Sl3.v w2_16),(Sl3.v w2_17)]),some (84,[(Value.string x19_0),(Sl3.v x19_1),(Value.int .i64 x19_2),(Value.int .i64 x19_3),(Value.string x19_4),(Sl3.v x19_5)]),some (84,[(Value.string w4_24),(Sl3.v w4_25),(Value.int .i64 w4_26),(Value.int .i64 w4_27),(Value.string w4_28),(Sl3.v w4_29)]),some (47,[(Value.int .i64 x31_0),(Value.int .i64 x31_1),(Value.string x31_2),(Sl3.v x31_3)]),some (47,[(Value.int .i64 x32_0),(Value.int .i64 x32_1),(Value.string x32_2),(Sl3.v x32_3)])]) false (DA.on 5 (DA.pubK 6 _ _ hx_k34 (by kernel_rfl) rfl rfl (DA.aH (H':=H37) 5 (some 99) (Sl3.v s36) (Abs.run_app (x:=.tmp 95) (y:=.tmp 98) (ts:=#[45,45]) (s:=w4_25) (z:=(⟨some ⟨k34,0,none⟩,1,1⟩:Sl3)) (by kernel_rfl) (by kernel_rfl) (by kernel_rfl) (by kernel_rfl) hx_5) (DA.tPL 6 (some 100) (.loc 4 1) (DA.on 7 (DA.aL 7 none (.val undef) ([some (37,[(Sl3.v a0_0),(Sl3.v a0_1),(Sl3.v a0_2)]),some (37,[(Sl3.v Sl3.nil),(Sl3.v Sl3.nil),(Sl3.v Sl3.nil)]),some (37,[(Sl3.v w2_15),(Sl3.v w2_16),(Sl3.v w2_17)]),some (84,[(Value.string x19_0),(Sl3.v x19_1),(Value.int .i64 x19_2),(Value.int .i64 x19_3),(Value.string x19_4),(Sl3.v x19_5)]),some (84,[(Value.string w4_24),(Sl3.v s36),(Value.int .i64 w4_26),(Value.int .i64 w4_27),(Value.string w4_28),(Sl3.v w4_29)]),some (47,[(Value.int .i64 x31_0),(Value.int .i64 x31_1),(Value.string x31_2),(Sl3.v x31_3)]),none]) false (DA.dn ?_)))))))))
     exact fun a w hs=>jsN (hs.sb 7)
  ·refine fun a w hs=>bkN ((WS.nxt ?_ a w hs))
   refine WS.rg (RS.mS 2 [kI 90 (IntKind.i64.wrap (v90_23+1)),kI 101 (IntKind.i64.wrap (v90_23+1))] (RS.dn ?_))
   cases h
   exact fun a w hs=>lsN rfl (hs.sb 5)
 ·refine WS.fx 91 false (decide_eq_false hp) (WS.cF (WS.ex 8 ?_))
  cases h
  exact fun a w hs=>sqE (lsB rfl (hs.sb 5))
theorem z97 {E H L m a0_0 a0_1 a0_2} :LoopF Tryz.prog (NE.plain 167) m E Tryz.f27 ((cfst (csnd (cfst (csnd (csnd (csnd B27))))))) (zh6 L m a0_0 a0_1 a0_2) (fun s=>s.1) 6 z39 (z3u H) (z6w L m a0_0 a0_1 a0_2):=by
 rintro ⟨H13,v77_14,w2_15,w2_16,w2_17⟩ o h
 unfold z6w at h
 try dsimp only at h
 refine WS.sq (WS.rg (RS.mS 1 [kB 78 (decide (v77_14<(a0_2.n:Int)))] (RS.dn (WS.nxt (WS.sq ?_)))))
 rcases z0 h with ⟨hp,h⟩ | ⟨hp,h⟩
 ·refine WS.fx 78 true (decide_eq_true hp) (WS.cT (WS.sk (WS.nxt (WS.sq (WS.bk 7 (WS.sq (WS.rg ?_)))))))
  obtain ⟨p18,hx,h⟩:=bind_some h
  refine RS.ix 79 35 84 (.tmp 75) (.tmp 77) hx ?_
  obtain ⟨x19_0,hx0,h⟩:=bind_some h
  obtain ⟨x19_1,hx1,h⟩:=bind_some h
  obtain ⟨x19_2,hx2,h⟩:=bind_some h
  obtain ⟨x19_3,hx3,h⟩:=bind_some h
  obtain ⟨x19_4,hx4,h⟩:=bind_some h
  obtain ⟨x19_5,hx5,h⟩:=bind_some h
  refine RS.la 80 84 (.tmp 79) 6 (z2 (z1 hx0 z9) (z2 (z1 hx1 z3) (z2 (z1 hx2 z5) (z2 (z1 hx3 z5) (z2 (z1 hx4 z9) (z2 (z1 hx5 z3) zm)))))) (RS.mL 2 [kL 13 3 0] ([some (37,[(Sl3.v a0_0),(Sl3.v a0_1),(Sl3.v a0_2)]),some (37,[(Sl3.v Sl3.nil),(Sl3.v Sl3.nil),(Sl3.v Sl3.nil)]),some (37,[(Sl3.v w2_15),(Sl3.v w2_16),(Sl3.v w2_17)]),some (84,[(Value.string x19_0),(Sl3.v x19_1),(Value.int .i64 x19_2),(Value.int .i64 x19_3),(Value.string x19_4),(Sl3.v x19_5)])]) (RS.dn (WS.nxt (WS.sq ?_))))
  obtain ⟨⟨x20_0,x20_1,x20_2,x20_3,H21⟩,hx_4,h⟩:=bind_some h
  try dsimp only at h
  refine WS.toone ([kL 2 1 0,kL 3 2 0,kL 13 3 0,kL 14 4 0,kS 75 a0_2,kI 76 (a0_2.n:Int),kI 77 v77_14]) ([some (37,[(Sl3.v a0_0),(Sl3.v a0_1),(Sl3.v a0_2)]),some (37,[(Sl3.v Sl3.nil),(Sl3.v Sl3.nil),(Sl3.v Sl3.nil)]),some (37,[(Sl3.v w2_15),(Sl3.v w2_16),(Sl3.v w2_17)]),some (84,[(Value.string x19_0),(Sl3.v x19_1),(Value.int .i64 x19_2),(Value.int .i64 x19_3),(Value.string x19_4),(Sl3.v x19_5)]),some (84,[(Value.string x19_0),(Sl3.v Sl3.nil),(Value.int .i64 x20_0),(Value.int .i64 x20_1),(Value.string x20_2),(Sl3.v x20_3)])]) H21 ?_ ?_
  ·clear h
   refine WS.dr [2,3] [0,1,0,4,12,31,0,127] 8 (fun hcl=>?_)
   refine DA.tL 2 (some 83) (.loc 3 2) (DA.tL 3 (some 84) (.val (Value.agg #[(Value.int .i64 x19_2),(Value.int .i64 x19_3),(Value.string x19_4),(Sl3.v x19_5)])) (DA.restart [0,2,3] (by kernel_rfl) (DA.tL 0 (some 81) (.loc 3 0) ?_)))
   refine DA.three 1 4 6 (by kernel_rfl) ?_ ?_ ?_
   ·refine DA.aL 1 (some 82) (.val (Value.string x19_0)) ([some (37,[(Sl3.v a0_0),(Sl3.v a0_1),(Sl3.v a0_2)]),some (37,[(Sl3.v Sl3.nil),(Sl3.v Sl3.nil),(Sl3.v Sl3.nil)]),some (37,[(Sl3.v w2_15),(Sl3.v w2_16),(Sl3.v w2_17)]),some (84,[(Value.string x19_0),(Sl3.v x19_1),(Value.int .i64 x19_2),(Value.int .i64 x19_3),(Value.string x19_4),(Sl3.v x19_5)])]) true ?_
    refine DA.two 4 6 (by kernel_rfl) ?_ ?_
    ·refine DA.aCj 4 (some 85) true (v:=(Value.agg #[(Value.int .i64 x20_0),(Value.int .i64 x20_1),(Value.string x20_2),(Sl3.v x20_3)])) 23 #[(Value.agg #[(Value.int .i64 x19_2),(Value.int .i64 x19_3),(Value.string x19_4),(Sl3.v x19_5)])] (zo hx_4) ?_
     refine DA.two 5 6 (by kernel_rfl) ?_ ?_
     ·refine DA.aHj (H':=H21) 5 (some 86) true (Value.agg #[(Value.string x19_0),(Sl3.v Sl3.nil),(Value.int .i64 x20_0),(Value.int .i64 x20_1),(Value.string x20_2),(Sl3.v x20_3)]) (by kernel_rfl) (DA.on 6 (DA.aL 6 (some 14) (.loc 4 0) ([some (37,[(Sl3.v a0_0),(Sl3.v a0_1),(Sl3.v a0_2)]),some (37,[(Sl3.v Sl3.nil),(Sl3.v Sl3.nil),(Sl3.v Sl3.nil)]),some (37,[(Sl3.v w2_15),(Sl3.v w2_16),(Sl3.v w2_17)]),some (84,[(Value.string x19_0),(Sl3.v x19_1),(Value.int .i64 x19_2),(Value.int .i64 x19_3),(Value.string x19_4),(Sl3.v x19_5)]),some (84,[(Value.string (⟨#[]⟩:ByteArray)),(Sl3.v Sl3.nil),(Value.int .i64 0),(Value.int .i64 0),(Value.string (⟨#[]⟩:ByteArray)),(Sl3.v Sl3.nil)])]) false (DA.on 7 (DA.aL 7 none (.val undef) ([some (37,[(Sl3.v a0_0),(Sl3.v a0_1),(Sl3.v a0_2)]),some (37,[(Sl3.v Sl3.nil),(Sl3.v Sl3.nil),(Sl3.v Sl3.nil)]),some (37,[(Sl3.v w2_15),(Sl3.v w2_16),(Sl3.v w2_17)]),some (84,[(Value.string x19_0),(Sl3.v x19_1),(Value.int .i64 x19_2),(Value.int .i64 x19_3),(Value.string x19_4),(Sl3.v x19_5)]),some (84,[(Value.string x19_0),(Sl3.v Sl3.nil),(Value.int .i64 x20_0),(Value.int .i64 x20_1),(Value.string x20_2),(Sl3.v x20_3)])]) false (DA.dn ?_)))))
      exact fun a w hs=>jsN (hs.sb 5)
     ·refine DA.aL 6 (some 14) (.loc 4 0) ([some (37,[(Sl3.v a0_0),(Sl3.v a0_1),(Sl3.v a0_2)]),some (37,[(Sl3.v Sl3.nil),(Sl3.v Sl3.nil),(Sl3.v Sl3.nil)]),some (37,[(Sl3.v w2_15),(Sl3.v w2_16),(Sl3.v w2_17)]),some (84,[(Value.string x19_0),(Sl3.v x19_1),(Value.int .i64 x19_2),(Value.int .i64 x19_3),(Value.string x19_4),(Sl3.v x19_5)]),some (84,[(Value.string (⟨#[]⟩:ByteArray)),(Sl3.v Sl3.nil),(Value.int .i64 0),(Value.int .i64 0),(Value.string (⟨#[]⟩:ByteArray)),(Sl3.v Sl3.nil)])]) false (DA.on 5 (DA.aH (H':=H21) 5 (some 86) (Value.agg #[(Value.string x19_0),(Sl3.v Sl3.nil),(Value.int .i64 x20_0),(Value.int .i64 x20_1),(Value.string x20_2),(Sl3.v x20_3)]) (by kernel_rfl) (DA.on 7 (DA.aL 7 none (.val undef) ([some (37,[(Sl3.v a0_0),(Sl3.v a0_1),(Sl3.v a0_2)]),some (37,[(Sl3.v Sl3.nil),(Sl3.v Sl3.nil),(Sl3.v Sl3.nil)]),some (37,[(Sl3.v w2_15),(Sl3.v w2_16),(Sl3.v w2_17)]),some (84,[(Value.string x19_0),(Sl3.v x19_1),(Value.int .i64 x19_2),(Value.int .i64 x19_3),(Value.string x19_4),(Sl3.v x19_5)]),some (84,[(Value.string x19_0),(Sl3.v Sl3.nil),(Value.int .i64 x20_0),(Value.int .i64 x20_1),(Value.string x20_2),(Sl3.v x20_3)])]) false (DA.dn ?_)))))
      exact fun a w hs=>jsN (hs.sb 5)
    ·refine DA.aL 6 (some 14) (.loc 4 0) ([some (37,[(Sl3.v a0_0),(Sl3.v a0_1),(Sl3.v a0_2)]),some (37,[(Sl3.v Sl3.nil),(Sl3.v Sl3.nil),(Sl3.v Sl3.nil)]),some (37,[(Sl3.v w2_15),(Sl3.v w2_16),(Sl3.v w2_17)]),some (84,[(Value.string x19_0),(Sl3.v x19_1),(Value.int .i64 x19_2),(Value.int .i64 x19_3),(Value.string x19_4),(Sl3.v x19_5)]),some (84,[(Value.string (⟨#[]⟩:ByteArray)),(Sl3.v Sl3.nil),(Value.int .i64 0),(Value.int .i64 0),(Value.string (⟨#[]⟩:ByteArray)),(Sl3.v Sl3.nil)])]) true (DA.on 4 (DA.aCj 4 (some 85) false (v:=(Value.agg #[(Value.int .i64 x20_0),(Value.int .i64 x20_1),(Value.string x20_2),(Sl3.v x20_3)])) 23 #[(Value.agg #[(Value.int .i64 x19_2),(Value.int .i64 x19_3),(Value.string x19_4),(Sl3.v x19_5)])] (zo hx_4) (DA.on 5 (DA.aH (H':=H21) 5 (some 86) (Value.agg #[(Value.string x19_0),(Sl3.v Sl3.nil),(Value.int .i64 x20_0),(Value.int .i64 x20_1),(Value.string x20_2),(Sl3.v x20_3)]) (by kernel_rfl) (DA.on 7 (DA.aL 7 none (.val undef) ([some (37,[(Sl3.v a0_0),(Sl3.v a0_1),(Sl3.v a0_2)]),some (37,[(Sl3.v Sl3.nil),(Sl3.v Sl3.nil),(Sl3.v Sl3.nil)]),some (37,[(Sl3.v w2_15),(Sl3.v w2_16),(Sl3.v w2_17)]),some (84,[(Value.string x19_0),(Sl3.v x19_1),(Value.int .i64 x19_2),(Value.int .i64 x19_3),(Value.string x19_4),(Sl3.v x19_5)]),some (84,[(Value.string x19_0),(Sl3.v Sl3.nil),(Value.int .i64 x20_0),(Value.int .i64 x20_1),(Value.string x20_2),(Sl3.v x20_3)])]) false (DA.dn ?_)))))))
     exact fun a w hs=>jsN (hs.sb 5)
   ·refine DA.aCj 4 (some 85) true (v:=(Value.agg #[(Value.int .i64 x20_0),(Value.int .i64 x20_1),(Value.string x20_2),(Sl3.v x20_3)])) 23 #[(Value.agg #[(Value.int .i64 x19_2),(Value.int .i64 x19_3),(Value.string x19_4),(Sl3.v x19_5)])] (zo hx_4) ?_
    refine DA.two 1 6 (by kernel_rfl) ?_ ?_
    ·refine DA.aL 1 (some 82) (.val (Value.string x19_0)) ([some (37,[(Sl3.v a0_0),(Sl3.v a0_1),(Sl3.v a0_2)]),some (37,[(Sl3.v Sl3.nil),(Sl3.v Sl3.nil),(Sl3.v Sl3.nil)]),some (37,[(Sl3.v w2_15),(Sl3.v w2_16),(Sl3.v w2_17)]),some (84,[(Value.string x19_0),(Sl3.v x19_1),(Value.int .i64 x19_2),(Value.int .i64 x19_3),(Value.string x19_4),(Sl3.v x19_5)])]) true ?_
     refine DA.two 5 6 (by kernel_rfl) ?_ ?_
     ·refine DA.aHj (H':=H21) 5 (some 86) true (Value.agg #[(Value.string x19_0),(Sl3.v Sl3.nil),(Value.int .i64 x20_0),(Value.int .i64 x20_1),(Value.string x20_2),(Sl3.v x20_3)]) (by kernel_rfl) (DA.on 6 (DA.aL 6 (some 14) (.loc 4 0) ([some (37,[(Sl3.v a0_0),(Sl3.v a0_1),(Sl3.v a0_2)]),some (37,[(Sl3.v Sl3.nil),(Sl3.v Sl3.nil),(Sl3.v Sl3.nil)]),some (37,[(Sl3.v w2_15),(Sl3.v w2_16),(Sl3.v w2_17)]),some (84,[(Value.string x19_0),(Sl3.v x19_1),(Value.int .i64 x19_2),(Value.int .i64 x19_3),(Value.string x19_4),(Sl3.v x19_5)]),some (84,[(Value.string (⟨#[]⟩:ByteArray)),(Sl3.v Sl3.nil),(Value.int .i64 0),(Value.int .i64 0),(Value.string (⟨#[]⟩:ByteArray)),(Sl3.v Sl3.nil)])]) false (DA.on 7 (DA.aL 7 none (.val undef) ([some (37,[(Sl3.v a0_0),(Sl3.v a0_1),(Sl3.v a0_2)]),some (37,[(Sl3.v Sl3.nil),(Sl3.v Sl3.nil),(Sl3.v Sl3.nil)]),some (37,[(Sl3.v w2_15),(Sl3.v w2_16),(Sl3.v w2_17)]),some (84,[(Value.string x19_0),(Sl3.v x19_1),(Value.int .i64 x19_2),(Value.int .i64 x19_3),(Value.string x19_4),(Sl3.v x19_5)]),some (84,[(Value.string x19_0),(Sl3.v Sl3.nil),(Value.int .i64 x20_0),(Value.int .i64 x20_1),(Value.string x20_2),(Sl3.v x20_3)])]) false (DA.dn ?_)))))
      exact fun a w hs=>jsN (hs.sb 5)
     ·refine DA.aL 6 (some 14) (.loc 4 0) ([some (37,[(Sl3.v a0_0),(Sl3.v a0_1),(Sl3.v a0_2)]),some (37,[(Sl3.v Sl3.nil),(Sl3.v Sl3.nil),(Sl3.v Sl3.nil)]),some (37,[(Sl3.v w2_15),(Sl3.v w2_16),(Sl3.v w2_17)]),some (84,[(Value.string x19_0),(Sl3.v x19_1),(Value.int .i64 x19_2),(Value.int .i64 x19_3),(Value.string x19_4),(Sl3.v x19_5)]),some (84,[(Value.string (⟨#[]⟩:ByteArray)),(Sl3.v Sl3.nil),(Value.int .i64 0),(Value.int .i64 0),(Value.string (⟨#[]⟩:ByteArray)),(Sl3.v Sl3.nil)])]) false (DA.on 5 (DA.aH (H':=H21) 5 (some 86) (Value.agg #[(Value.string x19_0),(Sl3.v Sl3.nil),(Value.int .i64 x20_0),(Value.int .i64 x20_1),(Value.string x20_2),(Sl3.v x20_3)]) (by kernel_rfl) (DA.on 7 (DA.aL 7 none (.val undef) ([some (37,[(Sl3.v a0_0),(Sl3.v a0_1),(Sl3.v a0_2)]),some (37,[(Sl3.v Sl3.nil),(Sl3.v Sl3.nil),(Sl3.v Sl3.nil)]),some (37,[(Sl3.v w2_15),(Sl3.v w2_16),(Sl3.v w2_17)]),some (84,[(Value.string x19_0),(Sl3.v x19_1),(Value.int .i64 x19_2),(Value.int .i64 x19_3),(Value.string x19_4),(Sl3.v x19_5)]),some (84,[(Value.string x19_0),(Sl3.v Sl3.nil),(Value.int .i64 x20_0),(Value.int .i64 x20_1),(Value.string x20_2),(Sl3.v x20_3)])]) false (DA.dn ?_)))))
      exact fun a w hs=>jsN (hs.sb 5)
    ·refine DA.aL 6 (some 14) (.loc 4 0) ([some (37,[(Sl3.v a0_0),(Sl3.v a0_1),(Sl3.v a0_2)]),some (37,[(Sl3.v Sl3.nil),(Sl3.v Sl3.nil),(Sl3.v Sl3.nil)]),some (37,[(Sl3.v w2_15),(Sl3.v w2_16),(Sl3.v w2_17)]),some (84,[(Value.string x19_0),(Sl3.v x19_1),(Value.int .i64 x19_2),(Value.int .i64 x19_3),(Value.string x19_4),(Sl3.v x19_5)]),some (84,[(Value.string (⟨#[]⟩:ByteArray)),(Sl3.v Sl3.nil),(Value.int .i64 0),(Value.int .i64 0),(Value.string (⟨#[]⟩:ByteArray)),(Sl3.v Sl3.nil)])]) true (DA.on 1 (DA.aL 1 (some 82) (.val (Value.string x19_0)) ([some (37,[(Sl3.v a0_0),(Sl3.v a0_1),(Sl3.v a0_2)]),some (37,[(Sl3.v Sl3.nil),(Sl3.v Sl3.nil),(Sl3.v Sl3.nil)]),some (37,[(Sl3.v w2_15),(Sl3.v w2_16),(Sl3.v w2_17)]),some (84,[(Value.string x19_0),(Sl3.v x19_1),(Value.int .i64 x19_2),(Value.int .i64 x19_3),(Value.string x19_4),(Sl3.v x19_5)]),some (84,[(Value.string (⟨#[]⟩:ByteArray)),(Sl3.v Sl3.nil),(Value.int .i64 0),(Value.int .i64 0),(Value.string (⟨#[]⟩:ByteArray)),(Sl3.v Sl3.nil)])]) false (DA.on 5 (DA.aH (H':=H21) 5 (some 86) (Value.agg #[(Value.string x19_0),(Sl3.v Sl3.nil),(Value.int .i64 x20_0),(Value.int .i64 x20_1),(Value.string x20_2),(Sl3.v x20_3)]) (by kernel_rfl) (DA.on 7 (DA.aL 7 none (.val undef) ([some (37,[(Sl3.v a0_0),(Sl3.v a0_1),(Sl3.v a0_2)]),some (37,[(Sl3.v Sl3.nil),(Sl3.v Sl3.nil),(Sl3.v Sl3.nil)]),some (37,[(Sl3.v w2_15),(Sl3.v w2_16),(Sl3.v w2_17)]),some (84,[(Value.string x19_0),(Sl3.v x19_1),(Value.int .i64 x19_2),(Value.int .i64 x19_3),(Value.string x19_4),(Sl3.v x19_5)]),some (84,[(Value.string x19_0),(Sl3.v Sl3.nil),(Value.int .i64 x20_0),(Value.int .i64 x20_1),(Value.string x20_2),(Sl3.v x20_3)])]) false (DA.dn ?_)))))))
     exact fun a w hs=>jsN (hs.sb 5)
   ·refine DA.aL 6 (some 14) (.loc 4 0) ([some (37,[(Sl3.v a0_0),(Sl3.v a0_1),(Sl3.v a0_2)]),some (37,[(Sl3.v Sl3.nil),(Sl3.v Sl3.nil),(Sl3.v Sl3.nil)]),some (37,[(Sl3.v w2_15),(Sl3.v w2_16),(Sl3.v w2_17)]),some (84,[(Value.string x19_0),(Sl3.v x19_1),(Value.int .i64 x19_2),(Value.int .i64 x19_3),(Value.string x19_4),(Sl3.v x19_5)]),some (84,[(Value.string (⟨#[]⟩:ByteArray)),(Sl3.v Sl3.nil),(Value.int .i64 0),(Value.int .i64 0),(Value.string (⟨#[]⟩:ByteArray)),(Sl3.v Sl3.nil)])]) true ?_
    refine DA.two 1 4 (by kernel_rfl) ?_ ?_
    ·refine DA.aL 1 (some 82) (.val (Value.string x19_0)) ([some (37,[(Sl3.v a0_0),(Sl3.v a0_1),(Sl3.v a0_2)]),some (37,[(Sl3.v Sl3.nil),(Sl3.v Sl3.nil),(Sl3.v Sl3.nil)]),some (37,[(Sl3.v w2_15),(Sl3.v w2_16),(Sl3.v w2_17)]),some (84,[(Value.string x19_0),(Sl3.v x19_1),(Value.int .i64 x19_2),(Value.int .i64 x19_3),(Value.string x19_4),(Sl3.v x19_5)]),some (84,[(Value.string (⟨#[]⟩:ByteArray)),(Sl3.v Sl3.nil),(Value.int .i64 0),(Value.int .i64 0),(Value.string (⟨#[]⟩:ByteArray)),(Sl3.v Sl3.nil)])]) true (DA.on 4 (DA.aCj 4 (some 85) false (v:=(Value.agg #[(Value.int .i64 x20_0),(Value.int .i64 x20_1),(Value.string x20_2),(Sl3.v x20_3)])) 23 #[(Value.agg #[(Value.int .i64 x19_2),(Value.int .i64 x19_3),(Value.string x19_4),(Sl3.v x19_5)])] (zo hx_4) (DA.on 5 (DA.aH (H':=H21) 5 (some 86) (Value.agg #[(Value.string x19_0),(Sl3.v Sl3.nil),(Value.int .i64 x20_0),(Value.int .i64 x20_1),(Value.string x20_2),(Sl3.v x20_3)]) (by kernel_rfl) (DA.on 7 (DA.aL 7 none (.val undef) ([some (37,[(Sl3.v a0_0),(Sl3.v a0_1),(Sl3.v a0_2)]),some (37,[(Sl3.v Sl3.nil),(Sl3.v Sl3.nil),(Sl3.v Sl3.nil)]),some (37,[(Sl3.v w2_15),(Sl3.v w2_16),(Sl3.v w2_17)]),some (84,[(Value.string x19_0),(Sl3.v x19_1),(Value.int .i64 x19_2),(Value.int .i64 x19_3),(Value.string x19_4),(Sl3.v x19_5)]),some (84,[(Value.string x19_0),(Sl3.v Sl3.nil),(Value.int .i64 x20_0),(Value.int .i64 x20_1),(Value.string x20_2),(Sl3.v x20_3)])]) false (DA.dn ?_)))))))
     exact fun a w hs=>jsN (hs.sb 5)
    ·refine DA.aCj 4 (some 85) true (v:=(Value.agg #[(Value.int .i64 x20_0),(Value.int .i64 x20_1),(Value.string x20_2),(Sl3.v x20_3)])) 23 #[(Value.agg #[(Value.int .i64 x19_2),(Value.int .i64 x19_3),(Value.string x19_4),(Sl3.v x19_5)])] (zo hx_4) (DA.on 1 (DA.aL 1 (some 82) (.val (Value.string x19_0)) ([some (37,[(Sl3.v a0_0),(Sl3.v a0_1),(Sl3.v a0_2)]),some (37,[(Sl3.v Sl3.nil),(Sl3.v Sl3.nil),(Sl3.v Sl3.nil)]),some (37,[(Sl3.v w2_15),(Sl3.v w2_16),(Sl3.v w2_17)]),some (84,[(Value.string x19_0),(Sl3.v x19_1),(Value.int .i64 x19_2),(Value.int .i64 x19_3),(Value.string x19_4),(Sl3.v x19_5)]),some (84,[(Value.string (⟨#[]⟩:ByteArray)),(Sl3.v Sl3.nil),(Value.int .i64 0),(Value.int .i64 0),(Value.string (⟨#[]⟩:ByteArray)),(Sl3.v Sl3.nil)])]) false (DA.on 5 (DA.aH (H':=H21) 5 (some 86) (Value.agg #[(Value.string x19_0),(Sl3.v Sl3.nil),(Value.int .i64 x20_0),(Value.int .i64 x20_1),(Value.string x20_2),(Sl3.v x20_3)]) (by kernel_rfl) (DA.on 7 (DA.aL 7 none (.val undef) ([some (37,[(Sl3.v a0_0),(Sl3.v a0_1),(Sl3.v a0_2)]),some (37,[(Sl3.v Sl3.nil),(Sl3.v Sl3.nil),(Sl3.v Sl3.nil)]),some (37,[(Sl3.v w2_15),(Sl3.v w2_16),(Sl3.v w2_17)]),some (84,[(Value.string x19_0),(Sl3.v x19_1),(Value.int .i64 x19_2),(Value.int .i64 x19_3),(Value.string x19_4),(Sl3.v x19_5)]),some (84,[(Value.string x19_0),(Sl3.v Sl3.nil),(Value.int .i64 x20_0),(Value.int .i64 x20_1),(Value.string x20_2),(Sl3.v x20_3)])]) false (DA.dn ?_)))))))
     exact fun a w hs=>jsN (hs.sb 5)
  ·refine WS.nxt (WS.sq (WS.sq (WS.rg (RS.mS 4 [kI 90 0,kI 89 (x19_1.n:Int),kS 88 x19_1,kL 87 3 1] (RS.dn (WS.nxt (WS.bk 8 ?_)))))))
   obtain ⟨o,hl,h⟩:=bind_some h
   rcases o with ⟨H38,v90_39,w4_40,w4_41,w4_42,w4_43,w4_44,w4_45⟩ | r
   ·try dsimp only at h
    refine WS.lI (z98 (L:=L) (E:=E) (m:=m) (H:=H)) (L.ok hl) 5 ?_
    clear hl
    refine fun a w hs=>bkE ((WS.nxt ?_ a w hs))
    refine WS.rg (RS.mS 3 [kA 104 #[(Value.string w4_40),(Sl3.v w4_41),(Value.int .i64 w4_42),(Value.int .i64 w4_43),(Value.string w4_44),(Sl3.v w4_45)],kS 103 w2_17,kL 102 2 2] ?_)
    obtain ⟨⟨s46,H47⟩,hx,h⟩:=bind_some h
    try dsimp only at h
    refine RS.o (H':=H47) (some 105) (Sl3.v s46) (Abs.run_newR (by kernel_rfl) (by kernel_rfl) hx) ?_
    obtain ⟨⟨s48,H49⟩,hx,h⟩:=bind_some h
    try dsimp only at h
    refine RS.o (H':=H49) (some 106) (Sl3.v s48) (Abs.run_app (x:=.tmp 103) (y:=.tmp 105) (ts:=#[35,35]) (s:=w2_17) (z:=s46) (by kernel_rfl) (by kernel_rfl) (by kernel_rfl) (by kernel_rfl) hx) (RS.mL 2 [kL 107 2 2] ([some (37,[(Sl3.v a0_0),(Sl3.v a0_1),(Sl3.v a0_2)]),some (37,[(Sl3.v Sl3.nil),(Sl3.v Sl3.nil),(Sl3.v Sl3.nil)]),some (37,[(Sl3.v w2_15),(Sl3.v w2_16),(Sl3.v s48)]),some (84,[(Value.string x19_0),(Sl3.v x19_1),(Value.int .i64 x19_2),(Value.int .i64 x19_3),(Value.string x19_4),(Sl3.v x19_5)]),some (84,[(Value.string w4_40),(Sl3.v w4_41),(Value.int .i64 w4_42),(Value.int .i64 w4_43),(Value.string w4_44),(Sl3.v w4_45)])]) (RS.dn ?_))
    refine fun a w hs=>bkN ((WS.nxt ?_ a w hs))
    refine WS.rg (RS.mS 2 [kI 77 (IntKind.i64.wrap (v77_14+1)),kI 108 (IntKind.i64.wrap (v77_14+1))] (RS.dn ?_))
    cases h
    exact fun a w hs=>lsN rfl (hs.sb 3)
   ·try dsimp only at h
    refine WS.lR (z98 (L:=L) (E:=E) (m:=m) (H:=H)) (L.ok hl) 5 ?_
    cases h
    exact fun a w hq=>bkR (sqR (bkR (sqR (lsR rfl hq))))
 ·refine WS.fx 78 false (decide_eq_false hp) (WS.cF (WS.ex 6 ?_))
  cases h
  exact fun a w hs=>sqE (lsB rfl (hs.sb 3))
theorem zch {L:LC} {m:Nat} {H:AH} {a0_0 a0_1 a0_2:Sl3} {r:(Sl3×Sl3×Sl3×AH)} (h:z75 L m H a0_0 a0_1 a0_2=some r) :
  CallS Tryz.prog (NE.plain 167) m 27 #[(Value.agg #[(Sl3.v a0_0),(Sl3.v a0_1),(Sl3.v a0_2)])] H (z39 r) (z3u H r):=by
 refine CallS.mk (args:=[(Value.agg #[(Sl3.v a0_0),(Sl3.v a0_1),(Sl3.v a0_2)])]) Tryz.func27 (B:=B27) (by kernel_rfl) (fun E _=>?_)
 unfold z75 at h
 refine WS.sq (WS.rg (RS.mL 2 [kL 2 1 0,kL 1 0 0] ([some (37,[(Sl3.v a0_0),(Sl3.v a0_1),(Sl3.v a0_2)]),some (37,[(Sl3.v Sl3.nil),(Sl3.v Sl3.nil),(Sl3.v Sl3.nil)])]) (RS.dn (WS.nxt (WS.sq (WS.rg (RS.mS 2 [kS 18 a0_0,kL 17 0 0] ?_)))))))
 obtain ⟨⟨x1,H2⟩,hx,h⟩:=bind_some h
 try dsimp only at h
 refine RS.cl (some 19) (v:=(Sl3.v x1)) 66 #[(Sl3.v a0_0)] (z4k hx) (RS.mL 3 [kL 3 2 0,kA 20 #[(Sl3.v x1),(Sl3.v Sl3.nil),(Sl3.v Sl3.nil)]] ([some (37,[(Sl3.v a0_0),(Sl3.v a0_1),(Sl3.v a0_2)]),some (37,[(Sl3.v Sl3.nil),(Sl3.v Sl3.nil),(Sl3.v Sl3.nil)]),some (37,[(Sl3.v x1),(Sl3.v Sl3.nil),(Sl3.v Sl3.nil)])]) (RS.dn (WS.nxt (WS.sq (WS.sq (WS.rg (RS.mS 4 [kI 24 0,kI 23 (a0_1.n:Int),kS 22 a0_1,kL 21 0 1] (RS.dn (WS.nxt ?_)))))))))
 refine WS.bk 0 ?_
 obtain ⟨o,hl,h⟩:=bind_some h
 rcases o with ⟨H8,v24_9,w2_10,w2_11,w2_12⟩ | r
 ·try dsimp only at h
  refine WS.lI (z8v (L:=L) (E:=E) (m:=m) (H:=H)) (L.ok hl) 3 ?_
  clear hl
  refine fun a w hs=>bkE ((WS.nxt ?_ a w hs))
  refine WS.sq (WS.sq (WS.rg (RS.mS 4 [kI 77 0,kI 76 (a0_2.n:Int),kS 75 a0_2,kL 74 0 2] (RS.dn (WS.nxt (WS.bk 6 ?_))))))
  obtain ⟨o,hl,h⟩:=bind_some h
  rcases o with ⟨H50,v77_51,w2_52,w2_53,w2_54⟩ | r
  ·try dsimp only at h
   refine WS.lI (z97 (L:=L) (E:=E) (m:=m) (H:=H)) (L.ok hl) 3 ?_
   clear hl
   refine fun a w hs=>bkE ((WS.nxt ?_ a w hs))
   refine WS.sq (WS.rg (RS.mL 2 [kA 109 #[(Sl3.v w2_52),(Sl3.v w2_53),(Sl3.v w2_54)]] ([some (37,[(Sl3.v a0_0),(Sl3.v a0_1),(Sl3.v a0_2)]),some (37,[(Sl3.v w2_52),(Sl3.v w2_53),(Sl3.v w2_54)]),some (37,[(Sl3.v w2_52),(Sl3.v w2_53),(Sl3.v w2_54)])]) (RS.dn (WS.nxt (WS.rt ?_)))))
   cases h
   exact fun a w hs=>rtR (rS hs)
  ·try dsimp only at h
   refine WS.lR (z97 (L:=L) (E:=E) (m:=m) (H:=H)) (L.ok hl) 3 ?_
   cases h
   exact fun a w hq=>bkR (sqR (rtR hq))
 ·try dsimp only at h
  refine WS.lR (z8v (L:=L) (E:=E) (m:=m) (H:=H)) (L.ok hl) 3 ?_
  cases h
  exact fun a w hq=>bkR (sqR (rtR hq))
def z9n:Bool→Value
 | r0=>(Value.bool r0)
def zbk (H:AH):Bool→AH:=fun _=>H
noncomputable def B67:Code:=(Tryz.f67.body).getD .skip
noncomputable def zbr (_L:LC) (_H:AH) (_a0_0 a0_1 _a0_2:Sl3):(Int×Int)→Option (Lp (Int×Int) Bool):=fun (v3_1,v24_2) =>
 if v24_2<(a0_1.n:Int) then
  none
 else
  some (.brk (v3_1,v24_2))
def zl7 (_L:LC) (_H:AH) (a0_0 a0_1 a0_2:Sl3):(Int×Int)→KN×Lcs:=fun (v3_1,v24_2)=>([kI 3 v3_1,kI 24 v24_2,kL 1 0 0,kS 22 a0_1,kI 23 (a0_1.n:Int)],[some (37,[(Sl3.v a0_0),(Sl3.v a0_1),(Sl3.v a0_2)])])
noncomputable def zax (_L:LC) (H:AH) (_a0_0 _a0_1 a0_2:Sl3) (_v3_3:Int):Int→Option (Lp Int Bool):=fun v64_5 =>
 if v64_5<(a0_2.n:Int) then
  Option.bind (idxA 6 a0_2 v64_5) fun p6 =>
  Option.bind (rd deS H (Addr.add p6 0)) fun _ =>
  Option.bind (rd deSl H (Addr.add p6 1)) fun x7_1 =>
  Option.bind (rd (deI .i64) H (Addr.add p6 2)) fun _ =>
  Option.bind (rd (deI .i64) H (Addr.add p6 3)) fun _ =>
  Option.bind (rd deS H (Addr.add p6 4)) fun _ =>
  Option.bind (rd deSl H (Addr.add p6 5)) fun _ =>
  if (x7_1.n:Int) > 64 then
   none
  else
   some (.next (IntKind.i64.wrap (v64_5+1)))
 else
  some (.brk v64_5)
def zla (_L:LC) (_H:AH) (a0_0 a0_1 a0_2:Sl3) (v3_3:Int):Int→KN×Lcs:=fun v64_5=>([kI 64 v64_5,kI 3 v3_3,kS 62 a0_2,kI 63 (a0_2.n:Int)],[some (37,[(Sl3.v a0_0),(Sl3.v a0_1),(Sl3.v a0_2)])])
noncomputable def zhb (L:LC) (H:AH) (a0_0 a0_1 a0_2:Sl3):Option Bool :=
 Option.bind (L.run (zbr L H a0_0 a0_1 a0_2) ((IntKind.i64.wrap ((IntKind.i64.wrap ((a0_0.n:Int)+(a0_1.n:Int)))+(a0_2.n:Int))),0)) fun o=>match o with
 | .inl (v3_3,_) =>
  Option.bind (L.run (zax L H a0_0 a0_1 a0_2 v3_3) 0) fun o=>match o with
  | .inl _ =>
   some (decide (v3_3 > 4096))
  | .inr r=>some r
 | .inr r=>some r
theorem zcr {E m L H a0_0 a0_1 a0_2} :LoopF Tryz.prog (NE.plain 167) m E Tryz.f67 ((cfst (csnd (cfst (csnd (csnd B67)))))) (zl7 L H a0_0 a0_1 a0_2) (fun _=>H) 0 z9n (zbk H) (zbr L H a0_0 a0_1 a0_2):=by
 rintro ⟨v3_1,v24_2⟩ o h
 unfold zbr at h
 try dsimp only at h
 refine WS.sq (WS.rg (RS.mS 1 [kB 25 (decide (v24_2<(a0_1.n:Int)))] (RS.dn (WS.nxt (WS.sq ?_)))))
 rcases z0 h with ⟨hp,h⟩ | ⟨hp,h⟩
 ·refine WS.fx 25 true (decide_eq_true hp) (WS.cT ?_)
  cases h
 ·refine WS.fx 25 false (decide_eq_false hp) (WS.cF (WS.ex 0 ?_))
  cases h
  exact fun a w hs=>sqE (lsB rfl (hs.sb 1))
theorem zcn {E m L H a0_0 a0_1 a0_2 v3_3} :LoopF Tryz.prog (NE.plain 167) m E Tryz.f67 ((cfst (csnd (cfst (csnd (csnd (csnd B67))))))) (zla L H a0_0 a0_1 a0_2 v3_3) (fun _=>H) 4 z9n (zbk H) (zax L H a0_0 a0_1 a0_2 v3_3):=by
 rintro v64_5 o h
 unfold zax at h
 try dsimp only at h
 refine WS.sq (WS.rg (RS.mS 1 [kB 65 (decide (v64_5<(a0_2.n:Int)))] (RS.dn (WS.nxt (WS.sq ?_)))))
 rcases z0 h with ⟨hp,h⟩ | ⟨hp,h⟩
 ·refine WS.fx 65 true (decide_eq_true hp) (WS.cT (WS.sk (WS.nxt (WS.sq (WS.bk 5 (WS.sq (WS.rg ?_)))))))
  obtain ⟨p6,hx,h⟩:=bind_some h
  refine RS.ix 66 35 84 (.tmp 62) (.tmp 64) hx ?_
  obtain ⟨x7_0,hx0,h⟩:=bind_some h
  obtain ⟨x7_1,hx1,h⟩:=bind_some h
  obtain ⟨x7_2,hx2,h⟩:=bind_some h
  obtain ⟨x7_3,hx3,h⟩:=bind_some h
  obtain ⟨x7_4,hx4,h⟩:=bind_some h
  obtain ⟨x7_5,hx5,h⟩:=bind_some h
  refine RS.la 67 84 (.tmp 66) 6 (z2 (z1 hx0 z9) (z2 (z1 hx1 z3) (z2 (z1 hx2 z5) (z2 (z1 hx3 z5) (z2 (z1 hx4 z9) (z2 (z1 hx5 z3) zm)))))) (RS.mL 2 [kL 9 1 0] ([some (37,[(Sl3.v a0_0),(Sl3.v a0_1),(Sl3.v a0_2)]),some (84,[(Value.string x7_0),(Sl3.v x7_1),(Value.int .i64 x7_2),(Value.int .i64 x7_3),(Value.string x7_4),(Sl3.v x7_5)])]) (RS.dn (WS.nxt (WS.sq (WS.rg (RS.mS 4 [kB 71 (decide ((x7_1.n:Int) > 64)),kI 70 (x7_1.n:Int),kS 69 x7_1,kL 68 1 1] (RS.dn (WS.nxt ?_))))))))
  rcases z0 h with ⟨hp,h⟩ | ⟨hp,h⟩
  ·refine WS.fx 71 true (decide_eq_true hp) (WS.cT ?_)
   cases h
  ·refine WS.fx 71 false (decide_eq_false hp) (WS.cF (WS.sk ?_))
   refine fun a w hs=>bkN ((WS.nxt ?_ a w hs))
   refine WS.rg (RS.mS 2 [kI 64 (IntKind.i64.wrap (v64_5+1)),kI 72 (IntKind.i64.wrap (v64_5+1))] (RS.dn ?_))
   cases h
   exact fun a w hs=>lsN rfl (hs.sb 1)
 ·refine WS.fx 65 false (decide_eq_false hp) (WS.cF (WS.ex 4 ?_))
  cases h
  exact fun a w hs=>sqE (lsB rfl (hs.sb 1))
theorem znr {L:LC} {m:Nat} {H:AH} {a0_0 a0_1 a0_2:Sl3} {r:Bool} (h:zhb L H a0_0 a0_1 a0_2=some r) :
  CallS Tryz.prog (NE.plain 167) m 67 #[(Value.agg #[(Sl3.v a0_0),(Sl3.v a0_1),(Sl3.v a0_2)])] H (z9n r) (zbk H r):=by
 refine CallS.mk (args:=[(Value.agg #[(Sl3.v a0_0),(Sl3.v a0_1),(Sl3.v a0_2)])]) Tryz.func67 (B:=B67) (by kernel_rfl) (fun E _=>?_)
 unfold zhb at h
 refine WS.sq (WS.rg (RS.mL 2 [kB 2 false,kL 1 0 0] ([some (37,[(Sl3.v a0_0),(Sl3.v a0_1),(Sl3.v a0_2)])]) (RS.dn (WS.nxt (WS.sq (WS.rg (RS.mS 12 [kI 3 (IntKind.i64.wrap ((IntKind.i64.wrap ((a0_0.n:Int)+(a0_1.n:Int)))+(a0_2.n:Int))),kI 20 (IntKind.i64.wrap ((IntKind.i64.wrap ((a0_0.n:Int)+(a0_1.n:Int)))+(a0_2.n:Int))),kI 19 (a0_2.n:Int),kS 18 a0_2,kL 17 0 2,kI 16 (IntKind.i64.wrap ((a0_0.n:Int)+(a0_1.n:Int))),kI 15 (a0_1.n:Int),kS 14 a0_1,kL 13 0 1,kI 12 (a0_0.n:Int),kS 11 a0_0,kL 10 0 0] (RS.dn (WS.nxt ?_)))))))))
 refine WS.sq (WS.sq (WS.rg (RS.mS 4 [kI 24 0,kI 23 (a0_1.n:Int),kS 22 a0_1,kL 21 0 1] (RS.dn (WS.nxt (WS.bk 0 ?_))))))
 obtain ⟨o,hl,h⟩:=bind_some h
 rcases o with ⟨v3_3,v24_4⟩ | r
 ·try dsimp only at h
  refine WS.lI (zcr (L:=L) (E:=E) (m:=m) (H:=H)) (L.ok hl) 1 ?_
  clear hl
  refine fun a w hs=>bkE ((WS.nxt ?_ a w hs))
  refine WS.sq (WS.sq (WS.rg (RS.mS 4 [kI 64 0,kI 63 (a0_2.n:Int),kS 62 a0_2,kL 61 0 2] (RS.dn (WS.nxt (WS.bk 4 ?_))))))
  obtain ⟨o,hl,h⟩:=bind_some h
  rcases o with v64_8 | r
  ·try dsimp only at h
   refine WS.lI (zcn (L:=L) (E:=E) (m:=m) (H:=H)) (L.ok hl) 1 ?_
   clear hl
   refine fun a w hs=>bkE ((WS.nxt ?_ a w hs))
   refine WS.sq (WS.rg (RS.mS 3 [kB 2 (decide (v3_3 > 4096)),kB 74 (decide (v3_3 > 4096)),kI 73 v3_3] (RS.dn (WS.nxt (WS.rt ?_)))))
   cases h
   exact fun a w hs=>rtR (rS hs)
  ·try dsimp only at h
   refine WS.lR (zcn (L:=L) (E:=E) (m:=m) (H:=H)) (L.ok hl) 1 ?_
   cases h
   exact fun a w hq=>bkR (sqR (rtR hq))
 ·try dsimp only at h
  refine WS.lR (zcr (L:=L) (E:=E) (m:=m) (H:=H)) (L.ok hl) 1 ?_
  cases h
  exact fun a w hq=>bkR (sqR (rtR hq))
def z8j:(Sl3×Sl3×AH)→Value
 | (r0,r1,_)=>(Value.tuple #[(Sl3.v r0),(Sl3.v r1)])
def z9o (_:AH):(Sl3×Sl3×AH)→AH:=fun r=>r.2.2
noncomputable def B68:Code:=(Tryz.f68.body).getD .skip
noncomputable def za2 (_L:LC) (_a0_0 a0_1 _a0_2:Sl3):(AH×Sl3×Sl3×Int)→Option (Lp (AH×Sl3×Sl3×Int) (Sl3×Sl3×AH)):=fun (H3,v4_4,v5_5,v20_6) =>
 if v20_6<(a0_1.n:Int) then
  none
 else
  some (.brk (H3,v4_4,v5_5,v20_6))
def zki (_L:LC) (a0_0 a0_1 a0_2:Sl3):(AH×Sl3×Sl3×Int)→KN×Lcs:=fun (_,v4_4,v5_5,v20_6)=>([kS 4 v4_4,kS 5 v5_5,kI 20 v20_6,kL 1 0 0,kS 18 a0_1,kI 19 (a0_1.n:Int)],[some (37,[(Sl3.v a0_0),(Sl3.v a0_1),(Sl3.v a0_2)])])
noncomputable def za1 (_L:LC) (m:Nat) (_a0_0 _a0_1:Sl3) (a0_2 _v4_8:Sl3):(AH×Sl3×Int)→Option (Lp (AH×Sl3×Int) (Sl3×Sl3×AH)):=fun (H11,v5_12,v59_13) =>
 if v59_13<(a0_2.n:Int) then
  Option.bind (idxA 6 a0_2 v59_13) fun p14 =>
  Option.bind (rd deS H11 (Addr.add p14 0)) fun x15_0 =>
  Option.bind (rd deSl H11 (Addr.add p14 1)) fun _ =>
  Option.bind (rd (deI .i64) H11 (Addr.add p14 2)) fun _ =>
  Option.bind (rd (deI .i64) H11 (Addr.add p14 3)) fun _ =>
  Option.bind (rd deS H11 (Addr.add p14 4)) fun _ =>
  Option.bind (rd deSl H11 (Addr.add p14 5)) fun _ =>
  Option.bind (newR 9 1 #[(Value.string x15_0)] H11) fun (s16,H17) =>
  Option.bind (appS m 9 1 16 H17 v5_12 s16) fun (s18,H19) =>
  some (.next (H19,s18,(IntKind.i64.wrap (v59_13+1))))
 else
  some (.brk (H11,v5_12,v59_13))
def zjt (_L:LC) (_m:Nat) (a0_0 a0_1:Sl3) (a0_2 v4_8:Sl3):(AH×Sl3×Int)→KN×Lcs:=fun (_,v5_12,v59_13)=>([kS 5 v5_12,kI 59 v59_13,kS 4 v4_8,kS 57 a0_2,kI 58 (a0_2.n:Int)],[some (37,[(Sl3.v a0_0),(Sl3.v a0_1),(Sl3.v a0_2)])])
noncomputable def zf7 (L:LC) (m:Nat) (H:AH) (a0_0 a0_1 a0_2:Sl3):Option (Sl3×Sl3×AH) :=
 Option.bind (z2e L m H a0_0) fun (x1,H2) =>
 Option.bind (L.run (za2 L a0_0 a0_1 a0_2) (H2,x1,Sl3.nil,0)) fun o=>match o with
 | .inl (H7,v4_8,v5_9,_) =>
  Option.bind (L.run (za1 L m a0_0 a0_1 a0_2 v4_8) (H7,v5_9,0)) fun o=>match o with
  | .inl (H20,v5_21,_) =>
   some (v4_8,v5_21,H20)
  | .inr r=>some r
 | .inr r=>some r
theorem zc1 {E m H L a0_0 a0_1 a0_2} :LoopF Tryz.prog (NE.plain 167) m E Tryz.f68 ((cfst (csnd (cfst (csnd (csnd (csnd B68))))))) (zki L a0_0 a0_1 a0_2) (fun s=>s.1) 0 z8j (z9o H) (za2 L a0_0 a0_1 a0_2):=by
 rintro ⟨H3,v4_4,v5_5,v20_6⟩ o h
 unfold za2 at h
 try dsimp only at h
 refine WS.sq (WS.rg (RS.mS 1 [kB 21 (decide (v20_6<(a0_1.n:Int)))] (RS.dn (WS.nxt (WS.sq ?_)))))
 rcases z0 h with ⟨hp,h⟩ | ⟨hp,h⟩
 ·refine WS.fx 21 true (decide_eq_true hp) (WS.cT ?_)
  cases h
 ·refine WS.fx 21 false (decide_eq_false hp) (WS.cF (WS.ex 0 ?_))
  cases h
  exact fun a w hs=>sqE (lsB rfl (hs.sb 1))
theorem zb6 {E H L m a0_0 a0_1 a0_2 v4_8} :LoopF Tryz.prog (NE.plain 167) m E Tryz.f68 ((cfst (csnd (cfst (csnd (csnd (csnd (csnd B68)))))))) (zjt L m a0_0 a0_1 a0_2 v4_8) (fun s=>s.1) 6 z8j (z9o H) (za1 L m a0_0 a0_1 a0_2 v4_8):=by
 rintro ⟨H11,v5_12,v59_13⟩ o h
 unfold za1 at h
 try dsimp only at h
 refine WS.sq (WS.rg (RS.mS 1 [kB 60 (decide (v59_13<(a0_2.n:Int)))] (RS.dn (WS.nxt (WS.sq ?_)))))
 rcases z0 h with ⟨hp,h⟩ | ⟨hp,h⟩
 ·refine WS.fx 60 true (decide_eq_true hp) (WS.cT (WS.sk (WS.nxt (WS.sq (WS.bk 7 (WS.sq (WS.rg ?_)))))))
  obtain ⟨p14,hx,h⟩:=bind_some h
  refine RS.ix 61 35 84 (.tmp 57) (.tmp 59) hx ?_
  obtain ⟨x15_0,hx0,h⟩:=bind_some h
  obtain ⟨x15_1,hx1,h⟩:=bind_some h
  obtain ⟨x15_2,hx2,h⟩:=bind_some h
  obtain ⟨x15_3,hx3,h⟩:=bind_some h
  obtain ⟨x15_4,hx4,h⟩:=bind_some h
  obtain ⟨x15_5,hx5,h⟩:=bind_some h
  refine RS.la 62 84 (.tmp 61) 6 (z2 (z1 hx0 z9) (z2 (z1 hx1 z3) (z2 (z1 hx2 z5) (z2 (z1 hx3 z5) (z2 (z1 hx4 z9) (z2 (z1 hx5 z3) zm)))))) (RS.mL 2 [kL 13 1 0] ([some (37,[(Sl3.v a0_0),(Sl3.v a0_1),(Sl3.v a0_2)]),some (84,[(Value.string x15_0),(Sl3.v x15_1),(Value.int .i64 x15_2),(Value.int .i64 x15_3),(Value.string x15_4),(Sl3.v x15_5)])]) (RS.dn (WS.nxt (WS.rg (RS.mS 3 [kT 65 x15_0,kL 64 1 0,kS 63 v5_12] ?_)))))
  obtain ⟨⟨s16,H17⟩,hx,h⟩:=bind_some h
  try dsimp only at h
  refine RS.o (H':=H17) (some 66) (Sl3.v s16) (Abs.run_newR (by kernel_rfl) (by kernel_rfl) hx) ?_
  obtain ⟨⟨s18,H19⟩,hx,h⟩:=bind_some h
  try dsimp only at h
  refine RS.o (H':=H19) (some 67) (Sl3.v s18) (Abs.run_app (x:=.tmp 63) (y:=.tmp 66) (ts:=#[33,33]) (s:=v5_12) (z:=s16) (by kernel_rfl) (by kernel_rfl) (by kernel_rfl) (by kernel_rfl) hx) (RS.mS 1 [kS 5 s18] (RS.dn ?_))
  refine fun a w hs=>bkN ((WS.nxt ?_ a w hs))
  refine WS.rg (RS.mS 2 [kI 59 (IntKind.i64.wrap (v59_13+1)),kI 68 (IntKind.i64.wrap (v59_13+1))] (RS.dn ?_))
  cases h
  exact fun a w hs=>lsN rfl (hs.sb 1)
 ·refine WS.fx 60 false (decide_eq_false hp) (WS.cF (WS.ex 6 ?_))
  cases h
  exact fun a w hs=>sqE (lsB rfl (hs.sb 1))
theorem zn9 {L:LC} {m:Nat} {H:AH} {a0_0 a0_1 a0_2:Sl3} {r:(Sl3×Sl3×AH)} (h:zf7 L m H a0_0 a0_1 a0_2=some r) :
  CallS Tryz.prog (NE.plain 167) m 68 #[(Value.agg #[(Sl3.v a0_0),(Sl3.v a0_1),(Sl3.v a0_2)])] H (z8j r) (z9o H r):=by
 refine CallS.mk (args:=[(Value.agg #[(Sl3.v a0_0),(Sl3.v a0_1),(Sl3.v a0_2)])]) Tryz.func68 (B:=B68) (by kernel_rfl) (fun E _=>?_)
 unfold zf7 at h
 refine WS.sq (WS.rg (RS.mL 3 [kS 3 Sl3.nil,kS 2 Sl3.nil,kL 1 0 0] ([some (37,[(Sl3.v a0_0),(Sl3.v a0_1),(Sl3.v a0_2)])]) (RS.dn (WS.nxt (WS.sq (WS.rg (RS.mS 2 [kS 15 a0_0,kL 14 0 0] ?_)))))))
 obtain ⟨⟨x1,H2⟩,hx,h⟩:=bind_some h
 try dsimp only at h
 refine RS.cl (some 16) (v:=(Sl3.v x1)) 66 #[(Sl3.v a0_0)] (z4k hx) (RS.mS 1 [kS 4 x1] (RS.dn (WS.nxt (WS.sq (WS.rg (RS.mS 1 [kS 5 Sl3.nil] (RS.dn (WS.nxt (WS.sq ?_)))))))))
 refine WS.sq (WS.rg (RS.mS 4 [kI 20 0,kI 19 (a0_1.n:Int),kS 18 a0_1,kL 17 0 1] (RS.dn (WS.nxt (WS.bk 0 ?_)))))
 obtain ⟨o,hl,h⟩:=bind_some h
 rcases o with ⟨H7,v4_8,v5_9,v20_10⟩ | r
 ·try dsimp only at h
  refine WS.lI (zc1 (L:=L) (E:=E) (m:=m) (H:=H)) (L.ok hl) 1 ?_
  clear hl
  refine fun a w hs=>bkE ((WS.nxt ?_ a w hs))
  refine WS.sq (WS.sq (WS.rg (RS.mS 4 [kI 59 0,kI 58 (a0_2.n:Int),kS 57 a0_2,kL 56 0 2] (RS.dn (WS.nxt (WS.bk 6 ?_))))))
  obtain ⟨o,hl,h⟩:=bind_some h
  rcases o with ⟨H20,v5_21,v59_22⟩ | r
  ·try dsimp only at h
   refine WS.lI (zb6 (L:=L) (E:=E) (m:=m) (H:=H)) (L.ok hl) 1 ?_
   clear hl
   refine fun a w hs=>bkE ((WS.nxt ?_ a w hs))
   refine WS.sq (WS.rg (RS.mS 4 [kS 3 v5_21,kS 2 v4_8,kS 70 v5_21,kS 69 v4_8] (RS.dn (WS.nxt (WS.rt ?_)))))
   cases h
   exact fun a w hs=>rtR (rS hs)
  ·try dsimp only at h
   refine WS.lR (zb6 (L:=L) (E:=E) (m:=m) (H:=H)) (L.ok hl) 1 ?_
   cases h
   exact fun a w hq=>bkR (sqR (rtR hq))
 ·try dsimp only at h
  refine WS.lR (zc1 (L:=L) (E:=E) (m:=m) (H:=H)) (L.ok hl) 1 ?_
  cases h
  exact fun a w hq=>bkR (sqR (rtR hq))
end Go.Proofs.YtdlnojjpbmibdaaGreatDoor
namespace Go.Proofs.YtdlnojjpbmibdaaGreatDoor
open Go Go.Abs
set_option maxRecDepth 100000
def zg2:Bool→Value
 | r0=>(Value.bool r0)
def zhp (H:AH):Bool→AH:=fun _=>H
noncomputable def B69:Code:=(Tryz.f69.body).getD .skip
noncomputable def zbj (_L:LC) (a0:ByteArray):Int→Option (Lp Int Bool):=fun v24_3 =>
 if v24_3<(a0.size:Int) then
  Option.bind (bytA a0 v24_3) fun x4 =>
  if x4<32 then
   none
  else
   Option.bind (bytA a0 v24_3) fun x5 =>
   if x5 > 126 then
    none
   else
    Option.bind (bytA a0 v24_3) fun x6 =>
    if x6=124 then
     none
    else
     Option.bind (bytA a0 v24_3) fun x7 =>
     if x7=92 then
      none
     else
      some (.next (IntKind.i64.wrap (v24_3+1)))
 else
  some (.brk v24_3)
def zlg (_L:LC) (a0:ByteArray):Int→KN×Lcs:=fun v24_3=>([kI 24 v24_3,kT 0 a0,kI 23 (a0.size:Int)],[])
noncomputable def zi7 (L:LC) (a0:ByteArray):Option Bool :=
 if (a0.size:Int)<1 then
  none
 else
  if (a0.size:Int) > 200 then
   none
  else
   Option.bind (bytA a0 0) fun x1 =>
   if x1=64 then
    none
   else
    Option.bind (bytA a0 0) fun x2 =>
    if x2=46 then
     none
    else
     Option.bind (L.run (zbj L a0) 0) fun o=>match o with
     | .inl _ =>
      some true
     | .inr r=>some r
theorem zcb {E m H L a0} :LoopF Tryz.prog (NE.plain 167) m E Tryz.f69 ((cfst (csnd (cfst (csnd (csnd B69)))))) (zlg L a0) (fun _=>H) 0 zg2 (zhp H) (zbj L a0):=by
 rintro v24_3 o h
 unfold zbj at h
 try dsimp only at h
 refine WS.sq (WS.rg (RS.mS 1 [kB 25 (decide (v24_3<(a0.size:Int)))] (RS.dn (WS.nxt (WS.sq ?_)))))
 rcases z0 h with ⟨hp,h⟩ | ⟨hp,h⟩
 ·refine WS.fx 25 true (decide_eq_true hp) (WS.cT (WS.sk (WS.nxt (WS.sq (WS.bk 1 (WS.sq (WS.rg (RS.mS 2 [kI 3 v24_3,kI 26 v24_3] (RS.dn ?_)))))))))
  refine WS.nxt (WS.sq (WS.rg (RS.mS 2 [kI 28 v24_3,kT 27 a0] ?_)))
  obtain ⟨x4,hx,h⟩:=bind_some h
  refine RS.o (H':=H) (some 29) (Value.int .u8 x4) (Abs.run_byt (t:=9) (x:=.tmp 27) (y:=.tmp 28) (s:=a0) (k:=.i64) (i:=v24_3) (by kernel_rfl) (by kernel_rfl) (by kernel_rfl) (by kernel_rfl) hx) (RS.mS 2 [kB 31 (decide (x4<32)),kB 30 (decide (x4<32))] ?_)
  rcases z0 h with ⟨hp,h⟩ | ⟨hp,h⟩
  ·refine RS.fx 31 true (decide_eq_true hp) ?_
   cases h
  ·refine RS.fx 31 false (decide_eq_false hp) (RS.mS 2 [kI 33 v24_3,kT 32 a0] ?_)
   obtain ⟨x5,hx,h⟩:=bind_some h
   refine RS.o (H':=H) (some 34) (Value.int .u8 x5) (Abs.run_byt (t:=9) (x:=.tmp 32) (y:=.tmp 33) (s:=a0) (k:=.i64) (i:=v24_3) (by kernel_rfl) (by kernel_rfl) (by kernel_rfl) (by kernel_rfl) hx) (RS.mS 3 [kB 37 (decide (x5 > 126)),kB 36 (decide (x5 > 126)),kB 35 (decide (x5 > 126))] ?_)
   rcases z0 h with ⟨hp,h⟩ | ⟨hp,h⟩
   ·refine RS.fx 37 true (decide_eq_true hp) ?_
    cases h
   ·refine RS.fx 37 false (decide_eq_false hp) (RS.mS 2 [kI 39 v24_3,kT 38 a0] ?_)
    obtain ⟨x6,hx,h⟩:=bind_some h
    refine RS.o (H':=H) (some 40) (Value.int .u8 x6) (Abs.run_byt (t:=9) (x:=.tmp 38) (y:=.tmp 39) (s:=a0) (k:=.i64) (i:=v24_3) (by kernel_rfl) (by kernel_rfl) (by kernel_rfl) (by kernel_rfl) hx) (RS.mS 3 [kB 43 (decide (x6=124)),kB 42 (decide (x6=124)),kB 41 (decide (x6=124))] ?_)
    rcases z0 h with ⟨hp,h⟩ | ⟨hp,h⟩
    ·refine RS.fx 43 true (decide_eq_true hp) ?_
     cases h
    ·refine RS.fx 43 false (decide_eq_false hp) (RS.mS 2 [kI 45 v24_3,kT 44 a0] ?_)
     obtain ⟨x7,hx,h⟩:=bind_some h
     refine RS.o (H':=H) (some 46) (Value.int .u8 x7) (Abs.run_byt (t:=9) (x:=.tmp 44) (y:=.tmp 45) (s:=a0) (k:=.i64) (i:=v24_3) (by kernel_rfl) (by kernel_rfl) (by kernel_rfl) (by kernel_rfl) hx) (RS.mS 2 [kB 48 (decide (x7=92)),kB 47 (decide (x7=92))] (RS.dn (WS.nxt ?_)))
     rcases z0 h with ⟨hp,h⟩ | ⟨hp,h⟩
     ·refine WS.fx 48 true (decide_eq_true hp) (WS.cT ?_)
      cases h
     ·refine WS.fx 48 false (decide_eq_false hp) (WS.cF (WS.sk ?_))
      refine fun a w hs=>bkN ((WS.nxt ?_ a w hs))
      refine WS.rg (RS.mS 2 [kI 24 (IntKind.i64.wrap (v24_3+1)),kI 49 (IntKind.i64.wrap (v24_3+1))] (RS.dn ?_))
      cases h
      exact fun a w hs=>lsN rfl (hs.sb 0)
 ·refine WS.fx 25 false (decide_eq_false hp) (WS.cF (WS.ex 0 ?_))
  cases h
  exact fun a w hs=>sqE (lsB rfl (hs.sb 0))
theorem znt {L:LC} {m:Nat} {H:AH} {a0:ByteArray} {r:Bool} (h:zi7 L a0=some r) :
  CallS Tryz.prog (NE.plain 167) m 69 #[(Value.string a0)] H (zg2 r) (zhp H r):=by
 refine CallS.mk (args:=[(Value.string a0)]) Tryz.func69 (B:=B69) (by kernel_rfl) (fun E _=>?_)
 unfold zi7 at h
 refine WS.sq (WS.rg (RS.mS 1 [kB 2 false] (RS.dn (WS.nxt (WS.sq (WS.sq (WS.rg (RS.mS 4 [kB 7 (decide ((a0.size:Int)<1)),kB 6 (decide ((a0.size:Int)<1)),kI 5 (a0.size:Int),kT 4 a0] ?_))))))))
 rcases z0 h with ⟨hp,h⟩ | ⟨hp,h⟩
 ·refine RS.fx 7 true (decide_eq_true hp) ?_
  cases h
 ·refine RS.fx 7 false (decide_eq_false hp) (RS.mS 5 [kB 12 (decide ((a0.size:Int) > 200)),kB 11 (decide ((a0.size:Int) > 200)),kB 10 (decide ((a0.size:Int) > 200)),kI 9 (a0.size:Int),kT 8 a0] ?_)
  rcases z0 h with ⟨hp,h⟩ | ⟨hp,h⟩
  ·refine RS.fx 12 true (decide_eq_true hp) ?_
   cases h
  ·refine RS.fx 12 false (decide_eq_false hp) (RS.mS 1 [kT 13 a0] ?_)
   obtain ⟨x1,hx,h⟩:=bind_some h
   refine RS.o (H':=H) (some 14) (Value.int .u8 x1) (Abs.run_byt (t:=9) (x:=.tmp 13) (y:=.const (Value.int .i64 0)) (s:=a0) (k:=.i64) (i:=0) (by kernel_rfl) (by kernel_rfl) (by kernel_rfl) (by kernel_rfl) hx) (RS.mS 3 [kB 17 (decide (x1=64)),kB 16 (decide (x1=64)),kB 15 (decide (x1=64))] ?_)
   rcases z0 h with ⟨hp,h⟩ | ⟨hp,h⟩
   ·refine RS.fx 17 true (decide_eq_true hp) ?_
    cases h
   ·refine RS.fx 17 false (decide_eq_false hp) (RS.mS 1 [kT 18 a0] ?_)
    obtain ⟨x2,hx,h⟩:=bind_some h
    refine RS.o (H':=H) (some 19) (Value.int .u8 x2) (Abs.run_byt (t:=9) (x:=.tmp 18) (y:=.const (Value.int .i64 0)) (s:=a0) (k:=.i64) (i:=0) (by kernel_rfl) (by kernel_rfl) (by kernel_rfl) (by kernel_rfl) hx) (RS.mS 2 [kB 21 (decide (x2=46)),kB 20 (decide (x2=46))] (RS.dn (WS.nxt ?_)))
    rcases z0 h with ⟨hp,h⟩ | ⟨hp,h⟩
    ·refine WS.fx 21 true (decide_eq_true hp) (WS.cT ?_)
     cases h
    ·refine WS.fx 21 false (decide_eq_false hp) (WS.cF (WS.sk (WS.nxt (WS.sq (WS.sq (WS.rg (RS.mS 3 [kI 24 0,kI 23 (a0.size:Int),kT 22 a0] (RS.dn (WS.nxt ?_)))))))))
     refine WS.bk 0 ?_
     obtain ⟨o,hl,h⟩:=bind_some h
     rcases o with v24_8 | r
     ·try dsimp only at h
      refine WS.lI (zcb (L:=L) (E:=E) (m:=m) (H:=H)) (L.ok hl) 0 ?_
      clear hl
      refine fun a w hs=>bkE ((WS.nxt ?_ a w hs))
      refine WS.sq (WS.rg (RS.mS 1 [kB 2 true] (RS.dn (WS.nxt (WS.rt ?_)))))
      cases h
      exact fun a w hs=>rtR (rS hs)
     ·try dsimp only at h
      refine WS.lR (zcb (L:=L) (E:=E) (m:=m) (H:=H)) (L.ok hl) 0 ?_
      cases h
      exact fun a w hq=>bkR (sqR (rtR hq))
def ze8:(Bool×AH)→Value
 | (r0,_)=>(Value.bool r0)
def zgd (_:AH):(Bool×AH)→AH:=fun r=>r.2
noncomputable def B70:Code:=(Tryz.f70.body).getD .skip
noncomputable def za5 (_L:LC) (m:Nat) (a0:Sl3) (p1:Nat):(AH×Int)→Option (Lp (AH×Int) (Bool×AH)):=fun (H3,v9_4) =>
 if v9_4<(a0.n:Int) then
  Option.bind (idxA 1 a0 v9_4) fun p5 =>
  Option.bind (rd deS H3 p5) fun x6 =>
  Option.bind (lk1 Tryz.prog 207 deB H3 (some p1) (Value.string x6)) fun x7 =>
  if x7=true then
   none
  else
   Option.bind (upM Tryz.prog m 207 H3 (some p1) (Value.string x6) (Value.bool true)) fun H8 =>
   some (.next (H8,(IntKind.i64.wrap (v9_4+1))))
 else
  some (.brk (H3,v9_4))
def zkd (_L:LC) (_m:Nat) (a0:Sl3) (p1:Nat):(AH×Int)→KN×Lcs:=fun (_,v9_4)=>([kI 9 v9_4,(3,.val (Value.map (some p1))),kS 7 a0,kI 8 (a0.n:Int)],[])
noncomputable def zah (L:LC) (m:Nat) (H:AH) (a0:Sl3):Option (Bool×AH) :=
 Option.bind (newM H) fun (p1,H2) =>
 Option.bind (L.run (za5 L m a0 p1) (H2,0)) fun o=>match o with
 | .inl (H9,_) =>
  some (false,H9)
 | .inr r=>some r
theorem zb7 {E H L m a0 p1} :LoopF Tryz.prog (NE.plain 167) m E Tryz.f70 ((cfst (csnd (cfst (csnd (csnd B70)))))) (zkd L m a0 p1) (fun s=>s.1) 0 ze8 (zgd H) (za5 L m a0 p1):=by
 rintro ⟨H3,v9_4⟩ o h
 unfold za5 at h
 try dsimp only at h
 refine WS.sq (WS.rg (RS.mS 1 [kB 10 (decide (v9_4<(a0.n:Int)))] (RS.dn (WS.nxt (WS.sq ?_)))))
 rcases z0 h with ⟨hp,h⟩ | ⟨hp,h⟩
 ·refine WS.fx 10 true (decide_eq_true hp) (WS.cT (WS.sk (WS.nxt (WS.sq (WS.bk 1 (WS.sq (WS.rg ?_)))))))
  obtain ⟨p5,hx,h⟩:=bind_some h
  refine RS.ix 11 33 9 (.tmp 7) (.tmp 9) hx ?_
  obtain ⟨x6,hx,h⟩:=bind_some h
  refine RS.ld 12 9 (.tmp 11) (z1 hx z9) (RS.mS 1 [kT 5 x6] (RS.dn (WS.nxt (WS.sq (WS.sq (WS.rg (RS.mS 2 [kT 14 x6,(13,.val (Value.map (some p1)))] ?_)))))))
  obtain ⟨x7,hx,h⟩:=bind_some h
  refine RS.o (H':=H3) (some 15) (Value.bool x7) (Abs.run_look (t:=207) (x:=.tmp 13) (y:=.tmp 14) (mm:=(some p1)) (k:=(Value.string x6)) (by kernel_rfl) (by kernel_rfl) (by kernel_rfl) (by kernel_rfl) (lk1_eq hx z13)) (RS.dn (WS.nxt ?_))
  rcases z0 h with ⟨hp,h⟩ | ⟨hp,h⟩
  ·refine WS.fx 15 true hp (WS.cT ?_)
   cases h
  ·refine WS.fx 15 false (b_not hp) (WS.cF (WS.sk (WS.nxt (WS.rg (RS.mS 2 [kT 17 x6,(16,.val (Value.map (some p1)))] ?_)))))
   obtain ⟨H8,hx,h⟩:=bind_some h
   refine RS.o (H':=H8) none undef (Abs.run_upM (t:=207) (x:=.tmp 16) (y:=.tmp 17) (z:=.const (Value.bool true)) (mm:=(some p1)) (k:=(Value.string x6)) (v:=(Value.bool true)) (by kernel_rfl) (by kernel_rfl) (by kernel_rfl) (by kernel_rfl) (by kernel_rfl) hx) (RS.dn ?_)
   refine fun a w hs=>bkN ((WS.nxt ?_ a w hs))
   refine WS.rg (RS.mS 2 [kI 9 (IntKind.i64.wrap (v9_4+1)),kI 18 (IntKind.i64.wrap (v9_4+1))] (RS.dn ?_))
   cases h
   exact fun a w hs=>lsN rfl (hs.sb 0)
 ·refine WS.fx 10 false (decide_eq_false hp) (WS.cF (WS.ex 0 ?_))
  cases h
  exact fun a w hs=>sqE (lsB rfl (hs.sb 0))
theorem zg6 {L:LC} {m:Nat} {H:AH} {a0:Sl3} {r:(Bool×AH)} (h:zah L m H a0=some r) :
  CallS Tryz.prog (NE.plain 167) m 70 #[(Sl3.v a0)] H (ze8 r) (zgd H r):=by
 refine CallS.mk (args:=[(Sl3.v a0)]) Tryz.func70 (B:=B70) (by kernel_rfl) (fun E _=>?_)
 unfold zah at h
 refine WS.sq (WS.rg (RS.mS 1 [kB 2 false] (RS.dn (WS.nxt (WS.sq (WS.rg ?_))))))
 obtain ⟨⟨p1,H2⟩,hx,h⟩:=bind_some h
 try dsimp only at h
 refine RS.o (H':=H2) (some 6) (Value.map (some p1)) (Abs.run_newM (by kernel_rfl) hx) (RS.mS 1 [(3,.val (Value.map (some p1)))] (RS.dn (WS.nxt (WS.sq (WS.sq (WS.rg (RS.mS 3 [kI 9 0,kI 8 (a0.n:Int),kS 7 a0] (RS.dn (WS.nxt ?_)))))))))
 refine WS.bk 0 ?_
 obtain ⟨o,hl,h⟩:=bind_some h
 rcases o with ⟨H9,v9_10⟩ | r
 ·try dsimp only at h
  refine WS.lI (zb7 (L:=L) (E:=E) (m:=m) (H:=H)) (L.ok hl) 0 ?_
  clear hl
  refine fun a w hs=>bkE ((WS.nxt ?_ a w hs))
  refine WS.sq (WS.rg (RS.mS 1 [kB 2 false] (RS.dn (WS.nxt (WS.rt ?_)))))
  cases h
  exact fun a w hs=>rtR (rS hs)
 ·try dsimp only at h
  refine WS.lR (zb7 (L:=L) (E:=E) (m:=m) (H:=H)) (L.ok hl) 0 ?_
  cases h
  exact fun a w hq=>bkR (sqR (rtR hq))
def z9h:((Option Addr)×AH)→Value
 | (r0,_)=>(Value.pointer r0)
def zbu (_:AH):((Option Addr)×AH)→AH:=fun r=>r.2
noncomputable def B71:Code:=(Tryz.f71.body).getD .skip
noncomputable def zby (_L:LC) (a0_0 _a0_1 _a0_2:Sl3) (_p3:Addr):(AH×Int)→Option (Lp (AH×Int) ((Option Addr)×AH)):=fun (H5,v17_6) =>
 if v17_6<(a0_0.n:Int) then
  none
 else
  some (.brk (H5,v17_6))
def zko (_L:LC) (a0_0 a0_1 a0_2:Sl3) (p3:Addr):(AH×Int)→KN×Lcs:=fun (_,v17_6)=>([kI 17 v17_6,kL 1 0 0,kP 3 p3,kS 15 a0_0,kI 16 (a0_0.n:Int)],[some (37,[(Sl3.v a0_0),(Sl3.v a0_1),(Sl3.v a0_2)])])
noncomputable def zbl (_L:LC) (_a0_0 a0_1 _a0_2:Sl3) (_p3:Addr):(AH×Int)→Option (Lp (AH×Int) ((Option Addr)×AH)):=fun (H9,v31_10) =>
 if v31_10<(a0_1.n:Int) then
  none
 else
  some (.brk (H9,v31_10))
def zl8 (_L:LC) (a0_0 a0_1 a0_2:Sl3) (p3:Addr):(AH×Int)→KN×Lcs:=fun (_,v31_10)=>([kI 31 v31_10,kP 3 p3,kS 29 a0_1,kI 30 (a0_1.n:Int)],[some (37,[(Sl3.v a0_0),(Sl3.v a0_1),(Sl3.v a0_2)])])
noncomputable def zcp (L:LC) (_m:Nat) (H:AH) (a0_0 a0_1 a0_2:Sl3):Option ((Option Addr)×AH) :=
 Option.bind (newM H) fun (p1,H2) =>
 Option.bind (newB 210 [(Sl3.v a0_0),(Sl3.v a0_1),(Sl3.v a0_2),(Value.map (some p1))] H2) fun (p3,H4) =>
 Option.bind (L.run (zby L a0_0 a0_1 a0_2 p3) (H4,0)) fun o=>match o with
 | .inl (H7,_) =>
  Option.bind (L.run (zbl L a0_0 a0_1 a0_2 p3) (H7,0)) fun o=>match o with
  | .inl (H11,_) =>
   some ((some p3),H11)
  | .inr r=>some r
 | .inr r=>some r
theorem zcm {E m H L a0_0 a0_1 a0_2 p3} :LoopF Tryz.prog (NE.plain 167) m E Tryz.f71 ((cfst (csnd (cfst (csnd (csnd B71)))))) (zko L a0_0 a0_1 a0_2 p3) (fun s=>s.1) 0 z9h (zbu H) (zby L a0_0 a0_1 a0_2 p3):=by
 rintro ⟨H5,v17_6⟩ o h
 unfold zby at h
 try dsimp only at h
 refine WS.sq (WS.rg (RS.mS 1 [kB 18 (decide (v17_6<(a0_0.n:Int)))] (RS.dn (WS.nxt (WS.sq ?_)))))
 rcases z0 h with ⟨hp,h⟩ | ⟨hp,h⟩
 ·refine WS.fx 18 true (decide_eq_true hp) (WS.cT ?_)
  cases h
 ·refine WS.fx 18 false (decide_eq_false hp) (WS.cF (WS.ex 0 ?_))
  cases h
  exact fun a w hs=>sqE (lsB rfl (hs.sb 1))
theorem zcj {E m H L a0_0 a0_1 a0_2 p3} :LoopF Tryz.prog (NE.plain 167) m E Tryz.f71 ((cfst (csnd (cfst (csnd (csnd (csnd B71))))))) (zl8 L a0_0 a0_1 a0_2 p3) (fun s=>s.1) 2 z9h (zbu H) (zbl L a0_0 a0_1 a0_2 p3):=by
 rintro ⟨H9,v31_10⟩ o h
 unfold zbl at h
 try dsimp only at h
 refine WS.sq (WS.rg (RS.mS 1 [kB 32 (decide (v31_10<(a0_1.n:Int)))] (RS.dn (WS.nxt (WS.sq ?_)))))
 rcases z0 h with ⟨hp,h⟩ | ⟨hp,h⟩
 ·refine WS.fx 32 true (decide_eq_true hp) (WS.cT ?_)
  cases h
 ·refine WS.fx 32 false (decide_eq_false hp) (WS.cF (WS.ex 2 ?_))
  cases h
  exact fun a w hs=>sqE (lsB rfl (hs.sb 1))
theorem zi1 {L:LC} {m:Nat} {H:AH} {a0_0 a0_1 a0_2:Sl3} {r:((Option Addr)×AH)} (h:zcp L m H a0_0 a0_1 a0_2=some r) :
  CallS Tryz.prog (NE.plain 167) m 71 #[(Value.agg #[(Sl3.v a0_0),(Sl3.v a0_1),(Sl3.v a0_2)])] H (z9h r) (zbu H r):=by
 refine CallS.mk (args:=[(Value.agg #[(Sl3.v a0_0),(Sl3.v a0_1),(Sl3.v a0_2)])]) Tryz.func71 (B:=B71) (by kernel_rfl) (fun E _=>?_)
 unfold zcp at h
 refine WS.sq (WS.rg (RS.mL 2 [(2,.val (Value.pointer none)),kL 1 0 0] ([some (37,[(Sl3.v a0_0),(Sl3.v a0_1),(Sl3.v a0_2)])]) (RS.dn (WS.nxt (WS.sq (WS.rg (RS.mS 1 [kA 10 #[(Sl3.v a0_0),(Sl3.v a0_1),(Sl3.v a0_2)]] ?_)))))))
 obtain ⟨⟨p1,H2⟩,hx,h⟩:=bind_some h
 try dsimp only at h
 refine RS.o (H':=H2) (some 11) (Value.map (some p1)) (Abs.run_newM (by kernel_rfl) hx) (RS.mS 1 [kA 12 #[(Sl3.v a0_0),(Sl3.v a0_1),(Sl3.v a0_2),(Value.map (some p1))]] ?_)
 obtain ⟨⟨p3,H4⟩,hx,h⟩:=bind_some h
 try dsimp only at h
 refine RS.o (H':=H4) (some 13) (Value.pointer (some p3)) (Abs.run_newB (by kernel_rfl) hx) (RS.mS 1 [kP 3 p3] (RS.dn (WS.nxt (WS.sq (WS.sq (WS.rg (RS.mS 4 [kI 17 0,kI 16 (a0_0.n:Int),kS 15 a0_0,kL 14 0 0] (RS.dn (WS.nxt ?_)))))))))
 refine WS.bk 0 ?_
 obtain ⟨o,hl,h⟩:=bind_some h
 rcases o with ⟨H7,v17_8⟩ | r
 ·try dsimp only at h
  refine WS.lI (zcm (L:=L) (E:=E) (m:=m) (H:=H)) (L.ok hl) 1 ?_
  clear hl
  refine fun a w hs=>bkE ((WS.nxt ?_ a w hs))
  refine WS.sq (WS.sq (WS.rg (RS.mS 4 [kI 31 0,kI 30 (a0_1.n:Int),kS 29 a0_1,kL 28 0 1] (RS.dn (WS.nxt (WS.bk 2 ?_))))))
  obtain ⟨o,hl,h⟩:=bind_some h
  rcases o with ⟨H11,v31_12⟩ | r
  ·try dsimp only at h
   refine WS.lI (zcj (L:=L) (E:=E) (m:=m) (H:=H)) (L.ok hl) 1 ?_
   clear hl
   refine fun a w hs=>bkE ((WS.nxt ?_ a w hs))
   refine WS.sq (WS.rg (RS.mS 2 [kP 2 p3,kP 58 p3] (RS.dn (WS.nxt (WS.rt ?_)))))
   cases h
   exact fun a w hs=>rtR (rS hs)
  ·try dsimp only at h
   refine WS.lR (zcj (L:=L) (E:=E) (m:=m) (H:=H)) (L.ok hl) 1 ?_
   cases h
   exact fun a w hq=>bkR (sqR (rtR hq))
 ·try dsimp only at h
  refine WS.lR (zcm (L:=L) (E:=E) (m:=m) (H:=H)) (L.ok hl) 1 ?_
  cases h
  exact fun a w hq=>bkR (sqR (rtR hq))
def z4y:(Int×Bool)→Value
 | (r0,r1)=>(Value.tuple #[(Value.int .i64 r0),(Value.bool r1)])
def z5o (H:AH):(Int×Bool)→AH:=fun _=>H
noncomputable def B173:Code:=(Tryz.f173.body).getD .skip
noncomputable def za3 (_L:LC) (_H:AH) (_a0_0 _a0_1:Int) (_a0_2:ByteArray) (a0_3:Sl3) (_a1:Int):(Int×Int)→Option (Lp (Int×Int) (Int×Bool)):=fun (v6_1,v16_2) =>
 if v16_2<(a0_3.n:Int) then
  none
 else
  some (.brk (v6_1,v16_2))
def zk1 (_L:LC) (_H:AH) (a0_0 a0_1:Int) (a0_2:ByteArray) (a0_3:Sl3) (a1:Int):(Int×Int)→KN×Lcs:=fun (v6_1,v16_2)=>([kI 6 v6_1,kI 16 v16_2,kI 1 a1,kS 14 a0_3,kI 15 (a0_3.n:Int)],[some (47,[(Value.int .i64 a0_0),(Value.int .i64 a0_1),(Value.string a0_2),(Sl3.v a0_3)])])
noncomputable def z76 (L:LC) (H:AH) (a0_0 a0_1:Int) (a0_2:ByteArray) (a0_3:Sl3) (a1:Int):Option (Int×Bool) :=
 if a1 > 16 then
  none
 else
  Option.bind (L.run (za3 L H a0_0 a0_1 a0_2 a0_3 a1) (1,0)) fun o=>match o with
  | .inl (v6_3,_) =>
   some (v6_3,true)
  | .inr r=>some r
noncomputable def ze2 (L:LC) (n:Nat):(AH→Int→Int→ByteArray→Sl3→Int→Option (Int×Bool)):=Nat.rec (motive:=fun _=>(AH→Int→Int→ByteArray→Sl3→Int→Option (Int×Bool))) (fun _ _ _ _ _ _=>none) (fun _ _=>z76 L) n
noncomputable def zld (L:LC) (H:AH) (a0_0 a0_1:Int) (a0_2:ByteArray) (a0_3:Sl3) (a1:Int):Option (Int×Bool):=(ze2 L L.fuel) H a0_0 a0_1 a0_2 a0_3 a1
theorem zbf {E m L H a0_0 a0_1 a0_2 a0_3 a1} :LoopF Tryz.prog (NE.plain 167) m E Tryz.f173 ((cfst (csnd (cfst (csnd (csnd (csnd B173))))))) (zk1 L H a0_0 a0_1 a0_2 a0_3 a1) (fun _=>H) 0 z4y (z5o H) (za3 L H a0_0 a0_1 a0_2 a0_3 a1):=by
 rintro ⟨v6_1,v16_2⟩ o h
 unfold za3 at h
 try dsimp only at h
 refine WS.sq (WS.rg (RS.mS 1 [kB 17 (decide (v16_2<(a0_3.n:Int)))] (RS.dn (WS.nxt (WS.sq ?_)))))
 rcases z0 h with ⟨hp,h⟩ | ⟨hp,h⟩
 ·refine WS.fx 17 true (decide_eq_true hp) (WS.cT ?_)
  cases h
 ·refine WS.fx 17 false (decide_eq_false hp) (WS.cF (WS.ex 0 ?_))
  cases h
  exact fun a w hs=>sqE (lsB rfl (hs.sb 1))
theorem zi3 {L:LC} {m:Nat} {H:AH} {a0_0 a0_1:Int} {a0_2:ByteArray} {a0_3:Sl3} {a1:Int} {r:(Int×Bool)} (h:z76 L H a0_0 a0_1 a0_2 a0_3 a1=some r) :
  CallS Tryz.prog (NE.plain 167) m 173 #[(Value.agg #[(Value.int .i64 a0_0),(Value.int .i64 a0_1),(Value.string a0_2),(Sl3.v a0_3)]),(Value.int .i64 a1)] H (z4y r) (z5o H r):=by
 refine CallS.mk (args:=[(Value.agg #[(Value.int .i64 a0_0),(Value.int .i64 a0_1),(Value.string a0_2),(Sl3.v a0_3)]),(Value.int .i64 a1)]) Tryz.func173 (B:=B173) (by kernel_rfl) (fun E _=>?_)
 unfold z76 at h
 refine WS.sq (WS.rg (RS.mL 3 [kB 5 false,kI 4 0,kL 2 0 0] ([some (47,[(Value.int .i64 a0_0),(Value.int .i64 a0_1),(Value.string a0_2),(Sl3.v a0_3)])]) (RS.dn (WS.nxt (WS.sq (WS.sq (WS.rg (RS.mS 2 [kB 12 (decide (a1 > 16)),kI 11 a1] (RS.dn ?_)))))))))
 refine WS.nxt ?_
 rcases z0 h with ⟨hp,h⟩ | ⟨hp,h⟩
 ·refine WS.fx 12 true (decide_eq_true hp) (WS.cT ?_)
  cases h
 ·refine WS.fx 12 false (decide_eq_false hp) (WS.cF (WS.sk (WS.nxt (WS.sq (WS.rg (RS.mS 1 [kI 6 1] (RS.dn (WS.nxt (WS.sq ?_)))))))))
  refine WS.sq (WS.rg (RS.mS 4 [kI 16 0,kI 15 (a0_3.n:Int),kS 14 a0_3,kL 13 0 3] (RS.dn (WS.nxt (WS.bk 0 ?_)))))
  obtain ⟨o,hl,h⟩:=bind_some h
  rcases o with ⟨v6_3,v16_4⟩ | r
  ·try dsimp only at h
   refine WS.lI (zbf (L:=L) (E:=E) (m:=m) (H:=H)) (L.ok hl) 1 ?_
   clear hl
   refine fun a w hs=>bkE ((WS.nxt ?_ a w hs))
   refine WS.sq (WS.rg (RS.mS 3 [kB 5 true,kI 4 v6_3,kI 38 v6_3] (RS.dn (WS.nxt (WS.rt ?_)))))
   cases h
   exact fun a w hs=>rtR (rS hs)
  ·try dsimp only at h
   refine WS.lR (zbf (L:=L) (E:=E) (m:=m) (H:=H)) (L.ok hl) 1 ?_
   cases h
   exact fun a w hq=>bkR (sqR (rtR hq))
theorem zj2 {L:LC}:∀n,(∀(m:Nat) (H:AH) (a0_0 a0_1:Int) (a0_2:ByteArray) (a0_3:Sl3) (a1:Int) (r:(Int×Bool)),((ze2 L n)) H a0_0 a0_1 a0_2 a0_3 a1=some r→CallS Tryz.prog (NE.plain 167) m 173 #[(Value.agg #[(Value.int .i64 a0_0),(Value.int .i64 a0_1),(Value.string a0_2),(Sl3.v a0_3)]),(Value.int .i64 a1)] H (z4y r) (z5o H r)):=by
 intro n
 induction n with
 | zero=>exact (fun _ _ _ _ _ _ _ _ h=>(Option.some_ne_none _ h.symm).elim)
 | succ n ih=>exact (fun _ _ _ _ _ _ _ _ h=>zi3 (L:=L)  h)
theorem zn8 {L:LC} {m:Nat} {H:AH} {a0_0 a0_1:Int} {a0_2:ByteArray} {a0_3:Sl3} {a1:Int} {r:(Int×Bool)} (h:zld L H a0_0 a0_1 a0_2 a0_3 a1=some r) :
  CallS Tryz.prog (NE.plain 167) m 173 #[(Value.agg #[(Value.int .i64 a0_0),(Value.int .i64 a0_1),(Value.string a0_2),(Sl3.v a0_3)]),(Value.int .i64 a1)] H (z4y r) (z5o H r) :=
 (zj2 _) _ _ _ _ _ _ _ _ h
def z3y:Bool→Value
 | r0=>(Value.bool r0)
def z4t (H:AH):Bool→AH:=fun _=>H
noncomputable def B174:Code:=(Tryz.f174.body).getD .skip
noncomputable def z8h (_L:LC) (_H:AH) (_a0_0 _a0_1:Int) (_a0_2:ByteArray) (a0_3:Sl3):(Bool×Int)→Option (Lp (Bool×Int) Bool):=fun (v3_1,v82_2) =>
 if v82_2<(a0_3.n:Int) then
  none
 else
  some (.brk (v3_1,v82_2))
def ziz (_L:LC) (_H:AH) (a0_0 a0_1:Int) (a0_2:ByteArray) (a0_3:Sl3):(Bool×Int)→KN×Lcs:=fun (v3_1,v82_2)=>([kB 3 v3_1,kI 82 v82_2,kS 80 a0_3,kI 81 (a0_3.n:Int)],[some (47,[(Value.int .i64 a0_0),(Value.int .i64 a0_1),(Value.string a0_2),(Sl3.v a0_3)])])
noncomputable def z62 (L:LC) (H:AH) (a0_0 a0_1:Int) (a0_2:ByteArray) (a0_3:Sl3):Option Bool :=
 if a0_0=1 then
  none
 else
  if a0_0=2 then
   if a0_1=0 then
    if (a0_2.toList == (⟨#[]⟩:ByteArray).toList)=true then
     Option.bind (L.run (z8h L H a0_0 a0_1 a0_2 a0_3) ((decide ((a0_3.n:Int)=0)),0)) fun o=>match o with
     | .inl (v3_3,_) =>
      some v3_3
     | .inr r=>some r
    else
     none
   else
    none
  else
   none
noncomputable def zck (L:LC) (n:Nat):(AH→Int→Int→ByteArray→Sl3→Option Bool):=Nat.rec (motive:=fun _=>(AH→Int→Int→ByteArray→Sl3→Option Bool)) (fun _ _ _ _ _=>none) (fun _ _=>z62 L) n
noncomputable def zjg (L:LC) (H:AH) (a0_0 a0_1:Int) (a0_2:ByteArray) (a0_3:Sl3):Option Bool:=(zck L L.fuel) H a0_0 a0_1 a0_2 a0_3
theorem za7 {E m L H a0_0 a0_1 a0_2 a0_3} :LoopF Tryz.prog (NE.plain 167) m E Tryz.f174 ((cfst (csnd (cfst (csnd (csnd (csnd B174))))))) (ziz L H a0_0 a0_1 a0_2 a0_3) (fun _=>H) 1 z3y (z4t H) (z8h L H a0_0 a0_1 a0_2 a0_3):=by
 rintro ⟨v3_1,v82_2⟩ o h
 unfold z8h at h
 try dsimp only at h
 refine WS.sq (WS.rg (RS.mS 1 [kB 83 (decide (v82_2<(a0_3.n:Int)))] (RS.dn (WS.nxt (WS.sq ?_)))))
 rcases z0 h with ⟨hp,h⟩ | ⟨hp,h⟩
 ·refine WS.fx 83 true (decide_eq_true hp) (WS.cT ?_)
  cases h
 ·refine WS.fx 83 false (decide_eq_false hp) (WS.cF (WS.ex 1 ?_))
  cases h
  exact fun a w hs=>sqE (lsB rfl (hs.sb 1))
theorem zgn {L:LC} {m:Nat} {H:AH} {a0_0 a0_1:Int} {a0_2:ByteArray} {a0_3:Sl3} {r:Bool} (h:z62 L H a0_0 a0_1 a0_2 a0_3=some r) :
  CallS Tryz.prog (NE.plain 167) m 174 #[(Value.agg #[(Value.int .i64 a0_0),(Value.int .i64 a0_1),(Value.string a0_2),(Sl3.v a0_3)])] H (z3y r) (z4t H r):=by
 refine CallS.mk (args:=[(Value.agg #[(Value.int .i64 a0_0),(Value.int .i64 a0_1),(Value.string a0_2),(Sl3.v a0_3)])]) Tryz.func174 (B:=B174) (by kernel_rfl) (fun E _=>?_)
 unfold z62 at h
 refine WS.sq (WS.rg (RS.mL 2 [kB 2 false,kL 1 0 0] ([some (47,[(Value.int .i64 a0_0),(Value.int .i64 a0_1),(Value.string a0_2),(Sl3.v a0_3)])]) (RS.dn (WS.nxt (WS.sq (WS.rg (RS.mS 1 [kB 3 false] (RS.dn (WS.nxt ?_)))))))))
 refine WS.sq (WS.sq (WS.rg (RS.mS 2 [kI 7 a0_0,kL 6 0 0] (RS.dn (WS.nxt (WS.bk 0 (WS.sq (WS.sq (WS.rg ?_)))))))))
 refine RS.mS 2 [kB 8 (decide (a0_0=1)),kB 9 (decide (a0_0=1))] (RS.dn (WS.nxt ?_))
 rcases z0 h with ⟨hp,h⟩ | ⟨hp,h⟩
 ·refine WS.fx 8 true (decide_eq_true hp) (WS.cT ?_)
  cases h
 ·refine WS.fx 8 false (decide_eq_false hp) (WS.cF (WS.rg (RS.mS 2 [kB 8 (decide (a0_0=2)),kB 10 (decide (a0_0=2))] (RS.dn (WS.nxt ?_)))))
  rcases z0 h with ⟨hp,h⟩ | ⟨hp,h⟩
  ·refine WS.fx 8 true (decide_eq_true hp) (WS.cT (WS.rg (RS.mS 4 [kB 14 (decide (a0_1=0)),kB 13 (decide (a0_1=0)),kI 12 a0_1,kL 11 0 1] ?_)))
   rcases z0 h with ⟨hp,h⟩ | ⟨hp,h⟩
   ·refine RS.fx 14 true (decide_eq_true hp) (RS.mS 5 [kB 19 (a0_2.toList == (⟨#[]⟩:ByteArray).toList),kB 18 (a0_2.toList == (⟨#[]⟩:ByteArray).toList),kB 17 (a0_2.toList == (⟨#[]⟩:ByteArray).toList),kT 16 a0_2,kL 15 0 2] ?_)
    rcases z0 h with ⟨hp,h⟩ | ⟨hp,h⟩
    ·refine RS.fx 19 true hp (RS.mS 6 [kB 3 (decide ((a0_3.n:Int)=0)),kB 24 (decide ((a0_3.n:Int)=0)),kB 23 (decide ((a0_3.n:Int)=0)),kI 22 (a0_3.n:Int),kS 21 a0_3,kL 20 0 3] (RS.dn ?_))
     refine fun a w hs=>bkN ((WS.nxt ?_ a w hs))
     refine WS.sq (WS.sq (WS.rg (RS.mS 4 [kI 82 0,kI 81 (a0_3.n:Int),kS 80 a0_3,kL 79 0 3] (RS.dn (WS.nxt (WS.bk 1 ?_))))))
     obtain ⟨o,hl,h⟩:=bind_some h
     rcases o with ⟨v3_3,v82_4⟩ | r
     ·try dsimp only at h
      refine WS.lI (za7 (L:=L) (E:=E) (m:=m) (H:=H)) (L.ok hl) 1 ?_
      clear hl
      refine fun a w hs=>bkE ((WS.nxt ?_ a w hs))
      refine WS.sq (WS.rg (RS.mS 2 [kB 2 v3_3,kB 92 v3_3] (RS.dn (WS.nxt (WS.rt ?_)))))
      cases h
      exact fun a w hs=>rtR (rS hs)
     ·try dsimp only at h
      refine WS.lR (za7 (L:=L) (E:=E) (m:=m) (H:=H)) (L.ok hl) 1 ?_
      cases h
      exact fun a w hq=>bkR (sqR (rtR hq))
    ·refine RS.fx 19 false (b_not hp) ?_
     cases h
   ·refine RS.fx 14 false (decide_eq_false hp) ?_
    cases h
  ·refine WS.fx 8 false (decide_eq_false hp) (WS.cF ?_)
   cases h
theorem zhs {L:LC}:∀n,(∀(m:Nat) (H:AH) (a0_0 a0_1:Int) (a0_2:ByteArray) (a0_3:Sl3) (r:Bool),((zck L n)) H a0_0 a0_1 a0_2 a0_3=some r→CallS Tryz.prog (NE.plain 167) m 174 #[(Value.agg #[(Value.int .i64 a0_0),(Value.int .i64 a0_1),(Value.string a0_2),(Sl3.v a0_3)])] H (z3y r) (z4t H r)):=by
 intro n
 induction n with
 | zero=>exact (fun _ _ _ _ _ _ _ h=>(Option.some_ne_none _ h.symm).elim)
 | succ n ih=>exact (fun _ _ _ _ _ _ _ h=>zgn (L:=L)  h)
theorem zlv {L:LC} {m:Nat} {H:AH} {a0_0 a0_1:Int} {a0_2:ByteArray} {a0_3:Sl3} {r:Bool} (h:zjg L H a0_0 a0_1 a0_2 a0_3=some r) :
  CallS Tryz.prog (NE.plain 167) m 174 #[(Value.agg #[(Value.int .i64 a0_0),(Value.int .i64 a0_1),(Value.string a0_2),(Sl3.v a0_3)])] H (z3y r) (z4t H r) :=
 (zhs _) _ _ _ _ _ _ _ h
def zm5:Int→Value
 | r0=>(Value.int .i64 r0)
def znf (H:AH):Int→AH:=fun _=>H
noncomputable def B114:Code:=(Tryz.f114.body).getD .skip
noncomputable def zff (L:LC) (H:AH) (a0_0 a0_1:Int) (a0_2:ByteArray) (a0_3:Sl3):Option Int :=
 Option.bind (zld L H a0_0 a0_1 a0_2 a0_3 1) fun (_,x2) =>
 if x2=true then
  Option.bind (zjg L H a0_0 a0_1 a0_2 a0_3) fun x3 =>
  if x3=true then
   some 0
  else
   none
 else
  none
theorem zn4 {L:LC} {m:Nat} {H:AH} {a0_0 a0_1:Int} {a0_2:ByteArray} {a0_3:Sl3} {r:Int} (h:zff L H a0_0 a0_1 a0_2 a0_3=some r) :
  CallS Tryz.prog (NE.plain 167) m 114 #[(Value.agg #[(Value.int .i64 a0_0),(Value.int .i64 a0_1),(Value.string a0_2),(Sl3.v a0_3)])] H (zm5 r) (znf H r):=by
 refine CallS.mk (args:=[(Value.agg #[(Value.int .i64 a0_0),(Value.int .i64 a0_1),(Value.string a0_2),(Sl3.v a0_3)])]) Tryz.func114 (B:=B114) (by kernel_rfl) (fun E _=>?_)
 unfold zff at h
 refine WS.sq (WS.rg (RS.mL 2 [kI 2 0,kL 1 0 0] ([some (47,[(Value.int .i64 a0_0),(Value.int .i64 a0_1),(Value.string a0_2),(Sl3.v a0_3)])]) (RS.dn (WS.nxt (WS.sq (WS.sq (WS.rg (RS.mS 1 [kA 6 #[(Value.int .i64 a0_0),(Value.int .i64 a0_1),(Value.string a0_2),(Sl3.v a0_3)]] ?_))))))))
 obtain ⟨⟨x1,x2⟩,hx,h⟩:=bind_some h
 try dsimp only at h
 refine RS.cl (some 7) (v:=(Value.tuple #[(Value.int .i64 x1),(Value.bool x2)])) 173 #[(Value.agg #[(Value.int .i64 a0_0),(Value.int .i64 a0_1),(Value.string a0_2),(Sl3.v a0_3)]),(Value.int .i64 1)] (zn8 hx) (RS.mS 5 [kB 4 x2,kI 3 x1,kB 9 x2,kI 8 x1,(5,.val (Value.tuple #[(Value.int .i64 x1),(Value.bool x2)]))] (RS.dn (WS.nxt (WS.sq (WS.rg (RS.mS 2 [kB 11 (!x2),kB 10 x2] (RS.dn (WS.nxt ?_))))))))
 rcases z0 h with ⟨hp,h⟩ | ⟨hp,h⟩
 ·refine WS.fx 11 false (nb_not hp) (WS.cF (WS.sk (WS.nxt (WS.sq (WS.sq (WS.rg (RS.mS 1 [kA 12 #[(Value.int .i64 a0_0),(Value.int .i64 a0_1),(Value.string a0_2),(Sl3.v a0_3)]] ?_)))))))
  obtain ⟨x3,hx,h⟩:=bind_some h
  refine RS.cl (some 13) (v:=(Value.bool x3)) 174 #[(Value.agg #[(Value.int .i64 a0_0),(Value.int .i64 a0_1),(Value.string a0_2),(Sl3.v a0_3)])] (zlv hx) (RS.mS 1 [kB 14 (!x3)] (RS.dn (WS.nxt ?_)))
  rcases z0 h with ⟨hp,h⟩ | ⟨hp,h⟩
  ·refine WS.fx 14 false (nb_not hp) (WS.cF (WS.sk (WS.nxt (WS.sq (WS.rg (RS.mS 1 [kI 2 0] (RS.dn (WS.nxt (WS.rt ?_)))))))))
   cases h
   exact fun a w hs=>rtR (rS hs)
  ·refine WS.fx 14 true (za hp) (WS.cT ?_)
   cases h
 ·refine WS.fx 11 true (za hp) (WS.cT ?_)
  cases h
def z24:Bool→Value
 | r0=>(Value.bool r0)
def z2g (H:AH):Bool→AH:=fun _=>H
noncomputable def B176:Code:=(Tryz.f176.body).getD .skip
noncomputable def z45 (_L:LC) (_H:AH) (_a0:Option Addr) (_a1_0 _a1_1:Int) (_a1_2:ByteArray) (a1_3:Sl3):Int→Option (Lp Int Bool):=fun v34_1 =>
 if v34_1<(a1_3.n:Int) then
  none
 else
  some (.brk v34_1)
def zdz (_L:LC) (_H:AH) (a0:Option Addr) (a1_0 a1_1:Int) (a1_2:ByteArray) (a1_3:Sl3):Int→KN×Lcs:=fun v34_1=>([kI 34 v34_1,(0,.val (Value.pointer a0)),kS 32 a1_3,kI 33 (a1_3.n:Int)],[some (47,[(Value.int .i64 a1_0),(Value.int .i64 a1_1),(Value.string a1_2),(Sl3.v a1_3)])])
noncomputable def z32 (L:LC) (H:AH) (a0:Option Addr) (a1_0 a1_1:Int) (a1_2:ByteArray) (a1_3:Sl3):Option Bool :=
 if a1_0=5 then
  none
 else
  if a1_0=6 then
   none
  else
   Option.bind (L.run (z45 L H a0 a1_0 a1_1 a1_2 a1_3) 0) fun o=>match o with
   | .inl _ =>
    some true
   | .inr r=>some r
noncomputable def z7v (L:LC) (n:Nat):(AH→(Option Addr)→Int→Int→ByteArray→Sl3→Option Bool):=Nat.rec (motive:=fun _=>(AH→(Option Addr)→Int→Int→ByteArray→Sl3→Option Bool)) (fun _ _ _ _ _ _=>none) (fun _ _=>z32 L) n
noncomputable def zcl (L:LC) (H:AH) (a0:Option Addr) (a1_0 a1_1:Int) (a1_2:ByteArray) (a1_3:Sl3):Option Bool:=(z7v L L.fuel) H a0 a1_0 a1_1 a1_2 a1_3
theorem z6e {E m L H a0 a1_0 a1_1 a1_2 a1_3} :LoopF Tryz.prog (NE.plain 167) m E Tryz.f176 ((cfst (csnd (cfst (csnd (csnd B176)))))) (zdz L H a0 a1_0 a1_1 a1_2 a1_3) (fun _=>H) 0 z24 (z2g H) (z45 L H a0 a1_0 a1_1 a1_2 a1_3):=by
 rintro v34_1 o h
 unfold z45 at h
 try dsimp only at h
 refine WS.sq (WS.rg (RS.mS 1 [kB 35 (decide (v34_1<(a1_3.n:Int)))] (RS.dn (WS.nxt (WS.sq ?_)))))
 rcases z0 h with ⟨hp,h⟩ | ⟨hp,h⟩
 ·refine WS.fx 35 true (decide_eq_true hp) (WS.cT ?_)
  cases h
 ·refine WS.fx 35 false (decide_eq_false hp) (WS.cF (WS.ex 0 ?_))
  cases h
  exact fun a w hs=>sqE (lsB rfl (hs.sb 1))
theorem zc5 {L:LC} {m:Nat} {H:AH} {a0:Option Addr} {a1_0 a1_1:Int} {a1_2:ByteArray} {a1_3:Sl3} {r:Bool} (h:z32 L H a0 a1_0 a1_1 a1_2 a1_3=some r) :
  CallS Tryz.prog (NE.plain 167) m 176 #[(Value.pointer a0),(Value.agg #[(Value.int .i64 a1_0),(Value.int .i64 a1_1),(Value.string a1_2),(Sl3.v a1_3)])] H (z24 r) (z2g H r):=by
 refine CallS.mk (args:=[(Value.pointer a0),(Value.agg #[(Value.int .i64 a1_0),(Value.int .i64 a1_1),(Value.string a1_2),(Sl3.v a1_3)])]) Tryz.func176 (B:=B176) (by kernel_rfl) (fun E _=>?_)
 unfold z32 at h
 refine WS.sq (WS.rg (RS.mL 2 [kB 4 false,kL 3 0 0] ([some (47,[(Value.int .i64 a1_0),(Value.int .i64 a1_1),(Value.string a1_2),(Sl3.v a1_3)])]) (RS.dn (WS.nxt (WS.sq (WS.sq (WS.rg (RS.mS 4 [kB 12 (decide (a1_0=5)),kB 11 (decide (a1_0=5)),kI 10 a1_0,kL 9 0 0] ?_))))))))
 rcases z0 h with ⟨hp,h⟩ | ⟨hp,h⟩
 ·refine RS.fx 12 true (decide_eq_true hp) ?_
  cases h
 ·refine RS.fx 12 false (decide_eq_false hp) (RS.mS 4 [kB 16 (decide (a1_0=6)),kB 15 (decide (a1_0=6)),kI 14 a1_0,kL 13 0 0] (RS.dn (WS.nxt ?_)))
  rcases z0 h with ⟨hp,h⟩ | ⟨hp,h⟩
  ·refine WS.fx 16 true (decide_eq_true hp) (WS.cT ?_)
   cases h
  ·refine WS.fx 16 false (decide_eq_false hp) (WS.cF (WS.sk (WS.nxt (WS.sq (WS.sq (WS.rg (RS.mS 4 [kI 34 0,kI 33 (a1_3.n:Int),kS 32 a1_3,kL 31 0 3] (RS.dn (WS.nxt ?_)))))))))
   refine WS.bk 0 ?_
   obtain ⟨o,hl,h⟩:=bind_some h
   rcases o with v34_2 | r
   ·try dsimp only at h
    refine WS.lI (z6e (L:=L) (E:=E) (m:=m) (H:=H)) (L.ok hl) 1 ?_
    clear hl
    refine fun a w hs=>bkE ((WS.nxt ?_ a w hs))
    refine WS.sq (WS.rg (RS.mS 1 [kB 4 true] (RS.dn (WS.nxt (WS.rt ?_)))))
    cases h
    exact fun a w hs=>rtR (rS hs)
   ·try dsimp only at h
    refine WS.lR (z6e (L:=L) (E:=E) (m:=m) (H:=H)) (L.ok hl) 1 ?_
    cases h
    exact fun a w hq=>bkR (sqR (rtR hq))
theorem zd5 {L:LC}:∀n,(∀(m:Nat) (H:AH) (a0:Option Addr) (a1_0 a1_1:Int) (a1_2:ByteArray) (a1_3:Sl3) (r:Bool),((z7v L n)) H a0 a1_0 a1_1 a1_2 a1_3=some r→CallS Tryz.prog (NE.plain 167) m 176 #[(Value.pointer a0),(Value.agg #[(Value.int .i64 a1_0),(Value.int .i64 a1_1),(Value.string a1_2),(Sl3.v a1_3)])] H (z24 r) (z2g H r)):=by
 intro n
 induction n with
 | zero=>exact (fun _ _ _ _ _ _ _ _ h=>(Option.some_ne_none _ h.symm).elim)
 | succ n ih=>exact (fun _ _ _ _ _ _ _ _ h=>zc5 (L:=L)  h)
theorem zh5 {L:LC} {m:Nat} {H:AH} {a0:Option Addr} {a1_0 a1_1:Int} {a1_2:ByteArray} {a1_3:Sl3} {r:Bool} (h:zcl L H a0 a1_0 a1_1 a1_2 a1_3=some r) :
  CallS Tryz.prog (NE.plain 167) m 176 #[(Value.pointer a0),(Value.agg #[(Value.int .i64 a1_0),(Value.int .i64 a1_1),(Value.string a1_2),(Sl3.v a1_3)])] H (z24 r) (z2g H r) :=
 (zd5 _) _ _ _ _ _ _ _ _ h
def zgh:Int→Value
 | r0=>(Value.int .i64 r0)
def zhu (H:AH):Int→AH:=fun _=>H
noncomputable def B116:Code:=(Tryz.f116.body).getD .skip
noncomputable def z41 (L:LC) (H:AH) (a0:Option Addr) (a1_0 a1_1:Int) (a1_2:ByteArray) (a1_3:Sl3):Option Int :=
 Option.bind (zff L H a1_0 a1_1 a1_2 a1_3) fun x1 =>
 if x1=0 then
  Option.bind (zcl L H a0 a1_0 a1_1 a1_2 a1_3) fun x2 =>
  if x2=true then
   some 0
  else
   none
 else
  none
theorem z8y {L:LC} {m:Nat} {H:AH} {a0:Option Addr} {a1_0 a1_1:Int} {a1_2:ByteArray} {a1_3:Sl3} {r:Int} (h:z41 L H a0 a1_0 a1_1 a1_2 a1_3=some r) :
  CallS Tryz.prog (NE.plain 167) m 116 #[(Value.pointer a0),(Value.agg #[(Value.int .i64 a1_0),(Value.int .i64 a1_1),(Value.string a1_2),(Sl3.v a1_3)])] H (zgh r) (zhu H r):=by
 refine CallS.mk (args:=[(Value.pointer a0),(Value.agg #[(Value.int .i64 a1_0),(Value.int .i64 a1_1),(Value.string a1_2),(Sl3.v a1_3)])]) Tryz.func116 (B:=B116) (by kernel_rfl) (fun E _=>?_)
 unfold z41 at h
 refine WS.sq (WS.rg (RS.mL 2 [kI 4 0,kL 3 0 0] ([some (47,[(Value.int .i64 a1_0),(Value.int .i64 a1_1),(Value.string a1_2),(Sl3.v a1_3)])]) (RS.dn (WS.nxt (WS.sq (WS.sq (WS.rg (RS.mS 1 [kA 6 #[(Value.int .i64 a1_0),(Value.int .i64 a1_1),(Value.string a1_2),(Sl3.v a1_3)]] ?_))))))))
 obtain ⟨x1,hx,h⟩:=bind_some h
 refine RS.cl (some 7) (v:=(Value.int .i64 x1)) 114 #[(Value.agg #[(Value.int .i64 a1_0),(Value.int .i64 a1_1),(Value.string a1_2),(Sl3.v a1_3)])] (zn4 hx) (RS.mS 1 [kI 5 x1] (RS.dn (WS.nxt (WS.sq (WS.rg (RS.mS 2 [kB 9 (!decide (x1=0)),kI 8 x1] (RS.dn (WS.nxt ?_))))))))
 rcases z0 h with ⟨hp,h⟩ | ⟨hp,h⟩
 ·refine WS.fx 9 false (zh hp) (WS.cF (WS.sk (WS.nxt (WS.sq (WS.sq (WS.rg (RS.mS 2 [kA 12 #[(Value.int .i64 a1_0),(Value.int .i64 a1_1),(Value.string a1_2),(Sl3.v a1_3)],(11,.val (Value.pointer a0))] ?_)))))))
  obtain ⟨x2,hx,h⟩:=bind_some h
  refine RS.cl (some 13) (v:=(Value.bool x2)) 176 #[(Value.pointer a0),(Value.agg #[(Value.int .i64 a1_0),(Value.int .i64 a1_1),(Value.string a1_2),(Sl3.v a1_3)])] (zh5 hx) (RS.mS 1 [kB 14 (!x2)] (RS.dn (WS.nxt ?_)))
  rcases z0 h with ⟨hp,h⟩ | ⟨hp,h⟩
  ·refine WS.fx 14 false (nb_not hp) (WS.cF (WS.sk (WS.nxt (WS.sq (WS.rg (RS.mS 1 [kI 4 0] (RS.dn (WS.nxt (WS.rt ?_)))))))))
   cases h
   exact fun a w hs=>rtR (rS hs)
  ·refine WS.fx 14 true (za hp) (WS.cT ?_)
   cases h
 ·refine WS.fx 9 true (ze hp) (WS.cT ?_)
  cases h
def zfm:(Sl3×AH)→Value
 | (r0,_)=>(Sl3.v r0)
def zgz (_:AH):(Sl3×AH)→AH:=fun r=>r.2
noncomputable def B117:Code:=(Tryz.f117.body).getD .skip
noncomputable def z5t (_L:LC) (m:Nat) (H:AH) (a0:Sl3):Option (Sl3×AH) :=
 if (isNilS a0)=true then
  some (Sl3.nil,H)
 else
  Option.bind (newR 47 0 #[] H) fun (s1,H2) =>
  Option.bind (appS m 47 4 56 H2 s1 a0) fun (s3,H4) =>
  some (s3,H4)
theorem z3p {L:LC} {m:Nat} {H:AH} {a0:Sl3} {r:(Sl3×AH)} (h:z5t L m H a0=some r) :
  CallS Tryz.prog (NE.plain 167) m 117 #[(Sl3.v a0)] H (zfm r) (zgz H r):=by
 refine CallS.mk (args:=[(Sl3.v a0)]) Tryz.func117 (B:=B117) (by kernel_rfl) (fun E _=>?_)
 unfold z5t at h
 refine WS.sq (WS.rg (RS.mS 1 [kS 2 Sl3.nil] (RS.dn (WS.nxt (WS.sq (WS.sq (WS.rg (RS.mS 1 [kS 3 a0] (RS.o (H':=H) (some 4) (Value.bool (isNilS a0)) (z8s (t:=45) (e:=47) (u:=45) (x:=.tmp 3) (y:=.const (Sl3.v Sl3.nil)) (s:=a0) (by kernel_rfl) (by kernel_rfl) (by kernel_rfl) (by kernel_rfl)) ?_)))))))))
 refine RS.dn (WS.nxt ?_)
 rcases z0 h with ⟨hp,h⟩ | ⟨hp,h⟩
 ·refine WS.fx 4 true hp (WS.cT (WS.sq (WS.rg (RS.mS 1 [kS 2 Sl3.nil] (RS.dn (WS.nxt (WS.rt ?_)))))))
  cases h
  exact fun a w hs=>sqR (rtR (rS hs))
 ·refine WS.fx 4 false (b_not hp) (WS.cF (WS.sk (WS.nxt (WS.sq (WS.rg ?_)))))
  obtain ⟨⟨s1,H2⟩,hx,h⟩:=bind_some h
  try dsimp only at h
  refine RS.o (H':=H2) (some 5) (Sl3.v s1) (Abs.run_newR (by kernel_rfl) (by kernel_rfl) hx) (RS.mS 1 [kS 6 a0] ?_)
  obtain ⟨⟨s3,H4⟩,hx,h⟩:=bind_some h
  try dsimp only at h
  refine RS.o (H':=H4) (some 7) (Sl3.v s3) (Abs.run_app (x:=.tmp 5) (y:=.tmp 6) (ts:=#[45,45]) (s:=s1) (z:=a0) (by kernel_rfl) (by kernel_rfl) (by kernel_rfl) (by kernel_rfl) hx) (RS.mS 1 [kS 2 s3] (RS.dn (WS.nxt (WS.rt ?_))))
  cases h
  exact fun a w hs=>rtR (rS hs)
end Go.Proofs.YtdlnojjpbmibdaaGreatDoor
namespace Go.Proofs.YtdlnojjpbmibdaaGreatDoor
open Go Go.Abs
set_option maxRecDepth 100000
def z1g:(Int×AH)→Value
 | (r0,_)=>(Value.int .i64 r0)
def z1l (_:AH):(Int×AH)→AH:=fun r=>r.2
noncomputable def B72:Code:=(Tryz.f72.body).getD .skip
noncomputable def z2z (_L:LC) (_H:AH) (_q1:Addr) (x2:Sl3):Int→Option (Lp Int (Int×AH)):=fun v21_3 =>
 if v21_3<(x2.n:Int) then
  none
 else
  some (.brk v21_3)
def zbs (_L:LC) (_H:AH) (q1:Addr) (x2:Sl3):Int→KN×Lcs:=fun v21_3=>([kI 21 v21_3,kP 0 q1,kS 19 x2,kI 20 (x2.n:Int)],[])
noncomputable def z2r (L:LC) (q1:Addr) (_x5:Sl3) (_v55_7:Int) (_x9_0:ByteArray) (_x9_1:Sl3) (_x9_2 _x9_3:Int) (_x9_4:ByteArray) (_x9_5 s14:Sl3) (H15:AH):Int→Option (Lp Int (Int×AH)):=fun v67_16 =>
 if v67_16<(s14.n:Int) then
  Option.bind (idxA 4 s14 v67_16) fun p17 =>
  Option.bind (rd (deI .i64) H15 (Addr.add p17 0)) fun x18_0 =>
  Option.bind (rd (deI .i64) H15 (Addr.add p17 1)) fun x18_1 =>
  Option.bind (rd deS H15 (Addr.add p17 2)) fun x18_2 =>
  Option.bind (rd deSl H15 (Addr.add p17 3)) fun x18_3 =>
  Option.bind (z41 L H15 (some q1) x18_0 x18_1 x18_2 x18_3) fun x19 =>
  if x19=0 then
   some (.next (IntKind.i64.wrap (v67_16+1)))
  else
   none
 else
  some (.brk v67_16)
def zbx (_L:LC) (q1:Addr) (x5:Sl3) (v55_7:Int) (x9_0:ByteArray) (x9_1:Sl3) (x9_2 x9_3:Int) (x9_4:ByteArray) (x9_5 s14:Sl3) (_H15:AH):Int→KN×Lcs:=fun v67_16=>([kI 67 v67_16,kP 0 q1,kS 53 x5,kI 54 (x5.n:Int),kI 55 v55_7,kS 65 s14,kI 66 (s14.n:Int)],[some (84,[(Value.string x9_0),(Sl3.v x9_1),(Value.int .i64 x9_2),(Value.int .i64 x9_3),(Value.string x9_4),(Sl3.v x9_5)]),none])
noncomputable def z2x (L:LC) (m:Nat) (q1:Addr) (x5:Sl3):(AH×Int)→Option (Lp (AH×Int) (Int×AH)):=fun (H6,v55_7) =>
 if v55_7<(x5.n:Int) then
  Option.bind (idxA 6 x5 v55_7) fun p8 =>
  Option.bind (rd deS H6 (Addr.add p8 0)) fun x9_0 =>
  Option.bind (rd deSl H6 (Addr.add p8 1)) fun x9_1 =>
  Option.bind (rd (deI .i64) H6 (Addr.add p8 2)) fun x9_2 =>
  Option.bind (rd (deI .i64) H6 (Addr.add p8 3)) fun x9_3 =>
  Option.bind (rd deS H6 (Addr.add p8 4)) fun x9_4 =>
  Option.bind (rd deSl H6 (Addr.add p8 5)) fun x9_5 =>
  Option.bind (z5t L (Nat.max m H6.next) H6 x9_1) fun (x10,H11) =>
  Option.bind (newS 47 [(Value.int .i64 x9_2),(Value.int .i64 x9_3),(Value.string x9_4),(Sl3.v x9_5)] H11) fun (k12,H13) =>
  Option.bind (appS m 47 4 56 H13 x10 (⟨some ⟨k12,0,none⟩,1,1⟩:Sl3)) fun (s14,H15) =>
  Option.bind (L.run (z2r L q1 x5 v55_7 x9_0 x9_1 x9_2 x9_3 x9_4 x9_5 s14 H15) 0) fun o=>match o with
  | .inl _ =>
   some (.next (H15,(IntKind.i64.wrap (v55_7+1))))
  | .inr r=>some (.ret r)
 else
  some (.brk (H6,v55_7))
def zay (_L:LC) (_m:Nat) (q1:Addr) (x5:Sl3):(AH×Int)→KN×Lcs:=fun (_,v55_7)=>([kI 55 v55_7,kP 0 q1,kS 53 x5,kI 54 (x5.n:Int)],[])
noncomputable def z4c (L:LC) (m:Nat) (H:AH) (a0:Option Addr):Option (Int×AH) :=
 Option.bind a0 fun q1 =>
 Option.bind (rd deSl H (Addr.add (Addr.add q1 0) 1)) fun x2 =>
 Option.bind (L.run (z2z L H q1 x2) 0) fun o=>match o with
 | .inl _ =>
  Option.bind (rd deSl H (Addr.add (Addr.add q1 0) 2)) fun x5 =>
  Option.bind (L.run (z2x L m q1 x5) (H,0)) fun o=>match o with
  | .inl (H21,_) =>
   some (0,H21)
  | .inr r=>some r
 | .inr r=>some r
theorem z4a {E m L H q1 x2} :LoopF Tryz.prog (NE.plain 167) m E Tryz.f72 ((cfst (csnd (cfst (csnd B72))))) (zbs L H q1 x2) (fun _=>H) 0 z1g (z1l H) (z2z L H q1 x2):=by
 rintro v21_3 o h
 unfold z2z at h
 try dsimp only at h
 refine WS.sq (WS.rg (RS.mS 1 [kB 22 (decide (v21_3<(x2.n:Int)))] (RS.dn (WS.nxt (WS.sq ?_)))))
 rcases z0 h with ⟨hp,h⟩ | ⟨hp,h⟩
 ·refine WS.fx 22 true (decide_eq_true hp) (WS.cT ?_)
  cases h
 ·refine WS.fx 22 false (decide_eq_false hp) (WS.cF (WS.ex 0 ?_))
  cases h
  exact fun a w hs=>sqE (lsB rfl (hs.sb 0))
theorem z48 {E m H L q1 x5 v55_7 x9_0 x9_1 x9_2 x9_3 x9_4 x9_5 s14 H15} :LoopF Tryz.prog (NE.plain 167) m E Tryz.f72 ((cfst (csnd (csnd (cfst (cfst (csnd (csnd (cfst (cfst (csnd (cfst (csnd (csnd B72)))))))))))))) (zbx L q1 x5 v55_7 x9_0 x9_1 x9_2 x9_3 x9_4 x9_5 s14 H15) (fun _=>H15) 8 z1g (z1l H) (z2r L q1 x5 v55_7 x9_0 x9_1 x9_2 x9_3 x9_4 x9_5 s14 H15):=by
 rintro v67_16 o h
 unfold z2r at h
 try dsimp only at h
 refine WS.sq (WS.rg (RS.mS 1 [kB 68 (decide (v67_16<(s14.n:Int)))] (RS.dn (WS.nxt (WS.sq ?_)))))
 rcases z0 h with ⟨hp,h⟩ | ⟨hp,h⟩
 ·refine WS.fx 68 true (decide_eq_true hp) (WS.cT (WS.sk (WS.nxt (WS.sq (WS.bk 9 (WS.sq (WS.rg ?_)))))))
  obtain ⟨p17,hx,h⟩:=bind_some h
  refine RS.ix 69 45 47 (.tmp 65) (.tmp 67) hx ?_
  obtain ⟨x18_0,hx0,h⟩:=bind_some h
  obtain ⟨x18_1,hx1,h⟩:=bind_some h
  obtain ⟨x18_2,hx2,h⟩:=bind_some h
  obtain ⟨x18_3,hx3,h⟩:=bind_some h
  refine RS.la 70 47 (.tmp 69) 4 (z2 (z1 hx0 z5) (z2 (z1 hx1 z5) (z2 (z1 hx2 z9) (z2 (z1 hx3 z3) zm)))) (RS.mL 2 [kL 13 2 0] ([some (84,[(Value.string x9_0),(Sl3.v x9_1),(Value.int .i64 x9_2),(Value.int .i64 x9_3),(Value.string x9_4),(Sl3.v x9_5)]),none,some (47,[(Value.int .i64 x18_0),(Value.int .i64 x18_1),(Value.string x18_2),(Sl3.v x18_3)])]) (RS.dn (WS.nxt (WS.sq (WS.rg (RS.mS 2 [kA 72 #[(Value.int .i64 x18_0),(Value.int .i64 x18_1),(Value.string x18_2),(Sl3.v x18_3)],kP 71 q1] ?_))))))
  obtain ⟨x19,hx,h⟩:=bind_some h
  refine RS.cl (some 73) (v:=(Value.int .i64 x19)) 116 #[(Value.pointer (some q1)),(Value.agg #[(Value.int .i64 x18_0),(Value.int .i64 x18_1),(Value.string x18_2),(Sl3.v x18_3)])] (z8y hx) (RS.mS 1 [kI 14 x19] (RS.dn (WS.nxt (WS.sq (WS.rg (RS.mS 2 [kB 75 (!decide (x19=0)),kI 74 x19] (RS.dn (WS.nxt ?_))))))))
  rcases z0 h with ⟨hp,h⟩ | ⟨hp,h⟩
  ·refine WS.fx 75 false (zh hp) (WS.cF (WS.sk ?_))
   refine fun a w hs=>bkN ((WS.nxt ?_ a w hs))
   refine WS.rg (RS.mS 2 [kI 67 (IntKind.i64.wrap (v67_16+1)),kI 77 (IntKind.i64.wrap (v67_16+1))] (RS.dn ?_))
   cases h
   exact fun a w hs=>lsN rfl (hs.sb 2)
  ·refine WS.fx 75 true (ze hp) (WS.cT ?_)
   cases h
 ·refine WS.fx 68 false (decide_eq_false hp) (WS.cF (WS.ex 8 ?_))
  cases h
  exact fun a w hs=>sqE (lsB rfl (hs.sb 2))
theorem z4l {E H L m q1 x5} :LoopF Tryz.prog (NE.plain 167) m E Tryz.f72 ((cfst (csnd (cfst (csnd (csnd B72)))))) (zay L m q1 x5) (fun s=>s.1) 6 z1g (z1l H) (z2x L m q1 x5):=by
 rintro ⟨H6,v55_7⟩ o h
 unfold z2x at h
 try dsimp only at h
 refine WS.sq (WS.rg (RS.mS 1 [kB 56 (decide (v55_7<(x5.n:Int)))] (RS.dn (WS.nxt (WS.sq ?_)))))
 rcases z0 h with ⟨hp,h⟩ | ⟨hp,h⟩
 ·refine WS.fx 56 true (decide_eq_true hp) (WS.cT (WS.sk (WS.nxt (WS.sq (WS.bk 7 (WS.sq (WS.rg ?_)))))))
  obtain ⟨p8,hx,h⟩:=bind_some h
  refine RS.ix 57 35 84 (.tmp 53) (.tmp 55) hx ?_
  obtain ⟨x9_0,hx0,h⟩:=bind_some h
  obtain ⟨x9_1,hx1,h⟩:=bind_some h
  obtain ⟨x9_2,hx2,h⟩:=bind_some h
  obtain ⟨x9_3,hx3,h⟩:=bind_some h
  obtain ⟨x9_4,hx4,h⟩:=bind_some h
  obtain ⟨x9_5,hx5,h⟩:=bind_some h
  refine RS.la 58 84 (.tmp 57) 6 (z2 (z1 hx0 z9) (z2 (z1 hx1 z3) (z2 (z1 hx2 z5) (z2 (z1 hx3 z5) (z2 (z1 hx4 z9) (z2 (z1 hx5 z3) zm)))))) (RS.mL 2 [kL 11 0 0] ([some (84,[(Value.string x9_0),(Sl3.v x9_1),(Value.int .i64 x9_2),(Value.int .i64 x9_3),(Value.string x9_4),(Sl3.v x9_5)])]) (RS.dn (WS.nxt (WS.sq ?_))))
  obtain ⟨⟨x10,H11⟩,hx_2,h⟩:=bind_some h
  try dsimp only at h
  obtain ⟨⟨k12,H13⟩,hx_k12,h⟩:=bind_some h
  try dsimp only at h
  obtain ⟨⟨s14,H15⟩,hx_6,h⟩:=bind_some h
  try dsimp only at h
  refine WS.toone ([kP 0 q1,kS 53 x5,kI 54 (x5.n:Int),kI 55 v55_7,kS 65 s14,kI 66 (s14.n:Int),kI 67 0]) ([some (84,[(Value.string x9_0),(Sl3.v x9_1),(Value.int .i64 x9_2),(Value.int .i64 x9_3),(Value.string x9_4),(Sl3.v x9_5)]),none]) H15 ?_ ?_
  ·clear h
   refine WS.dr [0,1] [0,1,3,0,8,24,63,127,0] 9 (fun hcl=>?_)
   refine DA.tL 0 (some 59) (.loc 0 1) (DA.tL 1 (some 60) (.val (Sl3.v x9_1)) (DA.tP 8 (some 67) (Value.int .i64 0) (DA.restart [0,1,3] (by kernel_rfl) (DA.tL 3 (some 62) (.loc 0 2) ?_))))
   refine DA.two 2 4 (by kernel_rfl) ?_ ?_
   ·refine DA.aCj 2 (some 61) true (v:=(Sl3.v x10)) 117 #[(Sl3.v x9_1)] (z3p hx_2) (DA.on 4 (DA.aL 4 (some 63) (.val (Value.agg #[(Value.int .i64 x9_2),(Value.int .i64 x9_3),(Value.string x9_4),(Sl3.v x9_5)])) ([some (84,[(Value.string x9_0),(Sl3.v x9_1),(Value.int .i64 x9_2),(Value.int .i64 x9_3),(Value.string x9_4),(Sl3.v x9_5)])]) true (DA.on 5 (DA.actS 5 (some 64) (.sli 1 1) ([some (84,[(Value.string x9_0),(Sl3.v x9_1),(Value.int .i64 x9_2),(Value.int .i64 x9_3),(Value.string x9_4),(Sl3.v x9_5)]),some (47,[(Value.int .i64 x9_2),(Value.int .i64 x9_3),(Value.string x9_4),(Sl3.v x9_5)])]) (by kernel_rfl) (by kernel_rfl) (by kernel_rfl) hcl (by kernel_rfl) (by kernel_rfl) (by kernel_rfl) (DA.on 6 (DA.pubK 1 _ _ hx_k12 (by kernel_rfl) rfl rfl (DA.aH (H':=H15) 6 (some 65) (Sl3.v s14) (Abs.run_app (x:=.tmp 61) (y:=.tmp 64) (ts:=#[45,45]) (s:=x10) (z:=(⟨some ⟨k12,0,none⟩,1,1⟩:Sl3)) (by kernel_rfl) (by kernel_rfl) (by kernel_rfl) (by kernel_rfl) hx_6) (DA.tP 7 (some 66) (Value.int .i64 (s14.n:Int)) (DA.dn ?_)))))))))
    exact fun a w hs=>jsN (hs.sb 2)
   ·refine DA.aL 4 (some 63) (.val (Value.agg #[(Value.int .i64 x9_2),(Value.int .i64 x9_3),(Value.string x9_4),(Sl3.v x9_5)])) ([some (84,[(Value.string x9_0),(Sl3.v x9_1),(Value.int .i64 x9_2),(Value.int .i64 x9_3),(Value.string x9_4),(Sl3.v x9_5)])]) true ?_
    refine DA.two 2 5 (by kernel_rfl) ?_ ?_
    ·refine DA.aCj 2 (some 61) true (v:=(Sl3.v x10)) 117 #[(Sl3.v x9_1)] (z3p hx_2) (DA.on 5 (DA.actS 5 (some 64) (.sli 1 1) ([some (84,[(Value.string x9_0),(Sl3.v x9_1),(Value.int .i64 x9_2),(Value.int .i64 x9_3),(Value.string x9_4),(Sl3.v x9_5)]),some (47,[(Value.int .i64 x9_2),(Value.int .i64 x9_3),(Value.string x9_4),(Sl3.v x9_5)])]) (by kernel_rfl) (by kernel_rfl) (by kernel_rfl) hcl (by kernel_rfl) (by kernel_rfl) (by kernel_rfl) (DA.on 6 (DA.pubK 1 _ _ hx_k12 (by kernel_rfl) rfl rfl (DA.aH (H':=H15) 6 (some 65) (Sl3.v s14) (Abs.run_app (x:=.tmp 61) (y:=.tmp 64) (ts:=#[45,45]) (s:=x10) (z:=(⟨some ⟨k12,0,none⟩,1,1⟩:Sl3)) (by kernel_rfl) (by kernel_rfl) (by kernel_rfl) (by kernel_rfl) hx_6) (DA.tP 7 (some 66) (Value.int .i64 (s14.n:Int)) (DA.dn ?_)))))))
     exact fun a w hs=>jsN (hs.sb 2)
    ·refine DA.actS 5 (some 64) (.sli 1 1) ([some (84,[(Value.string x9_0),(Sl3.v x9_1),(Value.int .i64 x9_2),(Value.int .i64 x9_3),(Value.string x9_4),(Sl3.v x9_5)]),some (47,[(Value.int .i64 x9_2),(Value.int .i64 x9_3),(Value.string x9_4),(Sl3.v x9_5)])]) (by kernel_rfl) (by kernel_rfl) (by kernel_rfl) hcl (by kernel_rfl) (by kernel_rfl) (by kernel_rfl) (DA.on 2 (DA.aCj 2 (some 61) false (v:=(Sl3.v x10)) 117 #[(Sl3.v x9_1)] (z3p hx_2) (DA.on 6 (DA.pubK 1 _ _ hx_k12 (by kernel_rfl) rfl rfl (DA.aH (H':=H15) 6 (some 65) (Sl3.v s14) (Abs.run_app (x:=.tmp 61) (y:=.tmp 64) (ts:=#[45,45]) (s:=x10) (z:=(⟨some ⟨k12,0,none⟩,1,1⟩:Sl3)) (by kernel_rfl) (by kernel_rfl) (by kernel_rfl) (by kernel_rfl) hx_6) (DA.tP 7 (some 66) (Value.int .i64 (s14.n:Int)) (DA.dn ?_)))))))
     exact fun a w hs=>jsN (hs.sb 2)
  ·refine WS.nxt (WS.bk 8 ?_)
   obtain ⟨o,hl,h⟩:=bind_some h
   rcases o with v67_20 | r
   ·try dsimp only at h
    refine WS.lI (z48 (L:=L) (E:=E) (m:=m) (H:=H)) (L.ok hl) 2 ?_
    clear hl
    refine fun a w hs=>bkE (bkN ((WS.nxt ?_ a w hs)))
    refine WS.rg (RS.mS 2 [kI 55 (IntKind.i64.wrap (v55_7+1)),kI 78 (IntKind.i64.wrap (v55_7+1))] (RS.dn ?_))
    cases h
    exact fun a w hs=>lsN rfl (hs.sb 0)
   ·try dsimp only at h
    refine WS.lR (z48 (L:=L) (E:=E) (m:=m) (H:=H)) (L.ok hl) 2 ?_
    cases h
    exact fun a w hq=>bkR (bkR (sqR (lsR rfl hq)))
 ·refine WS.fx 56 false (decide_eq_false hp) (WS.cF (WS.ex 6 ?_))
  cases h
  exact fun a w hs=>sqE (lsB rfl (hs.sb 0))
theorem ze5 {L:LC} {m:Nat} {H:AH} {a0:Option Addr} {r:(Int×AH)} (h:z4c L m H a0=some r) :
  CallS Tryz.prog (NE.plain 167) m 72 #[(Value.pointer a0)] H (z1g r) (z1l H r):=by
 refine CallS.mk (args:=[(Value.pointer a0)]) Tryz.func72 (B:=B72) (by kernel_rfl) (fun E _=>?_)
 unfold z4c at h
 refine WS.sq (WS.rg (RS.mS 1 [kI 2 0] (RS.dn (WS.nxt (WS.sq (WS.sq (WS.rg (RS.mS 1 [(15,.val (Value.pointer a0))] ?_))))))))
 obtain ⟨q1,hx,hq1⟩:=bind_some h
 subst hx
 have h:=hq1
 refine RS.mS 3 [(18,.val (Value.pointer (some (Addr.add (Addr.add q1 0) 1)))),(17,.val (Value.pointer (some (Addr.add q1 0)))),kP 16 q1] ?_
 obtain ⟨x2,hx,h⟩:=bind_some h
 refine RS.ld 19 34 (.tmp 18) (z1 hx z3) (RS.mS 2 [kI 21 0,kI 20 (x2.n:Int)] (RS.dn (WS.nxt (WS.bk 0 ?_))))
 obtain ⟨o,hl,h⟩:=bind_some h
 rcases o with v21_4 | r
 ·try dsimp only at h
  refine WS.lI (z4a (L:=L) (E:=E) (m:=m) (H:=H)) (L.ok hl) 0 ?_
  clear hl
  refine fun a w hs=>bkE ((WS.nxt ?_ a w hs))
  refine WS.sq (WS.sq (WS.rg (RS.mS 4 [(52,.val (Value.pointer (some (Addr.add (Addr.add q1 0) 2)))),(51,.val (Value.pointer (some (Addr.add q1 0)))),kP 50 q1,kP 49 q1] ?_)))
  obtain ⟨x5,hx,h⟩:=bind_some h
  refine RS.ld 53 35 (.tmp 52) (z1 hx z3) (RS.mS 2 [kI 55 0,kI 54 (x5.n:Int)] (RS.dn (WS.nxt (WS.bk 6 ?_))))
  obtain ⟨o,hl,h⟩:=bind_some h
  rcases o with ⟨H21,v55_22⟩ | r
  ·try dsimp only at h
   refine WS.lI (z4l (L:=L) (E:=E) (m:=m) (H:=H)) (L.ok hl) 0 ?_
   clear hl
   refine fun a w hs=>bkE ((WS.nxt ?_ a w hs))
   refine WS.sq (WS.rg (RS.mS 1 [kI 2 0] (RS.dn (WS.nxt (WS.rt ?_)))))
   cases h
   exact fun a w hs=>rtR (rS hs)
  ·try dsimp only at h
   refine WS.lR (z4l (L:=L) (E:=E) (m:=m) (H:=H)) (L.ok hl) 0 ?_
   cases h
   exact fun a w hq=>bkR (sqR (rtR hq))
 ·try dsimp only at h
  refine WS.lR (z4a (L:=L) (E:=E) (m:=m) (H:=H)) (L.ok hl) 0 ?_
  cases h
  exact fun a w hq=>bkR (sqR (rtR hq))
def z71:(Bool×AH)→Value
 | (r0,_)=>(Value.bool r0)
def z7t (_:AH):(Bool×AH)→AH:=fun r=>r.2
noncomputable def B73:Code:=(Tryz.f73.body).getD .skip
noncomputable def z3o (_L:LC) (_a1:Sl3) (_q1:Addr) (x2:Sl3):(AH×Int)→Option (Lp (AH×Int) (Bool×AH)):=fun (H3,v19_4) =>
 if v19_4<(x2.n:Int) then
  none
 else
  some (.brk (H3,v19_4))
def zdj (_L:LC) (a1:Sl3) (q1:Addr) (x2:Sl3):(AH×Int)→KN×Lcs:=fun (_,v19_4)=>([kI 19 v19_4,kP 0 q1,kS 1 a1,kS 17 x2,kI 18 (x2.n:Int)],[])
noncomputable def z5v (L:LC) (_m:Nat) (H:AH) (a0:Option Addr) (a1:Sl3):Option (Bool×AH) :=
 Option.bind a0 fun q1 =>
 Option.bind (rd deSl H (Addr.add (Addr.add q1 0) 1)) fun x2 =>
 Option.bind (L.run (z3o L a1 q1 x2) (H,0)) fun o=>match o with
 | .inl (H5,_) =>
  some (false,H5)
 | .inr r=>some r
theorem z5h {E m H L a1 q1 x2} :LoopF Tryz.prog (NE.plain 167) m E Tryz.f73 ((cfst (csnd (cfst (csnd B73))))) (zdj L a1 q1 x2) (fun s=>s.1) 0 z71 (z7t H) (z3o L a1 q1 x2):=by
 rintro ⟨H3,v19_4⟩ o h
 unfold z3o at h
 try dsimp only at h
 refine WS.sq (WS.rg (RS.mS 1 [kB 20 (decide (v19_4<(x2.n:Int)))] (RS.dn (WS.nxt (WS.sq ?_)))))
 rcases z0 h with ⟨hp,h⟩ | ⟨hp,h⟩
 ·refine WS.fx 20 true (decide_eq_true hp) (WS.cT ?_)
  cases h
 ·refine WS.fx 20 false (decide_eq_false hp) (WS.cF (WS.ex 0 ?_))
  cases h
  exact fun a w hs=>sqE (lsB rfl (hs.sb 0))
theorem zgk {L:LC} {m:Nat} {H:AH} {a0:Option Addr} {a1:Sl3} {r:(Bool×AH)} (h:z5v L m H a0 a1=some r) :
  CallS Tryz.prog (NE.plain 167) m 73 #[(Value.pointer a0),(Sl3.v a1)] H (z71 r) (z7t H r):=by
 refine CallS.mk (args:=[(Value.pointer a0),(Sl3.v a1)]) Tryz.func73 (B:=B73) (by kernel_rfl) (fun E _=>?_)
 unfold z5v at h
 refine WS.sq (WS.rg (RS.mS 1 [kB 4 false] (RS.dn (WS.nxt (WS.sq (WS.sq (WS.rg (RS.mS 1 [(13,.val (Value.pointer a0))] ?_))))))))
 obtain ⟨q1,hx,hq1⟩:=bind_some h
 subst hx
 have h:=hq1
 refine RS.mS 3 [(16,.val (Value.pointer (some (Addr.add (Addr.add q1 0) 1)))),(15,.val (Value.pointer (some (Addr.add q1 0)))),kP 14 q1] ?_
 obtain ⟨x2,hx,h⟩:=bind_some h
 refine RS.ld 17 34 (.tmp 16) (z1 hx z3) (RS.mS 2 [kI 19 0,kI 18 (x2.n:Int)] (RS.dn (WS.nxt (WS.bk 0 ?_))))
 obtain ⟨o,hl,h⟩:=bind_some h
 rcases o with ⟨H5,v19_6⟩ | r
 ·try dsimp only at h
  refine WS.lI (z5h (L:=L) (E:=E) (m:=m) (H:=H)) (L.ok hl) 0 ?_
  clear hl
  refine fun a w hs=>bkE ((WS.nxt ?_ a w hs))
  refine WS.sq (WS.rg (RS.mS 1 [kB 4 false] (RS.dn (WS.nxt (WS.rt ?_)))))
  cases h
  exact fun a w hs=>rtR (rS hs)
 ·try dsimp only at h
  refine WS.lR (z5h (L:=L) (E:=E) (m:=m) (H:=H)) (L.ok hl) 0 ?_
  cases h
  exact fun a w hq=>bkR (sqR (rtR hq))
def z7z:(Sl3×AH)→Value
 | (r0,_)=>(Sl3.v r0)
def z96 (_:AH):(Sl3×AH)→AH:=fun r=>r.2
noncomputable def B74:Code:=(Tryz.f74.body).getD .skip
noncomputable def z46 (_L:LC) (_q1:Addr) (x2 _s3:Sl3):(AH×Int)→Option (Lp (AH×Int) (Sl3×AH)):=fun (H5,v17_6) =>
 if v17_6<(x2.n:Int) then
  none
 else
  some (.brk (H5,v17_6))
def zei (_L:LC) (q1:Addr) (x2 s3:Sl3):(AH×Int)→KN×Lcs:=fun (_,v17_6)=>([kI 17 v17_6,kP 0 q1,kI 3 (x2.n:Int),kS 4 s3,kI 16 (x2.n:Int)],[])
noncomputable def z79 (L:LC) (_m:Nat) (H:AH) (a0:Option Addr):Option (Sl3×AH) :=
 Option.bind a0 fun q1 =>
 Option.bind (rd deSl H (Addr.add (Addr.add q1 0) 1)) fun x2 =>
 Option.bind (mkS 107 1 24 #[(Sl3.v Sl3.nil)] H (x2.n:Int) (x2.n:Int)) fun (s3,H4) =>
 Option.bind (L.run (z46 L q1 x2 s3) (H4,0)) fun o=>match o with
 | .inl (H7,_) =>
  some (s3,H7)
 | .inr r=>some r
theorem z6d {E m H L q1 x2 s3} :LoopF Tryz.prog (NE.plain 167) m E Tryz.f74 ((cfst (csnd (cfst (csnd (csnd (csnd B74))))))) (zei L q1 x2 s3) (fun s=>s.1) 0 z7z (z96 H) (z46 L q1 x2 s3):=by
 rintro ⟨H5,v17_6⟩ o h
 unfold z46 at h
 try dsimp only at h
 refine WS.sq (WS.rg (RS.mS 1 [kB 18 (decide (v17_6<(x2.n:Int)))] (RS.dn (WS.nxt (WS.sq ?_)))))
 rcases z0 h with ⟨hp,h⟩ | ⟨hp,h⟩
 ·refine WS.fx 18 true (decide_eq_true hp) (WS.cT ?_)
  cases h
 ·refine WS.fx 18 false (decide_eq_false hp) (WS.cF (WS.ex 0 ?_))
  cases h
  exact fun a w hs=>sqE (lsB rfl (hs.sb 0))
theorem zi2 {L:LC} {m:Nat} {H:AH} {a0:Option Addr} {r:(Sl3×AH)} (h:z79 L m H a0=some r) :
  CallS Tryz.prog (NE.plain 167) m 74 #[(Value.pointer a0)] H (z7z r) (z96 H r):=by
 refine CallS.mk (args:=[(Value.pointer a0)]) Tryz.func74 (B:=B74) (by kernel_rfl) (fun E _=>?_)
 unfold z79 at h
 refine WS.sq (WS.rg (RS.mS 1 [kS 2 Sl3.nil] (RS.dn (WS.nxt (WS.sq (WS.rg (RS.mS 1 [(8,.val (Value.pointer a0))] ?_)))))))
 obtain ⟨q1,hx,hq1⟩:=bind_some h
 subst hx
 have h:=hq1
 refine RS.mS 3 [(11,.val (Value.pointer (some (Addr.add (Addr.add q1 0) 1)))),(10,.val (Value.pointer (some (Addr.add q1 0)))),kP 9 q1] ?_
 obtain ⟨x2,hx,h⟩:=bind_some h
 refine RS.ld 12 34 (.tmp 11) (z1 hx z3) (RS.mS 2 [kI 3 (x2.n:Int),kI 13 (x2.n:Int)] (RS.dn (WS.nxt (WS.sq (WS.rg (RS.mS 1 [kI 14 (x2.n:Int)] ?_))))))
 obtain ⟨⟨s3,H4⟩,hx,h⟩:=bind_some h
 try dsimp only at h
 refine RS.o (H':=H4) (some 15) (Sl3.v s3) (Abs.run_mk (t:=168) (x:=.tmp 14) (y:=.tmp 14) (k1:=.i64) (k2:=.i64) (by kernel_rfl) (by kernel_rfl) (by kernel_rfl) (by kernel_rfl) hx) (RS.mS 1 [kS 4 s3] (RS.dn (WS.nxt (WS.sq (WS.sq (WS.rg (RS.mS 2 [kI 17 0,kI 16 (x2.n:Int)] (RS.dn (WS.nxt ?_)))))))))
 refine WS.bk 0 ?_
 obtain ⟨o,hl,h⟩:=bind_some h
 rcases o with ⟨H7,v17_8⟩ | r
 ·try dsimp only at h
  refine WS.lI (z6d (L:=L) (E:=E) (m:=m) (H:=H)) (L.ok hl) 0 ?_
  clear hl
  refine fun a w hs=>bkE ((WS.nxt ?_ a w hs))
  refine WS.sq (WS.rg (RS.mS 2 [kS 2 s3,kS 56 s3] (RS.dn (WS.nxt (WS.rt ?_)))))
  cases h
  exact fun a w hs=>rtR (rS hs)
 ·try dsimp only at h
  refine WS.lR (z6d (L:=L) (E:=E) (m:=m) (H:=H)) (L.ok hl) 0 ?_
  cases h
  exact fun a w hq=>bkR (sqR (rtR hq))
def zbn:Int→Value
 | r0=>(Value.int .i64 r0)
def zco (H:AH):Int→AH:=fun _=>H
noncomputable def B120:Code:=(Tryz.f120.body).getD .skip
noncomputable def z73 (_L:LC) (_H:AH) (a0:Sl3) (_a1:Bool):Int→Option (Lp Int Int):=fun v8_1 =>
 if v8_1<(a0.n:Int) then
  none
 else
  some (.brk v8_1)
def zhv (_L:LC) (_H:AH) (a0:Sl3) (a1:Bool):Int→KN×Lcs:=fun v8_1=>([kI 8 v8_1,kS 0 a0,kB 1 a1,kI 7 (a0.n:Int)],[])
noncomputable def zb3 (L:LC) (H:AH) (a0:Sl3) (a1:Bool):Option Int :=
 Option.bind (L.run (z73 L H a0 a1) 0) fun o=>match o with
 | .inl _ =>
  some (-1)
 | .inr r=>some r
theorem z94 {E m L H a0 a1} :LoopF Tryz.prog (NE.plain 167) m E Tryz.f120 ((cfst (csnd (cfst (csnd B120))))) (zhv L H a0 a1) (fun _=>H) 0 zbn (zco H) (z73 L H a0 a1):=by
 rintro v8_1 o h
 unfold z73 at h
 try dsimp only at h
 refine WS.sq (WS.rg (RS.mS 1 [kB 9 (decide (v8_1<(a0.n:Int)))] (RS.dn (WS.nxt (WS.sq ?_)))))
 rcases z0 h with ⟨hp,h⟩ | ⟨hp,h⟩
 ·refine WS.fx 9 true (decide_eq_true hp) (WS.cT ?_)
  cases h
 ·refine WS.fx 9 false (decide_eq_false hp) (WS.cF (WS.ex 0 ?_))
  cases h
  exact fun a w hs=>sqE (lsB rfl (hs.sb 0))
theorem zlb {L:LC} {m:Nat} {H:AH} {a0:Sl3} {a1:Bool} {r:Int} (h:zb3 L H a0 a1=some r) :
  CallS Tryz.prog (NE.plain 167) m 120 #[(Sl3.v a0),(Value.bool a1)] H (zbn r) (zco H r):=by
 refine CallS.mk (args:=[(Sl3.v a0),(Value.bool a1)]) Tryz.func120 (B:=B120) (by kernel_rfl) (fun E _=>?_)
 unfold zb3 at h
 refine WS.sq (WS.rg (RS.mS 1 [kI 4 0] (RS.dn (WS.nxt (WS.sq (WS.sq (WS.rg (RS.mS 3 [kI 8 0,kI 7 (a0.n:Int),kS 6 a0] (RS.dn ?_)))))))))
 refine WS.nxt (WS.bk 0 ?_)
 obtain ⟨o,hl,h⟩:=bind_some h
 rcases o with v8_2 | r
 ·try dsimp only at h
  refine WS.lI (z94 (L:=L) (E:=E) (m:=m) (H:=H)) (L.ok hl) 0 ?_
  clear hl
  refine fun a w hs=>bkE ((WS.nxt ?_ a w hs))
  refine WS.sq (WS.rg (RS.mS 1 [kI 4 (-1)] (RS.dn (WS.nxt (WS.rt ?_)))))
  cases h
  exact fun a w hs=>rtR (rS hs)
 ·try dsimp only at h
  refine WS.lR (z94 (L:=L) (E:=E) (m:=m) (H:=H)) (L.ok hl) 0 ?_
  cases h
  exact fun a w hq=>bkR (sqR (rtR hq))
def zh1:Bool→Value
 | r0=>(Value.bool r0)
def zh2 (H:AH):Bool→AH:=fun _=>H
noncomputable def B75:Code:=(Tryz.f75.body).getD .skip
noncomputable def z7a (L:LC) (H:AH) (a0:Sl3) (a1:Bool):Option Bool :=
 Option.bind (zb3 L H a0 a1) fun x1 =>
 some (decide (x1≥0))
theorem zhk {L:LC} {m:Nat} {H:AH} {a0:Sl3} {a1 r:Bool} (h:z7a L H a0 a1=some r) :
  CallS Tryz.prog (NE.plain 167) m 75 #[(Sl3.v a0),(Value.bool a1)] H (zh1 r) (zh2 H r):=by
 refine CallS.mk (args:=[(Sl3.v a0),(Value.bool a1)]) Tryz.func75 (B:=B75) (by kernel_rfl) (fun E _=>?_)
 unfold z7a at h
 refine WS.sq (WS.rg (RS.mS 1 [kB 4 false] (RS.dn (WS.nxt (WS.sq (WS.rg (RS.mS 2 [kB 6 a1,kS 5 a0] ?_)))))))
 obtain ⟨x1,hx,h⟩:=bind_some h
 refine RS.cl (some 7) (v:=(Value.int .i64 x1)) 120 #[(Sl3.v a0),(Value.bool a1)] (zlb hx) (RS.mS 2 [kB 4 (decide (x1≥0)),kB 8 (decide (x1≥0))] (RS.dn (WS.nxt (WS.rt ?_))))
 cases h
 exact fun a w hs=>rtR (rS hs)
def z34:(Sl3×AH)→Value
 | (r0,_)=>(Sl3.v r0)
def z3n (_:AH):(Sl3×AH)→AH:=fun r=>r.2
noncomputable def B76:Code:=(Tryz.f76.body).getD .skip
noncomputable def z3m (_L:LC) (_p1 _p8:Addr) (x14:Sl3):(AH×Int)→Option (Lp (AH×Int) ((Sl3×AH)⊕AH)):=fun (H16,v21_17) =>
 if v21_17<(x14.n:Int) then
  none
 else
  some (.brk (H16,v21_17))
def z5k (_L:LC) (p1 p8:Addr) (x14:Sl3):(AH×Int)→KN:=fun (_,v21_17)=>[kI 21 v21_17,kP 1 p1,kP 3 p8,kS 19 x14,kI 20 (x14.n:Int)]
def z5j (_L:LC) (_p1 _p8:Addr) (_x14:Sl3):(AH×Int)→Lcs:=fun (_,_)=>[]
def zc4 (_L:LC) (p1 p8:Addr) (_x14:Sl3):AH→KN:=fun _=>[kP 1 p1,kP 3 p8]
def zc7 (_L:LC) (_p1 _p8:Addr) (_x14:Sl3):AH→Lcs:=fun _=>[]
noncomputable def z3q (L:LC) (p1 p8:Addr):AH→Option (Lp AH (Sl3×AH)):=fun H11 =>
 Option.bind (rd deP H11 p1) fun x12 =>
 Option.bind x12 fun q13 =>
 Option.bind (rd deSl H11 (Addr.add (Addr.add q13 0) 1)) fun x14 =>
 Option.bind (L.run (z3m L p1 p8 x14) (H11,0)) fun o=>match o with
 | .inl (H18,_) =>
  some (.brk H18)
 | .inr (.inl r)=>some (.ret r)
 | .inr (.inr H20) =>
  some (.next H20)
def zdi (_L:LC) (p1 p8:Addr):AH→KN×Lcs:=fun _=>([kP 1 p1,kP 3 p8],[])
noncomputable def z5w (L:LC) (m:Nat) (H:AH) (a0:Option Addr):Option (Sl3×AH) :=
 Option.bind (newB 164 [(Value.pointer a0)] H) fun (p1,H2) =>
 Option.bind (rd deP H2 p1) fun x3 =>
 Option.bind x3 fun q4 =>
 Option.bind (rd deSl H2 (Addr.add (Addr.add q4 0) 1)) fun x5 =>
 Option.bind (mkS 4 1 1 #[(Value.bool false)] H2 (x5.n:Int) (x5.n:Int)) fun (s6,H7) =>
 Option.bind (newB 107 [(Sl3.v Sl3.nil)] H7) fun (p8,H9) =>
 Option.bind (H9.setCell m p8 (Sl3.v s6)) fun H10 =>
 Option.bind (L.run (z3q L p1 p8) H10) fun o=>match o with
 | .inl H21 =>
  Option.bind (rd deSl H21 p8) fun x22 =>
  some (x22,H21)
 | .inr r=>some r
theorem z2i {E:Ent} {m:Nat} {H:AH} {L:LC} {p1 p8:Addr} {x14:Sl3} :∀s o,z3m L p1 p8 x14 s=some o →
  WS Tryz.prog (NE.plain 167) m E Tryz.f76.ntmps (cfst (cfst (csnd (cfst (cfst (cfst (cfst (cfst (csnd (csnd (cfst (csnd B76)))))))))))) (z5k L p1 p8 x14 s) (z5j L p1 p8 x14 s) ((fun s=>s.1) s) (lpX Tryz.prog (NE.plain 167) m E Tryz.f76.ntmps (z5k L p1 p8 x14) (z5j L p1 p8 x14) (fun s=>s.1) 2 (fun r e a w=>match r with | .inl r=>e=.ret∧RT Tryz.prog (NE.plain 167) m E Tryz.f76 (z34 r) (z3n H r) a w | .inr x=>e=.exit 1∧SS Tryz.prog (NE.plain 167) m E Tryz.f76.ntmps (zc4 L p1 p8 x14 x) (zc7 L p1 p8 x14 x) ((fun s=>s) x) a w) o):=by
 rintro ⟨H16,v21_17⟩ o h
 unfold z3m at h
 try dsimp only at h
 refine WS.sq (WS.rg (RS.mS 1 [kB 22 (decide (v21_17<(x14.n:Int)))] (RS.dn (WS.nxt (WS.sq ?_)))))
 rcases z0 h with ⟨hp,h⟩ | ⟨hp,h⟩
 ·refine WS.fx 22 true (decide_eq_true hp) (WS.cT ?_)
  cases h
 ·refine WS.fx 22 false (decide_eq_false hp) (WS.cF (WS.ex 2 ?_))
  cases h
  exact fun a w hs=>sqE (lxB rfl (hs.sb 0))
theorem z5f {E m H L p1 p8} :LoopF Tryz.prog (NE.plain 167) m E Tryz.f76 ((cfst (cfst (csnd (csnd (cfst (csnd B76))))))) (zdi L p1 p8) (fun s=>s) 0 z34 (z3n H) (z3q L p1 p8):=by
 rintro H11 o h
 unfold z3q at h
 try dsimp only at h
 refine WS.bk 1 (WS.sq (WS.sq (WS.rg ?_)))
 obtain ⟨x12,hx,h⟩:=bind_some h
 refine RS.ld 15 164 (.tmp 1) (z1 hx z6j) ?_
 obtain ⟨q13,hx,hq13⟩:=bind_some h
 subst hx
 have h:=hq13
 refine RS.mS 3 [(18,.val (Value.pointer (some (Addr.add (Addr.add q13 0) 1)))),(17,.val (Value.pointer (some (Addr.add q13 0)))),kP 16 q13] ?_
 obtain ⟨x14,hx,h⟩:=bind_some h
 refine RS.ld 19 34 (.tmp 18) (z1 hx z3) (RS.mS 2 [kI 21 0,kI 20 (x14.n:Int)] (RS.dn (WS.nxt (WS.bk 2 ?_))))
 obtain ⟨o,hl,h⟩:=bind_some h
 rcases o with ⟨H18,v21_19⟩ | (r | H20)
 ·try dsimp only at h
  refine WS.lXI (z2i (L:=L) (E:=E) (m:=m) (H:=H)) (L.ok hl) 0 ?_
  clear hl
  refine fun a w hs=>bkE ((WS.nxt ?_ a w hs))
  refine WS.ex 0 ?_
  cases h
  exact fun a w hs=>bkX (by kernel_rfl) (lsB rfl (hs.sb 0))
 ·try dsimp only at h
  refine WS.lXR (z2i (L:=L) (E:=E) (m:=m) (H:=H)) (L.ok hl) 0 ?_
  cases h
  refine fun e a w hq=>?_
  obtain ⟨rfl,hq⟩:=hq
  exact bkR (sqR (bkR (lsR rfl hq)))
 ·try dsimp only at h
  refine WS.lXR (z2i (L:=L) (E:=E) (m:=m) (H:=H)) (L.ok hl) 0 ?_
  clear hl
  refine fun e a w hs=>?_
  obtain ⟨rfl,hs⟩:=hs
  revert hs
  revert w
  revert a
  cases h
  exact fun a w hs=>bkX (by kernel_rfl) (sqE (bkE (lsN rfl (hs.sb 0))))
theorem zge {L:LC} {m:Nat} {H:AH} {a0:Option Addr} {r:(Sl3×AH)} (h:z5w L m H a0=some r) :
  CallS Tryz.prog (NE.plain 167) m 76 #[(Value.pointer a0)] H (z34 r) (z3n H r):=by
 refine CallS.mk (args:=[(Value.pointer a0)]) Tryz.func76 (B:=B76) (by kernel_rfl) (fun E _=>?_)
 unfold z5w at h
 refine WS.sq (WS.rg ?_)
 obtain ⟨⟨p1,H2⟩,hx,h⟩:=bind_some h
 try dsimp only at h
 refine RS.o (H':=H2) (some 1) (Value.pointer (some p1)) (Abs.run_newB (by kernel_rfl) hx) (RS.mS 1 [kS 2 Sl3.nil] (RS.dn (WS.nxt (WS.scope (by kernel_rfl) (WS.sq (WS.rg ?_))))))
 obtain ⟨x3,hx,h⟩:=bind_some h
 refine RS.ld 8 164 (.tmp 1) (z1 hx z6j) ?_
 obtain ⟨q4,hx,hq4⟩:=bind_some h
 subst hx
 have h:=hq4
 refine RS.mS 3 [(11,.val (Value.pointer (some (Addr.add (Addr.add q4 0) 1)))),(10,.val (Value.pointer (some (Addr.add q4 0)))),kP 9 q4] ?_
 obtain ⟨x5,hx,h⟩:=bind_some h
 refine RS.ld 12 34 (.tmp 11) (z1 hx z3) (RS.mS 1 [kI 13 (x5.n:Int)] ?_)
 obtain ⟨⟨s6,H7⟩,hx,h⟩:=bind_some h
 try dsimp only at h
 refine RS.o (H':=H7) (some 14) (Sl3.v s6) (Abs.run_mk (t:=107) (x:=.tmp 13) (y:=.tmp 13) (k1:=.i64) (k2:=.i64) (by kernel_rfl) (by kernel_rfl) (by kernel_rfl) (by kernel_rfl) hx) ?_
 obtain ⟨⟨p8,H9⟩,hx,h⟩:=bind_some h
 try dsimp only at h
 refine RS.o (H':=H9) (some 3) (Value.pointer (some p8)) (Abs.run_newB (by kernel_rfl) hx) ?_
 obtain ⟨H10,hx,h⟩:=bind_some h
 refine RS.o (H':=H10) none undef (Abs.run_store1 (t:=107) (x:=.tmp 3) (y:=.tmp 14) (a:=p8) (v:=(Sl3.v s6)) (by kernel_rfl) (by kernel_rfl) (by kernel_rfl) (by kernel_rfl) (by kernel_rfl) hx) (RS.dn (WS.nxt (WS.sq (WS.sk (WS.nxt (WS.sq (WS.bk 0 ?_)))))))
 obtain ⟨o,hl,h⟩:=bind_some h
 rcases o with H21 | r
 ·try dsimp only at h
  refine WS.lI (z5f (L:=L) (E:=E) (m:=m) (H:=H)) (L.ok hl) 0 ?_
  clear hl
  refine fun a w hs=>bkE ((WS.nxt ?_ a w hs))
  refine WS.sq (WS.rg ?_)
  obtain ⟨x22,hx,h⟩:=bind_some h
  refine RS.ld 47 107 (.tmp 3) (z1 hx z3) (RS.mS 1 [kS 2 x22] (RS.dn (WS.nxt (WS.rt ?_))))
  cases h
  exact fun a w hs=>sgR (rtR (rS hs))
 ·try dsimp only at h
  refine WS.lR (z5f (L:=L) (E:=E) (m:=m) (H:=H)) (L.ok hl) 0 ?_
  cases h
  exact fun a w hq=>bkR (sqR (sgR (rtR hq)))
def zad:(Int×AH)→Value
 | (r0,_)=>(Value.int .i64 r0)
def zbm (_:AH):(Int×AH)→AH:=fun r=>r.2
noncomputable def B28:Code:=(Tryz.f28.body).getD .skip
noncomputable def z68 (L:LC) (_a0_0 _a0_1:Sl3) (_a0_2 _x2:Sl3) (_x3 s7:Sl3) (H8:AH):Int→Option (Lp Int (Int×AH)):=fun v21_9 =>
 if v21_9<(s7.n:Int) then
  Option.bind (idxA 1 s7 v21_9) fun p10 =>
  Option.bind (rd deS H8 p10) fun x11 =>
  Option.bind (zi7 L x11) fun x12 =>
  if x12=true then
   some (.next (IntKind.i64.wrap (v21_9+1)))
  else
   none
 else
  some (.brk v21_9)
def zgw (_L:LC) (a0_0 a0_1:Sl3) (a0_2 x2:Sl3) (x3 s7:Sl3) (_H8:AH):Int→KN×Lcs:=fun v21_9=>([kI 21 v21_9,kL 1 0 0,kS 3 x2,kS 4 x3,kS 19 s7,kI 20 (s7.n:Int)],[some (37,[(Sl3.v a0_0),(Sl3.v a0_1),(Sl3.v a0_2)])])
noncomputable def z3b (L:LC) (m:Nat) (H:AH) (a0_0 a0_1 a0_2:Sl3):Option (Int×AH) :=
 Option.bind (zhb L H a0_0 a0_1 a0_2) fun x1 =>
 if x1=true then
  none
 else
  Option.bind (zf7 L m H a0_0 a0_1 a0_2) fun (x2,x3,H4) =>
  Option.bind (z2e L m H4 x2) fun (x5,H6) =>
  Option.bind (appS m 9 1 16 H6 x5 x3) fun (s7,H8) =>
  Option.bind (L.run (z68 L a0_0 a0_1 a0_2 x2 x3 s7 H8) 0) fun o=>match o with
  | .inl _ =>
   Option.bind (zah L m H8 x2) fun (x14,H15) =>
   if x14=true then
    none
   else
    Option.bind (zah L m H15 x3) fun (x16,H17) =>
    if x16=true then
     none
    else
     Option.bind (zcp L m H17 a0_0 a0_1 a0_2) fun (x18,H19) =>
     Option.bind (z4c L m H19 x18) fun (x20,H21) =>
     if x20=0 then
      Option.bind (z79 L m H21 x18) fun (x22,H23) =>
      Option.bind (z5v L m H23 x18 x22) fun (x24,H25) =>
      if x24=true then
       none
      else
       Option.bind (z5w L m H25 x18) fun (x26,H27) =>
       Option.bind (z7a L H27 x26 false) fun x28 =>
       if x28=true then
        none
       else
        some (0,H27)
     else
      none
  | .inr r=>some r
theorem z7u {E m H L a0_0 a0_1 a0_2 x2 x3 s7 H8} :LoopF Tryz.prog (NE.plain 167) m E Tryz.f28 ((cfst (csnd (cfst (csnd (csnd (csnd B28))))))) (zgw L a0_0 a0_1 a0_2 x2 x3 s7 H8) (fun _=>H8) 0 zad (zbm H) (z68 L a0_0 a0_1 a0_2 x2 x3 s7 H8):=by
 rintro v21_9 o h
 unfold z68 at h
 try dsimp only at h
 refine WS.sq (WS.rg (RS.mS 1 [kB 22 (decide (v21_9<(s7.n:Int)))] (RS.dn (WS.nxt (WS.sq ?_)))))
 rcases z0 h with ⟨hp,h⟩ | ⟨hp,h⟩
 ·refine WS.fx 22 true (decide_eq_true hp) (WS.cT (WS.sk (WS.nxt (WS.sq (WS.bk 1 (WS.sq (WS.rg ?_)))))))
  obtain ⟨p10,hx,h⟩:=bind_some h
  refine RS.ix 23 33 9 (.tmp 19) (.tmp 21) hx ?_
  obtain ⟨x11,hx,h⟩:=bind_some h
  refine RS.ld 24 9 (.tmp 23) (z1 hx z9) (RS.mS 1 [kT 6 x11] (RS.dn (WS.nxt (WS.sq (WS.rg (RS.mS 1 [kT 25 x11] ?_))))))
  obtain ⟨x12,hx,h⟩:=bind_some h
  refine RS.cl (some 26) (v:=(Value.bool x12)) 69 #[(Value.string x11)] (znt hx) (RS.mS 1 [kB 27 (!x12)] (RS.dn (WS.nxt ?_)))
  rcases z0 h with ⟨hp,h⟩ | ⟨hp,h⟩
  ·refine WS.fx 27 false (nb_not hp) (WS.cF (WS.sk ?_))
   refine fun a w hs=>bkN ((WS.nxt ?_ a w hs))
   refine WS.rg (RS.mS 2 [kI 21 (IntKind.i64.wrap (v21_9+1)),kI 28 (IntKind.i64.wrap (v21_9+1))] (RS.dn ?_))
   cases h
   exact fun a w hs=>lsN rfl (hs.sb 1)
  ·refine WS.fx 27 true (za hp) (WS.cT ?_)
   cases h
 ·refine WS.fx 22 false (decide_eq_false hp) (WS.cF (WS.ex 0 ?_))
  cases h
  exact fun a w hs=>sqE (lsB rfl (hs.sb 1))
theorem z65 {L:LC} {m:Nat} {H:AH} {a0_0 a0_1 a0_2:Sl3} {r:(Int×AH)} (h:z3b L m H a0_0 a0_1 a0_2=some r) :
  CallS Tryz.prog (NE.plain 167) m 28 #[(Value.agg #[(Sl3.v a0_0),(Sl3.v a0_1),(Sl3.v a0_2)])] H (zad r) (zbm H r):=by
 refine CallS.mk (args:=[(Value.agg #[(Sl3.v a0_0),(Sl3.v a0_1),(Sl3.v a0_2)])]) Tryz.func28 (B:=B28) (by kernel_rfl) (fun E _=>?_)
 unfold z3b at h
 refine WS.sq (WS.rg (RS.mL 2 [kI 2 0,kL 1 0 0] ([some (37,[(Sl3.v a0_0),(Sl3.v a0_1),(Sl3.v a0_2)])]) (RS.dn (WS.nxt (WS.sq (WS.sq (WS.rg (RS.mS 1 [kA 9 #[(Sl3.v a0_0),(Sl3.v a0_1),(Sl3.v a0_2)]] ?_))))))))
 obtain ⟨x1,hx,h⟩:=bind_some h
 refine RS.cl (some 10) (v:=(Value.bool x1)) 67 #[(Value.agg #[(Sl3.v a0_0),(Sl3.v a0_1),(Sl3.v a0_2)])] (znr hx) (RS.dn (WS.nxt ?_))
 rcases z0 h with ⟨hp,h⟩ | ⟨hp,h⟩
 ·refine WS.fx 10 true hp (WS.cT ?_)
  cases h
 ·refine WS.fx 10 false (b_not hp) (WS.cF (WS.sk (WS.nxt (WS.sq (WS.rg (RS.mS 1 [kA 12 #[(Sl3.v a0_0),(Sl3.v a0_1),(Sl3.v a0_2)]] ?_))))))
  obtain ⟨⟨x2,x3,H4⟩,hx,h⟩:=bind_some h
  try dsimp only at h
  refine RS.cl (some 13) (v:=(Value.tuple #[(Sl3.v x2),(Sl3.v x3)])) 68 #[(Value.agg #[(Sl3.v a0_0),(Sl3.v a0_1),(Sl3.v a0_2)])] (zn9 hx) (RS.mS 5 [kS 4 x3,kS 3 x2,kS 15 x3,kS 14 x2,(11,.val (Value.tuple #[(Sl3.v x2),(Sl3.v x3)]))] (RS.dn (WS.nxt (WS.sq (WS.sq (WS.rg (RS.mS 1 [kS 16 x2] ?_)))))))
  obtain ⟨⟨x5,H6⟩,hx,h⟩:=bind_some h
  try dsimp only at h
  refine RS.cl (some 17) (v:=(Sl3.v x5)) 66 #[(Sl3.v x2)] (z4k hx) (RS.mS 1 [kS 18 x3] ?_)
  obtain ⟨⟨s7,H8⟩,hx,h⟩:=bind_some h
  try dsimp only at h
  refine RS.o (H':=H8) (some 19) (Sl3.v s7) (Abs.run_app (x:=.tmp 17) (y:=.tmp 18) (ts:=#[33,33]) (s:=x5) (z:=x3) (by kernel_rfl) (by kernel_rfl) (by kernel_rfl) (by kernel_rfl) hx) (RS.mS 2 [kI 21 0,kI 20 (s7.n:Int)] (RS.dn (WS.nxt (WS.bk 0 ?_))))
  obtain ⟨o,hl,h⟩:=bind_some h
  rcases o with v21_13 | r
  ·try dsimp only at h
   refine WS.lI (z7u (L:=L) (E:=E) (m:=m) (H:=H)) (L.ok hl) 1 ?_
   clear hl
   refine fun a w hs=>bkE ((WS.nxt ?_ a w hs))
   refine WS.sq (WS.sq (WS.rg (RS.mS 1 [kS 29 x2] ?_)))
   obtain ⟨⟨x14,H15⟩,hx,h⟩:=bind_some h
   try dsimp only at h
   refine RS.cl (some 30) (v:=(Value.bool x14)) 70 #[(Sl3.v x2)] (zg6 hx) (RS.mS 1 [kB 31 x14] ?_)
   rcases z0 h with ⟨hp,h⟩ | ⟨hp,h⟩
   ·refine RS.fx 31 true hp ?_
    cases h
   ·refine RS.fx 31 false (b_not hp) (RS.mS 1 [kS 32 x3] ?_)
    obtain ⟨⟨x16,H17⟩,hx,h⟩:=bind_some h
    try dsimp only at h
    refine RS.cl (some 33) (v:=(Value.bool x16)) 70 #[(Sl3.v x3)] (zg6 hx) (RS.mS 1 [kB 34 x16] (RS.dn (WS.nxt ?_)))
    rcases z0 h with ⟨hp,h⟩ | ⟨hp,h⟩
    ·refine WS.fx 34 true hp (WS.cT ?_)
     cases h
    ·refine WS.fx 34 false (b_not hp) (WS.cF (WS.sk (WS.nxt (WS.sq (WS.rg (RS.mS 1 [kA 35 #[(Sl3.v a0_0),(Sl3.v a0_1),(Sl3.v a0_2)]] ?_))))))
     obtain ⟨⟨x18,H19⟩,hx,h⟩:=bind_some h
     try dsimp only at h
     refine RS.cl (some 36) (v:=(Value.pointer x18)) 71 #[(Value.agg #[(Sl3.v a0_0),(Sl3.v a0_1),(Sl3.v a0_2)])] (zi1 hx) (RS.mS 1 [(7,.val (Value.pointer x18))] (RS.dn (WS.nxt (WS.sq (WS.sq (WS.rg (RS.mS 1 [(37,.val (Value.pointer x18))] ?_)))))))
     obtain ⟨⟨x20,H21⟩,hx,h⟩:=bind_some h
     try dsimp only at h
     refine RS.cl (some 38) (v:=(Value.int .i64 x20)) 72 #[(Value.pointer x18)] (ze5 hx) (RS.mS 1 [kI 8 x20] (RS.dn (WS.nxt (WS.sq (WS.rg (RS.mS 2 [kB 40 (!decide (x20=0)),kI 39 x20] (RS.dn (WS.nxt ?_))))))))
     rcases z0 h with ⟨hp,h⟩ | ⟨hp,h⟩
     ·refine WS.fx 40 false (zh hp) (WS.cF (WS.sk (WS.nxt (WS.sq (WS.sq (WS.rg (RS.mS 2 [(43,.val (Value.pointer x18)),(42,.val (Value.pointer x18))] ?_)))))))
      obtain ⟨⟨x22,H23⟩,hx,h⟩:=bind_some h
      try dsimp only at h
      refine RS.cl (some 44) (v:=(Sl3.v x22)) 74 #[(Value.pointer x18)] (zi2 hx) ?_
      obtain ⟨⟨x24,H25⟩,hx,h⟩:=bind_some h
      try dsimp only at h
      refine RS.cl (some 45) (v:=(Value.bool x24)) 73 #[(Value.pointer x18),(Sl3.v x22)] (zgk hx) (RS.dn (WS.nxt ?_))
      rcases z0 h with ⟨hp,h⟩ | ⟨hp,h⟩
      ·refine WS.fx 45 true hp (WS.cT ?_)
       cases h
      ·refine WS.fx 45 false (b_not hp) (WS.cF (WS.sk (WS.nxt (WS.sq (WS.sq (WS.rg (RS.mS 1 [(46,.val (Value.pointer x18))] ?_)))))))
       obtain ⟨⟨x26,H27⟩,hx,h⟩:=bind_some h
       try dsimp only at h
       refine RS.cl (some 47) (v:=(Sl3.v x26)) 76 #[(Value.pointer x18)] (zge hx) ?_
       obtain ⟨x28,hx,h⟩:=bind_some h
       refine RS.cl (some 48) (v:=(Value.bool x28)) 75 #[(Sl3.v x26),(Value.bool false)] (zhk hx) (RS.dn (WS.nxt ?_))
       rcases z0 h with ⟨hp,h⟩ | ⟨hp,h⟩
       ·refine WS.fx 48 true hp (WS.cT ?_)
        cases h
       ·refine WS.fx 48 false (b_not hp) (WS.cF (WS.sk (WS.nxt (WS.sq (WS.rg (RS.mS 1 [kI 2 0] (RS.dn (WS.nxt (WS.rt ?_)))))))))
        cases h
        exact fun a w hs=>rtR (rS hs)
     ·refine WS.fx 40 true (ze hp) (WS.cT ?_)
      cases h
  ·try dsimp only at h
   refine WS.lR (z7u (L:=L) (E:=E) (m:=m) (H:=H)) (L.ok hl) 1 ?_
   cases h
   exact fun a w hq=>bkR (sqR (rtR hq))
def znk:((Option Addr)×Int×AH)→Value
 | (r0,r1,_)=>(Value.tuple #[(Value.pointer r0),(Value.int .i64 r1)])
def zpi (_:AH):((Option Addr)×Int×AH)→AH:=fun r=>r.2.2
noncomputable def B18:Code:=(Tryz.f18.body).getD .skip
noncomputable def zjw (L:LC) (m:Nat) (H:AH) (a0_0 a0_1 a0_2:Sl3):Option ((Option Addr)×Int×AH) :=
 Option.bind (z3b L m H a0_0 a0_1 a0_2) fun (x1,H2) =>
 if x1=0 then
  Option.bind (z75 L m H2 a0_0 a0_1 a0_2) fun (x3_0,x3_1,x3_2,H4) =>
  Option.bind (newM H4) fun (p5,H6) =>
  Option.bind (newB 41 [(Sl3.v x3_0),(Sl3.v x3_1),(Sl3.v x3_2),(Sl3.v Sl3.nil),(Value.map (some p5))] H6) fun (p7,H8) =>
  some ((some p7),0,H8)
 else
  none
theorem zor {L:LC} {m:Nat} {H:AH} {a0_0 a0_1 a0_2:Sl3} {r:((Option Addr)×Int×AH)} (h:zjw L m H a0_0 a0_1 a0_2=some r) :
  CallS Tryz.prog (NE.plain 167) m 18 #[(Value.agg #[(Sl3.v a0_0),(Sl3.v a0_1),(Sl3.v a0_2)])] H (znk r) (zpi H r):=by
 refine CallS.mk (args:=[(Value.agg #[(Sl3.v a0_0),(Sl3.v a0_1),(Sl3.v a0_2)])]) Tryz.func18 (B:=B18) (by kernel_rfl) (fun E _=>?_)
 unfold zjw at h
 refine WS.sq (WS.rg (RS.mL 3 [kI 3 0,(2,.val (Value.pointer none)),kL 1 0 0] ([some (37,[(Sl3.v a0_0),(Sl3.v a0_1),(Sl3.v a0_2)])]) (RS.dn (WS.nxt (WS.sq (WS.sq (WS.rg (RS.mS 1 [kA 5 #[(Sl3.v a0_0),(Sl3.v a0_1),(Sl3.v a0_2)]] ?_))))))))
 obtain ⟨⟨x1,H2⟩,hx,h⟩:=bind_some h
 try dsimp only at h
 refine RS.cl (some 6) (v:=(Value.int .i64 x1)) 28 #[(Value.agg #[(Sl3.v a0_0),(Sl3.v a0_1),(Sl3.v a0_2)])] (z65 hx) (RS.mS 1 [kI 4 x1] (RS.dn (WS.nxt (WS.sq (WS.rg (RS.mS 2 [kB 8 (!decide (x1=0)),kI 7 x1] (RS.dn (WS.nxt ?_))))))))
 rcases z0 h with ⟨hp,h⟩ | ⟨hp,h⟩
 ·refine WS.fx 8 false (zh hp) (WS.cF (WS.sk (WS.nxt (WS.sq (WS.rg (RS.mS 1 [kA 10 #[(Sl3.v a0_0),(Sl3.v a0_1),(Sl3.v a0_2)]] ?_))))))
  obtain ⟨⟨x3_0,x3_1,x3_2,H4⟩,hx,h⟩:=bind_some h
  try dsimp only at h
  refine RS.cl (some 11) (v:=(Value.agg #[(Sl3.v x3_0),(Sl3.v x3_1),(Sl3.v x3_2)])) 27 #[(Value.agg #[(Sl3.v a0_0),(Sl3.v a0_1),(Sl3.v a0_2)])] (zch hx) ?_
  obtain ⟨⟨p5,H6⟩,hx,h⟩:=bind_some h
  try dsimp only at h
  refine RS.o (H':=H6) (some 12) (Value.map (some p5)) (Abs.run_newM (by kernel_rfl) hx) (RS.mS 1 [kA 13 #[(Sl3.v x3_0),(Sl3.v x3_1),(Sl3.v x3_2),(Sl3.v Sl3.nil),(Value.map (some p5))]] ?_)
  obtain ⟨⟨p7,H8⟩,hx,h⟩:=bind_some h
  try dsimp only at h
  refine RS.o (H':=H8) (some 14) (Value.pointer (some p7)) (Abs.run_newB (by kernel_rfl) hx) (RS.mS 2 [kI 3 0,kP 2 p7] (RS.dn (WS.nxt (WS.rt ?_))))
  cases h
  exact fun a w hs=>rtR (rS hs)
 ·refine WS.fx 8 true (ze hp) (WS.cT ?_)
  cases h
def zkg:(Sl3×Bool)→Value
 | (r0,r1)=>(Value.agg #[(Sl3.v r0),(Value.bool r1)])
def zl2 (H:AH):(Sl3×Bool)→AH:=fun _=>H
noncomputable def B44:Code:=(Tryz.f44.body).getD .skip
noncomputable def zbg (L:LC) (a0:Sl3) (a1:Bool):Option (Sl3×Bool) :=
 if a1=true then
  Option.bind (z1p L a0) fun x1 =>
  some (a0,(!x1))
 else
  some (a0,false)
theorem zl0 {L:LC} {m:Nat} {H:AH} {a0:Sl3} {a1:Bool} {r:(Sl3×Bool)} (h:zbg L a0 a1=some r) :
  CallS Tryz.prog (NE.plain 167) m 44 #[(Sl3.v a0),(Value.bool a1)] H (zkg r) (zl2 H r):=by
 refine CallS.mk (args:=[(Sl3.v a0),(Value.bool a1)]) Tryz.func44 (B:=B44) (by kernel_rfl) (fun E _=>?_)
 unfold zbg at h
 refine WS.sq (WS.rg (RS.mL 1 [kL 4 0 0] ([some (118,[(Sl3.v Sl3.nil),(Value.bool false)])]) (RS.dn (WS.nxt (WS.sq (WS.rg (RS.mS 3 [kB 7 a1,kB 6 a1,kS 5 a0] ?_)))))))
 rcases z0 h with ⟨hp,h⟩ | ⟨hp,h⟩
 ·refine RS.fx 7 true hp (RS.mS 1 [kS 8 a0] ?_)
  obtain ⟨x1,hx,h⟩:=bind_some h
  refine RS.cl (some 9) (v:=(Value.bool x1)) 98 #[(Sl3.v a0)] (z33 hx) (RS.mL 4 [kA 12 #[(Sl3.v a0),(Value.bool (!x1))],kB 11 (!x1),kB 10 (!x1)] ([some (118,[(Sl3.v a0),(Value.bool (!x1))])]) (RS.dn (WS.nxt (WS.rt ?_))))
  cases h
  exact fun a w hs=>rtR (rS hs)
 ·refine RS.fx 7 false (b_not hp) (RS.mL 6 [kA 12 #[(Sl3.v a0),(Value.bool false)],kB 11 false,kU 10,kU 9,kU 8] ([some (118,[(Sl3.v a0),(Value.bool false)])]) (RS.dn (WS.nxt (WS.rt ?_))))
  cases h
  exact fun a w hs=>rtR (rS hs)
def zo2:(Bool×Sl3×AH)→Value
 | (r0,r1,_)=>(Value.agg #[(Value.bool r0),(Sl3.v r1)])
def zpl (_:AH):(Bool×Sl3×AH)→AH:=fun r=>r.2.2
noncomputable def B19:Code:=(Tryz.f19.body).getD .skip
noncomputable def z86 (L:LC) (m:Nat) (H:AH) (a0:Int):Option (Bool×Sl3×AH) :=
 Option.bind (α:=Int) (
  if a0<0 then
   some (IntKind.u64.wrap (0 - (IntKind.u64.wrap a0)))
  else
   some (IntKind.u64.wrap a0)) fun v3_1 =>
 Option.bind (newR 112 1 #[(Value.int .u64 v3_1)] H) fun (s2,H3) =>
 Option.bind (z3c L H3 s2) fun x4 =>
 Option.bind (zbg L x4 (decide (a0<0))) fun (x5_0,x5_1) =>
 Option.bind (z22 L m H3 x5_0 x5_1) fun (x6_0,x6_1,H7) =>
 some (x6_0,x6_1,H7)
theorem z8u {L:LC} {m:Nat} {H:AH} {a0:Int} {r:(Bool×Sl3×AH)} (h:z86 L m H a0=some r) :
  CallS Tryz.prog (NE.plain 167) m 19 #[(Value.int .i64 a0)] H (zo2 r) (zpl H r):=by
 refine CallS.mk (args:=[(Value.int .i64 a0)]) Tryz.func19 (B:=B19) (by kernel_rfl) (fun E _=>?_)
 unfold z86 at h
 refine WS.sq (WS.rg (RS.mL 1 [kL 2 0 0] ([some (57,[(Value.bool false),(Sl3.v Sl3.nil)])]) (RS.dn (WS.nxt (WS.sq (WS.rg (RS.mS 3 [(3,.val (Value.int .u64 (IntKind.u64.wrap a0))),(5,.val (Value.int .u64 (IntKind.u64.wrap a0))),kI 4 a0] (RS.dn (WS.nxt ?_)))))))))
 obtain ⟨v3_1,hx,h⟩:=bind_some h
 refine WS.sq ?_
 refine WS.join ([(3,.val (Value.int .u64 v3_1)),kI 0 a0,kL 2 0 0]) ([some (57,[(Value.bool false),(Sl3.v Sl3.nil)])]) H ?_ (fun a w hs=>WS.nxt ?_ a w hs)
 ·clear h; rename _=>h
  refine WS.sq (WS.rg (RS.mS 2 [kB 7 (decide (a0<0)),kI 6 a0] (RS.dn (WS.nxt ?_))))
  rcases z0 h with ⟨hp,h⟩ | ⟨hp,h⟩
  ·refine WS.fx 7 true (decide_eq_true hp) (WS.cT (WS.rg (RS.mS 3 [(3,.val (Value.int .u64 (IntKind.u64.wrap (0 - (IntKind.u64.wrap a0))))),(9,.val (Value.int .u64 (IntKind.u64.wrap (0 - (IntKind.u64.wrap a0))))),(8,.val (Value.int .u64 (IntKind.u64.wrap a0)))] (RS.dn ?_))))
   cases h
   exact fun a w hs=>(jsN (hs.sb 1))
  ·refine WS.fx 7 false (decide_eq_false hp) (WS.cF (WS.sk ?_))
   cases h
   exact fun a w hs=>(jsN (hs.sb 1))
 ·clear hx
  refine WS.sq (WS.rg (RS.mS 1 [(10,.val (Value.int .u64 v3_1))] ?_))
  obtain ⟨⟨s2,H3⟩,hx,h⟩:=bind_some h
  try dsimp only at h
  refine RS.o (H':=H3) (some 11) (Sl3.v s2) (Abs.run_newR (by kernel_rfl) (by kernel_rfl) hx) ?_
  obtain ⟨x4,hx,h⟩:=bind_some h
  refine RS.cl (some 12) (v:=(Sl3.v x4)) 45 #[(Sl3.v s2)] (z61 hx) (RS.mS 2 [kB 14 (decide (a0<0)),kI 13 a0] ?_)
  obtain ⟨⟨x5_0,x5_1⟩,hx,h⟩:=bind_some h
  try dsimp only at h
  refine RS.cl (some 15) (v:=(Value.agg #[(Sl3.v x5_0),(Value.bool x5_1)])) 44 #[(Sl3.v x4),(Value.bool (decide (a0<0)))] (zl0 hx) ?_
  obtain ⟨⟨x6_0,x6_1,H7⟩,hx,h⟩:=bind_some h
  try dsimp only at h
  refine RS.cl (some 16) (v:=(Value.agg #[(Value.bool x6_0),(Sl3.v x6_1)])) 46 #[(Value.agg #[(Sl3.v x5_0),(Value.bool x5_1)])] (z3t hx) (RS.mL 1 [] ([some (57,[(Value.bool x6_0),(Sl3.v x6_1)])]) (RS.dn (WS.nxt (WS.rt ?_))))
  cases h
  exact fun a w hs=>rtR (rS hs)
def zgm:(Int×Int×AH)→Value
 | (r0,r1,_)=>(Value.tuple #[(Value.int .i64 r0),(Value.int .i64 r1)])
def zh4 (_:AH):(Int×Int×AH)→AH:=fun r=>r.2.2
noncomputable def B20:Code:=(Tryz.f20.body).getD .skip
noncomputable def z40 (L:LC) (m:Nat) (H:AH) (a0:Option Addr) (a1:Int) (a2:Sl3):Option (Int×Int×AH) :=
 Option.bind (z1f L m H a0 a1 (⟨#[]⟩:ByteArray) false Sl3.nil 0 Sl3.nil 0 0 (⟨#[]⟩:ByteArray) Sl3.nil Sl3.nil a2) fun (x1,x2,H3) =>
 some (x1,x2,H3)
theorem z95 {L:LC} {m:Nat} {H:AH} {a0:Option Addr} {a1:Int} {a2:Sl3} {r:(Int×Int×AH)} (h:z40 L m H a0 a1 a2=some r) :
  CallS Tryz.prog (NE.plain 167) m 20 #[(Value.pointer a0),(Value.int .i64 a1),(Sl3.v a2)] H (zgm r) (zh4 H r):=by
 refine CallS.mk (args:=[(Value.pointer a0),(Value.int .i64 a1),(Sl3.v a2)]) Tryz.func20 (B:=B20) (by kernel_rfl) (fun E _=>?_)
 unfold z40 at h
 refine WS.sq (WS.rg (RS.mS 2 [kI 7 0,kI 6 0] (RS.dn (WS.nxt (WS.sq (WS.rg (RS.mS 4 [kA 11 #[(Value.int .i64 a1),(Value.string (⟨#[]⟩:ByteArray)),(Value.bool false),(Sl3.v Sl3.nil),(Value.int .i64 0),(Sl3.v Sl3.nil),(Value.int .i64 0),(Value.int .i64 0),(Value.string (⟨#[]⟩:ByteArray)),(Sl3.v Sl3.nil),(Sl3.v Sl3.nil),(Sl3.v a2)],kS 10 a2,kI 9 a1,(8,.val (Value.pointer a0))] ?_)))))))
 obtain ⟨⟨x1,x2,H3⟩,hx,h⟩:=bind_some h
 try dsimp only at h
 refine RS.cl (some 12) (v:=(Value.tuple #[(Value.int .i64 x1),(Value.int .i64 x2)])) 9 #[(Value.pointer a0),(Value.agg #[(Value.int .i64 a1),(Value.string (⟨#[]⟩:ByteArray)),(Value.bool false),(Sl3.v Sl3.nil),(Value.int .i64 0),(Sl3.v Sl3.nil),(Value.int .i64 0),(Value.int .i64 0),(Value.string (⟨#[]⟩:ByteArray)),(Sl3.v Sl3.nil),(Sl3.v Sl3.nil),(Sl3.v a2)])] (z1o hx) (RS.mS 4 [kI 7 x2,kI 6 x1,kI 14 x2,kI 13 x1] (RS.dn (WS.nxt (WS.rt ?_))))
 cases h
 exact fun a w hs=>rtR (rS hs)
end Go.Proofs.YtdlnojjpbmibdaaGreatDoor
